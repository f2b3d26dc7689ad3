/- The value machine: how it is worked out; terms, constraints, numbers as values. No statement of this seat is proved here. -/
import Derived.Test.YthdlkpmhjbaplaaVxH
set_option autoImplicit false
set_option linter.unusedVariables false
namespace Go.Proofs.Ythdlkpmhjbaplaa.Dx
open Go

/-! ### What comes behind, without a binder -/

noncomputable section
def kOs (F : Tr Fd) (l : List Op) (K : VSt → Prop) : VSt → Prop := fun s => wOs F l s K
def kDs (F : Tr Fd) (l : List Dop) (K : VSt → Prop) : VSt → Prop := fun s => wDs F l s K
def kPut (dst : Option P) (K : VSt → Prop) : VSt → VV → Prop := fun s v => K (vput dst v s)
def kBack (b : List P) (e : VEnv) (w : Nat) (K : VSt → Prop) : VSt → Prop := fun s1 => K ⟨vback s1.e b e, s1.nx, w, s1.h⟩
def kSeq (F : Tr Fd) (b : C) (K : Out → VSt → Prop) : Out → VSt → Prop := fun o s' => match o with | .norm => wC F b s' K | .exit i => K (.exit i) s' | .ret => K .ret s'
def kBlk (id : Nat) (K : Out → VSt → Prop) : Out → VSt → Prop := fun o s' => match o with | .norm => K .norm s' | .exit i => if i = id then K .norm s' else K (.exit i) s' | .ret => K .ret s'
end
section
variable (F : Tr Fd) (s : VSt) (v : VV)
theorem eOs_n (K : VSt → Prop) : wOs F [] s K = K s := rfl
theorem eOs_c (o : Op) (l : List Op) (K : VSt → Prop) : wOs F (o :: l) s K = wO F o s (kOs F l K) := rfl
theorem eDs_n (K : VSt → Prop) : wDs F [] s K = K s := rfl
theorem eDs_c (o : Dop) (l : List Dop) (K : VSt → Prop) : wDs F (o :: l) s K = wD F o s (kDs F l K) := rfl
theorem ekOs (l : List Op) (K : VSt → Prop) : kOs F l K s = wOs F l s K := rfl
theorem ekDs (l : List Dop) (K : VSt → Prop) : kDs F l K s = wDs F l s K := rfl
theorem ekPut (dst : Option P) (K : VSt → Prop) : kPut dst K s v = K (vput dst v s) := rfl
theorem ekBack (b : List P) (e : VEnv) (w : Nat) (K : VSt → Prop) : kBack b e w K s = K ⟨vback s.e b e, s.nx, w, s.h⟩ := rfl
theorem ekSeq_n (b : C) (K : Out → VSt → Prop) : kSeq F b K .norm s = wC F b s K := rfl
theorem ekSeq_x (b : C) (i : Nat) (K : Out → VSt → Prop) : kSeq F b K (.exit i) s = K (.exit i) s := rfl
theorem ekSeq_r (b : C) (K : Out → VSt → Prop) : kSeq F b K .ret s = K .ret s := rfl
theorem ekBlk_n (id : Nat) (K : Out → VSt → Prop) : kBlk id K .norm s = K .norm s := rfl
theorem ekBlk_x (id i : Nat) (K : Out → VSt → Prop) : kBlk id K (.exit i) s = if i = id then K .norm s else K (.exit i) s := rfl
theorem ekBlk_r (id : Nat) (K : Out → VSt → Prop) : kBlk id K .ret s = K .ret s := rfl
theorem eO_mk (dst : Option P) (i : Ins) (K : VSt → Prop) : wO F (.mk dst none i) s K = wI F i s (kPut dst K) := rfl
theorem eO_gd (dst : Option P) (p : P) (b : Bool) (i : Ins) (K : VSt → Prop) : wO F (.mk dst (some (p, b)) i) s K = match vev (.t p) s.e with
    | some (.bool t) => gSplit t b (wI F i ⟨Tr.set p s.e (some (.bool b)), s.nx, s.w, s.h⟩ (kPut dst K)) (K (vput dst (.tup []) ⟨Tr.set p s.e (some (.bool !b)), s.nx, s.w, s.h⟩))
    | some (.tup []) => K (vput dst (.tup []) s)
    | _ => False := rfl
theorem eO_loc (p : P) (z : List DV) (K : VSt → Prop) : wO F (.loc p z) s K = match ofDVs z with
    | some l => isVarV p s.e = false ∧ K ⟨Tr.set p s.e (some (.var l)), s.nx, s.w, s.h⟩
    | none => False := rfl
theorem eO_locb (p : P) (a : Opd) (K : VSt → Prop) : wO F (.locb p a) s K = match vov a s.e with
    | some v => (match vcells v with | some l => isVarV p s.e = false ∧ K ⟨Tr.set p s.e (some (.var l)), s.nx, s.w, s.h⟩ | none => False)
    | none => False := rfl
theorem eD_mk (c : Bool) (u b : List P) (r : Bool) (dst : Option P) (i : Ins) (K : VSt → Prop) : wD F (.mk c u b r (.mk dst none i)) s K = wO F (.mk dst none i) ⟨vuse c s.e u .nl, s.nx, wOf r s.nx s.w, s.h⟩ (kBack b s.e s.w K) := rfl
theorem eD_loc (c : Bool) (u b : List P) (r : Bool) (p : P) (z : List DV) (K : VSt → Prop) : wD F (.mk c u b r (.loc p z)) s K = wO F (.loc p z) ⟨vuse c s.e u .nl, s.nx, wOf r s.nx s.w, s.h⟩ (kBack b s.e s.w K) := rfl
theorem eD_locb (c : Bool) (u b : List P) (r : Bool) (p : P) (a : Opd) (K : VSt → Prop) : wD F (.mk c u b r (.locb p a)) s K = wO F (.locb p a) ⟨vuse c s.e u .nl, s.nx, wOf r s.nx s.w, s.h⟩ (kBack b s.e s.w K) := rfl
theorem eD_gd (c : Bool) (u b : List P) (r : Bool) (dst : Option P) (p : P) (g : Bool) (i : Ins) (K : VSt → Prop) : wD F (.mk c u b r (.mk dst (some (p, g)) i)) s K = match vev (.t p) s.e with
    | some (.bool t) => gSplit t g (wDr F (.mk c u b r (.mk dst (some (p, g)) i)) ⟨Tr.set p s.e (some (.bool g)), s.nx, s.w, s.h⟩ K) (wDr F (.mk c u b r (.mk dst (some (p, g)) i)) ⟨Tr.set p s.e (some (.bool !g)), s.nx, s.w, s.h⟩ K)
    | _ => wDr F (.mk c u b r (.mk dst (some (p, g)) i)) s K := rfl
theorem eDr (c : Bool) (u b : List P) (r : Bool) (o : Op) (K : VSt → Prop) : wDr F (.mk c u b r o) s K = wO F o ⟨vuse c s.e u .nl, s.nx, wOf r s.nx s.w, s.h⟩ (kBack b s.e s.w K) := rfl
theorem eC_skip (K : Out → VSt → Prop) : wC F .skip s K = K .norm s := rfl
theorem eC_reg (l : List Op) (K : Out → VSt → Prop) : wC F (.reg l) s K = wOs F l s (K .norm) := rfl
theorem eC_drw (l : List Dop) (K : Out → VSt → Prop) : wC F (.drw l) s K = wDs F l s (K .norm) := rfl
theorem eC_seq (a b : C) (K : Out → VSt → Prop) : wC F (.seq a b) s K = wC F a s (kSeq F b K) := rfl
theorem eC_cond (c : Opd) (a b : C) (K : Out → VSt → Prop) : wC F (.cond c a b) s K = match vev c s.e with | some (.bool t) => gSplit t true (wC F a s K) (wC F b s K) | _ => False := rfl
theorem eC_block (id : Nat) (a : C) (K : Out → VSt → Prop) : wC F (.block id a) s K = wC F a s (kBlk id K) := rfl
theorem eC_loop (lv : List P) (a : C) (K : Out → VSt → Prop) : wC F (.loop lv a) s K = wLoop F lv a s K := rfl
theorem eC_exit (id : Nat) (K : Out → VSt → Prop) : wC F (.exit id) s K = K (.exit id) s := rfl
theorem eC_ret (K : Out → VSt → Prop) : wC F .ret s K = K .ret s := rfl
theorem eRet_n (rs : List Rs) (r : VV) : retV rs r .norm s = match vres rs s with | some r' => vw s.h r' = some r | none => False := rfl
theorem eRet_r (rs : List Rs) (r : VV) : retV rs r .ret s = match vres rs s with | some r' => vw s.h r' = some r | none => False := rfl
end
theorem gs_tt (A B : Prop) : gSplit true true A B = A := propext ⟨fun h => h.1 rfl, fun h => ⟨fun _ => h, fun h' => by cases h'⟩⟩
theorem gs_ff (A B : Prop) : gSplit false false A B = A := propext ⟨fun h => h.1 rfl, fun h => ⟨fun _ => h, fun h' => by cases h'⟩⟩
theorem gs_tf (A B : Prop) : gSplit true false A B = B := propext ⟨fun h => h.2 rfl, fun h => ⟨fun h' => (by cases h'), fun _ => h⟩⟩
theorem gs_ft (A B : Prop) : gSplit false true A B = B := propext ⟨fun h => h.2 rfl, fun h => ⟨fun h' => (by cases h'), fun _ => h⟩⟩
theorem gs_t {t : Bool} {A B : Prop} (h1 : t = true → A) (h2 : t = false → B) : gSplit t true A B := ⟨h1, h2⟩
theorem gs_f {t : Bool} {A B : Prop} (h1 : t = false → A) (h2 : t = true → B) : gSplit t false A B := ⟨h1, h2⟩
/-- How a loop's round ends. -/
def kLp (J : Nat → VSt → Prop) (n : Nat) (K : Out → VSt → Prop) : Out → VSt → Prop := fun o s' => match o with | .norm => ∃ m, m < n ∧ J m s' | .exit i => K (.exit i) s' | .ret => K .ret s'
section
variable (J : Nat → VSt → Prop) (n : Nat) (K : Out → VSt → Prop) (s : VSt)
theorem ekLp_n : kLp J n K .norm s = ∃ m, m < n ∧ J m s := rfl
theorem ekLp_x (i : Nat) : kLp J n K (.exit i) s = K (.exit i) s := rfl
theorem ekLp_r : kLp J n K .ret s = K .ret s := rfl
end
theorem wLoop_by {F : Tr Fd} {lv : List P} {a : C} {s : VSt} {K : Out → VSt → Prop} (J : Nat → VSt → Prop) (n : Nat) (h0 : J n s)
    (hstep : ∀ n s, J n s → wC F a ⟨vkeep s.e lv .nl, s.nx, s.w, s.h⟩ (kLp J n K)) : wLoop F lv a s K := wLoop_of J n h0 hstep

theorem drop_cons' {α : Type} {l : List α} {i : Nat} {x : α} (h : l[i]? = some x) : l.drop i = x :: l.drop (i + 1) := by
  obtain ⟨hi, rfl⟩ := List.getElem?_eq_some_iff.1 h
  rw [List.drop_eq_getElem_cons hi]
/-! ### A nil row told as an empty one -/

mutual
def wk : VV → VV → Prop
  | .nils, .fz n c _ l => n = 0 ∧ c = none ∧ l = []
  | .agg l, .agg l' => wkL l l'
  | .tup l, .tup l' => wkL l l'
  | v, v' => v = v'
def wkL : List VV → List VV → Prop
  | [], [] => True
  | v :: l, v' :: l' => wk v v' ∧ wkL l l'
  | _, _ => False
end
mutual
theorem wk_sound {Z : P → Prop} {h : Hp} {M : Option MM} : ∀ {v v' : VV} {d : DV}, wk v v' → XR Z h M v d → XR Z h M v' d
  | .nils, v', d, e, x => by
    cases v' <;> simp only [wk, reduceCtorEq] at e
    case fz n c sz l => obtain ⟨rfl, rfl, rfl⟩ := e; cases x; exact .fz0 (.inl rfl)
    case nils => exact x
  | .agg l, v', d, e, x => by
    cases v' <;> simp only [wk, reduceCtorEq] at e
    cases x with | agg hl => exact .agg (wkL_sound e hl)
  | .tup l, v', d, e, x => by
    cases v' <;> simp only [wk, reduceCtorEq] at e
    cases x with | tup hl => exact .tup (wkL_sound e hl)
  | .unk, v', d, e, x => by simp only [wk] at e; exact e ▸ x
  | .bool _, v', d, e, x => by simp only [wk] at e; exact e ▸ x
  | .int _ _, v', d, e, x => by simp only [wk] at e; exact e ▸ x
  | .nilp, v', d, e, x => by simp only [wk] at e; exact e ▸ x
  | .nilf, v', d, e, x => by simp only [wk] at e; exact e ▸ x
  | .nili, v', d, e, x => by simp only [wk] at e; exact e ▸ x
  | .nilm, v', d, e, x => by simp only [wk] at e; exact e ▸ x
  | .fz _ _ _ _, v', d, e, x => by simp only [wk] at e; exact e ▸ x
  | .fp _ _, v', d, e, x => by simp only [wk] at e; exact e ▸ x
  | .ow _ _ _, v', d, e, x => by simp only [wk] at e; exact e ▸ x
  | .pt _ _ _, v', d, e, x => by simp only [wk] at e; exact e ▸ x
  | .os _ _ _ _ _, v', d, e, x => by simp only [wk] at e; exact e ▸ x
  | .fn _ _, v', d, e, x => by simp only [wk] at e; exact e ▸ x
  | .ifc _ _, v', d, e, x => by simp only [wk] at e; exact e ▸ x
  | .var _, v', d, e, x => by simp only [wk] at e; exact e ▸ x
  | .fld _ _, v', d, e, x => by simp only [wk] at e; exact e ▸ x
theorem wkL_sound {Z : P → Prop} {h : Hp} {M : Option MM} : ∀ {l l' : List VV} {d : List DV}, wkL l l' → XRs Z h M l d → XRs Z h M l' d
  | [], l', d, e, x => by
    cases l' <;> simp only [wkL] at e
    exact x
  | v :: l, l', d, e, x => by
    cases l' <;> simp only [wkL] at e
    cases x with | cons hv hl => exact .cons (wk_sound e.1 hv) (wkL_sound e.2 hl)
end
def retW (rs : List Rs) (r : VV) (o : Out) (s : VSt) : Prop :=
  match o with
  | .exit _ => False
  | _ => match vres rs s with | some r' => (match vw s.h r' with | some r0 => wk r0 r | none => False) | none => False
theorem eRetW_n (rs : List Rs) (r : VV) (s : VSt) : retW rs r .norm s = match vres rs s with | some r' => (match vw s.h r' with | some r0 => wk r0 r | none => False) | none => False := rfl
theorem eRetW_r (rs : List Rs) (r : VV) (s : VSt) : retW rs r .ret s = match vres rs s with | some r' => (match vw s.h r' with | some r0 => wk r0 r | none => False) | none => False := rfl
theorem FSem.weak {F : Tr Fd} {f : P} {args : List VV} {nx : Nat} {h : VHp} {R : VV → Nat → VHp → Prop} {r : VV} (H : FSem F f args nx h R) (hR : ∀ r' n h', R r' n h' → ∃ r0, vw h' r' = some r0 ∧ wk r0 r) : FSem F f args nx h fun r' _ _ => r' = r := by
  intro c dnx dh g ds hc hH hx
  obtain ⟨r', nx', h', x, dnx', dh', g', a, b, cc, d, e⟩ := H c dnx dh g ds hc hH hx
  obtain ⟨r0, e1, e2⟩ := hR _ _ _ e
  obtain ⟨R1, E1⟩ := b.freeze (keysV r') (zOf h' g' (keysV r')) fun b => Iff.rfl
  exact ⟨r, nx', _, x, dnx', dh', ⟨zOf h' g' (keysV r'), g'.μ⟩, a, R1, (wk_sound e2 (vw_sound b cc e1 fun k h => h)).none_any, d.trans E1, rfl⟩
theorem vpure_of_body' {F : Tr Fd} {f : P} {ps : List P} {body : C} {rs : List Rs} {args : List VV} {r : VV} {e : VEnv}
    (hf : Tr.get? f F = some (.mk ps body rs)) (he : vbinds ps args .nl = some e) (H : wC F body ⟨e, 0, 0, []⟩ (retW rs r)) : VPure F f args r := by
  refine FSem.weak (fsem_of_body hf he (R := fun r' _ h' => ∃ r0, vw h' r' = some r0 ∧ wk r0 r) ?_) (fun _ _ _ h => h)
  have : retK rs (fun r' _ h' => ∃ r0, vw h' r' = some r0 ∧ wk r0 r) = retW rs r := by
    funext o s
    have key : ∀ x : Option VV, (match x with | some r' => (∃ r0, vw s.h r' = some r0 ∧ wk r0 r) | none => False) = (match x with | some r' => (match vw s.h r' with | some r0 => wk r0 r | none => False) | none => False) := by
      intro x
      cases x with
      | none => rfl
      | some r' =>
        have k2 : ∀ y : Option VV, (∃ r0, y = some r0 ∧ wk r0 r) = (match y with | some r0 => wk r0 r | none => False) := by
          intro y
          cases y with
          | none => exact propext ⟨fun ⟨r0, h1, _⟩ => (by cases h1), fun h => h.elim⟩
          | some r0 => exact propext ⟨fun ⟨r1, h1, h2⟩ => by cases h1; exact h2, fun h2 => ⟨r0, rfl, h2⟩⟩
        exact k2 (vw s.h r')
    cases o with
    | norm => exact key _
    | exit i => rfl
    | ret => exact key _
  rw [this]; exact H

/-- Some blocks are forgotten. -/
def subH (h' h : VHp) : Prop := ∀ k o, hget h' k = some o → hget h k = some o
theorem subH_refl (h : VHp) : subH h h := fun _ _ e => e
theorem subH_tail {h : VHp} {k : Nat} {o : VOb} (hk : hget h k = none) : subH h ((k, o) :: h) := by
  intro i x e
  simp only [hget]
  by_cases hi : i = k
  · subst hi; rw [hk] at e; cases e
  · rw [if_neg hi]; exact e
theorem subH_trans {a b c : VHp} (h1 : subH a b) (h2 : subH b c) : subH a c := fun k o e => h2 k o (h1 k o e)
theorem RS.sub {c : Ctx} {s : VSt} {d : DS} {g : Gh} (R : RS c s d g) {h' : VHp} (hs : subH h' s.h) : RS c ⟨s.e, s.nx, s.w, h'⟩ d g ∧ EvoS s d g ⟨s.e, s.nx, s.w, h'⟩ d g := by
  obtain ⟨R1, E1⟩ := R.hp.sub hs
  exact ⟨⟨E1.env R.env, R1⟩, E1⟩
theorem CSem.drop {F : Tr Fd} {cd : C} {s : VSt} {K : Out → VSt → Prop} {h' : VHp} (hs : subH h' s.h) (H : CSem F cd ⟨s.e, s.nx, s.w, h'⟩ K) : CSem F cd s K := by
  intro c d g hc R
  obtain ⟨R1, E1⟩ := R.sub hs
  obtain ⟨o, s', d', g', hr, R', hw, E, hK⟩ := H c d g hc R1
  exact ⟨o, s', d', g', hr, R', hw, E1.trans E, hK⟩
theorem wLoop_drop {F : Tr Fd} {lv : List P} {a : C} {s : VSt} {K : Out → VSt → Prop} {h' : VHp} (hs : subH h' s.h) (H : wLoop F lv a ⟨s.e, s.nx, s.w, h'⟩ K) : wLoop F lv a s K := CSem.drop hs H
/-- A nil row of the frame is one's own from here on. -/
theorem CSem.own {F : Tr Fd} {cd : C} {s : VSt} {K : Out → VSt → Prop} (p : P) (sz : Nat) (hp : Tr.get? p s.e = some .nils) (H : CSem F cd ⟨Tr.set p s.e (some (.ow s.nx 0 sz)), s.nx + 1, s.w, (s.nx, .row []) :: s.h⟩ K) : CSem F cd s K := by
  intro c d g hc R
  obtain ⟨R1, E1⟩ := R.hp.addNil
  have hE := E1.env R.env
  obtain ⟨y, hy, hx⟩ := R.env.get hp
  have hy' := hx.nils_inv
  subst hy'
  have R2 : RS c ⟨Tr.set p s.e (some (.ow s.nx 0 sz)), s.nx + 1, s.w, (s.nx, .row []) :: s.h⟩ d ⟨g.Z, upd g.μ s.nx .nils⟩ := by
    refine ⟨fun q => ?_, R1⟩
    show match Tr.get? q (Tr.set p s.e (some (.ow s.nx 0 sz))), Tr.get? q d.e with | none, none => True | some v, some x => XR g.Z d.h (mm (s.nx + 1) ((s.nx, .row []) :: s.h) ⟨g.Z, upd g.μ s.nx .nils⟩) v x | _, _ => False
    rw [Tr.get_set]
    by_cases hq : q = p
    · subst hq; rw [if_pos rfl, hy]; exact xr_ow_new (by simp) (.inl ⟨rfl, rfl⟩)
    · rw [if_neg hq]; exact hE q
  obtain ⟨o, s', d', g', hr, R', hw, E, hK⟩ := H c d _ hc R2
  exact ⟨o, s', d', g', hr, R', hw, E1.trans E, hK⟩
theorem wLoop_own {F : Tr Fd} {lv : List P} {a : C} {s : VSt} {K : Out → VSt → Prop} (p : P) (sz : Nat) (hp : Tr.get? p s.e = some .nils) (H : wLoop F lv a ⟨Tr.set p s.e (some (.ow s.nx 0 sz)), s.nx + 1, s.w, (s.nx, .row []) :: s.h⟩ K) : wLoop F lv a s K := CSem.own p sz hp H
/-- A nil row within a variable of the frame is one's own from here on. -/
theorem CSem.ownV {F : Tr Fd} {cd : C} {s : VSt} {K : Out → VSt → Prop} (p : P) (i sz : Nat) {l : List VV} (hp : Tr.get? p s.e = some (.var l)) (hi : l[i]? = some .nils)
    (H : CSem F cd ⟨Tr.set p s.e (some (.var (l.take i ++ .ow s.nx 0 sz :: l.drop (i + 1)))), s.nx + 1, s.w, (s.nx, .row []) :: s.h⟩ K) : CSem F cd s K := by
  intro c d g hc R
  obtain ⟨R1, E1⟩ := R.hp.addNil
  have hE := E1.env R.env
  obtain ⟨y, hy, hx⟩ := R.env.get hp
  obtain ⟨l', rfl, hl⟩ := hx.var_inv
  obtain ⟨d0, hd0, hd1⟩ := hl.get i _ hi
  have hd2 := hd1.nils_inv
  subst hd2
  have R2 : RS c ⟨Tr.set p s.e (some (.var (l.take i ++ .ow s.nx 0 sz :: l.drop (i + 1)))), s.nx + 1, s.w, (s.nx, .row []) :: s.h⟩ d ⟨g.Z, upd g.μ s.nx .nils⟩ := by
    refine ⟨fun q => ?_, R1⟩
    show match Tr.get? q (Tr.set p s.e (some (.var (l.take i ++ .ow s.nx 0 sz :: l.drop (i + 1))))), Tr.get? q d.e with | none, none => True | some v, some x => XR g.Z d.h (mm (s.nx + 1) ((s.nx, .row []) :: s.h) ⟨g.Z, upd g.μ s.nx .nils⟩) v x | _, _ => False
    rw [Tr.get_set]
    by_cases hq : q = p
    · subst hq; rw [if_pos rfl, hy]
      have hl2 : XRs g.Z d.h (mm (s.nx + 1) ((s.nx, .row []) :: s.h) ⟨g.Z, upd g.μ s.nx .nils⟩) l l' := E1.xrs hl
      have e : l' = l'.take i ++ .nils :: l'.drop (i + 1) := by
        rw [← drop_cons' hd0, List.take_append_drop]
      show XR _ _ _ (.var _) (.var l')
      rw [e]
      exact .var ((hl2.take i).append (.cons (xr_ow_new (by simp) (.inl ⟨rfl, rfl⟩)) (hl2.drop _)))
    · rw [if_neg hq]; exact hE q
  obtain ⟨o, s', d', g', hr, R', hw, E, hK⟩ := H c d _ hc R2
  exact ⟨o, s', d', g', hr, R', hw, E1.trans E, hK⟩
theorem wLoop_ownV {F : Tr Fd} {lv : List P} {a : C} {s : VSt} {K : Out → VSt → Prop} (p : P) (i sz : Nat) {l : List VV} (hp : Tr.get? p s.e = some (.var l)) (hi : l[i]? = some .nils)
    (H : wLoop F lv a ⟨Tr.set p s.e (some (.var (l.take i ++ .ow s.nx 0 sz :: l.drop (i + 1)))), s.nx + 1, s.w, (s.nx, .row []) :: s.h⟩ K) : wLoop F lv a s K := CSem.ownV p i sz hp hi H
/-- How a loop's round ends, where blocks may be forgotten. -/
def kLd (J : Nat → VSt → Prop) (n : Nat) (K : Out → VSt → Prop) : Out → VSt → Prop := fun o s' => match o with | .norm => ∃ m, m < n ∧ ∃ h', subH h' s'.h ∧ J m ⟨s'.e, s'.nx, s'.w, h'⟩ | .exit i => K (.exit i) s' | .ret => K .ret s'
section
variable (J : Nat → VSt → Prop) (n : Nat) (K : Out → VSt → Prop) (s : VSt)
theorem ekLd_n : kLd J n K .norm s = ∃ m, m < n ∧ ∃ h', subH h' s.h ∧ J m ⟨s.e, s.nx, s.w, h'⟩ := rfl
theorem ekLd_x (i : Nat) : kLd J n K (.exit i) s = K (.exit i) s := rfl
theorem ekLd_r : kLd J n K .ret s = K .ret s := rfl
end
theorem wLoop_dr {F : Tr Fd} {lv : List P} {a : C} {s : VSt} {K : Out → VSt → Prop} (J : Nat → VSt → Prop) (n : Nat) (h0 : J n s)
    (hstep : ∀ n s, J n s → wC F a ⟨vkeep s.e lv .nl, s.nx, s.w, s.h⟩ (kLd J n K)) : wLoop F lv a s K := by
  induction n using Nat.strongRecOn generalizing s with
  | _ n ih =>
    intro c d g hc R
    have R0 : RS c ⟨vkeep s.e lv .nl, s.nx, s.w, s.h⟩ ⟨keep d.e lv .nl, d.nx, d.h⟩ g := ⟨vkeep_sound R.env lv EnvR.nl, R.hp⟩
    obtain ⟨o1, s1, d1, g1, ⟨f1, r1⟩, R1, hw1, E1, H1⟩ := wC_sound (hstep n s h0) c _ g hc R0
    have run : ∀ m, f1 ≤ m → step (.loop lv a) F (exec F m) c.wm d.e d.nx d.h = lpO (.loop lv a) F (exec F m) c.wm o1 d1.e d1.nx d1.h := by
      intro m hm
      show keepK lv d.e .nl (fun e => Res.rec (motive := fun _ => Res) .fail (lpO (.loop lv a) F (exec F m) c.wm) (step a F (exec F m) c.wm e d.nx d.h)) = _
      rw [keepK_eq, r1 m hm]
    cases o1 with
    | norm =>
      obtain ⟨m, hm, h', hs, hJ⟩ := H1
      obtain ⟨R1', E1'⟩ := R1.sub hs
      obtain ⟨o2, s2, d2, g2, ⟨f2, r2⟩, R2, hw2, E2, H2⟩ := ih m hm hJ c d1 g1 hc R1'
      refine ⟨o2, s2, d2, g2, ⟨max f1 (f2 + 1), fun n hn => ?_⟩, R2, hw2.trans hw1, (E1.trans E1').trans E2, H2⟩
      rw [run n (by omega)]
      obtain ⟨n', rfl⟩ : ∃ n', n = n' + 1 := ⟨n - 1, by omega⟩
      exact r2 n' (by omega)
    | exit i => exact ⟨.exit i, s1, d1, g1, ⟨f1, fun n hn => by rw [run n hn]; rfl⟩, R1, hw1, E1, H1⟩
    | ret => exact ⟨.ret, s1, d1, g1, ⟨f1, fun n hn => by rw [run n hn]; rfl⟩, R1, hw1, E1, H1⟩

theorem Tr.set_z_e {α : Type} (x : Option α) : Tr.set .z .nl x = .nd x .nl .nl := rfl
theorem Tr.set_z_n {α : Type} (v : Option α) (l r : Tr α) (x : Option α) : Tr.set .z (.nd v l r) x = .nd x l r := rfl

structure Mono where
  v : Int
  k : Int
structure Term where
  c : Int
  l : List Mono
structure Cons where
  t : Term
  eq : Bool

def encM : List Mono → List VV
  | [] => []
  | m :: l => .int .i64 m.v :: .int .i64 m.k :: encM l
def vMs (l : List Mono) : VV := .fz l.length none 2 (encM l)
def cT (t : Term) : List VV := [.int .i64 t.c, vMs t.l]
def vT (t : Term) : VV := .agg (cT t)
def cC (x : Cons) : List VV := [.int .i64 x.t.c, vMs x.t.l, .bool x.eq]
def vC (x : Cons) : VV := .agg (cC x)
def encC : List Cons → List VV
  | [] => []
  | x :: l => .int .i64 x.t.c :: vMs x.t.l :: .bool x.eq :: encC l
def vCs (l : List Cons) : VV := .fz l.length none 3 (encC l)
def encI : List Int → List VV
  | [] => []
  | x :: l => .int .i64 x :: encI l
def vIs (l : List Int) : VV := .fz l.length none 1 (encI l)

theorem encM_len (l : List Mono) : (encM l).length = l.length * 2 := by
  induction l with
  | nil => rfl
  | cons m l ih => simp only [encM, List.length_cons, ih]; omega
theorem encC_len (l : List Cons) : (encC l).length = l.length * 3 := by
  induction l with
  | nil => rfl
  | cons m l ih => simp only [encC, List.length_cons, ih]; omega
theorem encI_len (l : List Int) : (encI l).length = l.length := by
  induction l with
  | nil => rfl
  | cons m l ih => simp only [encI, List.length_cons, ih]
theorem encM_app (l m : List Mono) : encM (l ++ m) = encM l ++ encM m := by
  induction l with
  | nil => rfl
  | cons x l ih => simp only [encM, List.cons_append, ih]
theorem encC_app (l m : List Cons) : encC (l ++ m) = encC l ++ encC m := by
  induction l with
  | nil => rfl
  | cons x l ih => simp only [encC, List.cons_append, ih]
theorem encI_app (l m : List Int) : encI (l ++ m) = encI l ++ encI m := by
  induction l with
  | nil => rfl
  | cons x l ih => simp only [encI, List.cons_append, ih]
theorem encM_drop (l : List Mono) : ∀ i : Nat, (encM l).drop (i * 2) = encM (l.drop i) := by
  induction l with
  | nil => intro i; simp [encM]
  | cons x l ih => intro i; cases i with
    | zero => simp
    | succ i => rw [show (i + 1) * 2 = i * 2 + 1 + 1 by omega]; simp only [encM, List.drop_succ_cons, ih]
theorem encC_drop (l : List Cons) : ∀ i : Nat, (encC l).drop (i * 3) = encC (l.drop i) := by
  induction l with
  | nil => intro i; simp [encC]
  | cons x l ih => intro i; cases i with
    | zero => simp
    | succ i => rw [show (i + 1) * 3 = i * 3 + 1 + 1 + 1 by omega]; simp only [encC, List.drop_succ_cons, ih]
theorem encI_drop (l : List Int) : ∀ i : Nat, (encI l).drop i = encI (l.drop i) := by
  induction l with
  | nil => intro i; simp [encI]
  | cons x l ih => intro i; cases i with
    | zero => simp
    | succ i => simp only [encI, List.drop_succ_cons, ih]
theorem encM_take (l : List Mono) : ∀ i : Nat, (encM l).take (i * 2) = encM (l.take i) := by
  induction l with
  | nil => intro i; simp [encM]
  | cons x l ih => intro i; cases i with
    | zero => simp [encM]
    | succ i => rw [show (i + 1) * 2 = i * 2 + 1 + 1 by omega]; simp only [encM, List.take_succ_cons, ih]
theorem encC_take (l : List Cons) : ∀ i : Nat, (encC l).take (i * 3) = encC (l.take i) := by
  induction l with
  | nil => intro i; simp [encC]
  | cons x l ih => intro i; cases i with
    | zero => simp [encC]
    | succ i => rw [show (i + 1) * 3 = i * 3 + 1 + 1 + 1 by omega]; simp only [encC, List.take_succ_cons, ih]
theorem encI_take (l : List Int) : ∀ i : Nat, (encI l).take i = encI (l.take i) := by
  induction l with
  | nil => intro i; simp [encI]
  | cons x l ih => intro i; cases i with
    | zero => simp [encI]
    | succ i => simp only [encI, List.take_succ_cons, ih]
theorem drop_cons {α : Type} {l : List α} {i : Nat} {x : α} (h : l[i]? = some x) : l.drop i = x :: l.drop (i + 1) := by
  obtain ⟨hi, rfl⟩ := List.getElem?_eq_some_iff.1 h
  rw [List.drop_eq_getElem_cons hi]
theorem encM_cut {l : List Mono} {i : Nat} {m : Mono} (h : l[i]? = some m) : ((encM l).drop (i * 2)).take 2 = [.int .i64 m.v, .int .i64 m.k] := by
  rw [encM_drop, drop_cons h]; rfl
theorem encC_cut {l : List Cons} {i : Nat} {x : Cons} (h : l[i]? = some x) : ((encC l).drop (i * 3)).take 3 = cC x := by
  rw [encC_drop, drop_cons h]; rfl
theorem get_of_drop {α : Type} {l m : List α} {i j : Nat} (h : l.drop i = m) : l[i + j]? = m[j]? := by rw [← h, List.getElem?_drop]
theorem encM_g0 {l : List Mono} {i : Nat} {m : Mono} (h : l[i]? = some m) : (encM l)[i * 2]? = some (.int .i64 m.v) := by
  have := get_of_drop (j := 0) (encM_drop l i); rw [drop_cons h] at this; exact this
theorem encM_g1 {l : List Mono} {i : Nat} {m : Mono} (h : l[i]? = some m) : (encM l)[i * 2 + 1]? = some (.int .i64 m.k) := by
  have := get_of_drop (j := 1) (encM_drop l i); rw [drop_cons h] at this; exact this
theorem encC_g0 {l : List Cons} {i : Nat} {m : Cons} (h : l[i]? = some m) : (encC l)[i * 3]? = some (.int .i64 m.t.c) := by
  have := get_of_drop (j := 0) (encC_drop l i); rw [drop_cons h] at this; exact this
theorem encC_g1 {l : List Cons} {i : Nat} {m : Cons} (h : l[i]? = some m) : (encC l)[i * 3 + 1]? = some (vMs m.t.l) := by
  have := get_of_drop (j := 1) (encC_drop l i); rw [drop_cons h] at this; exact this
theorem encC_g2 {l : List Cons} {i : Nat} {m : Cons} (h : l[i]? = some m) : (encC l)[i * 3 + 2]? = some (.bool m.eq) := by
  have := get_of_drop (j := 2) (encC_drop l i); rw [drop_cons h] at this; exact this
theorem encI_g {l : List Int} {i : Nat} {m : Int} (h : l[i]? = some m) : (encI l)[i]? = some (.int .i64 m) := by
  have := get_of_drop (j := 0) (encI_drop l i); rw [drop_cons h] at this; exact this
theorem i64 {z : Int} (h : -9223372036854775808 ≤ z ∧ z < 9223372036854775808) : IntKind.i64.wrap z = z := wrap_of_fits (by
  cases z with
  | ofNat a => show Nat.ble a 9223372036854775807 = true; rw [Nat.ble_eq]; simp only [Int.ofNat_eq_natCast] at h; omega
  | negSucc a => show Nat.ble a 9223372036854775807 = true; rw [Nat.ble_eq]; simp only [Int.negSucc_eq] at h; omega)
theorem inc64 {i n : Nat} (h : i < n) (hn : n ≤ 4611686018427387904) : IntKind.i64.wrap ((i : Int) + 1) = ((i + 1 : Nat) : Int) := by rw [i64 (by omega)]; omega
theorem sub64 {i n : Nat} (h : i + 1 < n) (hn : n ≤ 4611686018427387904) : IntKind.i64.wrap (((i + 1 : Nat) : Int) - 1) = (i : Int) := by rw [i64 (by omega)]; omega
theorem ltT {i n : Nat} (h : i < n) : decide ((i : Int) < (n : Int)) = true := by simpa using h
theorem ltF {i n : Nat} (h : n ≤ i) : decide ((i : Int) < (n : Int)) = false := by simpa using h
theorem has {α : Type} {l : List α} {i : Nat} (h : i < l.length) : ∃ m, l[i]? = some m := ⟨_, List.getElem?_eq_getElem h⟩
theorem take_snoc {α : Type} {l : List α} {i : Nat} {x : α} (h : l[i]? = some x) : l.take (i + 1) = l.take i ++ [x] := by
  rw [List.take_add_one, h]; rfl
/-- A row of one's own that stands in a place of the frame is written no more: its cells stand there from here on. -/
theorem wCall_frz {F : Tr Fd} {f : P} {args args' : List VV} {s : VSt} {K : VSt → VV → Prop} (p : P) {v v' : VV} (hp : Tr.get? p s.e = some v) (hv : vw s.h v = some v') (ha : vwL s.h args = some args')
    (H : wCall F f args' ⟨Tr.set p s.e (some v'), s.nx, s.w, hdels s.h (keysV v ++ keysL args)⟩ K) : wCall F f args s K := by
  intro c d g ds R hx
  obtain ⟨R1, E1⟩ := R.hp.freeze (keysV v ++ keysL args) (zOf s.h g (keysV v ++ keysL args)) fun b => Iff.rfl
  have hx1 := vwL_sound R.hp hx ha (ks := keysV v ++ keysL args) fun k h => List.mem_append_right _ h
  obtain ⟨y, hy, hxy⟩ := R.env.get hp
  have hy1 := vw_sound R.hp hxy hv (ks := keysV v ++ keysL args) fun k h => List.mem_append_left _ h
  have hE := E1.env R.env
  have R2 : RS c ⟨Tr.set p s.e (some v'), s.nx, s.w, hdels s.h (keysV v ++ keysL args)⟩ d ⟨zOf s.h g (keysV v ++ keysL args), g.μ⟩ := by
    refine ⟨fun q => ?_, R1⟩
    show match Tr.get? q (Tr.set p s.e (some v')), Tr.get? q d.e with | none, none => True | some u, some x => XR (zOf s.h g (keysV v ++ keysL args)) d.h (mm s.nx (hdels s.h (keysV v ++ keysL args)) ⟨zOf s.h g (keysV v ++ keysL args), g.μ⟩) u x | _, _ => False
    rw [Tr.get_set]
    by_cases hq : q = p
    · subst hq; rw [if_pos rfl, hy]; exact hy1.none_any
    · rw [if_neg hq]; exact hE q
  obtain ⟨s', v0, d', x, g', hrun, R', hw, hxr, E, hK⟩ := H c d _ ds R2 hx1.none_any
  exact ⟨s', v0, d', x, g', hrun, R', hw, hxr, E1.trans E, hK⟩
/-- A nil row that is handed over may be told as an empty one. -/
theorem wCall_wk {F : Tr Fd} {f : P} {args args' : List VV} {s : VSt} {K : VSt → VV → Prop} (hw : wkL args args') (H : wCall F f args' s K) : wCall F f args s K := by
  intro c d g ds R hx
  exact H c d g ds R (wkL_sound hw hx)
/-- What stands in some places of a frame. -/
def Slots (e : VEnv) : List (P × VV) → Prop
  | [] => True
  | (p, v) :: t => Tr.get? p e = some v ∧ Slots e t
def At (s : VSt) (l : List (P × VV)) (nx w : Nat) (h : VHp) : Prop := Slots s.e l ∧ s.nx = nx ∧ s.w = w ∧ s.h = h
end Go.Proofs.Ythdlkpmhjbaplaa.Dx
