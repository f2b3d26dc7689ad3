/- One more operation of a region whose order is left open. No statement of this seat is proved here. -/
import Derived.Test.YthdlkpmhjbaplaaDxAJ
set_option autoImplicit false
noncomputable section
namespace Go.Proofs.Ythdlkpmhjbaplaa.Dx
open Go

section
variable {Pr : Program} {wm : Option P} {ds : List Dop} {os : List Oper} {e : Env} {nx : P} {h : Hp} {E : Nat → Env} {X : Nat → P} {H : Nat → Hp} {Ls : List Nat} {N hi : Nat} {j0 : J} {pv0 : P → Option Nat} {a0 : Act} {w0 : World}
  {S : Nat → Prop} {j : J} {pv : P → Option Nat} {a : Act} {w : World} {i : Nat} {u b : List P} {r : Bool} {op : Op} {o : Oper}

/-- An operation that may be done now. -/
structure Now (Pr : Program) (wm : Option P) (ds : List Dop) (os : List Oper) (e : Env) (nx : P) (h : Hp) (E : Nat → Env) (X : Nat → P) (H : Nat → Hp) (Ls : List Nat) (N hi : Nat) (S : Nat → Prop) (i : Nat) (u b : List P) (r : Bool) (op : Op) (o : Oper) : Prop where
  st : Sts Pr wm ds os e nx h E X H
  hl : ds.length = os.length
  top : ∀ k : P, nx.n ≤ k.n → Tr.get? k h = none
  hnh : (X ds.length).n ≤ hi
  hd : ds[i]? = some (.mk true u b r op)
  ho : os[i]? = some o
  hn : ¬ S i
  side : ∀ (q : Nat) (x : Dop), ds[q]? = some x → clash x (.mk true u b r op) = true → (q < i ↔ S q)
  hdb : ∀ p ∈ dstO op, p ∈ b
  hbu : ∀ p ∈ b, p ∈ u ∨ p ∈ dstO op
  hvu : isVarO op = true → ∀ p ∈ dstO op, p ∈ u
  hlv : stillO op = false → isVarO op = false → ∀ p ∈ u, vars Ls p → p ∈ b
  hc : chkOp Pr Ls N os op o = true

theorem Now.lt (A : Now Pr wm ds os e nx h E X H Ls N hi S i u b r op o) : i < ds.length := (List.getElem?_eq_some_iff.1 A.hd).1
theorem Now.hiX (A : Now Pr wm ds os e nx h E X H Ls N hi S i u b r op o) : (X (i + 1)).n ≤ hi := Nat.le_trans (A.st.le A.hl A.lt (Nat.le_refl _)) A.hnh
theorem Now.hX (A : Now Pr wm ds os e nx h E X H Ls N hi S i u b r op o) : (X i).n ≤ (X (i + 1)).n := A.st.one_le A.hl A.lt
theorem Now.veu (A : Now Pr wm ds os e nx h E X H Ls N hi S i u b r op o) {p : P} (hp : p ∈ u) : VE ds S p i := fun q x hx hpx =>
  A.side q x hx (by unfold clash; simp only [Bool.or_eq_true]; exact .inl (.inl (.inr (anyP_of (l := backD x) (m := usesD (.mk true u b r op)) hpx hp))))
theorem Now.veb (A : Now Pr wm ds os e nx h E X H Ls N hi S i u b r op o) {p : P} (hp : p ∈ b) : VE ds S p i := fun q x hx hpx =>
  A.side q x hx (by unfold clash; simp only [Bool.or_eq_true]; exact .inr (anyP_of (l := backD x) (m := backD (.mk true u b r op)) hpx hp))
theorem Now.vt (A : Now Pr wm ds os e nx h E X H Ls N hi S i u b r op o) (hM : blindO op = false) : VT ds S i := fun q x hx hw =>
  A.side q x hx (by unfold clash; simp only [Bool.or_eq_true, Bool.and_eq_true]; exact .inl (.inl (.inl (.inl ⟨hw, by simp [isM, hM]⟩))))
theorem addS_ne {q : Nat} (hq : q ≠ i) : addS S i q ↔ S q := ⟨fun h => h.elim id (fun h => absurd h hq), .inl⟩
theorem Now.vt1 (A : Now Pr wm ds os e nx h E X H Ls N hi S i u b r op o) (hM : blindO op = false) : VT ds (addS S i) (i + 1) := fun q x hx hw => by
  by_cases hq : q = i
  · subst hq; exact ⟨fun _ => .inr rfl, fun _ => by omega⟩
  · rw [addS_ne (S := S) hq, ← A.vt hM q x hx hw]; omega
theorem Now.vt_of (A : Now Pr wm ds os e nx h E X H Ls N hi S i u b r op o) (hW : isW (.mk true u b r op) = false) {t : Nat} (hv : VT ds (addS S i) t) : VT ds S t := fun q x hx hw => by
  have hq : q ≠ i := by rintro rfl; rw [A.hd] at hx; cases hx; rw [hW] at hw; cases hw
  rw [← addS_ne (S := S) hq]; exact hv q x hx hw
theorem blind_still {op : Op} (h : blindO op = true) : stillO op = true := by
  cases op <;> simp only [blindO, stillO] at h ⊢
  · rw [h]; rfl
  · cases h
  · cases h
theorem blind_w (hM : blindO op = true) : isW (.mk true u b r op) = false := by simp [isW, blind_still hM]
/-- What others have made stands beyond what this one makes. -/
theorem Now.others (A : Now Pr wm ds os e nx h E X H Ls N hi S i u b r op o) (I : Inv ds E X H Ls N hi j0 pv0 a0 w0 S j pv a w) {k : P} {x : Img} (hk : j k = some x) (hkn : k.n < (X ds.length).n) (hge : (X (i + 1)).n ≤ k.n) : isW (.mk true u b r op) = false := by
  rcases I.fresh k x hk with h1 | ⟨m, hm, hS, h1, h2⟩ | h1
  · have := A.st.le A.hl (Nat.zero_le (i + 1)) A.lt; omega
  · have hmi : m ≠ i := by rintro rfl; exact A.hn hS
    have hlt : i < m := by
      rcases Nat.lt_or_ge i m with h | h
      · exact h
      · have := A.st.le A.hl (show m + 1 ≤ i + 1 by omega) A.lt; omega
    cases hw : isW (.mk true u b r op) with
    | false => rfl
    | true =>
      exfalso
      have hdm : ds[m]? = some ds[m] := List.getElem?_eq_getElem hm
      have hom : os[m]? = some (os[m]'(by rw [← A.hl]; exact hm)) := List.getElem?_eq_getElem _
      have D := A.st.step m _ _ hdm hom
      have hMm : isM ds[m] = true := by
        cases hdd : ds[m] with
        | mk c' u' b' r' op' =>
          rw [hdd] at D
          obtain ⟨r1, D, _⟩ := D
          generalize hx : X (m + 1) = xx at D h2
          generalize hh : H (m + 1) = hp at D
          cases D with
          | run G S' M hs =>
            simp only [Bool.or_eq_false_iff] at hs
            simp [isM, blindO, hs.1]
          | _ => omega
      have := (A.side m _ hdm (by unfold clash; simp only [Bool.or_eq_true, Bool.and_eq_true]; exact .inl (.inl (.inl (.inr ⟨hMm, hw⟩))))).2 hS
      omega
  · have := A.hnh; omega

/-- what it looks at, as it stands now -/
theorem Now.env (A : Now Pr wm ds os e nx h E X H Ls N hi S i u b r op o) (I : Inv ds E X H Ls N hi j0 pv0 a0 w0 S j pv a w) (p : P) (v : DV) (hv : Tr.get? p (use true (E i) u .nl) = some v) : ER j (pvOf pv (use true (E i) u .nl)) w a.tmps p v := by
  have hnl : ∀ (q : P) (v : DV), Tr.get? q (.nl : Env) = some v → Tr.get? q (E i) = some v := fun q v h => by rw [Tr.get_e] at h; cases h
  have hnf : ∀ (q q' : P) (o : Nat), Tr.get? q (.nl : Env) = some (.fld q' o) → isVar q' (.nl : Env) := fun q q' o h => by rw [Tr.get_e] at h; cases h
  have hpu : p ∈ u := by
    rcases use_only u .nl p v hv with h | h
    · rw [Tr.get_e] at h; cases h
    · exact h
  have hr := I.env p i v (Nat.le_of_lt A.lt) (A.veu hpu) (use_sub u .nl hnl p v hv)
  cases v
  case fld q o =>
    obtain ⟨bb, hb, ht⟩ := hr
    exact ⟨bb, by rw [pvOf_var (use_fld u .nl hnl hnf p q o hv)]; exact hb, ht⟩
  case var l =>
    obtain ⟨bb, hb, ht⟩ := hr
    exact ⟨bb, by rw [pvOf_var ⟨l, hv⟩]; exact hb, ht⟩
  all_goals exact hr
theorem Now.rel (A : Now Pr wm ds os e nx h E X H Ls N hi S i u b r op o) (I : Inv ds E X H Ls N hi j0 pv0 a0 w0 S j pv a w) (hM : blindO op = false) :
    Rel (vars Ls) N (X (i + 1)).n j (pvOf pv (use true (E i) u .nl)) (use true (E i) u .nl) (X i) (H i) a w where
  fresh := fun k x hk => by
    rcases I.fresh k x hk with h1 | ⟨m, hm, hS, h1, h2⟩ | h1
    · exact .inl (Nat.lt_of_lt_of_le h1 (A.st.le A.hl (Nat.zero_le _) (Nat.le_of_lt A.lt)))
    · have hmi : m ≠ i := by rintro rfl; exact A.hn hS
      rcases Nat.lt_or_ge m i with h | h
      · exact .inl (Nat.lt_of_lt_of_le h2 (A.st.le A.hl h (Nat.le_of_lt A.lt)))
      · exact .inr (Nat.le_trans (A.st.le A.hl (show i + 1 ≤ m by omega) (by omega)) h1)
    · exact .inr (Nat.le_trans A.hiX h1)
  heap := fun k x hk hlt => I.heap k x i hk (Nat.lt_of_lt_of_le hlt (A.st.le A.hl (Nat.le_of_lt A.lt) (Nat.le_refl _))) (Nat.le_of_lt A.lt) (A.vt hM) hlt
  inj := I.inj
  inr := I.inr
  env := A.env I
  pvv := fun p bb hp => (pvOf_some hp).1
  pin := fun p q bb hp hq => I.pin p q bb (pvOf_some hp).2 (pvOf_some hq).2
  pfr := fun p bb hp => I.pfr p bb (pvOf_some hp).2
  pfo := fun p bb hp => I.pfo p bb (pvOf_some hp).2
  loc := fun p l hl => by
    have hpu : p ∈ u := by
      rcases use_only u .nl p _ hl with h | h
      · rw [Tr.get_e] at h; cases h
      · exact h
    exact I.loc p l i (Nat.le_of_lt A.lt) (A.veu hpu) (use_sub u .nl (fun q v h => by rw [Tr.get_e] at h; cases h) p _ hl)
  size := I.size
  lt := I.lt
  lr := I.lr
  top := A.st.top A.hl A.top i (Nat.le_of_lt A.lt)

theorem getD_put {d : Option Nat} {v : Value} {x : Nat} (hx : d ≠ some x) : (a.put d v).tmps.getD x undef = a.tmps.getD x undef := by
  cases d with
  | none => rfl
  | some d => rw [put_getD, if_neg (fun h => hx (by rw [h.1]))]
/-- its own place holds no variable -/
theorem Now.free (A : Now Pr wm ds os e nx h E X H Ls N hi S i u b r op o) (I : Inv ds E X H Ls N hi j0 pv0 a0 w0 S j pv a w) {dst : Option P} {g : Option (P × Bool)} {ins : Ins} (hop : op = .mk dst g ins) {p : P} (hp : p ∈ dstO op) : pv p = none := by
  cases hpv : pv p with
  | none => rfl
  | some x =>
    obtain ⟨l, hl⟩ := I.pvv p x i (Nat.le_of_lt A.lt) (A.veb (A.hdb p hp)) hpv
    have hL := I.loc p l i (Nat.le_of_lt A.lt) (A.veb (A.hdb p hp)) hl
    subst hop
    cases dst with
    | none => simp [dstO] at hp
    | some d =>
      simp only [dstO, List.mem_singleton] at hp
      subst hp
      have hc := A.hc
      simp only [chkOp, Bool.and_eq_true] at hc
      exact absurd hL (okDst_some hc.1.1).2.1
theorem dstE_get {dst : Option P} {v : DV} {q : P} {e : Env} (hq : ∀ d, dst = some d → q ≠ d) : Tr.get? q (dstE dst v e) = Tr.get? q e := by
  cases dst with
  | none => rfl
  | some d => exact Tr.get_set_ne (hq d rfl) _ _
/-- One that moves nothing. -/
theorem Now.quiet (A : Now Pr wm ds os e nx h E X H Ls N hi S i u b r op o) (I : Inv ds E X H Ls N hi j0 pv0 a0 w0 S j pv a w) {dst : Option P} {g : Option (P × Bool)} {ins : Ins} (hop : op = .mk dst g ins) {v : DV} {v' : Value}
    (hE : E (i + 1) = back (dstE dst v (use true (E i) u .nl)) b (E i)) (hX : X (i + 1) = X i) (hH : H (i + 1) = H i) (hv : XD j (pvOf pv (use true (E i) u .nl)) v v') :
    Inv ds E X H Ls N hi j0 pv0 a0 w0 (addS S i) j pv (a.put o.dst v') w := by
  have hc := A.hc
  subst hop
  simp only [chkOp, Bool.and_eq_true] at hc
  have hdst := hc.1.1
  have hpl : ∀ p bb, pvOf pv (use true (E i) u .nl) p = some bb → pv p = some bb := fun p bb hp => (pvOf_some hp).2
  have hnd : ∀ p, p ∉ dstO (.mk dst g ins) → ∀ d, dst = some d → p ≠ d := by
    rintro p hp d rfl rfl; exact hp (by simp [dstO])
  have hodst : ∀ p : P, p ∉ dstO (.mk dst g ins) → o.dst ≠ some p.n := by
    intro p hp ho
    cases dst with
    | none => rw [okDst_none hdst] at ho; cases ho
    | some d => rw [(okDst_some hdst).1] at ho; simp only [Option.some.injEq] at ho; exact hnd p hp d rfl (P.n_inj ho.symm)
  refine I.next A.st A.hl A.hnh A.hd A.hn A.side A.hdb A.hbu hE (pv1 := pvOf pv (use true (E i) u .nl)) (Ext.refl j) (Nat.le_refl _) ?heap (fun k x h => .inl h) I.inj I.inr I.lt I.lr ?env1 ?pvv1 ?loc1 (fun p q x hp hq => I.pin p q x (hpl _ _ hp) (hpl _ _ hq))
    I.pfr I.pfo hpl (fun _ _ => rfl) ?hp3 ?hp4 (fun p x hp => .inl (hpl _ _ hp)) (fun p x hp => I.plt p x (hpl _ _ hp)) (fun p hp => A.free I rfl hp) ?hr1 (fun p hp => getD_put (hodst p hp)) (fun _ _ _ _ => rfl) ?size (Fr.refl _ _ _ _ _) (put_defers _ _ _)
  case heap =>
    intro k x t hk hkn ht hvt hkt
    cases hW : isW (.mk true u b r (.mk dst g ins)) with
    | false => exact I.heap k x t hk hkn ht (A.vt_of hW hvt) hkt
    | true =>
      have hM : blindO (.mk dst g ins) = false := by
        cases hb : blindO (.mk dst g ins) with
        | false => rfl
        | true => rw [blind_w hb] at hW; cases hW
      have hlt : k.n < (X (i + 1)).n := by
        rcases Nat.lt_or_ge k.n (X (i + 1)).n with h | h
        · exact h
        · rw [A.others I hk hkn h] at hW; cases hW
      have h1 := I.heap k x i hk hkn (Nat.le_of_lt A.lt) (A.vt hM) (by rw [← hX]; exact hlt)
      refine HR.of_heap (Ext.refl j) ?_ (Nat.le_refl _) (fun _ _ => rfl) h1
      rw [A.st.heap_same A.hl A.lt ht (A.vt1 hM) hvt hlt hkt, hH]
  case env1 =>
    intro p y hy
    by_cases hp : p ∈ dstO (.mk dst g ins)
    · cases dst with
      | none => simp [dstO] at hp
      | some d =>
        simp only [dstO, List.mem_singleton] at hp
        subst hp
        obtain ⟨h1, h2, h3⟩ := okDst_some hdst
        change Tr.get? p (Tr.set p _ (some v)) = some y at hy
        rw [Tr.get_set_self] at hy; cases hy
        exact XD.tmps hv (by rw [h1, put_getD, if_pos ⟨rfl, by rw [I.size]; exact h3⟩])
    · rw [dstE_get (hnd p hp)] at hy
      exact ER.tmps (getD_put (hodst p hp)) (A.env I p y hy)
  case pvv1 =>
    intro p x hp
    obtain ⟨⟨l, hl⟩, hp'⟩ := pvOf_some hp
    refine ⟨l, ?_⟩
    have hpd : p ∉ dstO (.mk dst g ins) := fun h => by rw [A.free I rfl h] at hp'; cases hp'
    rw [dstE_get (hnd p hpd)]; exact hl
  case loc1 =>
    intro p l hl
    by_cases hp : p ∈ dstO (.mk dst g ins)
    · cases dst with
      | none => simp [dstO] at hp
      | some d =>
        simp only [dstO, List.mem_singleton] at hp
        subst hp
        change Tr.get? p (Tr.set p _ (some v)) = _ at hl
        rw [Tr.get_set_self] at hl; cases hl
        exact hv.elim
    · rw [dstE_get (hnd p hp)] at hl
      have hpu : p ∈ u := by
        rcases use_only u .nl p _ hl with h | h
        · rw [Tr.get_e] at h; cases h
        · exact h
      exact I.loc p l i (Nat.le_of_lt A.lt) (A.veu hpu) (use_sub u .nl (fun q v h => by rw [Tr.get_e] at h; cases h) p _ hl)
  case hp3 =>
    intro p hp x hx
    rw [A.free I rfl hp] at hx; cases hx
  case hp4 =>
    intro p x hpu hpd hx
    obtain ⟨l, hl⟩ := I.pvv p x i (Nat.le_of_lt A.lt) (A.veu hpu) hx
    rw [pvOf_var ⟨l, use_var u .nl p l (fun q v h => by rw [Tr.get_e] at h; cases h) hl (.inl hpu)⟩]
    exact hx
  case hr1 =>
    intro p hpb y hy hn
    have hpd : p ∉ dstO (.mk dst g ins) := by
      intro hp
      cases dst with
      | none => simp [dstO] at hp
      | some d =>
        simp only [dstO, List.mem_singleton] at hp
        subst hp
        change Tr.get? p (Tr.set p _ (some v)) = none at hn
        rw [Tr.get_set_self] at hn; cases hn
    refine ⟨hpd, ?_⟩
    rintro l rfl
    rcases A.hbu p hpb with hu | hu
    · rw [dstE_get (hnd p hpd), use_var u .nl p l (fun q v h => by rw [Tr.get_e] at h; cases h) hy (.inl hu)] at hn; cases hn
    · exact hpd hu
  case size => cases hdd : o.dst with
    | none => exact I.size
    | some d => show (a.tmps.setIfInBounds _ _).size = N; rw [Array.size_setIfInBounds]; exact I.size
end
end Go.Proofs.Ythdlkpmhjbaplaa.Dx
