/- One more operation of a region whose order is left open. No statement of this seat is proved here. -/
import Derived.Test.YtnoekfkfinjfgaaGreatDoorUm
set_option autoImplicit false
set_option linter.unusedSectionVars false
set_option linter.unusedSimpArgs false
noncomputable section
namespace Go.Proofs.YtnoekfkfinjfgaaGreatDoor.Dx
open Go
variable [Rho]

section
variable {Pr : Program} {wm : Option P} {ds : List Dop} {os : List Oper} {e : Env} {nx : P} {h : Hp} {E : Nat → Env} {X : Nat → P} {H : Nat → Hp} {Ls : List Nat} {N hi : Nat} {j0 : J} {pv0 : P → Option Nat} {a0 : Act} {w0 : World}
  {S : Nat → Prop} {j : J} {pv : P → Option Nat} {a : Act} {w : World} {i : Nat} {u b : List P} {r : Bool} {op : Op} {o : Oper}

/-- An operation that may be done now. -/
structure Now (Pr : Program) (wm : Option P) (ds : List Dop) (os : List Oper) (e : Env) (nx : P) (h : Hp) (E : Nat → Env) (X : Nat → P) (H : Nat → Hp) (Ls : List Nat) (N hi : Nat) (S : Nat → Prop) (i : Nat) (u b : List P) (r : Bool) (op : Op) (o : Oper) : Prop where
  st : Sts Pr wm ds os e nx h E X H
  hl : ds.length = os.length
  top : ∀ k : P, nx.n ≤ k.n → Tr.get? k h = none
  hnh : (X ds.length).n ≤ hi
  hd : ds[i]? = some (.mk true u b r op)
  ho : os[i]? = some o
  hn : ¬ S i
  sideL : ∀ (q : Nat) (x : Dop), ds[q]? = some x → q < i → clash x (.mk true u b r op) = true → S q
  sideR : ∀ (q : Nat) (x : Dop), ds[q]? = some x → i < q → clash (.mk true u b r op) x = true → ¬ S q
  hdb : ∀ p ∈ dstO op, p ∈ b
  hbu : ∀ p ∈ b, p ∈ u ∨ p ∈ dstO op
  hvu : isVarO op = true → ∀ p ∈ dstO op, p ∈ u
  hlv : stillO op = false → isVarO op = false → ∀ p ∈ u, vars Ls p → p ∈ b
  hc : chkOp Pr Ls N os op o = true

theorem Now.lt (A : Now Pr wm ds os e nx h E X H Ls N hi S i u b r op o) : i < ds.length := (List.getElem?_eq_some_iff.1 A.hd).1
theorem Now.hiX (A : Now Pr wm ds os e nx h E X H Ls N hi S i u b r op o) : (X (i + 1)).n ≤ hi := Nat.le_trans (A.st.le A.hl A.lt (Nat.le_refl _)) A.hnh
theorem Now.hX (A : Now Pr wm ds os e nx h E X H Ls N hi S i u b r op o) : (X i).n ≤ (X (i + 1)).n := A.st.one_le A.hl A.lt
theorem Now.side (A : Now Pr wm ds os e nx h E X H Ls N hi S i u b r op o) (q : Nat) (x : Dop) (hx : ds[q]? = some x) (hc : clashE x (.mk true u b r op) = true) : q < i ↔ S q := by
  rcases Nat.lt_trichotomy q i with h | h | h
  · exact ⟨fun _ => A.sideL q x hx h (clash_of_E hc), fun _ => h⟩
  · subst h; exact ⟨fun h => absurd h (Nat.lt_irrefl _), fun h => absurd h A.hn⟩
  · exact ⟨fun h' => absurd h' (by omega), fun hq => absurd hq (A.sideR q x hx h (clash_of_E (clashE_comm hc)))⟩
theorem Now.veu (A : Now Pr wm ds os e nx h E X H Ls N hi S i u b r op o) {p : P} (hp : p ∈ u) : VE ds S p i := fun q x hx hpx =>
  A.side q x hx (by unfold clashE; simp only [Bool.or_eq_true]; exact .inl (.inl (anyP_of (l := backD x) (m := usesD (.mk true u b r op)) hpx hp)))
theorem Now.veb (A : Now Pr wm ds os e nx h E X H Ls N hi S i u b r op o) {p : P} (hp : p ∈ b) : VE ds S p i := fun q x hx hpx =>
  A.side q x hx (by unfold clashE; simp only [Bool.or_eq_true]; exact .inr (anyP_of (l := backD x) (m := backD (.mk true u b r op)) hpx hp))
theorem Now.vt (A : Now Pr wm ds os e nx h E X H Ls N hi S i u b r op o) (hM : blindO op = false) (hN : newO op = false) : VT ds S i := fun q x hx hw => by
  rcases Nat.lt_trichotomy q i with h | h | h
  · exact ⟨fun _ => A.sideL q x hx h (by unfold clash; simp only [Bool.or_eq_true, Bool.and_eq_true]; exact .inl (.inl ⟨hw, by simp [isM, hM], by simp [isN, hN]⟩)), fun _ => h⟩
  · subst h; exact ⟨fun h => absurd h (Nat.lt_irrefl _), fun h => absurd h A.hn⟩
  · exact ⟨fun h' => absurd h' (by omega), fun hq => absurd hq (A.sideR q x hx h (by unfold clash; simp only [Bool.or_eq_true, Bool.and_eq_true]; exact .inl (.inr ⟨by simp [isM, hM], hw⟩)))⟩
/-- What writes behind one that looks at memory is not yet done. -/
theorem Now.later (A : Now Pr wm ds os e nx h E X H Ls N hi S i u b r op o) (hM : blindO op = false) (q : Nat) (x : Dop) (hx : ds[q]? = some x) (hw : isW x = true) (h : i < q) : ¬ S q :=
  A.sideR q x hx h (by unfold clash; simp only [Bool.or_eq_true, Bool.and_eq_true]; exact .inl (.inr ⟨by simp [isM, hM], hw⟩))
theorem addS_ne {q : Nat} (hq : q ≠ i) : addS S i q ↔ S q := ⟨fun h => h.elim id (fun h => absurd h hq), .inl⟩
theorem Now.vt1 (A : Now Pr wm ds os e nx h E X H Ls N hi S i u b r op o) (hM : blindO op = false) (hN : newO op = false) : VT ds (addS S i) (i + 1) := fun q x hx hw => by
  by_cases hq : q = i
  · subst hq; exact ⟨fun _ => .inr rfl, fun _ => by omega⟩
  · rw [addS_ne (S := S) hq, ← A.vt hM hN q x hx hw]; omega
theorem Now.vt_of (A : Now Pr wm ds os e nx h E X H Ls N hi S i u b r op o) (hW : isW (.mk true u b r op) = false) {t : Nat} (hv : VT ds (addS S i) t) : VT ds S t := fun q x hx hw => by
  have hq : q ≠ i := by rintro rfl; rw [A.hd] at hx; cases hx; rw [hW] at hw; cases hw
  rw [← addS_ne (S := S) hq]; exact hv q x hx hw
theorem blind_still {op : Op} (h : blindO op = true) : stillO op = true := by
  cases op <;> simp only [blindO, stillO] at h ⊢
  · rename_i d g i
    rw [Bool.or_eq_true] at h
    rcases h with h | h
    · rw [h]; rfl
    · rw [vl_load h, Bool.or_true]
  · cases h
  · cases h
theorem blind_w (hM : blindO op = true) : isW (.mk true u b r op) = false := by simp [isW, blind_still hM]
/-- What others have made stands beyond what this one makes: but for rows made of values alone, this one does not write. -/
theorem Now.others (A : Now Pr wm ds os e nx h E X H Ls N hi S i u b r op o) (I : Inv ds E X H Ls N hi j0 pv0 a0 w0 S j pv a w) {k : P} {x : Img} (hk : j k = some x) (hkn : k.n < (X ds.length).n) (hge : (X (i + 1)).n ≤ k.n) :
    isW (.mk true u b r op) = false ∨ isW (.mk true u b r op) = true ∧ ∃ m d, i < m ∧ ds[m]? = some d ∧ isN d = true ∧ S m ∧ (X m).n ≤ k.n ∧ k.n < (X (m + 1)).n := by
  rcases I.fresh k x hk with h1 | ⟨m, hm, hS, h1, h2⟩ | h1
  · have := A.st.le A.hl (Nat.zero_le (i + 1)) A.lt; omega
  · have hmi : m ≠ i := by rintro rfl; exact A.hn hS
    have hlt : i < m := by
      rcases Nat.lt_or_ge i m with h | h
      · exact h
      · have := A.st.le A.hl (show m + 1 ≤ i + 1 by omega) A.lt; omega
    cases hw : isW (.mk true u b r op) with
    | false => exact .inl rfl
    | true =>
      have hdm : ds[m]? = some ds[m] := List.getElem?_eq_getElem hm
      cases hN : isN ds[m] with
      | true => exact .inr ⟨rfl, m, _, hlt, hdm, hN, hS, h1, h2⟩
      | false =>
      exfalso
      have hom : os[m]? = some (os[m]'(by rw [← A.hl]; exact hm)) := List.getElem?_eq_getElem _
      have D := A.st.step m _ _ hdm hom
      have hMm : isM ds[m] = true := by
        cases hdd : ds[m] with
        | mk c' u' b' r' op' =>
          rw [hdd] at D hN
          obtain ⟨r1, D, _⟩ := D
          generalize hx : X (m + 1) = xx at D h2
          generalize hh : H (m + 1) = hp at D
          cases D with
          | run G S' M hs =>
            simp only [Bool.or_eq_false_iff] at hs
            simp [isM, blindO, hs.1, load_vl hs.2]
          | nw G W => simp [isN, newO, isBsl] at hN
          | _ => omega
      exact A.sideR m _ hdm hlt (by unfold clash; simp only [Bool.or_eq_true, Bool.and_eq_true]; exact .inl (.inl ⟨hw, hMm, by simp [hN]⟩)) hS
  · have := A.hnh; omega
theorem isW_spec {u b : List P} {r : Bool} {op : Op} (h : isW (.mk true u b r op) = true) : stillO op = false ∧ isVarO op = false ∧ newO op = false ∧ blindO op = false := by
  simp only [isW, Bool.and_eq_true, Bool.not_eq_true'] at h
  refine ⟨h.1.1.2, h.1.2, h.2, ?_⟩
  cases hb : blindO op with
  | false => rfl
  | true => rw [blind_still hb] at h; cases h.1.1.2
theorem isN_not {d : Dop} {u b : List P} {r : Bool} {op : Op} (hd : d = .mk true u b r op) (hN : isN d = true) : newO op = true := by subst hd; exact hN
/-- What others have made, as it lies. -/
theorem Now.far (A : Now Pr wm ds os e nx h E X H Ls N hi S i u b r op o) (I : Inv ds E X H Ls N hi j0 pv0 a0 w0 S j pv a w) {k : P} {x : Img} {t : Nat} (hk : j k = some x) (hkn : k.n < (X ds.length).n) (hge : (X (i + 1)).n ≤ k.n) (ht : t ≤ ds.length) (hvt : VT ds (addS S i) t) (hkt : k.n < (X t).n) : HR j (H t) w k x := by
  rcases A.others I hk hkn hge with hW | ⟨hW, m, d, him, hdm, hN, hS, h1, h2⟩
  · exact I.heap k x t hk hkn ht (A.vt_of hW hvt) hkt
  · have hM := (isW_spec hW).2.2.2
    have hlat : ∀ q y, ds[q]? = some y → isW y = true → m < q → ¬ S q := fun q y hy hw hq => A.later hM q y hy hw (by omega)
    have h0 := I.new m d k x hdm hN hS hlat h1 h2 hk
    have hmt : m + 1 ≤ t := by
      rcases Nat.lt_or_ge m t with h | h
      · exact h
      · have := A.st.le A.hl h (Nat.le_of_lt (List.getElem?_eq_some_iff.1 hdm).1); omega
    refine HR.of_heap (Ext.refl j) ?_ (Nat.le_refl _) (fun _ _ => rfl) (fun _ _ _ _ h => h) h0
    refine A.st.heap_stays A.hl h2 t hmt ht ?_
    intro q y hq1 hq2 hy
    cases hw : isW y with
    | false => rfl
    | true =>
      rcases (hvt q y hy hw).1 hq2 with h | h
      · exact absurd h (hlat q y hy hw (by omega))
      · omega

/-- what it looks at, as it stands now -/
theorem Now.env (A : Now Pr wm ds os e nx h E X H Ls N hi S i u b r op o) (I : Inv ds E X H Ls N hi j0 pv0 a0 w0 S j pv a w) (p : P) (v : DV) (hv : Tr.get? p (use true (E i) u .nl) = some v) : ER j (pvOf pv (use true (E i) u .nl)) w a.tmps p v := by
  have hnl : ∀ (q : P) (v : DV), Tr.get? q (.nl : Env) = some v → Tr.get? q (E i) = some v := fun q v h => by rw [Tr.get_e] at h; cases h
  have hnf : ∀ (q q' : P) (o : Nat), Tr.get? q (.nl : Env) = some (.fld q' o) → isVar q' (.nl : Env) := fun q q' o h => by rw [Tr.get_e] at h; cases h
  have hpu : p ∈ u := by
    rcases use_only u .nl p v hv with h | h
    · rw [Tr.get_e] at h; cases h
    · exact h
  have hr := I.env p i v (Nat.le_of_lt A.lt) (A.veu hpu) (use_sub u .nl hnl p v hv)
  cases v
  case fld q o =>
    obtain ⟨bb, hb, ht⟩ := hr
    exact ⟨bb, by rw [pvOf_var (use_fld u .nl hnl hnf p q o hv)]; exact hb, ht⟩
  case var l =>
    obtain ⟨bb, hb, ht⟩ := hr
    exact ⟨bb, by rw [pvOf_var ⟨l, hv⟩]; exact hb, ht⟩
  all_goals exact hr
theorem Now.rel (A : Now Pr wm ds os e nx h E X H Ls N hi S i u b r op o) (I : Inv ds E X H Ls N hi j0 pv0 a0 w0 S j pv a w) (hM : blindO op = false) (hNb : newO op = false) :
    Rel (vars Ls) N (X (i + 1)).n j (pvOf pv (use true (E i) u .nl)) (use true (E i) u .nl) (X i) (H i) a w where
  fresh := fun k x hk => by
    rcases I.fresh k x hk with h1 | ⟨m, hm, hS, h1, h2⟩ | h1
    · exact .inl (Nat.lt_of_lt_of_le h1 (A.st.le A.hl (Nat.zero_le _) (Nat.le_of_lt A.lt)))
    · have hmi : m ≠ i := by rintro rfl; exact A.hn hS
      rcases Nat.lt_or_ge m i with h | h
      · exact .inl (Nat.lt_of_lt_of_le h2 (A.st.le A.hl h (Nat.le_of_lt A.lt)))
      · exact .inr (Nat.le_trans (A.st.le A.hl (show i + 1 ≤ m by omega) (by omega)) h1)
    · exact .inr (Nat.le_trans A.hiX h1)
  heap := fun k x hk hlt => I.heap k x i hk (Nat.lt_of_lt_of_le hlt (A.st.le A.hl (Nat.le_of_lt A.lt) (Nat.le_refl _))) (Nat.le_of_lt A.lt) (A.vt hM hNb) hlt
  inj := I.inj
  inr := I.inr
  env := A.env I
  pvv := fun p bb hp => (pvOf_some hp).1
  pin := fun p q bb hp hq => I.pin p q bb (pvOf_some hp).2 (pvOf_some hq).2
  pfr := fun p bb hp => I.pfr p bb (pvOf_some hp).2
  pfo := fun p bb hp => I.pfo p bb (pvOf_some hp).2
  loc := fun p l hl => by
    have hpu : p ∈ u := by
      rcases use_only u .nl p _ hl with h | h
      · rw [Tr.get_e] at h; cases h
      · exact h
    exact I.loc p l i (Nat.le_of_lt A.lt) (A.veu hpu) (use_sub u .nl (fun q v h => by rw [Tr.get_e] at h; cases h) p _ hl)
  size := I.size
  lt := I.lt
  lr := I.lr
  top := A.st.top A.hl A.top i (Nat.le_of_lt A.lt)
  maps := I.maps
  pfm := fun p bb hp => I.pfm p bb (pvOf_some hp).2

/-- what stands in the frame, with no memory -/
theorem Now.relnl (A : Now Pr wm ds os e nx h E X H Ls N hi S i u b r op o) (I : Inv ds E X H Ls N hi j0 pv0 a0 w0 S j pv a w) :
    Rel (vars Ls) N 0 j (pvOf pv (use true (E i) u .nl)) (use true (E i) u .nl) .z .nl a w where
  fresh := fun k x hk => .inr (Nat.zero_le _)
  heap := fun k x hk hlt => absurd hlt (Nat.not_lt_zero _)
  inj := I.inj
  inr := I.inr
  env := A.env I
  pvv := fun p bb hp => (pvOf_some hp).1
  pin := fun p q bb hp hq => I.pin p q bb (pvOf_some hp).2 (pvOf_some hq).2
  pfr := fun p bb hp => I.pfr p bb (pvOf_some hp).2
  pfo := fun p bb hp => I.pfo p bb (pvOf_some hp).2
  loc := fun p l hl => by
    have hpu : p ∈ u := by
      rcases use_only u .nl p _ hl with h | h
      · rw [Tr.get_e] at h; cases h
      · exact h
    exact I.loc p l i (Nat.le_of_lt A.lt) (A.veu hpu) (use_sub u .nl (fun q v h => by rw [Tr.get_e] at h; cases h) p _ hl)
  size := I.size
  lt := I.lt
  lr := I.lr
  top := fun k _ => Tr.get_e k
  maps := I.maps
  pfm := fun p bb hp => I.pfm p bb (pvOf_some hp).2

theorem getD_put {d : Option Nat} {v : Value} {x : Nat} (hx : d ≠ some x) : (a.put d v).tmps.getD x undef = a.tmps.getD x undef := by
  cases d with
  | none => rfl
  | some d => rw [put_getD, if_neg (fun h => hx (by rw [h.1]))]
/-- its own place holds no variable -/
theorem Now.free (A : Now Pr wm ds os e nx h E X H Ls N hi S i u b r op o) (I : Inv ds E X H Ls N hi j0 pv0 a0 w0 S j pv a w) {dst : Option P} {g : Option (P × Bool)} {ins : Ins} (hop : op = .mk dst g ins) {p : P} (hp : p ∈ dstO op) : pv p = none := by
  cases hpv : pv p with
  | none => rfl
  | some x =>
    obtain ⟨l, hl⟩ := I.pvv p x i (Nat.le_of_lt A.lt) (A.veb (A.hdb p hp)) hpv
    have hL := I.loc p l i (Nat.le_of_lt A.lt) (A.veb (A.hdb p hp)) hl
    subst hop
    cases dst with
    | none => simp [dstO] at hp
    | some d =>
      simp only [dstO, List.mem_singleton] at hp
      subst hp
      have hc := A.hc
      simp only [chkOp, Bool.and_eq_true] at hc
      exact absurd hL (okDst_some hc.1.1).2.1
theorem dstE_get {dst : Option P} {v : DV} {q : P} {e : Env} (hq : ∀ d, dst = some d → q ≠ d) : Tr.get? q (dstE dst v e) = Tr.get? q e := by
  cases dst with
  | none => rfl
  | some d => exact Tr.get_set_ne (hq d rfl) _ _
/-- One that moves nothing. -/
theorem Now.quiet (A : Now Pr wm ds os e nx h E X H Ls N hi S i u b r op o) (I : Inv ds E X H Ls N hi j0 pv0 a0 w0 S j pv a w) {dst : Option P} {g : Option (P × Bool)} {ins : Ins} (hop : op = .mk dst g ins) {v : DV} {v' : Value}
    (hE : E (i + 1) = back (dstE dst v (use true (E i) u .nl)) b (E i)) (hX : X (i + 1) = X i) (hH : H (i + 1) = H i) (hv : XD j (pvOf pv (use true (E i) u .nl)) v v') :
    Inv ds E X H Ls N hi j0 pv0 a0 w0 (addS S i) j pv (a.put o.dst v') w := by
  have hc := A.hc
  subst hop
  simp only [chkOp, Bool.and_eq_true] at hc
  have hdst := hc.1.1
  have hpl : ∀ p bb, pvOf pv (use true (E i) u .nl) p = some bb → pv p = some bb := fun p bb hp => (pvOf_some hp).2
  have hnd : ∀ p, p ∉ dstO (.mk dst g ins) → ∀ d, dst = some d → p ≠ d := by
    rintro p hp d rfl rfl; exact hp (by simp [dstO])
  have hodst : ∀ p : P, p ∉ dstO (.mk dst g ins) → o.dst ≠ some p.n := by
    intro p hp ho
    cases dst with
    | none => rw [okDst_none hdst] at ho; cases ho
    | some d => rw [(okDst_some hdst).1] at ho; simp only [Option.some.injEq] at ho; exact hnd p hp d rfl (P.n_inj ho.symm)
  refine I.next A.st A.hl A.hnh A.hd A.hn A.side A.hdb A.hbu hE (pv1 := pvOf pv (use true (E i) u .nl)) (Ext.refl j) (Nat.le_refl _) ?heap ?hnew (fun k x h => .inl h) I.inj I.inr I.lt I.lr ?env1 ?pvv1 ?loc1 (fun p q x hp hq => I.pin p q x (hpl _ _ hp) (hpl _ _ hq))
    I.pfr I.pfo hpl (fun _ _ => rfl) ?hp3 ?hp4 (fun p x hp => .inl (hpl _ _ hp)) (fun p x hp => I.plt p x (hpl _ _ hp)) (fun p hp => A.free I rfl hp) ?hr1 (fun p hp => getD_put (hodst p hp)) (fun _ _ _ _ => rfl) I.maps I.pfm ?size (Fr.refl _ _ _ _ _) (put_defers _ _ _)
  case heap =>
    intro k x t hk hkn ht hvt hkt
    cases hW : isW (.mk true u b r (.mk dst g ins)) with
    | false => exact I.heap k x t hk hkn ht (A.vt_of hW hvt) hkt
    | true =>
      obtain ⟨_, _, hNb, hM⟩ := isW_spec hW
      rcases Nat.lt_or_ge k.n (X (i + 1)).n with hlt | hge
      · have h1 := I.heap k x i hk hkn (Nat.le_of_lt A.lt) (A.vt hM hNb) (by rw [← hX]; exact hlt)
        refine HR.of_heap (Ext.refl j) ?_ (Nat.le_refl _) (fun _ _ => rfl) (fun _ _ _ _ h => h) h1
        rw [A.st.heap_same A.hl A.lt ht (A.vt1 hM hNb) hvt hlt hkt, hH]
      · exact A.far I hk hkn hge ht hvt hkt
  case hnew =>
    intro m d k x hdm hN hS hq h1 h2 hk
    rcases hS with hS | rfl
    · exact I.new m d k x hdm hN hS (fun q y hy hw hmq hSq => hq q y hy hw hmq (.inl hSq)) h1 h2 hk
    · rw [hX] at h2; omega
  case env1 =>
    intro p y hy
    by_cases hp : p ∈ dstO (.mk dst g ins)
    · cases dst with
      | none => simp [dstO] at hp
      | some d =>
        simp only [dstO, List.mem_singleton] at hp
        subst hp
        obtain ⟨h1, h2, h3⟩ := okDst_some hdst
        change Tr.get? p (Tr.set p _ (some v)) = some y at hy
        rw [Tr.get_set_self] at hy; cases hy
        exact XD.tmps hv (by rw [h1, put_getD, if_pos ⟨rfl, by rw [I.size]; exact h3⟩])
    · rw [dstE_get (hnd p hp)] at hy
      exact ER.tmps (getD_put (hodst p hp)) (A.env I p y hy)
  case pvv1 =>
    intro p x hp
    obtain ⟨⟨l, hl⟩, hp'⟩ := pvOf_some hp
    refine ⟨l, ?_⟩
    have hpd : p ∉ dstO (.mk dst g ins) := fun h => by rw [A.free I rfl h] at hp'; cases hp'
    rw [dstE_get (hnd p hpd)]; exact hl
  case loc1 =>
    intro p l hl
    by_cases hp : p ∈ dstO (.mk dst g ins)
    · cases dst with
      | none => simp [dstO] at hp
      | some d =>
        simp only [dstO, List.mem_singleton] at hp
        subst hp
        change Tr.get? p (Tr.set p _ (some v)) = _ at hl
        rw [Tr.get_set_self] at hl; cases hl
        exact hv.elim
    · rw [dstE_get (hnd p hp)] at hl
      have hpu : p ∈ u := by
        rcases use_only u .nl p _ hl with h | h
        · rw [Tr.get_e] at h; cases h
        · exact h
      exact I.loc p l i (Nat.le_of_lt A.lt) (A.veu hpu) (use_sub u .nl (fun q v h => by rw [Tr.get_e] at h; cases h) p _ hl)
  case hp3 =>
    intro p hp x hx
    rw [A.free I rfl hp] at hx; cases hx
  case hp4 =>
    intro p x hpu hpd hx
    obtain ⟨l, hl⟩ := I.pvv p x i (Nat.le_of_lt A.lt) (A.veu hpu) hx
    rw [pvOf_var ⟨l, use_var u .nl p l (fun q v h => by rw [Tr.get_e] at h; cases h) hl (.inl hpu)⟩]
    exact hx
  case hr1 =>
    intro p hpb y hy hn
    have hpd : p ∉ dstO (.mk dst g ins) := by
      intro hp
      cases dst with
      | none => simp [dstO] at hp
      | some d =>
        simp only [dstO, List.mem_singleton] at hp
        subst hp
        change Tr.get? p (Tr.set p _ (some v)) = none at hn
        rw [Tr.get_set_self] at hn; cases hn
    refine ⟨hpd, ?_⟩
    rintro l rfl
    rcases A.hbu p hpb with hu | hu
    · rw [dstE_get (hnd p hpd), use_var u .nl p l (fun q v h => by rw [Tr.get_e] at h; cases h) hy (.inl hu)] at hn; cases hn
    · exact hpd hu
  case size => cases hdd : o.dst with
    | none => exact I.size
    | some d => show (a.tmps.setIfInBounds _ _).size = N; rw [Array.size_setIfInBounds]; exact I.size
end
end Go.Proofs.YtnoekfkfinjfgaaGreatDoor.Dx

set_option autoImplicit false
set_option linter.unusedSectionVars false
set_option linter.unusedSimpArgs false
set_option linter.unusedVariables false
noncomputable section
namespace Go.Proofs.YtnoekfkfinjfgaaGreatDoor.Dx
open Go
variable [Rho]

section
variable {Pr : Program} {wm : Option P} {ds : List Dop} {os : List Oper} {e : Env} {nx : P} {h : Hp} {E : Nat → Env} {X : Nat → P} {H : Nat → Hp} {Ls : List Nat} {N hi : Nat} {j0 : J} {pv0 : P → Option Nat} {a0 : Act} {w0 : World}
  {S : Nat → Prop} {j : J} {pv : P → Option Nat} {a : Act} {w : World} {i : Nat} {u b : List P} {r : Bool} {op : Op} {o : Oper}

theorem nlSub {e : Env} : ∀ (q : P) (v : DV), Tr.get? q (.nl : Env) = some v → Tr.get? q e = some v := fun q v h => by rw [Tr.get_e] at h; cases h

theorem Now.run (A : Now Pr wm ds os e nx h E X H Ls N hi S i u b r op o) (I : Inv ds E X H Ls N hi j0 pv0 a0 w0 S j pv a w) {dst : Option P} {g : Option (P × Bool)} {ins : Ins} (hop : op = .mk dst g ins) (hM : blindO op = false) (hNb : newO op = false) (hstill : stillO op = false) {e1 : Env} {v : DV} {v' : Value} {wm' : Option P}
    (hE : E (i + 1) = back (dstE dst v e1) b (E i)) (M : Moves wm' (use true (E i) u .nl) (X i) (H i) e1 (X (i + 1)) (H (i + 1))) {j' : J} {w' : World}
    (R' : Rel (vars Ls) N (X (i + 1)).n j' (pvOf pv (use true (E i) u .nl)) e1 (X (i + 1)) (H (i + 1)) a w') (F' : Fr (X (i + 1)).n (X i).n j (pvOf pv (use true (E i) u .nl)) w j' (pvOf pv (use true (E i) u .nl)) w')
    (hv : XD j' (pvOf pv (use true (E i) u .nl)) v v') : Inv ds E X H Ls N hi j0 pv0 a0 w0 (addS S i) j' pv (a.put o.dst v') w' := by
  have hc := A.hc
  subst hop
  simp only [chkOp, Bool.and_eq_true] at hc
  have hdst := hc.1.1
  have R2 := R'.dst hdst hv
  have hpl : ∀ p bb, pvOf pv (use true (E i) u .nl) p = some bb → pv p = some bb := fun p bb hp => (pvOf_some hp).2
  have hnd : ∀ p, p ∉ dstO (.mk dst g ins) → ∀ d, dst = some d → p ≠ d := by
    rintro p hp d rfl rfl; exact hp (by simp [dstO])
  have hodst : ∀ p : P, p ∉ dstO (.mk dst g ins) → o.dst ≠ some p.n := by
    intro p hp ho
    cases dst with
    | none => rw [okDst_none hdst] at ho; cases ho
    | some d => rw [(okDst_some hdst).1] at ho; simp only [Option.some.injEq] at ho; exact hnd p hp d rfl (P.n_inj ho.symm)
  have hpfr : ∀ p x, pv p = some x → ∀ k s c, j' k ≠ some (.at x s c) := by
    intro p x hp k s c hk
    rcases Nat.lt_or_ge k.n (X (i + 1)).n with hlt | hge
    · rcases F'.new k x s c hk hlt with ⟨k0, s0, c0, h0, _⟩ | h0
      · exact I.pfr p x hp _ _ _ h0
      · have := I.plt p x hp; omega
    · rw [F'.old k hge] at hk; exact I.pfr p x hp _ _ _ hk
  -- what lies beyond stays
  have conv : ∀ (k : P) (x : Img) (hh : Hp), (X (i + 1)).n ≤ k.n → j' k = some x → (j k = some x → HR j hh w k x) → HR j' hh w' k x := by
    intro k x hh hge hk h0
    have hk' := hk
    rw [F'.old k hge] at hk'
    refine HR.of_heap F'.ext rfl F'.size ?_ ?_ (h0 hk')
    rotate_left
    · rintro r es n rfl he
      rw [F'.same r (Array.getElem?_eq_some_iff.1 he).1 (fun k0 s0 c0 h0 => (I.maps.dis _ _ _ _ _ h0 hk').elim) (fun p hp => absurd hk' (I.pfm p r (hpl p r hp) k)) (fun k0 h0 => by rw [I.maps.inj _ _ _ h0 hk']; exact hge)]
      exact he
    intro bb hb
    rcases hb with ⟨s, c, rfl⟩ | ⟨s, rfl⟩
    · refine F'.same bb (I.lt _ _ _ _ hk') (fun k0 s0 c0 h0 => ?_) (fun p hp => I.pfr p bb (hpl p bb hp) _ _ _ hk') (fun k0 h0 => (I.maps.dis _ _ _ _ _ hk' h0).elim)
      rw [I.inj _ _ _ _ _ _ _ h0 hk']; exact hge
    · exact F'.same bb (I.lr _ _ _ hk') (fun k0 s0 c0 h0 => (I.inr _ _ _ _ _ _ h0 hk').elim) (fun p hp => I.pfo p bb (hpl p bb hp) _ _ hk') (fun k0 h0 => (I.maps.dir _ _ _ _ hk' h0).elim)
  refine I.next A.st A.hl A.hnh A.hd A.hn A.side A.hdb A.hbu hE (pv1 := pvOf pv (use true (E i) u .nl)) F'.ext F'.size ?heap ?hnew ?fresh R2.inj R2.inr R2.lt R2.lr R2.env R2.pvv R2.loc R2.pin
    hpfr (fun p x hp k s hk => (F'.ro _ _ _ hk).elim (fun h0 => I.pfo p x hp k s h0) (fun h0 => by have := I.plt p x hp; omega)) hpl (fun _ _ => rfl) ?hp3 ?hp4 (fun p x hp => .inl (hpl _ _ hp)) (fun p x hp => Nat.lt_of_lt_of_le (I.plt p x (hpl _ _ hp)) F'.size) (fun p hp => A.free I rfl hp) ?hr1 (fun p hp => getD_put (hodst p hp)) ?hblk R2.maps ?hpfm R2.size ?hfr (put_defers _ _ _)
  case heap =>
    intro k x t hk hkn ht hvt hkt
    rcases Nat.lt_or_ge k.n (X (i + 1)).n with hlt | hge
    · refine HR.of_heap (Ext.refl j') ?_ (Nat.le_refl _) (fun _ _ => rfl) (fun _ _ _ _ h => h) (R'.heap k x hk hlt)
      exact A.st.heap_same A.hl A.lt ht (A.vt1 hM hNb) hvt hlt hkt
    · exact conv k x _ hge hk (fun hk' => A.far I hk' hkn hge ht hvt hkt)
  case hnew =>
    intro m d k x hdm hN hS hq h1 h2 hk
    have hmi : m ≠ i := by
      rintro rfl
      rw [A.hd] at hdm; cases hdm
      have := isN_not rfl hN
      rw [hNb] at this; cases this
    have hS' : S m := hS.elim id (fun h => absurd h hmi)
    have hq' : ∀ q y, ds[q]? = some y → isW y = true → m < q → ¬ S q := fun q y hy hw hmq hSq => hq q y hy hw hmq (.inl hSq)
    rcases Nat.lt_or_ge k.n (X (i + 1)).n with hlt | hge
    · have hmlt : m < i := by
        rcases Nat.lt_or_ge i m with h | h
        · have := A.st.le A.hl (show i + 1 ≤ m from h) (Nat.le_of_lt (List.getElem?_eq_some_iff.1 hdm).1); omega
        · omega
      refine HR.of_heap (Ext.refl j') ?_ (Nat.le_refl _) (fun _ _ => rfl) (fun _ _ _ _ h => h) (R'.heap k x hk hlt)
      refine (A.st.heap_stays A.hl h2 (i + 1) (by omega) A.lt ?_).symm
      intro q y hq1 hq2 hy
      cases hw : isW y with
      | false => rfl
      | true =>
        by_cases hqi : q = i
        · exact absurd (.inr hqi) (hq q y hy hw (by omega))
        · exact absurd (.inl ((A.vt hM hNb q y hy hw).1 (by omega))) (hq q y hy hw (by omega))
    · exact conv k x _ hge hk (fun hk' => I.new m d k x hdm hN hS' hq' h1 h2 hk')
  case hpfm =>
    intro p x hp k hk
    rcases Nat.lt_or_ge k.n (X (i + 1)).n with hlt | hge
    · rcases F'.newm k x hk hlt with ⟨k0, h0, _⟩ | h0
      · exact I.pfm p x hp _ h0
      · have := I.plt p x hp; omega
    · rw [F'.old k hge] at hk; exact I.pfm p x hp _ hk
  case fresh =>
    intro k x hk
    cases hj : j k with
    | some y => exact .inr (.inl (by simp))
    | none =>
      refine .inr (.inr ⟨F'.more k hj (by rw [hk]; simp), ?_⟩)
      rcases Nat.lt_or_ge k.n (X (i + 1)).n with hlt | hge
      · exact hlt
      · rw [F'.old k hge, hj] at hk; cases hk
  case hp3 =>
    intro p hp x hx
    rw [A.free I rfl hp] at hx; cases hx
  case hp4 =>
    intro p x hpu hpd hx
    obtain ⟨l, hl⟩ := I.pvv p x i (Nat.le_of_lt A.lt) (A.veu hpu) hx
    rw [pvOf_var ⟨l, use_var u .nl p l nlSub hl (.inl hpu)⟩]
    exact hx
  case hr1 =>
    intro p hpb y hy hn
    have hpd : p ∉ dstO (.mk dst g ins) := by
      intro hp
      cases dst with
      | none => simp [dstO] at hp
      | some d =>
        simp only [dstO, List.mem_singleton] at hp
        subst hp
        change Tr.get? p (Tr.set p _ (some v)) = none at hn
        rw [Tr.get_set_self] at hn; cases hn
    refine ⟨hpd, ?_⟩
    rintro l rfl
    rcases A.hbu p hpb with hu | hu
    · rw [dstE_get (hnd p hpd)] at hn
      have h0 := use_var u .nl p l nlSub hy (.inl hu)
      rcases M.env p with h1 | ⟨l1, l2, _, h1, _⟩
      · rw [hn, h0] at h1; cases h1
      · rw [hn] at h1; cases h1
    · exact hpd hu
  case hblk =>
    intro p x hp hpb
    refine F'.same x (I.plt p x hp) (fun k s c hk => absurd hk (I.pfr p x hp k s c)) (fun q hq => ?_) (fun k hk => absurd hk (I.pfm p x hp k))
    obtain ⟨⟨l, hl⟩, hq'⟩ := pvOf_some hq
    have := I.pin q p x hq' hp
    subst this
    have hqu : q ∈ u := by
      rcases use_only u .nl q _ hl with h | h
      · rw [Tr.get_e] at h; cases h
      · exact h
    exact hpb (A.hlv hstill rfl q hqu (I.loc q l i (Nat.le_of_lt A.lt) (A.veu hqu) (use_sub u .nl nlSub q _ hl)))
  case hfr =>
    constructor
    · exact F'.size
    · exact F'.os
    · exact F'.output
    · intro x hx hj hp hm
      exact F'.same x hx (fun k s c hk => Nat.le_trans A.hiX (hj k s c hk)) (fun p hp' => hp p (hpl p x hp')) (fun k hk => Nat.le_trans A.hiX (hm k hk))
    · exact F'.ext
    · intro k hk; exact F'.old k (Nat.le_trans A.hiX hk)
    · exact F'.more
    · intro k x s c hk hlt
      rcases Nat.lt_or_ge k.n (X (i + 1)).n with h1 | h1
      · rcases F'.new k x s c hk h1 with ⟨k0, s0, c0, h2, h3⟩ | h2
        · exact .inl ⟨k0, s0, c0, h2, Nat.lt_of_lt_of_le h3 A.hiX⟩
        · exact .inr h2
      · rw [F'.old k h1] at hk; exact .inl ⟨k, s, c, hk, hlt⟩
    · exact F'.ro
    · intro p x hp; exact .inl hp
    · exact F'.froz
    · intro k x hk hlt
      rcases Nat.lt_or_ge k.n (X (i + 1)).n with h1 | h1
      · rcases F'.newm k x hk h1 with ⟨k0, h2, h3⟩ | h2
        · exact .inl ⟨k0, h2, Nat.lt_of_lt_of_le h3 A.hiX⟩
        · exact .inr h2
      · rw [F'.old k h1] at hk; exact .inl ⟨k, hk, hlt⟩

theorem pvPut_self (pv : P → Option Nat) (d : P) (x : Nat) : pvPut pv d x d = some x := if_pos rfl
theorem pvPut_ne (pv : P → Option Nat) {d q : P} (x : Nat) (h : q ≠ d) : pvPut pv d x q = pv q := if_neg h

theorem Now.loc (A : Now Pr wm ds os e nx h E X H Ls N hi S i u b r op o) (I : Inv ds E X H Ls N hi j0 pv0 a0 w0 S j pv a w) {p : P} (hdo : dstO op = [p]) (hvo : isVarO op = true) (hst : stillO op = false) (hpv : ¬ isVar p (use true (E i) u .nl)) {l : List DV} {ob : Obj}
    (hE : E (i + 1) = back (Tr.set p (use true (E i) u .nl) (some (.var l))) b (E i)) (hX : X (i + 1) = X i) (hH : H (i + 1) = H i) 
    (R' : Rel (vars Ls) N (X (i + 1)).n j (pvPut (pvOf pv (use true (E i) u .nl)) p w.heap.size) (Tr.set p (use true (E i) u .nl) (some (.var l))) (X i) (H i) (a.put (some p.n) (.pointer (some ⟨w.heap.size, 0, none⟩))) (w.alloc ob)) 
    (hob : ∃ cs t, ob = .cells cs t) : Inv ds E X H Ls N hi j0 pv0 a0 w0 (addS S i) j (pvPut pv p w.heap.size) (a.put (some p.n) (.pointer (some ⟨w.heap.size, 0, none⟩))) (w.alloc ob) := by
  have hmem : ∀ q, q ∈ dstO op ↔ q = p := fun q => by rw [hdo]; simp
  have hpu : p ∈ u := A.hvu hvo p ((hmem p).2 rfl)
  have hpn : pv p = none := by
    cases hp : pv p with
    | none => rfl
    | some x =>
      obtain ⟨l0, hl0⟩ := I.pvv p x i (Nat.le_of_lt A.lt) (A.veu hpu) hp
      exact absurd ⟨l0, use_var u .nl p l0 nlSub hl0 (.inl hpu)⟩ hpv
  have hpl : ∀ p bb, pvOf pv (use true (E i) u .nl) p = some bb → pv p = some bb := fun p bb hp => (pvOf_some hp).2
  have hsz : (w.alloc ob).heap.size = w.heap.size + 1 := by show (w.heap.push _).size = _; simp
  have hold : ∀ x, x < w.heap.size → (w.alloc ob).heap[x]? = w.heap[x]? := fun x hx => by show (w.heap.push _)[x]? = _; simp [Array.getElem?_push, Nat.ne_of_lt hx]
  have hW : isW (.mk true u b r op) = false := by simp [isW, hvo]
  refine I.next A.st A.hl A.hnh A.hd A.hn A.side A.hdb A.hbu hE (pv1 := pvPut (pvOf pv (use true (E i) u .nl)) p w.heap.size) (Ext.refl j) (by omega) ?heap ?hnew (fun k x h => .inl h) I.inj I.inr (fun k x s c hk => by have := I.lt k x s c hk; omega) (fun k x s hk => by have := I.lr k x s hk; omega)
    R'.env R'.pvv R'.loc R'.pin ?hpfr ?hpfo ?hp1 (fun q hq => pvPut_ne _ _ (fun h => hq ((hmem q).2 h))) ?hp3 ?hp4 ?hp5 ?hp6 (fun q hq => by rw [(hmem q).1 hq]; exact hpn) ?hr1 ?htm (fun q x hq _ => hold x (I.plt q x hq)) R'.maps ?hpfm R'.size ?hfr (put_defers _ _ _)
  case heap =>
    intro k x t hk hkn ht hvt hkt
    refine HR.of_heap (Ext.refl j) rfl (by omega) ?_ (fun r es n _ => alloc_map w _ r es n) (I.heap k x t hk hkn ht (A.vt_of hW hvt) hkt)
    intro bb hb
    rcases hb with ⟨s, c, rfl⟩ | ⟨s, rfl⟩
    · exact hold bb (I.lt _ _ _ _ hk)
    · exact hold bb (I.lr _ _ _ hk)
  case hnew =>
    intro m d k x hdm hN hS hq h1 h2 hk
    have hmi : m ≠ i := by
      rintro rfl
      rw [A.hd] at hdm; cases hdm
      have := isN_not rfl hN
      cases op <;> simp [isVarO, newO] at hvo this
    have hS' : S m := hS.elim id (fun h => absurd h hmi)
    refine HR.of_heap (Ext.refl j) rfl (by omega) ?_ (fun r es n _ => alloc_map w _ r es n) (I.new m d k x hdm hN hS' (fun q y hy hw hmq hSq => hq q y hy hw hmq (.inl hSq)) h1 h2 hk)
    intro bb hb
    rcases hb with ⟨s, c, rfl⟩ | ⟨s, rfl⟩
    · exact hold bb (I.lt _ _ _ _ hk)
    · exact hold bb (I.lr _ _ _ hk)
  case hpfr =>
    intro q x hq k s c hk
    by_cases h1 : q = p
    · subst h1; rw [pvPut_self] at hq; cases hq; have := I.lt _ _ _ _ hk; omega
    · rw [pvPut_ne _ _ h1] at hq; exact I.pfr q x hq k s c hk
  case hpfo =>
    intro q x hq k s hk
    by_cases h1 : q = p
    · subst h1; rw [pvPut_self] at hq; cases hq; have := I.lr _ _ _ hk; omega
    · rw [pvPut_ne _ _ h1] at hq; exact I.pfo q x hq k s hk
  case hpfm =>
    intro q x hq k hk
    by_cases h1 : q = p
    · subst h1; rw [pvPut_self] at hq; cases hq
      obtain ⟨es, n, he⟩ := I.maps.kind _ _ hk
      have := (Array.getElem?_eq_some_iff.1 he).1; omega
    · rw [pvPut_ne _ _ h1] at hq; exact I.pfm q x hq k hk
  case hp1 =>
    intro q x hq
    by_cases h1 : q = p
    · subst h1; rw [pvPut_self] at hq ⊢; exact hq
    · rw [pvPut_ne _ _ h1] at hq ⊢; exact hpl q x hq
  case hp3 =>
    intro q hq x hx
    rw [(hmem q).1 hq, pvPut_self] at hx ⊢; exact hx
  case hp4 =>
    intro q x hqu hqd hx
    have h1 : q ≠ p := fun h => hqd ((hmem q).2 h)
    rw [pvPut_ne _ _ h1]
    obtain ⟨l0, hl0⟩ := I.pvv q x i (Nat.le_of_lt A.lt) (A.veu hqu) hx
    rw [pvOf_var ⟨l0, use_var u .nl q l0 nlSub hl0 (.inl hqu)⟩]
    exact hx
  case hp5 =>
    intro q x hq
    by_cases h1 : q = p
    · subst h1; rw [pvPut_self] at hq; cases hq; exact .inr (Nat.le_refl _)
    · rw [pvPut_ne _ _ h1] at hq; exact .inl (hpl q x hq)
  case hp6 =>
    intro q x hq
    by_cases h1 : q = p
    · subst h1; rw [pvPut_self] at hq; cases hq; omega
    · rw [pvPut_ne _ _ h1] at hq; have := I.plt q x (hpl q x hq); omega
  case hr1 =>
    intro q hqb y hy hn
    have h1 : q ≠ p := by rintro rfl; rw [Tr.get_set_self] at hn; cases hn
    refine ⟨fun h => h1 ((hmem q).1 h), ?_⟩
    rintro l0 rfl
    rw [Tr.get_set_ne h1] at hn
    rcases A.hbu q hqb with hu | hu
    · rw [use_var u .nl q l0 nlSub hy (.inl hu)] at hn; cases hn
    · exact h1 ((hmem q).1 hu)
  case htm =>
    intro q hq
    exact getD_put (fun h => hq ((hmem q).2 (P.n_inj (Option.some.inj h).symm)))
  case hfr =>
    constructor
    · omega
    · rfl
    · rfl
    · intro x hx _ _ _; exact hold x hx
    · exact Ext.refl j
    · intro _ _; rfl
    · intro k h1 h2; exact absurd h1 h2
    · intro k x s c hk hlt; exact .inl ⟨k, s, c, hk, hlt⟩
    · intro _ _ _ h; exact .inl h
    · intro q x hx
      by_cases h1 : q = p
      · subst h1; rw [pvPut_self] at hx; cases hx; exact .inr (Nat.le_refl _)
      · rw [pvPut_ne _ _ h1] at hx; exact .inl hx
    · obtain ⟨cs, t, rfl⟩ := hob
      intro ad _; exact RowKit.frozen?_alloc_cells _ _ _ _
    · intro k x hk hlt; exact .inl ⟨k, hk, hlt⟩

theorem Maps.put_at {j : J} {k : P} {w : World} {cs : Array Value} {t : Nat} (M : Maps j w) (hnone : j k = none) : Maps (j.put k (.at w.heap.size 0 cs.size)) (w.alloc (.cells cs t)) := by
  have hmp : ∀ q r, j q = some (.mp r) → r < w.heap.size := fun q r hq => by
    obtain ⟨es, n, he⟩ := M.kind q r hq
    exact (Array.getElem?_eq_some_iff.1 he).1
  constructor
  · intro q hq
    have h1 : q ≠ k := by rintro rfl; rw [M.glo _ hq] at hnone; cases hnone
    rw [J.put_ne j h1]; exact M.glo q hq
  · intro q q' b s c h1 h2
    by_cases e2 : q' = k
    · subst e2; rw [J.put_self] at h2; cases h2
    · rw [J.put_ne j e2] at h2
      by_cases e1 : q = k
      · subst e1; rw [J.put_self] at h1; cases h1; have := hmp _ _ h2; omega
      · rw [J.put_ne j e1] at h1; exact M.dis _ _ _ _ _ h1 h2
  · intro q q' b s h1 h2
    by_cases e1 : q = k
    · subst e1; rw [J.put_self] at h1; cases h1
    · rw [J.put_ne j e1] at h1
      by_cases e2 : q' = k
      · subst e2; rw [J.put_self] at h2; cases h2
      · rw [J.put_ne j e2] at h2; exact M.dir _ _ _ _ h1 h2
  · intro q q' r h1 h2
    by_cases e1 : q = k
    · subst e1; rw [J.put_self] at h1; cases h1
    · by_cases e2 : q' = k
      · subst e2; rw [J.put_self] at h2; cases h2
      · rw [J.put_ne j e1] at h1; rw [J.put_ne j e2] at h2; exact M.inj _ _ _ h1 h2
  · intro q r h1
    by_cases e1 : q = k
    · subst e1; rw [J.put_self] at h1; cases h1
    · rw [J.put_ne j e1] at h1
      obtain ⟨es, n, he⟩ := M.kind _ _ h1
      exact ⟨es, n, alloc_map w _ r es n he⟩
/-- One that makes a row of values alone. -/
theorem Now.new (A : Now Pr wm ds os e nx h E X H Ls N hi S i u b r op o) (I : Inv ds E X H Ls N hi j0 pv0 a0 w0 S j pv a w) {dst : Option P} {g : Option (P × Bool)} {ins : Ins} (hop : op = .mk dst g ins) (hnw : newO op = true) {v : DV} {v' : Value} {l : List DV} {cs : Array Value} {t0 : Nat}
    (hE : E (i + 1) = back (dstE dst v (use true (E i) u .nl)) b (E i)) (hX : X (i + 1) = (X i).suc) (hH : H (i + 1) = Tr.set (X i) (H i) (some (.cells l)))
    (hl : VRs j l cs.toList) (hv : XD (j.put (X i) (.at w.heap.size 0 cs.size)) (pvOf pv (use true (E i) u .nl)) v v') :
    Inv ds E X H Ls N hi j0 pv0 a0 w0 (addS S i) (j.put (X i) (.at w.heap.size 0 cs.size)) pv (a.put o.dst v') (w.alloc (.cells cs t0)) := by
  have hc := A.hc
  subst hop
  simp only [chkOp, Bool.and_eq_true] at hc
  have hdst := hc.1.1
  have hXn : (X (i + 1)).n = (X i).n + 1 := by rw [hX, P.n_suc]
  have hM : blindO (.mk dst g ins) = false := by cases ins <;> first | rfl | cases hnw
  have hW : isW (.mk true u b r (.mk dst g ins)) = false := by simp [isW, hnw]
  have hpl : ∀ p bb, pvOf pv (use true (E i) u .nl) p = some bb → pv p = some bb := fun p bb hp => (pvOf_some hp).2
  have hnd : ∀ p, p ∉ dstO (.mk dst g ins) → ∀ d, dst = some d → p ≠ d := by
    rintro p hp d rfl rfl; exact hp (by simp [dstO])
  have hodst : ∀ p : P, p ∉ dstO (.mk dst g ins) → o.dst ≠ some p.n := by
    intro p hp ho
    cases dst with
    | none => rw [okDst_none hdst] at ho; cases ho
    | some d => rw [(okDst_some hdst).1] at ho; simp only [Option.some.injEq] at ho; exact hnd p hp d rfl (P.n_inj ho.symm)
  have hsz : (w.alloc (.cells cs t0)).heap.size = w.heap.size + 1 := by show (w.heap.push _).size = _; simp
  have hold : ∀ x, x < w.heap.size → (w.alloc (.cells cs t0)).heap[x]? = w.heap[x]? := fun x hx => by show (w.heap.push _)[x]? = _; simp [Array.getElem?_push, Nat.ne_of_lt hx]
  have hnone : j (X i) = none := by
    cases hj : j (X i) with
    | none => rfl
    | some x =>
      exfalso
      rcases I.fresh _ x hj with h1 | ⟨m, hm, hS, h1, h2⟩ | h1
      · have := A.st.le A.hl (Nat.zero_le i) (Nat.le_of_lt A.lt); omega
      · have hmi : m ≠ i := by rintro rfl; exact A.hn hS
        rcases Nat.lt_or_ge m i with h | h
        · have := A.st.le A.hl (show m + 1 ≤ i from h) (Nat.le_of_lt A.lt); omega
        · have := A.st.le A.hl (show i + 1 ≤ m by omega) (Nat.le_of_lt hm); omega
      · have := A.hiX; omega
  have hext := Ext.put_new hnone (.at w.heap.size 0 cs.size)
  have hlen := hl.length
  -- the row itself
  have self : ∀ hh : Hp, Tr.get? (X i) hh = some (.cells l) → HR (j.put (X i) (.at w.heap.size 0 cs.size)) hh (w.alloc (.cells cs t0)) (X i) (.at w.heap.size 0 cs.size) := by
    intro hh hg
    refine ⟨⟨by omega, fun i hi => ?_, fun i _ hi => ?_⟩, l, hg, by simp at hlen; omega, ?_⟩
    · rw [World.cell?_alloc_new]; simp [hi]
    · simp
    · intro i v hv
      obtain ⟨v', hv', hr, h1⟩ := hl.get i v hv
      refine ⟨v', ?_, hr.mono hext, h1⟩
      rw [Nat.zero_add, World.cell?_alloc_new]
      simpa using hv'
  have other : ∀ (k : P) (x : Img) (hh : Hp), k ≠ X i → j.put (X i) (.at w.heap.size 0 cs.size) k = some x → (j k = some x → HR j hh w k x) → HR (j.put (X i) (.at w.heap.size 0 cs.size)) hh (w.alloc (.cells cs t0)) k x := by
    intro k x hh hne hk h0
    rw [J.put_ne j hne] at hk
    refine HR.of_heap hext rfl (by omega) ?_ (fun r es n _ => alloc_map w _ r es n) (h0 hk)
    intro bb hb
    rcases hb with ⟨s, c, rfl⟩ | ⟨s, rfl⟩
    · exact hold bb (I.lt _ _ _ _ hk)
    · exact hold bb (I.lr _ _ _ hk)
  refine I.next A.st A.hl A.hnh A.hd A.hn A.side A.hdb A.hbu hE (pv1 := pvOf pv (use true (E i) u .nl)) hext (by omega) ?heap ?hnew ?fresh ?hinj ?hinr ?hlt ?hlr ?env1 ?pvv1 ?loc1 (fun p q x hp hq => I.pin p q x (hpl _ _ hp) (hpl _ _ hq))
    ?hpfr ?hpfo hpl (fun _ _ => rfl) ?hp3 ?hp4 (fun p x hp => .inl (hpl _ _ hp)) (fun p x hp => by have := I.plt p x (hpl _ _ hp); omega) (fun p hp => A.free I rfl hp) ?hr1 (fun p hp => getD_put (hodst p hp)) (fun p x hp _ => hold x (I.plt p x hp)) (I.maps.put_at hnone) ?hpfm ?size ?hfr (put_defers _ _ _)
  case heap =>
    intro k x t hk hkn ht hvt hkt
    by_cases hki : k = X i
    · subst hki
      rw [J.put_self] at hk; cases hk
      refine self _ ?_
      have hit : i + 1 ≤ t := by
        rcases Nat.lt_or_ge i t with h | h
        · exact h
        · have := A.st.le A.hl h (Nat.le_of_lt A.lt); omega
      rw [A.st.heap_stays A.hl (by omega) t hit ht ?_, hH, Tr.get_set_self]
      intro q y hq1 hq2 hy
      cases hw : isW y with
      | false => rfl
      | true =>
        rcases (hvt q y hy hw).1 hq2 with h | h
        · exact absurd h (A.later hM q y hy hw (by omega))
        · omega
    · exact other k x _ hki hk (fun hk' => I.heap k x t hk' hkn ht (A.vt_of hW hvt) hkt)
  case hnew =>
    intro m d k x hdm hN hS hq h1 h2 hk
    by_cases hmi : m = i
    · subst hmi
      have hki : k = X m := P.n_inj (by omega)
      subst hki
      rw [J.put_self] at hk; cases hk
      exact self _ (by rw [hH, Tr.get_set_self])
    · have hS' : S m := hS.elim id (fun h => absurd h hmi)
      have hki : k ≠ X i := by
        rintro rfl
        rcases Nat.lt_or_ge m i with h | h
        · have := A.st.le A.hl (show m + 1 ≤ i from h) (Nat.le_of_lt A.lt); omega
        · have := A.st.le A.hl (show i + 1 ≤ m by omega) (Nat.le_of_lt (List.getElem?_eq_some_iff.1 hdm).1); omega
      exact other k x _ hki hk (fun hk' => I.new m d k x hdm hN hS' (fun q y hy hw hmq hSq => hq q y hy hw hmq (.inl hSq)) h1 h2 hk')
  case fresh =>
    intro k x hk
    by_cases hki : k = X i
    · subst hki; exact .inr (.inr ⟨Nat.le_refl _, by omega⟩)
    · rw [J.put_ne j hki] at hk; exact .inl hk
  case hinj =>
    intro k k' b s c s' c' hk hk'
    by_cases h1 : k = X i <;> by_cases h2 : k' = X i
    · rw [h1, h2]
    · subst h1; rw [J.put_self] at hk; rw [J.put_ne j h2] at hk'; cases hk; have := I.lt _ _ _ _ hk'; omega
    · subst h2; rw [J.put_self] at hk'; rw [J.put_ne j h1] at hk; cases hk'; have := I.lt _ _ _ _ hk; omega
    · rw [J.put_ne j h1] at hk; rw [J.put_ne j h2] at hk'; exact I.inj _ _ _ _ _ _ _ hk hk'
  case hinr =>
    intro k k' b s c s' hk hk'
    by_cases h2 : k' = X i
    · subst h2; rw [J.put_self] at hk'; cases hk'
    · rw [J.put_ne j h2] at hk'
      by_cases h1 : k = X i
      · subst h1; rw [J.put_self] at hk; cases hk; have := I.lr _ _ _ hk'; omega
      · rw [J.put_ne j h1] at hk; exact I.inr _ _ _ _ _ _ hk hk'
  case hlt =>
    intro k b s c hk
    by_cases h1 : k = X i
    · subst h1; rw [J.put_self] at hk; cases hk; omega
    · rw [J.put_ne j h1] at hk; have := I.lt _ _ _ _ hk; omega
  case hlr =>
    intro k b s hk
    by_cases h1 : k = X i
    · subst h1; rw [J.put_self] at hk; cases hk
    · rw [J.put_ne j h1] at hk; have := I.lr _ _ _ hk; omega
  case env1 =>
    intro p y hy
    by_cases hp : p ∈ dstO (.mk dst g ins)
    · cases dst with
      | none => simp [dstO] at hp
      | some d =>
        simp only [dstO, List.mem_singleton] at hp
        subst hp
        obtain ⟨h1, h2, h3⟩ := okDst_some hdst
        change Tr.get? p (Tr.set p _ (some v)) = some y at hy
        rw [Tr.get_set_self] at hy; cases hy
        exact XD.tmps hv (by rw [h1, put_getD, if_pos ⟨rfl, by rw [I.size]; exact h3⟩])
    · rw [dstE_get (hnd p hp)] at hy
      refine ER.tmps (getD_put (hodst p hp)) (ER.of_heap hext (by omega) ?_ (A.env I p y hy))
      intro x hx
      exact hold x (I.plt p x (hpl p x hx))
  case pvv1 =>
    intro p x hp
    obtain ⟨⟨l, hl⟩, hp'⟩ := pvOf_some hp
    refine ⟨l, ?_⟩
    have hpd : p ∉ dstO (.mk dst g ins) := fun h => by rw [A.free I rfl h] at hp'; cases hp'
    rw [dstE_get (hnd p hpd)]; exact hl
  case loc1 =>
    intro p l hl
    by_cases hp : p ∈ dstO (.mk dst g ins)
    · cases dst with
      | none => simp [dstO] at hp
      | some d =>
        simp only [dstO, List.mem_singleton] at hp
        subst hp
        change Tr.get? p (Tr.set p _ (some v)) = _ at hl
        rw [Tr.get_set_self] at hl; cases hl
        exact hv.elim
    · rw [dstE_get (hnd p hp)] at hl
      have hpu : p ∈ u := by
        rcases use_only u .nl p _ hl with h | h
        · rw [Tr.get_e] at h; cases h
        · exact h
      exact I.loc p l i (Nat.le_of_lt A.lt) (A.veu hpu) (use_sub u .nl nlSub p _ hl)
  case hpfr =>
    intro p x hp k s c hk
    by_cases h1 : k = X i
    · subst h1; rw [J.put_self] at hk; cases hk; have := I.plt p _ hp; omega
    · rw [J.put_ne j h1] at hk; exact I.pfr p x hp k s c hk
  case hpfo =>
    intro p x hp k s hk
    by_cases h1 : k = X i
    · subst h1; rw [J.put_self] at hk; cases hk
    · rw [J.put_ne j h1] at hk; exact I.pfo p x hp k s hk
  case hpfm =>
    intro p x hp k hk
    by_cases h1 : k = X i
    · subst h1; rw [J.put_self] at hk; cases hk
    · rw [J.put_ne j h1] at hk; exact I.pfm p x hp k hk
  case hp3 =>
    intro p hp x hx
    rw [A.free I rfl hp] at hx; cases hx
  case hp4 =>
    intro p x hpu hpd hx
    obtain ⟨l, hl⟩ := I.pvv p x i (Nat.le_of_lt A.lt) (A.veu hpu) hx
    rw [pvOf_var ⟨l, use_var u .nl p l nlSub hl (.inl hpu)⟩]
    exact hx
  case hr1 =>
    intro p hpb y hy hn
    have hpd : p ∉ dstO (.mk dst g ins) := by
      intro hp
      cases dst with
      | none => simp [dstO] at hp
      | some d =>
        simp only [dstO, List.mem_singleton] at hp
        subst hp
        change Tr.get? p (Tr.set p _ (some v)) = none at hn
        rw [Tr.get_set_self] at hn; cases hn
    refine ⟨hpd, ?_⟩
    rintro l rfl
    rcases A.hbu p hpb with hu | hu
    · rw [dstE_get (hnd p hpd), use_var u .nl p l nlSub hy (.inl hu)] at hn; cases hn
    · exact hpd hu
  case size =>
    cases o.dst with
    | none => exact I.size
    | some d => show (a.tmps.setIfInBounds d v').size = N; simp [I.size]
  case hfr =>
    constructor
    · omega
    · rfl
    · rfl
    · intro x hx _ _ _; exact hold x hx
    · exact hext
    · intro k hk; exact J.put_ne j (by rintro rfl; have := A.hiX; omega) _
    · intro k h1 h2
      by_cases hki : k = X i
      · rw [hki]; exact Nat.le_refl _
      · rw [J.put_ne j hki] at h2; exact absurd h1 h2
    · intro k x s c hk hlt
      by_cases hki : k = X i
      · subst hki; rw [J.put_self] at hk; cases hk; exact .inr (Nat.le_refl _)
      · rw [J.put_ne j hki] at hk; exact .inl ⟨k, s, c, hk, hlt⟩
    · intro k x s hk
      by_cases hki : k = X i
      · subst hki; rw [J.put_self] at hk; cases hk
      · rw [J.put_ne j hki] at hk; exact .inl hk
    · intro p x hx; exact .inl hx
    · intro ad hl
      unfold World.frozen?; rw [hold _ hl]
    · intro k x hk hlt
      by_cases hki : k = X i
      · subst hki; rw [J.put_self] at hk; cases hk
      · rw [J.put_ne j hki] at hk; exact .inl ⟨k, hk, hlt⟩

/-- One more, whatever it is. -/
theorem Now.wp {ops : Array Oper} (hos : ops.toList = os) (A : Now Pr wm ds os e nx h E X H Ls N hi S i u b r op o) (I : Inv ds E X H Ls N hi j0 pv0 a0 w0 S j pv a w) {K : Act → World → Prop} {Q : Exit → Act → World → Prop}
    (hK : ∀ j' pv' a' w', Inv ds E X H Ls N hi j0 pv0 a0 w0 (addS S i) j' pv' a' w' → K a' w') (rr : Option Nat) : OperWp Pr rr ops o K Q a w := by
  have D := A.st.step i _ o A.hd A.ho
  obtain ⟨r1, D, hE⟩ := D
  have hc := A.hc
  subst hos
  unfold OperWp
  generalize hx : X (i + 1) = xx at D
  generalize hh : H (i + 1) = hp at D
  cases D with
  | run G S' M hs hbb =>
    simp only [chkOp, Bool.and_eq_true] at hc
    rw [G.wanted (reads_of I.maps.glo (A.env I)) hc.1.2 rfl, if_pos rfl]
    rename_i dst g ins e1 v1
    subst hx; subst hh
    have hM : blindO (.mk dst g ins) = false := by
      simp only [Bool.or_eq_false_iff] at hs
      cases hq : isVl ins with
      | false => simp [blindO, hs.1, hq]
      | true => have := vl_load hq; rw [hs.2] at this; cases this
    have hNb : newO (.mk dst g ins) = false := hbb
    refine S' (vars Ls) N _ j _ a w (A.rel I hM hNb) (Nat.le_refl _) K Q ?_ rr
    intro j' w' v' R' F' hv
    exact hK _ _ _ _ (A.run I rfl hM hNb hs hE M R' F' hv)
  | nw G W =>
    simp only [chkOp, Bool.and_eq_true] at hc
    rw [G.wanted (reads_of I.maps.glo (A.env I)) hc.1.2 rfl, if_pos rfl]
    obtain ⟨cs, t0, v', hl, hrun, hx'⟩ := W (vars Ls) N 0 j _ .z .nl a w (A.relnl I)
    refine oper_FW ?_ (calm_of hrun (fun d h => by cases h))
    unfold Oper.wp
    rw [hrun, Oper.upon_value]
    exact hK _ _ _ _ (A.new I rfl rfl hE hx hh hl (hx' _ (X i) (J.put_self _ _ _)))
  | still G S' hs hp hq =>
    simp only [chkOp, Bool.and_eq_true] at hc
    rw [G.wanted (reads_of I.maps.glo (A.env I)) hc.1.2 rfl, if_pos rfl]
    rename_i dst g ins v
    have fin : ∀ v', (execOp a.eval o).run Pr w = .ok (.value v') w → XD j (pvOf pv (use true (E i) u .nl)) v v' → o.wpIn (FW rr) 0 Pr a w K Q := by
      intro v' hrun hv
      refine oper_FW ?_ (calm_of hrun (fun d h => by cases h))
      unfold Oper.wp
      rw [hrun, Oper.upon_value]
      exact hK _ _ _ _ (A.quiet I rfl hE hx hh hv)
    by_cases hpu : isPure ins = true
    · obtain ⟨h1, h2⟩ := hp hpu
      obtain ⟨v', hr, hv⟩ := pure_sim h1 h2 (reads_of I.maps.glo (A.env I)) (eval_const a) w
      exact fin v' hr hv
    · by_cases hvl : isVl ins = true
      · obtain ⟨v', hr, hv⟩ := hq hvl (vars Ls) N 0 j _ a w (A.relnl I)
        exact fin v' hr hv
      · obtain ⟨v', hr, hv⟩ := S' (vars Ls) N _ j _ a w (A.rel I (by simp [blindO, hpu, hvl]) (by cases ins <;> first | rfl | simp [isPure, isLoad] at hs))
        exact fin v' hr hv
  | pass G =>
    simp only [chkOp, Bool.and_eq_true] at hc
    rw [G.wanted (reads_of I.maps.glo (A.env I)) hc.1.2 rfl, if_neg (by decide)]
    exact hK _ _ _ _ (A.quiet I rfl hE hx hh (VR.tup (l' := []) .nil))
  | loc hv =>
    simp only [chkOp, Bool.and_eq_true] at hc
    obtain ⟨h1, h2, h3, h4⟩ := okLoc_spec hc.1
    have hcm := hc.2
    cases hop : o.op <;> simp only [chkMem, hop, Bool.false_eq_true] at hcm
    rename_i t
    cases hit : Pr.info? t with
    | none => simp [hit] at hcm
    | some it =>
      cases hz : it.zero with
      | none => simp [hit, hz] at hcm
      | some zv =>
        simp only [hit, hz] at hcm
        rw [wanted_none h4, if_pos rfl]
        refine oper_FW ?_ (fun c h => by rw [hop] at h; cases h)
        unfold Oper.wp
        rw [run_alloc_al hop hit hz, Oper.upon_value, h1]
        obtain ⟨R', _⟩ := (A.rel I rfl rfl).var_new h2 h3 hv (okCs_sound j _ _ hcm) (t := t)
        exact hK _ _ _ _ (A.loc I rfl rfl rfl hv hE hx hh R' ⟨_, _, rfl⟩)
  | locb hv hcells =>
    simp only [chkOp, Bool.and_eq_true] at hc
    obtain ⟨h1, h2, h3, h4⟩ := okLoc_spec hc.1
    have hcm := hc.2
    cases hop : o.op <;> simp only [chkMem, hop, Bool.false_eq_true] at hcm
    rename_i t x
    rw [wanted_none h4, if_pos rfl]
    refine oper_FW ?_ (fun c h => by rw [hop] at h; cases h)
    unfold Oper.wp
    rw [run_box_bx hop, Oper.upon_value, h1]
    obtain ⟨R', _⟩ := (A.rel I rfl rfl).var_new h2 h3 hv (((reads_of I.maps.glo (A.env I)).ov hcm).cells hcells) (t := t)
    exact hK _ _ _ _ (A.loc I rfl rfl rfl hv hE hx hh R' ⟨_, _, rfl⟩)
end
end Go.Proofs.YtnoekfkfinjfgaaGreatDoor.Dx
