/- The small machine's run of a region whose order is left open: its states. No statement of this seat is proved here. -/
import Derived.Test.YthdlkpmhjbaplaaDxAH
set_option autoImplicit false
set_option linter.unusedSimpArgs false
set_option linter.unusedVariables false
noncomputable section
namespace Go.Proofs.Ythdlkpmhjbaplaa.Dx
open Go

section
variable {Pr : Program} {F : Tr Fd} {ih : Ih} {wm : Option P} {out : Out} {eo : Env} {no : P} {ho : Hp}

def DStep (Pr : Program) (wm : Option P) (d : Dop) (o : Oper) (e : Env) (nx : P) (h : Hp) (e' : Env) (nx' : P) (h' : Hp) : Prop :=
  match d with
  | .mk c u b r op => ∃ r1, OpDid Pr o (wmOf r nx wm) (use c e u .nl) nx h op r1 nx' h' ∧ e' = back r1 b e

theorem wmOf_old {r : Bool} {nx nx' : P} {h h' : Hp} (M : MovesC (wmOf r nx wm) nx h nx' h') (hle : ∀ m, wm = some m → m.n ≤ nx.n) : MovesC wm nx h nx' h' := by
  refine ⟨M.le, fun m hm hmn k hk => ?_, M.top⟩
  cases r with
  | false => exact M.old m hm hmn k hk
  | true => exact M.old nx rfl (Nat.le_refl _) k (Nat.lt_of_lt_of_le hk (hle m hm))
theorem DStep.moves {d : Dop} {o : Oper} {e e' : Env} {nx nx' : P} {h h' : Hp} (D : DStep Pr wm d o e nx h e' nx' h') (hle : ∀ m, wm = some m → m.n ≤ nx.n) : MovesC wm nx h nx' h' := by
  obtain ⟨c, u, b, r, op⟩ := d
  obtain ⟨r1, hd, _⟩ := D
  exact wmOf_old hd.moves hle

/-- The states of a run. -/
structure Sts (Pr : Program) (wm : Option P) (ds : List Dop) (os : List Oper) (e : Env) (nx : P) (h : Hp) (E : Nat → Env) (X : Nat → P) (H : Nat → Hp) : Prop where
  e0 : E 0 = e
  x0 : X 0 = nx
  h0 : H 0 = h
  step : ∀ (i : Nat) (d : Dop) (o : Oper), ds[i]? = some d → os[i]? = some o → DStep Pr wm d o (E i) (X i) (H i) (E (i + 1)) (X (i + 1)) (H (i + 1))

theorem dops_sim (hF : FOk Pr F) (hih : IhOk Pr ih) {all : List Oper} {Ls : List Nat} {N : Nat} : ∀ (ds : List Dop) (os : List Oper) (e : Env) (nx : P) (h : Hp) (k : Ko), dopsK ds F ih wm e nx h k = .ok out eo no ho → chkOps Pr Ls N all (ds.map opD) os = true →
    ∃ E X H, Sts Pr wm ds os e nx h E X H ∧ k (E ds.length) (X ds.length) (H ds.length) = .ok out eo no ho
  | [], os, e, nx, h, k, hk, _ => ⟨fun _ => e, fun _ => nx, fun _ => h, ⟨rfl, rfl, rfl, fun i d o hd => by simp at hd⟩, hk⟩
  | d :: ds, [], e, nx, h, k, hk, hc => by simp [chkOps] at hc
  | d :: ds, o :: os, e, nx, h, k, hk, hc => by
    simp only [List.map_cons, chkOps, Bool.and_eq_true] at hc
    obtain ⟨c, u, b, r, op⟩ := d
    change useK c u e .nl (fun r0 => opK op F ih (wmOf r nx wm) r0 nx h fun r1 nx h => backK b r1 e fun e => dopsK ds F ih wm e nx h k) = _ at hk
    rw [useK_eq] at hk
    simp only [backK_eq] at hk
    obtain ⟨r1, nx1, h1, hk1, D⟩ := op_did hF hih hk hc.1
    obtain ⟨E, X, H, st, hk2⟩ := dops_sim hF hih ds os _ nx1 h1 k hk1 hc.2
    refine ⟨fun i => match i with | 0 => e | i + 1 => E i, fun i => match i with | 0 => nx | i + 1 => X i, fun i => match i with | 0 => h | i + 1 => H i, ⟨rfl, rfl, rfl, ?_⟩, hk2⟩
    intro i d' o' hd ho
    cases i with
    | zero =>
      simp at hd ho; subst hd; subst ho
      refine ⟨r1, ?_, st.e0⟩
      show OpDid Pr o (wmOf r nx wm) (use c e u .nl) nx h op r1 (X 0) (H 0)
      rw [st.x0, st.h0]; exact D
    | succ i => exact st.step i d' o' (by simpa using hd) (by simpa using ho)

/-! ### What the states have in common -/

section
variable {ds : List Dop} {os : List Oper} {e : Env} {nx : P} {h : Hp} {E : Nat → Env} {X : Nat → P} {H : Nat → Hp}

theorem Sts.mono (st : Sts Pr wm ds os e nx h E X H) (hl : ds.length = os.length) (hle : ∀ m, wm = some m → m.n ≤ nx.n) : ∀ (n : Nat), n ≤ ds.length → MovesC wm nx h (X n) (H n) := by
  intro n
  induction n with
  | zero => intro _; rw [st.x0, st.h0]; exact MovesC.refl _ _ _
  | succ n ih =>
    intro hn
    have M := ih (by omega)
    have hd := st.step n ds[n] os[n] (List.getElem?_eq_getElem (by omega)) (List.getElem?_eq_getElem (by omega))
    exact M.trans (hd.moves fun m hm => Nat.le_trans (hle m hm) M.le)
theorem Sts.top (st : Sts Pr wm ds os e nx h E X H) (hl : ds.length = os.length) (ht : ∀ k : P, nx.n ≤ k.n → Tr.get? k h = none) : ∀ (n : Nat), n ≤ ds.length → ∀ k : P, (X n).n ≤ k.n → Tr.get? k (H n) = none := by
  intro n
  induction n with
  | zero => intro _; rw [st.x0, st.h0]; exact ht
  | succ n ih =>
    intro hn
    have hd := st.step n ds[n] os[n] (List.getElem?_eq_getElem (by omega)) (List.getElem?_eq_getElem (by omega))
    cases hdd : ds[n] with
    | mk c u b r op => rw [hdd] at hd; obtain ⟨r1, hd, _⟩ := hd; exact hd.moves.top (ih (by omega))
theorem Sts.one_le (st : Sts Pr wm ds os e nx h E X H) (hl : ds.length = os.length) {i : Nat} (hi : i < ds.length) : (X i).n ≤ (X (i + 1)).n := by
  have hd := st.step i ds[i] os[i] (List.getElem?_eq_getElem hi) (List.getElem?_eq_getElem (by omega))
  cases hdd : ds[i] with
  | mk c u b r op => rw [hdd] at hd; obtain ⟨r1, hd, _⟩ := hd; exact hd.moves.le
theorem Sts.le (st : Sts Pr wm ds os e nx h E X H) (hl : ds.length = os.length) {i k : Nat} (hik : i ≤ k) (hk : k ≤ ds.length) : (X i).n ≤ (X k).n := by
  induction k with
  | zero => rw [show i = 0 by omega]; exact Nat.le_refl _
  | succ k ih =>
    rcases Nat.lt_or_ge i (k + 1) with h | h
    · exact Nat.le_trans (ih (by omega) (by omega)) (st.one_le hl (by omega))
    · rw [show i = k + 1 by omega]; exact Nat.le_refl _

theorem backP_ne {p q : P} (h : q ≠ p) (r e : Env) : Tr.get? q (backP p r e) = Tr.get? q e := by
  unfold backP; cases Tr.get? p r with
  | none => rfl
  | some v => exact Tr.get_set_ne h _ _
theorem back_out (r : Env) : ∀ (b : List P) (e : Env) (q : P), q ∉ b → Tr.get? q (back r b e) = Tr.get? q e
  | [], e, q, _ => rfl
  | p :: b, e, q, hq => by
    simp only [back]
    rw [back_out r b _ q (fun h => hq (by simp [h])), backP_ne (fun h => hq (by simp [h]))]
theorem back_none (r : Env) (q : P) (hr : Tr.get? q r = none) : ∀ (b : List P) (e : Env), Tr.get? q (back r b e) = Tr.get? q e
  | [], e => rfl
  | p :: b, e => by
    simp only [back]
    rw [back_none r q hr b]
    by_cases h : q = p
    · subst h; unfold backP; rw [hr]
    · exact backP_ne h _ _
theorem back_in (r : Env) (q : P) {v : DV} (hr : Tr.get? q r = some v) : ∀ (b : List P) (e : Env), q ∈ b → Tr.get? q (back r b e) = some v
  | [], e, hq => by simp at hq
  | p :: b, e, hq => by
    simp only [back]
    by_cases hb : q ∈ b
    · exact back_in r q hr b _ hb
    · rw [back_out r b _ q hb]
      rcases List.mem_cons.1 hq with rfl | h
      · unfold backP; rw [hr]; exact Tr.get_set_self _ _ _
      · exact absurd h hb

theorem Sts.env_stays (st : Sts Pr wm ds os e nx h E X H) (hl : ds.length = os.length) {p : P} {t : Nat} : ∀ (t' : Nat), t ≤ t' → t' ≤ ds.length → (∀ (q : Nat) (d : Dop), t ≤ q → q < t' → ds[q]? = some d → p ∉ backD d) → Tr.get? p (E t') = Tr.get? p (E t) := by
  intro t'
  induction t' with
  | zero => intro h1 _ _; rw [show t = 0 by omega]
  | succ t' ih =>
    intro h1 h2 h3
    rcases Nat.lt_or_ge t (t' + 1) with hlt | hge
    · rw [← ih (by omega) (by omega) (fun q d hq1 hq2 hd => h3 q d hq1 (by omega) hd)]
      have hd := st.step t' ds[t'] os[t'] (List.getElem?_eq_getElem (by omega)) (List.getElem?_eq_getElem (by omega))
      have hp := h3 t' ds[t'] (by omega) (by omega) (List.getElem?_eq_getElem (by omega))
      cases hdd : ds[t'] with
      | mk c u b r op =>
        rw [hdd] at hd hp
        obtain ⟨r1, _, he⟩ := hd
        rw [he]
        exact back_out r1 b _ p hp
    · rw [show t = t' + 1 by omega]
theorem Sts.heap_one (st : Sts Pr wm ds os e nx h E X H) {i : Nat} {d : Dop} {o : Oper} (hd : ds[i]? = some d) (ho : os[i]? = some o) (hw : isW d = false) {k : P} (hk : k.n < (X i).n) : Tr.get? k (H (i + 1)) = Tr.get? k (H i) := by
  have D := st.step i d o hd ho
  obtain ⟨c, u, b, r, op⟩ := d
  obtain ⟨r1, D, _⟩ := D
  generalize hx : X (i + 1) = x at D
  generalize hh : H (i + 1) = hp at D
  cases D with
  | run G S M hs =>
    have hr : r = true := by
      cases r with
      | true => rfl
      | false => simp [isW, stillO, isVarO, hs] at hw
    subst hr
    exact M.old (X i) rfl (Nat.le_refl _) k hk
  | _ => rfl
theorem Sts.heap_stays (st : Sts Pr wm ds os e nx h E X H) (hl : ds.length = os.length) {k : P} {t : Nat} (hk : k.n < (X t).n) : ∀ (t' : Nat), t ≤ t' → t' ≤ ds.length → (∀ (q : Nat) (d : Dop), t ≤ q → q < t' → ds[q]? = some d → isW d = false) → Tr.get? k (H t') = Tr.get? k (H t) := by
  intro t'
  induction t' with
  | zero => intro h1 _ _; rw [show t = 0 by omega]
  | succ t' ih =>
    intro h1 h2 h3
    rcases Nat.lt_or_ge t (t' + 1) with hlt | hge
    · rw [← ih (by omega) (by omega) (fun q d hq1 hq2 hd => h3 q d hq1 (by omega) hd)]
      exact st.heap_one (List.getElem?_eq_getElem (by omega)) (List.getElem?_eq_getElem (by omega)) (h3 t' ds[t'] (by omega) (by omega) (List.getElem?_eq_getElem (by omega))) (Nat.lt_of_lt_of_le hk (st.le hl (by omega) (by omega)))
    · rw [show t = t' + 1 by omega]

/-- 't' parts those that turn 'p' into what is done and what is not. -/
def VE (ds : List Dop) (S : Nat → Prop) (p : P) (t : Nat) : Prop := ∀ (q : Nat) (d : Dop), ds[q]? = some d → p ∈ backD d → (q < t ↔ S q)
def VT (ds : List Dop) (S : Nat → Prop) (t : Nat) : Prop := ∀ (q : Nat) (d : Dop), ds[q]? = some d → isW d = true → (q < t ↔ S q)
theorem Sts.env_same (st : Sts Pr wm ds os e nx h E X H) (hl : ds.length = os.length) {S : Nat → Prop} {p : P} {t t' : Nat} (ht : t ≤ ds.length) (ht' : t' ≤ ds.length) (h1 : VE ds S p t) (h2 : VE ds S p t') : Tr.get? p (E t') = Tr.get? p (E t) := by
  rcases Nat.le_total t t' with h | h
  · refine st.env_stays hl t' h ht' ?_
    intro q d hq1 hq2 hd hp
    have := (h1 q d hd hp).2 ((h2 q d hd hp).1 hq2); omega
  · refine (st.env_stays hl t h ht ?_).symm
    intro q d hq1 hq2 hd hp
    have := (h2 q d hd hp).2 ((h1 q d hd hp).1 hq2); omega
theorem Sts.heap_same (st : Sts Pr wm ds os e nx h E X H) (hl : ds.length = os.length) {S : Nat → Prop} {k : P} {t t' : Nat} (ht : t ≤ ds.length) (ht' : t' ≤ ds.length) (h1 : VT ds S t) (h2 : VT ds S t') (hk : k.n < (X t).n) (hk' : k.n < (X t').n) : Tr.get? k (H t') = Tr.get? k (H t) := by
  rcases Nat.le_total t t' with h | h
  · refine st.heap_stays hl hk t' h ht' ?_
    intro q d hq1 hq2 hd
    cases hw : isW d with
    | false => rfl
    | true => have := (h1 q d hd hw).2 ((h2 q d hd hw).1 hq2); omega
  · refine (st.heap_stays hl hk' t h ht ?_).symm
    intro q d hq1 hq2 hd
    cases hw : isW d with
    | false => rfl
    | true => have := (h2 q d hd hw).2 ((h1 q d hd hw).1 hq2); omega

/-! what an operation looks at -/
theorem useP_sub {e acc : Env} {p : P} (ha : ∀ q v, Tr.get? q acc = some v → Tr.get? q e = some v) : ∀ q v, Tr.get? q (useP true p e acc) = some v → Tr.get? q e = some v := by
  intro q v hv
  unfold useP at hv
  cases hp : Tr.get? p e with
  | none => rw [hp] at hv; exact ha q v hv
  | some u =>
    rw [hp] at hv
    have set : ∀ u, Tr.get? p e = some u → Tr.get? q (Tr.set p acc (some u)) = some v → Tr.get? q e = some v := by
      intro u hu hv
      by_cases hq : q = p
      · subst hq; rw [Tr.get_set_self] at hv; cases hv; exact hu
      · rw [Tr.get_set_ne hq] at hv; exact ha q v hv
    cases u
    case fld q' o =>
      simp only [] at hv
      cases hq' : Tr.get? q' acc with
      | none => rw [hq'] at hv; exact ha q v hv
      | some x =>
        rw [hq'] at hv
        cases x <;> first | exact ha q v hv | exact set _ hp hv
    all_goals exact set _ hp hv
theorem useP_fld {e acc : Env} {p : P} (hae : ∀ q v, Tr.get? q acc = some v → Tr.get? q e = some v) (ha : ∀ q q' o, Tr.get? q acc = some (.fld q' o) → isVar q' acc) : ∀ q q' o, Tr.get? q (useP true p e acc) = some (.fld q' o) → isVar q' (useP true p e acc) := by
  intro q q' o hv
  unfold useP at hv ⊢
  cases hp : Tr.get? p e with
  | none => rw [hp] at hv; exact ha q q' o hv
  | some u =>
    rw [hp] at hv
    -- a variable stays one
    have keepv : ∀ u q', Tr.get? p e = some u → isVar q' acc → isVar q' (Tr.set p acc (some u)) := by
      rintro u q' hu ⟨l, hl⟩
      by_cases hq : q' = p
      · subst hq
        have := hae _ _ hl
        rw [hu] at this; cases this
        exact ⟨l, Tr.get_set_self _ _ _⟩
      · exact ⟨l, by rw [Tr.get_set_ne hq]; exact hl⟩
    have set : ∀ u, Tr.get? p e = some u → (∀ q' o, u = .fld q' o → isVar q' acc) → Tr.get? q (Tr.set p acc (some u)) = some (.fld q' o) → isVar q' (Tr.set p acc (some u)) := by
      intro u hu hf hv
      by_cases hq : q = p
      · subst hq
        rw [Tr.get_set_self] at hv; cases hv
        exact keepv _ _ hu (hf _ _ rfl)
      · rw [Tr.get_set_ne hq] at hv; exact keepv _ _ hu (ha q q' o hv)
    cases u
    case fld q'' o' =>
      simp only [] at hv ⊢
      cases hq' : Tr.get? q'' acc with
      | none => rw [hq'] at hv; exact ha q q' o hv
      | some x =>
        rw [hq'] at hv
        cases x
        case var l => exact set _ hp (fun q3 o3 h => by cases h; exact ⟨l, hq'⟩) hv
        all_goals exact ha q q' o hv
    all_goals exact set _ hp (fun _ _ h => by cases h) hv
theorem use_sub {e : Env} : ∀ (u : List P) (acc : Env), (∀ q v, Tr.get? q acc = some v → Tr.get? q e = some v) → ∀ q v, Tr.get? q (use true e u acc) = some v → Tr.get? q e = some v
  | [], acc, ha => ha
  | p :: u, acc, ha => use_sub u _ (useP_sub ha)
theorem use_fld {e : Env} : ∀ (u : List P) (acc : Env), (∀ q v, Tr.get? q acc = some v → Tr.get? q e = some v) → (∀ q q' o, Tr.get? q acc = some (.fld q' o) → isVar q' acc) → ∀ q q' o, Tr.get? q (use true e u acc) = some (.fld q' o) → isVar q' (use true e u acc)
  | [], acc, _, ha => ha
  | p :: u, acc, hae, ha => use_fld u _ (useP_sub hae) (useP_fld hae ha)
theorem use_only {e : Env} : ∀ (u : List P) (acc : Env) (q : P) (v : DV), Tr.get? q (use true e u acc) = some v → Tr.get? q acc = some v ∨ q ∈ u
  | [], acc, q, v, h => .inl h
  | p :: u, acc, q, v, h => by
    rcases use_only u _ q v h with h1 | h1
    · by_cases hq : q = p
      · exact .inr (by simp [hq])
      · left
        rw [← h1]
        unfold useP
        cases hp : Tr.get? p e with
        | none => rfl
        | some x =>
          cases x
          case fld q' o =>
            simp only []
            cases hq' : Tr.get? q' acc with
            | none => rfl
            | some y => cases y <;> first | rfl | exact (Tr.get_set_ne hq _ _).symm
          all_goals exact (Tr.get_set_ne hq _ _).symm
    · exact .inr (by simp [h1])
theorem use_var {e : Env} : ∀ (u : List P) (acc : Env) (q : P) (l : List DV), (∀ q v, Tr.get? q acc = some v → Tr.get? q e = some v) → Tr.get? q e = some (.var l) → (q ∈ u ∨ Tr.get? q acc = some (.var l)) → Tr.get? q (use true e u acc) = some (.var l)
  | [], acc, q, l, _, hq, h => by rcases h with h | h; · simp at h
                                  · exact h
  | p :: u, acc, q, l, hae, hq, h => by
    refine use_var u _ q l (useP_sub hae) hq ?_
    by_cases hqu : q ∈ u
    · exact .inl hqu
    · right
      by_cases hqp : q = p
      · subst hqp
        unfold useP; rw [hq]; exact Tr.get_set_self _ _ _
      · have h' : Tr.get? q acc = some (.var l) := by
          rcases h with h | h
          · simp [hqp, hqu] at h
          · exact h
        rw [← h']
        unfold useP
        cases hp : Tr.get? p e with
        | none => rfl
        | some x =>
          cases x
          case fld q' o =>
            simp only []
            cases hq' : Tr.get? q' acc with
            | none => rfl
            | some y => cases y <;> first | rfl | exact Tr.get_set_ne hqp _ _
          all_goals exact Tr.get_set_ne hqp _ _
end
end
end Go.Proofs.Ythdlkpmhjbaplaa.Dx
