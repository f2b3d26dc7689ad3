/- What the checks of a region whose order is left open say. No statement of this seat is proved here. -/
import Derived.Test.YthdlkpmhjbaplaaDxAG
set_option autoImplicit false
noncomputable section
namespace Go.Proofs.Ythdlkpmhjbaplaa.Dx
open Go

/-- One stands ahead of the other. -/
inductive Bef (os : List Oper) : Nat → Nat → Prop
  | one {k i : Nat} {o : Oper} (ho : os[k]? = some o) (hi : i ∈ edges o) : Bef os k i
  | more {k m i : Nat} {o : Oper} (ho : os[k]? = some o) (hm : m ∈ edges o) (h : Bef os m i) : Bef os k i

theorem maskOf_spec {os : List Oper} {acc : List Nat} (hacc : ∀ m i, Nat.testBit (acc.getD m 0) i = true → Bef os m i) {k : Nat} {o : Oper} (ho : os[k]? = some o) : ∀ (l : List Nat), (∀ m ∈ l, m ∈ edges o) → ∀ i, Nat.testBit (maskOf acc l) i = true → Bef os k i
  | [], _, i, h => by simp [maskOf] at h
  | m :: l, hl, i, h => by
    have h' : Nat.testBit (((1 <<< m) ||| (acc.getD m 0)) ||| maskOf acc l) i = true := h
    rw [Nat.testBit_or, Nat.testBit_or, Bool.or_eq_true, Bool.or_eq_true] at h'
    rcases h' with (h1 | h1) | h1
    · rw [Nat.testBit_shiftLeft] at h1
      simp only [Bool.and_eq_true, decide_eq_true_eq] at h1
      have : i = m := by
        have h2 := h1.2
        rcases Nat.eq_zero_or_pos (i - m) with h0 | h0
        · omega
        · rw [show (1 : Nat) = 2 ^ 0 from rfl, Nat.testBit_two_pow] at h2
          simp at h2; omega
      subst this
      exact .one ho (hl _ (by simp))
    · exact .more ho (hl m (by simp)) (hacc m i h1)
    · exact maskOf_spec hacc ho l (fun m hm => hl m (by simp [hm])) i h1
theorem maskAll_spec {os : List Oper} : ∀ (l : List Oper) (acc : List Nat), (∀ m i, Nat.testBit (acc.getD m 0) i = true → Bef os m i) → os.drop acc.length = l → ∀ m i, Nat.testBit ((maskAll l acc).getD m 0) i = true → Bef os m i
  | [], acc, hacc, _, m, i, h => hacc m i h
  | o :: l, acc, hacc, hd, m, i, h => by
    have ho : os[acc.length]? = some o := by rw [← List.head?_drop, hd]; rfl
    refine maskAll_spec l (acc ++ [maskOf acc (edges o)]) ?_ ?_ m i h
    · intro m' i' h'
      rw [List.getD_eq_getElem?_getD] at h'
      by_cases h1 : m' < acc.length
      · rw [List.getElem?_append_left h1, ← List.getD_eq_getElem?_getD] at h'; exact hacc m' i' h'
      · rw [List.getElem?_append_right (by omega)] at h'
        by_cases h2 : m' = acc.length
        · subst h2
          simp only [Nat.sub_self, List.getElem?_cons_zero, Option.getD_some] at h'
          exact maskOf_spec hacc ho _ (fun _ h => h) i' h'
        · rw [List.getElem?_eq_none (by simp; omega)] at h'; simp at h'
    · rw [List.length_append, List.length_singleton, ← List.tail_drop, hd]; rfl
theorem ordRow_spec {os : List Oper} {y : Dop} {m k : Nat} (hm : ∀ i, Nat.testBit m i = true → Bef os k i) : ∀ (l : List Dop) (s : Nat), ordRow y m l s = true → ∀ (i : Nat) (x : Dop), l[i]? = some x → clash x y = true → Bef os k (s + i)
  | [], s, _, i, x, hx, _ => by simp at hx
  | z :: l, s, h, i, x, hx, hc => by
    simp only [ordRow, Bool.and_eq_true, Bool.or_eq_true, Bool.not_eq_true'] at h
    cases i with
    | zero =>
      simp at hx; subst hx
      rcases h.1 with h1 | h1
      · rw [hc] at h1; cases h1
      · exact hm _ h1
    | succ i => have := ordRow_spec hm l (s + 1) h.2 i x (by simpa using hx) hc; rwa [show s + (i + 1) = s + 1 + i by omega]
theorem ordAll_spec {os : List Oper} {ms : List Nat} (hms : ∀ m i, Nat.testBit (ms.getD m 0) i = true → Bef os m i) (all : List Dop) : ∀ (l : List Dop) (k : Nat), ordAll ms all l k = true → ∀ (i j : Nat) (x y : Dop), (all.take (k + j))[i]? = some x → l[j]? = some y → clash x y = true → Bef os (k + j) i
  | [], k, _, i, j, x, y, _, hy, _ => by simp at hy
  | z :: l, k, h, i, j, x, y, hx, hy, hc => by
    simp only [ordAll, Bool.and_eq_true] at h
    cases j with
    | zero =>
      simp at hy; subst hy
      have := ordRow_spec (hms k) _ 0 h.1 i x (by simpa using hx) hc
      simpa using this
    | succ j => have := ordAll_spec hms all l (k + 1) h.2 i j x y (by rwa [show k + 1 + j = k + (j + 1) by omega]) (by simpa using hy) hc; rwa [show k + (j + 1) = k + 1 + j by omega]
theorem edgesOk_spec {os : List Oper} : ∀ (l : List Oper) (k : Nat), edgesOk l k = true → ∀ (i : Nat) (o : Oper), l[i]? = some o → ∀ m ∈ edges o, m < k + i
  | [], k, _, i, o, ho, m, hm => by simp at ho
  | z :: l, k, h, i, o, ho, m, hm => by
    simp only [edgesOk, Bool.and_eq_true, List.all_eq_true, Nat.ble_eq] at h
    cases i with
    | zero => simp at ho; subst ho; have := h.1 m hm; omega
    | succ i => have := edgesOk_spec (os := os) l (k + 1) h.2 i o (by simpa using ho) m hm; omega

theorem allIn_spec {f : P → Bool} : ∀ {l : List P}, allIn f l = true → ∀ p ∈ l, f p = true
  | [], _, p, hp => by simp at hp
  | q :: l, h, p, hp => by
    simp only [allIn, Bool.and_eq_true] at h
    rcases List.mem_cons.1 hp with rfl | hp
    · exact h.1
    · exact allIn_spec h.2 p hp
theorem anyP_of {l m : List P} {p : P} (h1 : p ∈ l) (h2 : p ∈ m) : anyP l m = true := by
  unfold anyP; rw [List.any_eq_true]; exact ⟨p, h1, (memP_iff p m).2 h2⟩

/-- What is known of a region whose order is left open. -/
structure DrwOk (Pr : Program) (Ls : List Nat) (N : Nat) (ds : List Dop) (os : List Oper) : Prop where
  ops : ∀ (i : Nat) (d : Dop) (o : Oper), ds[i]? = some d → os[i]? = some o → chkOp Pr Ls N os (opD d) o = true
  len : ds.length = os.length
  dop : ∀ (i : Nat) (d : Dop), ds[i]? = some d → okDop Ls d = true
  edge : ∀ (i : Nat) (o : Oper), os[i]? = some o → ∀ m ∈ edges o, m < i
  ord : ∀ (i k : Nat) (x y : Dop), i < k → ds[i]? = some x → ds[k]? = some y → clash x y = true → Bef os k i
theorem chkOps_spec {Pr : Program} {Ls : List Nat} {N : Nat} {os : List Oper} : ∀ (l : List Op) (l' : List Oper), chkOps Pr Ls N os l l' = true → l.length = l'.length ∧ ∀ (i : Nat) (d : Op) (o : Oper), l[i]? = some d → l'[i]? = some o → chkOp Pr Ls N os d o = true
  | [], [], _ => ⟨rfl, fun i d o hd => by simp at hd⟩
  | [], _ :: _, h => by simp [chkOps] at h
  | _ :: _, [], h => by simp [chkOps] at h
  | d :: l, o :: l', h => by
    simp only [chkOps, Bool.and_eq_true] at h
    obtain ⟨h1, h2⟩ := chkOps_spec l l' h.2
    refine ⟨by simp [h1], fun i d' o' hd ho => ?_⟩
    cases i with
    | zero => simp at hd ho; subst hd; subst ho; exact h.1
    | succ i => exact h2 i d' o' (by simpa using hd) (by simpa using ho)
theorem chkDrw_spec {Pr : Program} {Ls : List Nat} {N : Nat} {ds : List Dop} {os : List Oper} (h : chkDrw Pr Ls N ds os = true) : DrwOk Pr Ls N ds os := by
  simp only [chkDrw, Bool.and_eq_true, List.all_eq_true] at h
  obtain ⟨⟨⟨h1, h2⟩, h3⟩, h4⟩ := h
  obtain ⟨h5, h6⟩ := chkOps_spec _ _ h1
  refine ⟨fun i d o hd ho => h6 i (opD d) o (by simp [hd]) ho, by simpa using h5, fun i d hd => h2 d (List.mem_of_getElem? hd), fun i o ho m hm => by have := edgesOk_spec (os := os) os 0 h3 i o ho m hm; omega, ?_⟩
  intro i k x y hik hx hy hc
  have := ordAll_spec (maskAll_spec os [] (fun m i h => by simp at h) rfl) ds ds 0 h4 i k x y (by rw [List.getElem?_take, if_pos (by omega)]; exact hx) hy hc
  simpa using this
theorem clash_comm_w {x y : Dop} (h : clash x y = true) : clash y x = true := by
  unfold clash at *
  simp only [Bool.or_eq_true, Bool.and_eq_true] at h ⊢
  have ac : ∀ l m, anyP l m = true → anyP m l = true := by
    intro l m h
    unfold anyP at h
    rw [List.any_eq_true] at h
    obtain ⟨p, h1, h2⟩ := h
    exact anyP_of ((memP_iff p m).1 h2) h1
  rcases h with (((h | h) | h) | h) | h
  · exact .inl (.inl (.inl (.inr ⟨h.2, h.1⟩)))
  · exact .inl (.inl (.inl (.inl ⟨h.2, h.1⟩)))
  · exact .inl (.inr (ac _ _ h))
  · exact .inl (.inl (.inr (ac _ _ h)))
  · exact .inr (ac _ _ h)

/-- Those that are done: with each one, all that stand ahead of it. -/
def Down (os : List Oper) (S : Nat → Prop) : Prop := ∀ (i : Nat) (o : Oper), S i → os[i]? = some o → ∀ m ∈ edges o, S m
theorem Down.bef {os : List Oper} {S : Nat → Prop} (hS : Down os S) {k i : Nat} (h : Bef os k i) : S k → S i := by
  induction h with
  | one ho hi => exact fun hk => hS _ _ hk ho _ hi
  | more ho hm _ ih => exact fun hk => ih (hS _ _ hk ho _ hm)
/-- What cannot be exchanged with one that is about to be done stands on its right side. -/
theorem DrwOk.side {Pr : Program} {Ls : List Nat} {N : Nat} {ds : List Dop} {os : List Oper} (D : DrwOk Pr Ls N ds os) {S : Nat → Prop} (hS : Down os S) {i : Nat} {o : Oper} (ho : os[i]? = some o) (hr : ∀ m ∈ edges o, S m) (hn : ¬ S i)
    {x y : Dop} {q : Nat} (hx : ds[q]? = some x) (hy : ds[i]? = some y) (hc : clash x y = true) : q < i ↔ S q := by
  rcases Nat.lt_trichotomy q i with h | h | h
  · refine ⟨fun _ => ?_, fun _ => h⟩
    have hb := D.ord q i x y h hx hy hc
    cases hb with
    | one ho' hi => rw [ho] at ho'; cases ho'; exact hr _ hi
    | more ho' hm hb => rw [ho] at ho'; cases ho'; exact hS.bef hb (hr _ hm)
  · subst h; exact ⟨fun h => absurd h (Nat.lt_irrefl _), fun h => absurd h hn⟩
  · refine ⟨fun h' => absurd h' (by omega), fun hq => ?_⟩
    exact absurd (hS.bef (D.ord i q y x h hy hx (clash_comm_w hc)) hq) hn

end Go.Proofs.Ythdlkpmhjbaplaa.Dx
