/- Plain facts on dropping a variable: what is scaled and added is in order, and the variable is gone. No statement of this seat is proved here. -/
import Derived.Test.YthdlkpmhjbaplaaVyP
set_option autoImplicit false
set_option linter.unusedSimpArgs false
set_option linter.unusedVariables false
set_option maxRecDepth 10000
namespace Go.Proofs.Ythdlkpmhjbaplaa.Dx
open Go

/-! ### Terms in order -/

theorem okFrom_cons {p : Option Int} {m : Mono} {l : List Mono} : okFrom p (m :: l) = true ↔ okM m = true ∧ (∀ q, p = some q → q < m.v) ∧ okFrom (some m.v) l = true := by
  cases p <;> simp [okFrom, and_assoc]
theorem okFrom_weak : ∀ {l : List Mono} {p : Option Int}, okFrom p l = true → okFrom none l = true
  | [], _, _ => rfl
  | m :: l, p, h => by
    obtain ⟨h1, _, h3⟩ := okFrom_cons.1 h
    exact okFrom_cons.2 ⟨h1, by simp, h3⟩
theorem okFrom_lt : ∀ {l : List Mono} {q : Int}, okFrom (some q) l = true → ∀ m ∈ l, q < m.v
  | [], _, _, m, h => by simp at h
  | x :: l, q, h, m, hm => by
    obtain ⟨_, h2, h3⟩ := okFrom_cons.1 h
    have hq := h2 q rfl
    rcases List.mem_cons.1 hm with rfl | hm
    · exact hq
    · have := okFrom_lt h3 m hm; omega
theorem kOf_none : ∀ {l : List Mono} {v : Int}, (∀ m ∈ l, m.v ≠ v) → kOf l v = 0
  | [], _, _ => rfl
  | m :: l, v, h => by
    rw [kOf, if_neg (h m (List.mem_cons_self ..))]
    exact kOf_none fun x hx => h x (List.mem_cons_of_mem _ hx)
theorem kOf_low {l : List Mono} {q v : Int} (h : okFrom (some q) l = true) (hv : v ≤ q) : kOf l v = 0 :=
  kOf_none fun m hm => by have := okFrom_lt h m hm; omega
theorem okM_spec {m : Mono} : okM m = true ↔ 0 ≤ m.v ∧ m.v < 40 ∧ m.k ≠ 0 ∧ -1048576 ≤ m.k ∧ m.k ≤ 1048576 := by
  simp [okM, roomB, and_assoc]
theorem okFrom_ok : ∀ {l : List Mono} {p : Option Int}, okFrom p l = true → ∀ m ∈ l, okM m = true
  | [], _, _, m, h => by simp at h
  | x :: l, p, h, m, hm => by
    obtain ⟨h1, _, h3⟩ := okFrom_cons.1 h
    rcases List.mem_cons.1 hm with rfl | hm
    · exact h1
    · exact okFrom_ok h3 m hm
theorem kOf_room {l : List Mono} {p : Option Int} {v : Int} (h : okFrom p l = true) : -1048576 ≤ kOf l v ∧ kOf l v ≤ 1048576 := by
  have hm := okFrom_ok h
  clear h
  induction l with
  | nil => simp [kOf]
  | cons m l ih =>
    rw [kOf]
    split
    · have := okM_spec.1 (hm m (List.mem_cons_self ..)); omega
    · exact ih fun x hx => hm x (List.mem_cons_of_mem _ hx)

/-! ### The sum -/

theorem kOf_keep (m : Mono) (l : List Mono) (v : Int) (h : m.v = v → m.k = 0 → kOf l v = 0) : kOf (keepM m l) v = if m.v = v then m.k else kOf l v := by
  unfold keepM
  by_cases hk : m.k = 0
  · rw [if_pos hk]
    by_cases hv : m.v = v
    · rw [if_pos hv, hk]; exact h hv hk
    · rw [if_neg hv]
  · rw [if_neg hk]; rfl
theorem kOf_sum (v : Int) : ∀ (a b : List Mono) (p q : Option Int), okFrom p a = true → okFrom q b = true → kOf (sumM a b) v = kOf a v + kOf b v := by
  intro a b
  induction a, b using sumM.induct with
  | case1 => intro p q _ _; simp [sumM, kOf]
  | case2 m x ih =>
    intro p q ha hb
    obtain ⟨h1, _, h3⟩ := okFrom_cons.1 ha
    have i := ih (some m.v) q h3 hb
    rw [sumM, kOf_keep, kOf, i]
    · simp [kOf]
    · intro _ h0; exact absurd h0 (okM_spec.1 h1).2.2.1
  | case3 n y ih =>
    intro p q ha hb
    obtain ⟨h1, _, h3⟩ := okFrom_cons.1 hb
    have i := ih p (some n.v) ha h3
    rw [sumM, kOf_keep, i]
    · simp only [kOf]; split <;> simp
    · intro _ h0; exact absurd h0 (okM_spec.1 h1).2.2.1
  | case4 m x n y hlt ih =>
    intro p q ha hb
    obtain ⟨h1, _, h3⟩ := okFrom_cons.1 ha
    have i := ih (some m.v) q h3 hb
    rw [sumM, if_pos hlt, kOf_keep, i]
    · by_cases hv : m.v = v
      · have hz : kOf (n :: y) v = 0 := by
          obtain ⟨_, _, g3⟩ := okFrom_cons.1 hb
          rw [kOf, if_neg (by omega)]; exact kOf_low g3 (by omega)
        rw [if_pos hv, hz, kOf, if_pos hv]; omega
      · rw [if_neg hv]; simp only [kOf, if_neg hv]
    · intro _ h0; exact absurd h0 (okM_spec.1 h1).2.2.1
  | case5 m x n y hlt hlt' ih =>
    intro p q ha hb
    obtain ⟨h1, _, h3⟩ := okFrom_cons.1 hb
    have i := ih p (some n.v) ha h3
    rw [sumM, if_neg hlt, if_pos hlt', kOf_keep, i]
    · by_cases hv : n.v = v
      · have hz : kOf (m :: x) v = 0 := by
          obtain ⟨_, _, g3⟩ := okFrom_cons.1 ha
          rw [kOf, if_neg (by omega)]; exact kOf_low g3 (by omega)
        rw [if_pos hv, hz, kOf, if_pos hv]; omega
      · rw [if_neg hv]; simp only [kOf, if_neg hv]
    · intro _ h0; exact absurd h0 (okM_spec.1 h1).2.2.1
  | case6 m x n y hlt hlt' ih =>
    intro p q ha hb
    obtain ⟨h1, _, h3⟩ := okFrom_cons.1 ha
    obtain ⟨g1, _, g3⟩ := okFrom_cons.1 hb
    have i := ih (some m.v) (some n.v) h3 g3
    have e : m.v = n.v := by omega
    have b1 := okM_spec.1 h1
    have b2 := okM_spec.1 g1
    have hw : IntKind.i64.wrap (m.k + n.k) = m.k + n.k := i64 (by omega)
    have zx : ∀ w, w ≤ m.v → kOf x w = 0 := fun w hw => kOf_low h3 hw
    have zy : ∀ w, w ≤ n.v → kOf y w = 0 := fun w hw => kOf_low g3 hw
    rw [sumM, if_neg hlt, if_neg hlt', kOf_keep]
    · simp only [hw]
      by_cases hv : m.v = v
      · rw [if_pos hv]; simp only [kOf, if_pos hv, if_pos (show n.v = v by omega)]
      · rw [if_neg hv, i]; simp only [kOf, if_neg hv, if_neg (show ¬ n.v = v by omega)]
    · intro hv _
      rw [i, zx v (by simp only at hv; omega), zy v (by simp only at hv; omega)]; rfl

/-! ### Scaling -/

theorem room_mul {a b most : Int} (ha : a ≠ 0) (hb : b ≠ 0) (hm : 0 ≤ most) (h : max a (-a) ≤ most.tdiv (max b (-b))) : -most ≤ a * b ∧ a * b ≤ most := by
  have hB : 0 < max b (-b) := by omega
  have h1 : max a (-a) * max b (-b) ≤ most := by
    have h2 : most.tdiv (max b (-b)) * max b (-b) ≤ most := by
      rw [Int.tdiv_eq_ediv_of_nonneg hm]
      exact Int.ediv_mul_le _ (by omega)
    exact Int.le_trans (Int.mul_le_mul_of_nonneg_right h (by omega)) h2
  have hA : 0 ≤ max a (-a) := by omega
  rcases Int.le_total 0 a with h0 | h0 <;> rcases Int.le_total 0 b with h3 | h3
  · rw [Int.max_eq_left (by omega), Int.max_eq_left (by omega)] at h1
    have := Int.mul_nonneg h0 h3; omega
  · rw [Int.max_eq_left (by omega), Int.max_eq_right (by omega), Int.mul_neg] at h1
    have := Int.mul_nonpos_of_nonneg_of_nonpos h0 h3; omega
  · rw [Int.max_eq_right (by omega), Int.max_eq_left (by omega), Int.neg_mul] at h1
    have := Int.mul_nonpos_of_nonpos_of_nonneg h0 h3; omega
  · rw [Int.max_eq_right (by omega), Int.max_eq_right (by omega), Int.neg_mul_neg] at h1
    have := Int.mul_nonneg_of_nonpos_of_nonpos h0 h3; omega
theorem times_spec {a b most : Int} (hm : 0 ≤ most ∧ most ≤ 4611686018427387904) (h : (timesP a b most).2 = true) : (timesP a b most).1 = a * b ∧ -most ≤ a * b ∧ a * b ≤ most := by
  unfold timesP at h ⊢
  by_cases h0 : a = 0 ∨ b = 0
  · rw [if_pos h0]
    have : a * b = 0 := by rcases h0 with h0 | h0 <;> simp [h0]
    rw [this]; exact ⟨rfl, by omega, by omega⟩
  · rw [if_neg h0] at h ⊢
    by_cases h1 : roomB a most = false ∨ roomB b most = false
    · rw [if_pos h1] at h; cases h
    · rw [if_neg h1] at h ⊢
      simp only [decide_eq_true_eq] at h
      have hr := room_mul (fun e => h0 (.inl e)) (fun e => h0 (.inr e)) hm.1 h
      exact ⟨i64 (by omega), hr⟩
theorem scale_ok : ∀ {l : List Mono} {p : Option Int} {k : Int}, okFrom p l = true → scaleB k l = true → okFrom p (scaleL k l) = true
  | [], _, _, _, _ => rfl
  | m :: l, p, k, h, hs => by
    obtain ⟨h1, h2, h3⟩ := okFrom_cons.1 h
    have hs1 : (timesP m.k k 1048576).2 = true := by simp [scaleB] at hs; exact hs.1
    have hs2 : scaleB k l = true := by simp [scaleB] at hs ⊢; exact hs.2
    have ht := times_spec (by omega) hs1
    have ih := scale_ok h3 hs2
    rw [scaleL]
    split
    · -- dropped: what is behind is beyond
      cases hl : scaleL k l with
      | nil => rfl
      | cons x r =>
        rw [hl] at ih
        obtain ⟨g1, g2, g3⟩ := okFrom_cons.1 ih
        have := g2 _ rfl
        exact okFrom_cons.2 ⟨g1, fun q hq => by have := h2 q hq; omega, g3⟩
    · rename_i hne
      refine okFrom_cons.2 ⟨?_, h2, ih⟩
      have b := okM_spec.1 h1
      refine okM_spec.2 ⟨b.1, b.2.1, hne, ?_, ?_⟩ <;> simp only [ht.1] <;> omega
theorem kOf_scale (v : Int) : ∀ {l : List Mono} {p : Option Int} {k : Int}, okFrom p l = true → scaleB k l = true → kOf (scaleL k l) v = kOf l v * k
  | [], _, _, _, _ => by simp [scaleL, kOf]
  | m :: l, p, k, h, hs => by
    obtain ⟨h1, h2, h3⟩ := okFrom_cons.1 h
    have hs1 : (timesP m.k k 1048576).2 = true := by simp [scaleB] at hs; exact hs.1
    have hs2 : scaleB k l = true := by simp [scaleB] at hs ⊢; exact hs.2
    have ht := times_spec (by omega) hs1
    have ih := kOf_scale v h3 hs2
    rw [scaleL, kOf]
    by_cases hv : m.v = v
    · rw [if_pos hv]
      split
      · rename_i h0
        rw [ih, kOf_low h3 (by omega), ← ht.1, h0, Int.zero_mul]
      · rw [kOf, if_pos hv, ht.1]
    · rw [if_neg hv]
      split
      · exact ih
      · rw [kOf, if_neg hv]; exact ih
theorem okT_spec {c : Int} {l : List Mono} : okT c l = true ↔ -1099511627776 ≤ c ∧ c ≤ 1099511627776 ∧ l.length ≤ 40 ∧ okFrom none l = true := by
  simp [okT, roomB, and_assoc]
theorem scaleR_spec {c : Int} {l : List Mono} {k : Int} (h : okT c l = true) : ((scaleR c l k).2.2 = 0 ∧ okT (scaleR c l k).1 (scaleR c l k).2.1 = true ∧ (scaleR c l k).1 = c * k ∧ ∀ v, kOf (scaleR c l k).2.1 v = kOf l v * k) ∨ (scaleR c l k).2.2 = 12 := by
  unfold scaleR
  rw [if_neg (by simp [h])]
  split
  · rename_i hs
    rw [Bool.and_eq_true] at hs
    obtain ⟨h1, h2, h3, h4⟩ := okT_spec.1 h
    have ht := times_spec (by omega) hs.1
    refine .inl ⟨rfl, okT_spec.2 ⟨?_, ?_, ?_, scale_ok h4 hs.2⟩, ht.1, fun v => kOf_scale v h4 hs.2⟩
    · simp only [ht.1]; omega
    · simp only [ht.1]; omega
    · have := scaleL_len k l; simp only; omega
  · exact .inr rfl

/-! ### A pair -/

theorem pairR_spec {low high : Cons} {v : Int} (h1 : okC low = true) (h2 : okC high = true) :
    ((pairR low high v).2.2 = 0 ∧ okT (pairR low high v).1 (pairR low high v).2.1 = true ∧ kOf (pairR low high v).2.1 v = 0) ∨ (pairR low high v).2.2 = 12 := by
  rcases scaleR_spec (k := -(kOf low.t.l v)) h2 with ⟨a1, a2, a3, a4⟩ | a1
  · rcases scaleR_spec (k := kOf high.t.l v) h1 with ⟨b1, b2, b3, b4⟩ | b1
    · unfold pairR
      rw [if_neg (by simp [a1, b1])]
      unfold addR
      rw [if_neg (by simp [a2, b2])]
      split
      · rename_i ho
        refine .inl ⟨rfl, ho, ?_⟩
        simp only []
        rw [kOf_sum v _ _ none none (okT_spec.1 a2).2.2.2 (okT_spec.1 b2).2.2.2, a4, b4, Int.mul_neg, Int.mul_comm (kOf high.t.l v)]
        omega
      · exact .inr rfl
    · right; unfold pairR; rw [if_pos (.inr (by simp [b1]))]
  · right; unfold pairR; rw [if_pos (.inl (by simp [a1]))]
theorem firstErr_spec : ∀ {l : List Int}, (∀ e ∈ l, e = 0 ∨ e = 12) → firstErr l = 12 ∨ (firstErr l = 0 ∧ ∀ e ∈ l, e = 0)
  | [], _ => .inr ⟨rfl, by simp⟩
  | e :: l, h => by
    have he := h e (List.mem_cons_self ..)
    by_cases h0 : e = 0
    · rw [firstErr, if_neg (by simp [h0])]
      rcases firstErr_spec fun x hx => h x (List.mem_cons_of_mem _ hx) with g | ⟨g1, g2⟩
      · exact .inl g
      · refine .inr ⟨g1, fun x hx => ?_⟩
        rcases List.mem_cons.1 hx with rfl | hx
        · exact h0
        · exact g2 x hx
    · rw [firstErr, if_pos h0]
      left; rcases he with he | he
      · exact absurd he h0
      · exact he
theorem mem_lows {l : List Cons} {v : Int} {x : Cons} (h : x ∈ lowsOf l v) : x ∈ l := (List.mem_filter.1 h).1
theorem mem_highs {l : List Cons} {v : Int} {x : Cons} (h : x ∈ highsOf l v) : x ∈ l := (List.mem_filter.1 h).1
theorem flat_len_eq {α β : Type} (f : α → List β) (n : Nat) (h : ∀ a, (f a).length = n) : ∀ l : List α, (l.flatMap f).length = l.length * n
  | [] => by simp
  | a :: l => by rw [List.flatMap_cons, List.length_append, List.length_cons, Nat.succ_mul, flat_len_eq f n h l, h a]; omega
theorem dropList_len (l : List Cons) (v : Int) : (dropList l v).length = (othersOf l v).length + (lowsOf l v).length * (highsOf l v).length := by
  rw [dropList, List.length_append, flat_len_eq _ (highsOf l v).length (fun a => by simp [conRow])]
/-- Dropping a variable: it runs over, or it keeps what has it not, and what is made new has it not. -/
theorem drop_spec {l : List Cons} {v : Int} (h : l.all okC = true) : dropErr l v = 12 ∨
    (dropErr l v = 0 ∧ ∀ x ∈ (lowsOf l v).flatMap (conRow (highsOf l v) v), x.eq = false ∧ kOf x.t.l v = 0 ∧ okC x = true) := by
  have hok : ∀ x ∈ l, okC x = true := by simpa using h
  have hp : ∀ a ∈ lowsOf l v, ∀ b ∈ highsOf l v, ((pairR a b v).2.2 = 0 ∧ okT (pairR a b v).1 (pairR a b v).2.1 = true ∧ kOf (pairR a b v).2.1 v = 0) ∨ (pairR a b v).2.2 = 12 :=
    fun a ha b hb => pairR_spec (hok a (mem_lows ha)) (hok b (mem_highs hb))
  rcases firstErr_spec (l := (lowsOf l v).flatMap (errRow (highsOf l v) v)) (by
    intro e he
    obtain ⟨a, ha, he⟩ := List.mem_flatMap.1 he
    obtain ⟨b, hb, rfl⟩ := List.mem_map.1 he
    rcases hp a ha b hb with ⟨h0, _⟩ | h0 <;> simp [h0]) with g | ⟨g1, g2⟩
  · exact .inl g
  · refine .inr ⟨g1, fun x hx => ?_⟩
    obtain ⟨a, ha, hx⟩ := List.mem_flatMap.1 hx
    obtain ⟨b, hb, rfl⟩ := List.mem_map.1 hx
    have h0 : (pairR a b v).2.2 = 0 := g2 _ (List.mem_flatMap.2 ⟨a, ha, List.mem_map.2 ⟨b, hb, rfl⟩⟩)
    rcases hp a ha b hb with ⟨_, h1, h2⟩ | h1
    · exact ⟨rfl, h2, h1⟩
    · rw [h0] at h1; cases h1
end Go.Proofs.Ythdlkpmhjbaplaa.Dx

/- What delverkeep's Term and Cons come to on equal values. No statement of this seat is proved here. -/
set_option autoImplicit false
set_option linter.unusedSimpArgs false
set_option linter.unusedVariables false
set_option maxRecDepth 10000
namespace Go.Proofs.Ythdlkpmhjbaplaa.Dx
open Go
attribute [local irreducible] wCall wLoop
attribute [local go_sem] decide_true decide_false Bool.and_true Bool.true_and Bool.and_self Bool.false_and Bool.and_false vMs vCs vIs Slots At Tr.get_z Tr.get_l Tr.get_r Tr.get_e Tr.set_z_e Tr.set_z_n Tr.set_l_e Tr.set_l_n Tr.set_r_e Tr.set_r_n eOs_n eOs_c eDs_n eDs_c ekOs ekDs ekPut ekBack ekSeq_n ekSeq_x ekSeq_r ekBlk_n ekBlk_x ekBlk_r eO_mk eO_gd eO_loc eO_locb eD_mk eD_loc eD_locb eD_gd eDr eC_skip eC_reg eC_drw eC_seq eC_cond eC_block eC_loop eC_exit eC_ret eRetW_n eRetW_r wk wkL eRet_n eRet_r ekLd_n ekLd_x ekLd_r ekLp_n ekLp_x ekLp_r wI wBin wBd vev vov vovs vplace vouter ofDV ofDVs vcells spl vfills vput vuse vuseP vback vbackP wOf vbare isVarV vkeep hget hset hdels hdel hkeys live vw vwL keysV keysL pureV pureL vsrc veqs vmx vmn vT cT vC cC VOb.cells vres vrsL vrs1 vone List.length_cons List.length_nil List.getElem?_cons_zero List.getElem?_cons_succ List.take_succ_cons List.take_zero List.drop_succ_cons List.drop_zero List.drop_nil List.take_nil List.nil_append List.cons_append List.append_nil Option.some.injEq Nat.zero_add Nat.add_zero if_true if_false ite_true ite_false true_and and_true false_and and_false true_implies implies_true false_implies Bool.true_eq_false Bool.false_eq_true Bool.not_true Bool.not_false eq_self_iff_true Int.toNat_natCast Int.ofNat_eq_natCast Int.ofNat_zero Int.ofNat_one Int.cast_ofNat_Int VV.int.injEq VV.bool.injEq cond_true cond_false

theorem dself (a : Int) : decide (a = a) = true := by simp
theorem bself (b : Bool) : (b == b) = true := by cases b <;> rfl
theorem btt : (true != true) = false := rfl
theorem keepT_ok (c : Int) (l : List Mono) (hl : l.length ≤ 4611686018427387904) : VPure FT p56 [.agg [.int .i64 c, .fz l.length none 2 (encM l)], .agg [.int .i64 c, .fz l.length none 2 (encM l)]] (.bool true) := by
  refine vpure_of_body (f := p56) rfl rfl ?_
  simp (implicitDefEqProofs := false) only [dself, go_sem, reduceCtorEq, Nat.reduceAdd, Nat.reduceMul, Nat.reduceLeDiff, Nat.reduceLT, Nat.reduceEqDiff, Int.reduceNegSucc, ↓gs_tt, ↓gs_ff, ↓gs_tf, ↓gs_ft]
  refine wLoop_by (fun n s => ∃ i : Nat, i + n = l.length ∧ At s [(p2, .var [.int .i64 c, vMs l]), (p3, .var [.int .i64 c, vMs l]), (p5, .int .i64 i)] 0 0 []) l.length ?_ ?_
  · exact ⟨0, by simp, by simp (implicitDefEqProofs := false) only [go_sem, reduceCtorEq, Nat.reduceAdd, Nat.reduceMul, Nat.reduceLeDiff, Nat.reduceLT, Nat.reduceEqDiff, Int.reduceNegSucc, ↓gs_tt, ↓gs_ff, ↓gs_tf, ↓gs_ft]⟩
  · rintro n ⟨e, nx, w, h⟩ ⟨i, hi, ⟨h1, h2, h3, -⟩, rfl, rfl, rfl⟩
    rcases Nat.lt_or_ge i l.length with hlt | hge
    · obtain ⟨m, hm⟩ := has hlt
      simp (implicitDefEqProofs := false) only [h1, h2, h3, ltT hlt, encM_cut hm, encM_len, inc64 hlt hl, dself, bself, btt, go_sem, reduceCtorEq, Nat.reduceAdd, Nat.reduceMul, Nat.reduceLeDiff, Nat.reduceLT, Nat.reduceEqDiff, Int.reduceNegSucc, ↓gs_tt, ↓gs_ff, ↓gs_tf, ↓gs_ft]
      exact ⟨⟨by omega, by omega⟩, by omega, ⟨by omega, by omega⟩, by omega, n - 1, by omega, i + 1, by omega, rfl⟩
    · simp (implicitDefEqProofs := false) only [h1, h2, h3, ltF hge, go_sem, reduceCtorEq, Nat.reduceAdd, Nat.reduceMul, Nat.reduceLeDiff, Nat.reduceLT, Nat.reduceEqDiff, Int.reduceNegSucc, ↓gs_tt, ↓gs_ff, ↓gs_tf, ↓gs_ft]
theorem keepC_ok (l : List Cons) (hs : smallC l) : VPure FT p22 [.fz l.length none 3 (encC l), .fz l.length none 3 (encC l)] (.bool true) := by
  have hl : l.length ≤ 4611686018427387904 := by have := hs.len; omega
  refine vpure_of_body (f := p22) rfl rfl ?_
  simp (implicitDefEqProofs := false) only [dself, go_sem, reduceCtorEq, Nat.reduceAdd, Nat.reduceMul, Nat.reduceLeDiff, Nat.reduceLT, Nat.reduceEqDiff, Int.reduceNegSucc, ↓gs_tt, ↓gs_ff, ↓gs_tf, ↓gs_ft]
  refine wLoop_by (fun n s => ∃ i : Nat, i + n = l.length ∧ At s [(p0, .fz l.length none 3 (encC l)), (p1, .fz l.length none 3 (encC l)), (p5, .int .i64 i)] 0 0 []) l.length ?_ ?_
  · exact ⟨0, by simp, by simp (implicitDefEqProofs := false) only [go_sem, reduceCtorEq, Nat.reduceAdd, Nat.reduceMul, Nat.reduceLeDiff, Nat.reduceLT, Nat.reduceEqDiff, Int.reduceNegSucc, ↓gs_tt, ↓gs_ff, ↓gs_tf, ↓gs_ft]⟩
  · rintro n ⟨e, nx, w, h⟩ ⟨i, hi, ⟨h1, h2, h3, -⟩, rfl, rfl, rfl⟩
    rcases Nat.lt_or_ge i l.length with hlt | hge
    · obtain ⟨x, hx⟩ := has hlt
      have hxl := hs.all x (List.mem_of_getElem? hx)
      simp (implicitDefEqProofs := false) only [h1, h2, h3, ltT hlt, encC_t hx, encC_g2 hx, encC_len, inc64 hlt hl, dself, bself, btt, go_sem, reduceCtorEq, Nat.reduceAdd, Nat.reduceMul, Nat.reduceLeDiff, Nat.reduceLT, Nat.reduceEqDiff, Int.reduceNegSucc, ↓gs_tt, ↓gs_ff, ↓gs_tf, ↓gs_ft]
      refine ⟨⟨by omega, by omega⟩, ⟨by omega, by omega⟩, ⟨by omega, by omega⟩, by omega, ⟨by omega, by omega⟩, by omega, ?_⟩
      refine wCall_pp (r := .bool true) (by simp [pureL, pureV]) (keepT_ok _ _ (by omega)) rfl ?_
      simp (implicitDefEqProofs := false) only [inc64 hlt hl, btt, go_sem, reduceCtorEq, Nat.reduceAdd, Nat.reduceMul, Nat.reduceLeDiff, Nat.reduceLT, Nat.reduceEqDiff, Int.reduceNegSucc, ↓gs_tt, ↓gs_ff, ↓gs_tf, ↓gs_ft]
      exact ⟨n - 1, by omega, i + 1, by omega, rfl⟩
    · simp (implicitDefEqProofs := false) only [h1, h2, h3, ltF hge, go_sem, reduceCtorEq, Nat.reduceAdd, Nat.reduceMul, Nat.reduceLeDiff, Nat.reduceLT, Nat.reduceEqDiff, Int.reduceNegSucc, ↓gs_tt, ↓gs_ff, ↓gs_tf, ↓gs_ft]
end Go.Proofs.Ythdlkpmhjbaplaa.Dx

/- What small references come to: mag, up, down, Pick. No statement of this seat is proved here. -/
set_option autoImplicit false
set_option linter.unusedSimpArgs false
set_option linter.unusedVariables false
set_option maxRecDepth 10000
namespace Go.Proofs.Ythdlkpmhjbaplaa.Dx
open Go
attribute [local irreducible] wCall wLoop
attribute [local go_sem] decide_true decide_false Bool.and_true Bool.true_and Bool.and_self Bool.false_and Bool.and_false vMs vCs vIs Slots At Tr.get_z Tr.get_l Tr.get_r Tr.get_e Tr.set_z_e Tr.set_z_n Tr.set_l_e Tr.set_l_n Tr.set_r_e Tr.set_r_n eOs_n eOs_c eDs_n eDs_c ekOs ekDs ekPut ekBack ekSeq_n ekSeq_x ekSeq_r ekBlk_n ekBlk_x ekBlk_r eO_mk eO_gd eO_loc eO_locb eD_mk eD_loc eD_locb eD_gd eDr eC_skip eC_reg eC_drw eC_seq eC_cond eC_block eC_loop eC_exit eC_ret eRetW_n eRetW_r wk wkL eRet_n eRet_r ekLd_n ekLd_x ekLd_r ekLp_n ekLp_x ekLp_r wI wBin wBd vev vov vovs vplace vouter ofDV ofDVs vcells spl vfills vput vuse vuseP vback vbackP wOf vbare isVarV vkeep hget hset hdels hdel hkeys live vw vwL keysV keysL pureV pureL vsrc veqs vmx vmn vT cT vC cC VOb.cells vres vrsL vrs1 vone List.length_cons List.length_nil List.getElem?_cons_zero List.getElem?_cons_succ List.take_succ_cons List.take_zero List.drop_succ_cons List.drop_zero List.drop_nil List.take_nil List.nil_append List.cons_append List.append_nil Option.some.injEq Nat.zero_add Nat.add_zero if_true if_false ite_true ite_false true_and and_true false_and and_false true_implies implies_true false_implies Bool.true_eq_false Bool.false_eq_true Bool.not_true Bool.not_false eq_self_iff_true Int.toNat_natCast Int.ofNat_eq_natCast Int.ofNat_zero Int.ofNat_one Int.cast_ofNat_Int VV.int.injEq VV.bool.injEq cond_true cond_false

def magI (n : Int) : Int := if n < 0 then IntKind.i64.wrap (0 - n) else n
theorem mag_ok (n : Int) : VPure FT p68 [.int .i64 n] (.int .i64 (magI n)) := by
  refine vpure_of_body (f := p68) rfl rfl ?_
  simp (implicitDefEqProofs := false) only [go_sem, reduceCtorEq, Nat.reduceAdd, Nat.reduceMul, Nat.reduceLeDiff, Nat.reduceLT, Nat.reduceEqDiff, Int.reduceNegSucc, ↓gs_tt, ↓gs_ff, ↓gs_tf, ↓gs_ft]
  unfold magI
  refine gs_t (fun h => ?_) (fun h => ?_)
  · simp at h; rw [if_pos h]
  · simp at h; rw [if_neg (by omega)]
theorem rPick_ok (lo hi : Int) : VPure FT p36 [.int .i64 lo, .int .i64 hi] (.tup [.int .i64 (if hi < lo then 0 else if 0 < lo then lo else if hi < 0 then hi else 0), .bool (decide (lo ≤ hi))]) := by
  refine vpure_of_body (f := p36) rfl rfl ?_
  simp (implicitDefEqProofs := false) only [go_sem, reduceCtorEq, Nat.reduceAdd, Nat.reduceMul, Nat.reduceLeDiff, Nat.reduceLT, Nat.reduceEqDiff, Int.reduceNegSucc, ↓gs_tt, ↓gs_ff, ↓gs_tf, ↓gs_ft]
  refine gs_t (fun h => ?_) (fun h => gs_t (fun h1 => ?_) (fun h1 => gs_t (fun h2 => ?_) (fun h2 => ?_))) <;> simp at * <;> (repeat' split) <;> (try omega) <;> (refine ⟨?_, ?_⟩ <;> (try omega) <;> (try rfl))
end Go.Proofs.Ythdlkpmhjbaplaa.Dx
