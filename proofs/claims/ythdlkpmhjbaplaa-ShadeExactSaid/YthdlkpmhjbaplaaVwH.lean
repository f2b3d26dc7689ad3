/- The law of what the page says of shade: what ShadeExact comes to. No statement of this seat is proved here. -/
import Derived.Test.YthdlkpmhjbaplaaVwE
set_option autoImplicit false
set_option linter.unusedSimpArgs false
set_option linter.unusedVariables false
set_option maxRecDepth 10000
namespace Go.Proofs.Ythdlkpmhjbaplaa.Dx
open Go
attribute [local irreducible] wCall wLoop
attribute [local go_sem] decide_true decide_false Bool.and_true Bool.true_and Bool.and_self Bool.false_and Bool.and_false vMs vCs vIs Slots At Tr.get_z Tr.get_l Tr.get_r Tr.get_e Tr.set_z_e Tr.set_z_n Tr.set_l_e Tr.set_l_n Tr.set_r_e Tr.set_r_n eOs_n eOs_c eDs_n eDs_c ekOs ekDs ekPut ekBack ekSeq_n ekSeq_x ekSeq_r ekBlk_n ekBlk_x ekBlk_r eO_mk eO_gd eO_loc eO_locb eD_mk eD_loc eD_locb eD_gd eDr eC_skip eC_reg eC_drw eC_seq eC_cond eC_block eC_loop eC_exit eC_ret eRetW_n eRetW_r wk wkL eRet_n eRet_r ekLd_n ekLd_x ekLd_r ekLp_n ekLp_x ekLp_r wI wBin wBd vev vov vovs vplace vouter ofDV ofDVs vcells spl vfills vput vuse vuseP vback vbackP wOf vbare isVarV vkeep hget hset hdels hdel hkeys live vw vwL keysV keysL pureV pureL vsrc veqs vmx vmn vT cT vC cC VOb.cells vres vrsL vrs1 vone List.length_cons List.length_nil List.getElem?_cons_zero List.getElem?_cons_succ List.take_succ_cons List.take_zero List.drop_succ_cons List.drop_zero List.drop_nil List.take_nil List.nil_append List.cons_append List.append_nil Option.some.injEq Nat.zero_add Nat.add_zero if_true if_false ite_true ite_false true_and and_true false_and and_false true_implies implies_true false_implies Bool.true_eq_false Bool.false_eq_true Bool.not_true Bool.not_false eq_self_iff_true Int.toNat_natCast Int.ofNat_eq_natCast Int.ofNat_zero Int.ofNat_one Int.cast_ofNat_Int VV.int.injEq VV.bool.injEq cond_true cond_false

theorem w000 : IntKind.i64.wrap ((0 : Int) + 0) = 0 := rfl
theorem dm1lt : decide ((-1 : Int) < 0) = true := rfl
theorem bft : (false != true) = true := rfl
theorem dE5 : decide ((5 : Int) = 5) = true := rfl
theorem dE12 : decide ((12 : Int) = 12) = true := rfl
theorem dE50 : decide ((5 : Int) = 0) = false := rfl
theorem dE110 : decide ((11 : Int) = 0) = false := rfl
theorem dE1e : decide ((1 : Int) = 1) = true := rfl
theorem dE15 : decide ((1 : Int) = 5) = false := rfl
theorem drop_small {l : List Cons} {v : Int} (hs : smallC l) (h60 : l.length ≤ 60) (hok : l.all okC = true) (h0 : dropErr l v = 0) : smallC (dropList l v) := by
  refine ⟨?_, ?_⟩
  · rw [dropList_len]
    have h1 : (othersOf l v).length ≤ 60 := Nat.le_trans (List.length_filter_le _ _) h60
    have h2 : (lowsOf l v).length * (highsOf l v).length ≤ 60 * 60 := Nat.mul_le_mul (Nat.le_trans (List.length_filter_le _ _) h60) (Nat.le_trans (List.length_filter_le _ _) h60)
    omega
  · intro x hx
    rcases List.mem_append.1 hx with hx | hx
    · exact hs.all x (List.mem_filter.1 hx).1
    · rcases drop_spec (v := v) hok with h | ⟨_, h⟩
      · omega
      · have := (okC_parts (h x hx).2.2).2.1; omega
theorem swap_small {l : List Cons} {v c : Int} {b : List Mono} (hs : smallC l) (hb : b.length ≤ 400000) (h60 : ∀ x ∈ l, x.t.l.length ≤ 60) : smallC (swapL l v c b) := by
  refine ⟨by have := hs.len; simpa [swapL] using this, ?_⟩
  intro y hy
  obtain ⟨x, hx, rfl⟩ := List.mem_map.1 hy
  have := putR_len x.t.c x.t.l v c b
  have := h60 x hx
  simp only [swapC, swapX]; omega
theorem swap_code {l : List Cons} {v c : Int} {b : List Mono} (hr : rightB l v = true) (hb : okT c b = true) : (swapE l v c b = 0) ∨ swapE l v c b = 12 := by
  unfold swapE; rw [if_neg (by simp [hr, hb])]; split <;> simp
theorem drop_code {l : List Cons} {v : Int} (hok : l.all okC = true) : dropErr l v = 0 ∨ dropErr l v = 12 := by
  rcases drop_spec (v := v) hok with h | ⟨h, _⟩
  · exact .inr h
  · exact .inl h
/-- What is told of the first unit, by both. -/
theorem unit_both {l : List Cons} (ht : l.all okC = true) : ∃ A B C K W : Int, unitV l = .tup [.int .i64 A, .int .i64 B, .int .i64 C] ∧ rUnitV l = .tup [.int .i64 K, .int .i64 W] ∧
    ((decide (K < 0) = true ∧ C = 5 ∧ A = 0 ∧ B = 0) ∨ (decide (K < 0) = false ∧ C = 0 ∧ decide (A = K) = true ∧ decide (B = W) = true)) := by
  have hr0 := rightB_zero ht
  unfold unitV rUnitV
  rw [if_pos hr0]
  rcases unitOf_cases l 0 with ⟨hu, _⟩ | ⟨j, x, u, hu, _⟩
  · simp only [Int.natCast_zero] at hu; rw [hu]
    exact ⟨_, _, _, _, _, rfl, rfl, .inl ⟨rfl, rfl, rfl, rfl⟩⟩
  · simp only [Int.natCast_zero] at hu; rw [hu]
    exact ⟨_, _, _, _, _, rfl, rfl, .inr ⟨by simp, rfl, by simp, by simp⟩⟩
/-- What is told of what is put for, by both. -/
theorem swap_both {l : List Cons} {v c : Int} {b : List Mono} (hr : rightB l v = true) (hs : smallC l) (h60 : ∀ x ∈ l, x.t.l.length ≤ 60) (hb : b.length ≤ 400000) : ∃ (T RB : Bool) (WL : List Cons) (WE : Int),
    okT c b = T ∧ swapV l v c b = .tup [.fz WL.length none 3 (encC WL), .int .i64 WE] ∧ (T = true → rSwapV l v c b = .tup [.fz WL.length none 3 (encC WL), .bool RB]) ∧ smallC WL ∧
    ((T = false ∧ WE = 1 ∧ RB = false ∧ decide ((WL.length : Int) = 0) = true) ∨ (T = true ∧ WE = 0 ∧ RB = true ∧ T = true) ∨ (T = true ∧ WE = 12 ∧ RB = false ∧ decide ((WL.length : Int) = 0) = true)) := by
  have h0 : smallC [] := ⟨by simp, by simp⟩
  unfold swapV rSwapV
  cases hh : okT c b with
  | false =>
    have : swapE l v c b = 1 := by unfold swapE; rw [if_pos (.inr hh)]
    rw [this, if_pos (by decide)]
    exact ⟨false, false, [], 1, rfl, rfl, (by intro h; cases h), h0, .inl ⟨rfl, rfl, rfl, rfl⟩⟩
  | true =>
    rcases swap_code hr hh with h | h
    · rw [h, if_neg (by decide)]
      exact ⟨true, true, _, 0, rfl, rfl, fun _ => rfl, swap_small hs hb h60, .inr (.inl ⟨rfl, rfl, rfl, rfl⟩)⟩
    · rw [h, if_pos (by decide)]
      exact ⟨true, false, [], 12, rfl, rfl, fun _ => rfl, h0, .inr (.inr ⟨rfl, rfl, rfl, rfl⟩)⟩
/-- What is told of what is left, by both. -/
theorem drop_both {l : List Cons} {v : Int} (hr : rightB l v = true) (hs : smallC l) (h60 : l.length ≤ 60) : ∃ (DB : Bool) (DL : List Cons) (DE : Int),
    dropV l v = .tup [.fz DL.length none 3 (encC DL), .int .i64 DE] ∧ smallC DL ∧
    ((hasB l v = true ∧ DE = 11 ∧ DL = []) ∨ (hasB l v = false ∧ rDropV l v = .tup [.fz DL.length none 3 (encC DL), .bool DB] ∧ ((DE = 0 ∧ DB = true ∧ DE = 0) ∨ (DE = 12 ∧ DB = false ∧ decide ((DL.length : Int) = 0) = true)))) := by
  have h0 : smallC [] := ⟨by simp, by simp⟩
  have ht : l.all okC = true := List.all_eq_true.2 (right_parts hr).2
  unfold dropV rDropV
  cases hh : hasB l v with
  | true =>
    have : mayE l v = 11 := by unfold mayE; rw [if_neg (by simp [hr]), if_pos hh]
    rw [this, if_pos (by decide)]
    exact ⟨false, [], 11, rfl, h0, .inl ⟨rfl, rfl, rfl⟩⟩
  | false =>
    have : mayE l v = 0 := by unfold mayE; rw [if_neg (by simp [hr]), if_neg (by simp [hh])]
    rw [this, if_neg (by decide)]
    rcases drop_code (v := v) ht with h | h
    · have := drop_small (v := v) hs h60 ht h
      rw [h, if_neg (by decide)]
      exact ⟨true, dropList l v, 0, rfl, this, .inr ⟨rfl, rfl, .inl ⟨rfl, rfl, rfl⟩⟩⟩
    · rw [h, if_pos (by decide)]
      exact ⟨false, [], 12, rfl, h0, .inr ⟨rfl, rfl, .inr ⟨rfl, rfl, rfl⟩⟩⟩
/-- What is told of the span, by both. -/
theorem span_both {l : List Cons} {v : Int} {vals : List Int} (hr : rightB l v = true) : ∃ LO HI SE W : Int,
    spanV l v vals = .tup [.int .i64 LO, .int .i64 HI, .int .i64 SE] ∧ spanMayE l v vals = W ∧
    ((hasB l v = true ∧ LO = 0 ∧ HI = 0 ∧ SE = 11) ∨ (hasB l v = false ∧ decide (SE = W) = true ∧ ((decide (W = 0) = false ∧ IntKind.i64.wrap (LO + HI) = 0) ∨
      (decide (W = 0) = true ∧ mayFar l v vals.length = false ∧ vals.any outB = false ∧ rSpanV l v vals = .tup [.int .i64 LO, .int .i64 HI])))) := by
  have h0 : toldE 0 [] vals = if vals.any outB = true then 1 else 0 := by
    unfold toldE; rw [if_neg (by decide), if_neg (by simp)]
  unfold spanV
  rw [span_split]
  cases hh : hasB l v with
  | true =>
    have hm : mayE l v = 11 := by unfold mayE; rw [if_neg (by simp [hr]), if_pos hh]
    have : spanE l v vals = 11 := by unfold spanE; rw [hm]; rfl
    rw [this, if_neg (by decide)]; exact ⟨_, _, _, _, rfl, rfl, .inl ⟨rfl, rfl, rfl, rfl⟩⟩
  | false =>
    have hm : mayE l v = 0 := by unfold mayE; rw [if_neg (by simp [hr]), if_neg (by simp [hh])]
    have hse : spanE l v vals = if mayFar l v vals.length = true then 5 else if vals.any outB = true then 1 else 0 := by
      unfold spanE; rw [hm, if_neg (by decide), far_eq]
    unfold spanMayE
    rw [hse, h0]
    cases hf : mayFar l v vals.length with
    | true => exact ⟨_, _, _, _, rfl, rfl, .inr ⟨rfl, rfl, .inl ⟨rfl, rfl⟩⟩⟩
    | false =>
      cases ho : vals.any outB with
      | true => exact ⟨_, _, _, _, rfl, rfl, .inr ⟨rfl, rfl, .inl ⟨rfl, rfl⟩⟩⟩
      | false => exact ⟨_, _, _, _, rfl, rfl, .inr ⟨rfl, rfl, .inr ⟨rfl, rfl, rfl, rfl⟩⟩⟩
set_option maxHeartbeats 4000000 in
theorem ExactL_ok (l : List Cons) (v : Int) (vals : List Int) (c : Int) (b : List Mono) (i : Int) :
    VPure FT p5 [.fz l.length none 3 (encC l), .int .i64 v, .fz vals.length none 1 (encI vals), .agg [.int .i64 c, .fz b.length none 2 (encM b)], .int .i64 i] (.bool true) := by
  refine vpure_of_body' (f := p5) rfl rfl ?_
  simp (implicitDefEqProofs := false) only [go_sem, reduceCtorEq, Nat.reduceAdd, Nat.reduceMul, Nat.reduceLeDiff, Nat.reduceLT, Nat.reduceEqDiff, Int.reduceNegSucc, ↓gs_tt, ↓gs_ff, ↓gs_tf, ↓gs_ft]
  by_cases hv : heavyB l = true
  · repeat' (first | (with_reducible refine And.intro ?_ ?_) | (with_reducible refine gs_t ?_ ?_) | (with_reducible refine gs_f ?_ ?_) | (intro _) | ((with_reducible apply wCall_any); (· (simp (implicitDefEqProofs := false) only [go_sem, reduceCtorEq, Nat.reduceAdd, Nat.reduceMul, Nat.reduceLeDiff, Nat.reduceLT, Nat.reduceEqDiff, Int.reduceNegSucc, ↓gs_tt, ↓gs_ff, ↓gs_tf, ↓gs_ft] <;> rfl)); (· (exact Heavy14_ok l)); (· rfl); (· rfl); (· (first | exact Eq.refl true | exact Eq.refl false)); (simp (implicitDefEqProofs := false) only [hv, go_sem, reduceCtorEq, Nat.reduceAdd, Nat.reduceMul, Nat.reduceLeDiff, Nat.reduceLT, Nat.reduceEqDiff, Int.reduceNegSucc, ↓gs_tt, ↓gs_ff, ↓gs_tf, ↓gs_ft])) | fail)
  have hv' : heavyB l = false := by simpa using hv
  have hs := smallC_of_light hv'
  have h60 : l.length ≤ 60 := by simp [heavyB] at hv'; omega
  have h60' : ∀ x ∈ l, x.t.l.length ≤ 60 := by simp [heavyB] at hv'; exact hv'.2
  by_cases hn80 : 80 < vals.length
  · have e1 : decide ((80 : Int) < (vals.length : Int)) = true := by simp; omega
    repeat' (first | (with_reducible refine And.intro ?_ ?_) | (with_reducible refine gs_t ?_ ?_) | (with_reducible refine gs_f ?_ ?_) | (intro _) | ((with_reducible apply wCall_any); (· (simp (implicitDefEqProofs := false) only [go_sem, reduceCtorEq, Nat.reduceAdd, Nat.reduceMul, Nat.reduceLeDiff, Nat.reduceLT, Nat.reduceEqDiff, Int.reduceNegSucc, ↓gs_tt, ↓gs_ff, ↓gs_tf, ↓gs_ft] <;> rfl)); (· (exact Heavy14_ok l)); (· rfl); (· rfl); (· (first | exact Eq.refl true | exact Eq.refl false)); (simp (implicitDefEqProofs := false) only [hv', e1, go_sem, reduceCtorEq, Nat.reduceAdd, Nat.reduceMul, Nat.reduceLeDiff, Nat.reduceLT, Nat.reduceEqDiff, Int.reduceNegSucc, ↓gs_tt, ↓gs_ff, ↓gs_tf, ↓gs_ft])) | fail)
  have e1 : decide ((80 : Int) < (vals.length : Int)) = false := by simp; omega
  by_cases hb60 : 60 < b.length
  · have e2 : decide ((60 : Int) < (b.length : Int)) = true := by simp; omega
    repeat' (first | (with_reducible refine And.intro ?_ ?_) | (with_reducible refine gs_t ?_ ?_) | (with_reducible refine gs_f ?_ ?_) | (intro _) | ((with_reducible apply wCall_any); (· (simp (implicitDefEqProofs := false) only [go_sem, reduceCtorEq, Nat.reduceAdd, Nat.reduceMul, Nat.reduceLeDiff, Nat.reduceLT, Nat.reduceEqDiff, Int.reduceNegSucc, ↓gs_tt, ↓gs_ff, ↓gs_tf, ↓gs_ft] <;> rfl)); (· (exact Heavy14_ok l)); (· rfl); (· rfl); (· (first | exact Eq.refl true | exact Eq.refl false)); (simp (implicitDefEqProofs := false) only [hv', e1, e2, go_sem, reduceCtorEq, Nat.reduceAdd, Nat.reduceMul, Nat.reduceLeDiff, Nat.reduceLT, Nat.reduceEqDiff, Int.reduceNegSucc, ↓gs_tt, ↓gs_ff, ↓gs_tf, ↓gs_ft])) | fail)
  have e2 : decide ((60 : Int) < (b.length : Int)) = false := by simp; omega
  have hE := Exact_ok l v hs
  have hD := Drop_ok l v hs
  have hS := Span_ok l v vals hs (by omega)
  have hU := Unit_ok l hs
  have hW := Swap_ok l v c b hs (by omega)
  have hK := keepC_ok l hs
  by_cases hr : rightB l v = true
  case neg =>
    have hr' : rightB l v = false := by simpa using hr
    have hm : mayE l v = 1 := by unfold mayE; rw [if_pos hr']
    have hE' : (if mayE l v = 0 then exactB l v else false) = false := by rw [hm]; rfl
    have hD' : dropV l v = .tup [.fz 0 none 3 [], .int .i64 1] := by unfold dropV; rw [hm]; rfl
    have hSe : spanE l v vals = 1 := by unfold spanE; rw [hm]; rfl
    have hS' : spanV l v vals = .tup [.int .i64 0, .int .i64 0, .int .i64 1] := by unfold spanV; rw [hSe]; rfl
    have hWe : swapE l v c b = 1 := by unfold swapE; rw [if_pos (.inl hr')]
    have hW' : swapV l v c b = .tup [.fz 0 none 3 [], .int .i64 1] := by unfold swapV; rw [hWe]; rfl
    rw [hE', hm] at hE
    rw [hD'] at hD
    rw [hS'] at hS
    rw [hW'] at hW
    by_cases ht : l.all okC = true
    · have hRU := rUnit_ok l hs ht
      have hout : ¬ (0 ≤ v ∧ v < 40) := fun h => hr (by simp [rightB, ht, h.1, h.2])
      have hmay : (decide (0 ≤ v) = false ∧ decide (0 ≤ v) = false) ∨ (decide (0 ≤ v) = true ∧ decide (v < 40) = false) := by
        by_cases h : 0 ≤ v
        · exact .inr ⟨decide_eq_true h, decide_eq_false fun h2 => hout ⟨h, h2⟩⟩
        · exact .inl ⟨decide_eq_false h, decide_eq_false h⟩
      obtain ⟨A, B, C, K, W, x1, x2, x3⟩ := unit_both ht
      rw [x1] at hU
      rw [x2] at hRU
      rcases x3 with ⟨u1, u2, u3, u4⟩ | ⟨u1, u2, u3, u4⟩ <;> rcases hmay with ⟨m1, m2⟩ | ⟨m1, m2⟩
      all_goals repeat' (first | (with_reducible refine And.intro ?_ ?_) | (with_reducible refine gs_t ?_ ?_) | (with_reducible refine gs_f ?_ ?_) | (intro _) | ((with_reducible apply wCall_any); (· (simp (implicitDefEqProofs := false) only [go_sem, reduceCtorEq, Nat.reduceAdd, Nat.reduceMul, Nat.reduceLeDiff, Nat.reduceLT, Nat.reduceEqDiff, Int.reduceNegSucc, ↓gs_tt, ↓gs_ff, ↓gs_tf, ↓gs_ft] <;> rfl)); (· (first | exact Heavy14_ok l | exact TwinC_ok l hs | exact hE | exact hD | exact hS | exact hU | exact hW | exact hRU | exact hK | exact Terms_ok l hs | exact wakes_ok)); (· rfl); (· rfl); (· (first | exact Eq.refl true | exact Eq.refl false)); (simp (implicitDefEqProofs := false) only [hv', e1, e2, ht, m1, m2, u1, u2, u3, u4, Bool.not_true, Bool.not_false, dE1e, dE5, w000, s0eq, go_sem, reduceCtorEq, Nat.reduceAdd, Nat.reduceMul, Nat.reduceLeDiff, Nat.reduceLT, Nat.reduceEqDiff, Int.reduceNegSucc, ↓gs_tt, ↓gs_ff, ↓gs_tf, ↓gs_ft])) | fail)
    · have ht' : l.all okC = false := by simpa using ht
      have hU' : unitV l = .tup [.int .i64 0, .int .i64 0, .int .i64 1] := by
        unfold unitV; rw [if_neg (by intro h; exact ht (by simp only [rightB, Bool.and_eq_true] at h; exact h.2))]
      rw [hU'] at hU
      have hRU := hU
      repeat' (first | (with_reducible refine And.intro ?_ ?_) | (with_reducible refine gs_t ?_ ?_) | (with_reducible refine gs_f ?_ ?_) | (intro _) | ((with_reducible apply wCall_any); (· (simp (implicitDefEqProofs := false) only [go_sem, reduceCtorEq, Nat.reduceAdd, Nat.reduceMul, Nat.reduceLeDiff, Nat.reduceLT, Nat.reduceEqDiff, Int.reduceNegSucc, ↓gs_tt, ↓gs_ff, ↓gs_tf, ↓gs_ft] <;> rfl)); (· (first | exact Heavy14_ok l | exact TwinC_ok l hs | exact hE | exact hD | exact hS | exact hU | exact hW | exact hRU | exact hK | exact Terms_ok l hs | exact wakes_ok)); (· rfl); (· rfl); (· (first | exact Eq.refl true | exact Eq.refl false)); (simp (implicitDefEqProofs := false) only [hv', e1, e2, ht', Bool.not_true, Bool.not_false, dE1e, w000, s0eq, go_sem, reduceCtorEq, Nat.reduceAdd, Nat.reduceMul, Nat.reduceLeDiff, Nat.reduceLT, Nat.reduceEqDiff, Int.reduceNegSucc, ↓gs_tt, ↓gs_ff, ↓gs_tf, ↓gs_ft])) | fail)
  obtain ⟨hvr, hall⟩ := right_parts hr
  have ht : l.all okC = true := List.all_eq_true.2 hall
  have m1 : decide (0 ≤ v) = true := by simpa using hvr.1
  have m2 : decide (v < 40) = true := by simpa using hvr.2
  have hRU := rUnit_ok l hs ht
  have hQ := equal_ok l v i hs hr
  have hB := EqHas_ok l v hs
  have hRE := rExact_ok l v hs
  have hRD := rDrop_ok l v hs ht
  have hM := spanMay_ok l v vals hs (by omega)
  have hRt := Right_ok c b (by omega)
  have hP := Pick_ok v i
  have hRP := rPick_ok v i
  have hPe : (if i < v then 0 else min (max 0 v) i) = (if i < v then 0 else if 0 < v then v else if i < 0 then i else 0) := by
    repeat' split
    all_goals omega
  rw [hPe] at hP
  generalize (if i < v then 0 else if 0 < v then v else if i < 0 then i else 0) = PN at hP hRP
  generalize decide (v ≤ i) = PB at hP hRP
  -- what is told, by names
  obtain ⟨A, B, C, K, W, x1, x2, x3⟩ := unit_both ht
  rw [x1] at hU
  rw [x2] at hRU
  obtain ⟨T, RB, WL, WE, y1, y2, y3, y4, y5⟩ := swap_both (c := c) (b := b) hr hs h60' (by omega)
  rw [y1] at hRt
  rw [y2] at hW
  have hKW := keepC_ok WL y4
  obtain ⟨DB, DL, DE, z1, z2, z3⟩ := drop_both hr hs h60
  rw [z1] at hD
  have hKD := keepC_ok DL z2
  obtain ⟨LO, HI, SE, WS, s1, s2, s3⟩ := span_both (vals := vals) hr
  rw [s1] at hS
  rw [s2] at hM
  have hX : (hasB l v = true ∧ mayE l v = 11 ∧ (if mayE l v = 0 then exactB l v else false) = false) ∨ (hasB l v = false ∧ mayE l v = 0 ∧ (if mayE l v = 0 then exactB l v else false) = exactB l v) := by
    cases hh : hasB l v with
    | true =>
      have h : mayE l v = 11 := by unfold mayE; rw [if_neg (by simp [hr]), if_pos hh]
      rw [h]; exact .inl ⟨rfl, rfl, rfl⟩
    | false =>
      have h : mayE l v = 0 := by unfold mayE; rw [if_neg (by simp [hr]), if_neg (by simp [hh])]
      rw [h]; exact .inr ⟨rfl, rfl, rfl⟩
  generalize (if mayE l v = 0 then exactB l v else false) = X at hE hX
  generalize mayE l v = M at hE hX
  generalize exactB l v = X0 at hRE hX
  have hRW : T = true → VPure FT p29 [.fz l.length none 3 (encC l), .int .i64 v, .agg [.int .i64 c, .fz b.length none 2 (encM b)]] (.tup [.fz WL.length none 3 (encC WL), .bool RB]) := fun h => by
    rw [← y3 h]; exact rSwap_ok l v c b hr hs (by rw [y1, h])
  clear y2 y3 z1 s1 s2 x1 x2
  rcases x3 with ⟨u1, u2, u3, u4⟩ | ⟨u1, u2, u3, u4⟩
  all_goals
    repeat' (first | (with_reducible refine And.intro ?_ ?_) | (with_reducible refine gs_t ?_ ?_) | (with_reducible refine gs_f ?_ ?_) | (intro _) | ((with_reducible apply wCall_any); (· (simp (implicitDefEqProofs := false) only [go_sem, reduceCtorEq, Nat.reduceAdd, Nat.reduceMul, Nat.reduceLeDiff, Nat.reduceLT, Nat.reduceEqDiff, Int.reduceNegSucc, ↓gs_tt, ↓gs_ff, ↓gs_tf, ↓gs_ft] <;> rfl)); (· (first | exact Heavy14_ok l | exact TwinC_ok l hs | exact hE | exact hD | exact hS | exact hU | exact hW | exact hRU | exact hK | exact Terms_ok l hs)); (· rfl); (· rfl); (· (first | exact Eq.refl true | exact Eq.refl false)); (simp (implicitDefEqProofs := false) only [hv', e1, e2, ht, m1, m2, u1, u2, u3, u4, Bool.not_true, Bool.not_false, dE1e, dE5, w000, s0eq, go_sem, reduceCtorEq, Nat.reduceAdd, Nat.reduceMul, Nat.reduceLeDiff, Nat.reduceLT, Nat.reduceEqDiff, Int.reduceNegSucc, ↓gs_tt, ↓gs_ff, ↓gs_tf, ↓gs_ft])) | fail)
    rcases y5 with ⟨w1, w2, w3, w4⟩ | ⟨w1, w2, w3, w4⟩ | ⟨w1, w2, w3, w4⟩
    all_goals
      repeat' (first | (with_reducible refine And.intro ?_ ?_) | (with_reducible refine gs_t ?_ ?_) | (with_reducible refine gs_f ?_ ?_) | (intro _) | ((with_reducible apply wCall_any); (· (simp (implicitDefEqProofs := false) only [go_sem, reduceCtorEq, Nat.reduceAdd, Nat.reduceMul, Nat.reduceLeDiff, Nat.reduceLT, Nat.reduceEqDiff, Int.reduceNegSucc, ↓gs_tt, ↓gs_ff, ↓gs_tf, ↓gs_ft] <;> rfl)); (· (first | exact hRt | exact hRW w1 | exact hKW)); (· rfl); (· rfl); (· (first | exact Eq.refl true | exact Eq.refl false)); (simp (implicitDefEqProofs := false) only [w1, w2, w3, w4, dE1e, s0eq, dE12, Bool.not_true, Bool.not_false, go_sem, reduceCtorEq, Nat.reduceAdd, Nat.reduceMul, Nat.reduceLeDiff, Nat.reduceLT, Nat.reduceEqDiff, Int.reduceNegSucc, ↓gs_tt, ↓gs_ff, ↓gs_tf, ↓gs_ft])) | fail)
      rcases hX with ⟨h1, h2, h3⟩ | ⟨h1, h2, h3⟩
      · rw [h1] at hB
        obtain ⟨-, d1, d2⟩ := z3.resolve_right (by rw [h1]; simp)
        obtain ⟨-, g1, g2, g3⟩ := s3.resolve_right (by rw [h1]; simp)
        repeat' (first | (with_reducible refine And.intro ?_ ?_) | (with_reducible refine gs_t ?_ ?_) | (with_reducible refine gs_f ?_ ?_) | (intro _) | ((with_reducible apply wCall_any); (· (simp (implicitDefEqProofs := false) only [go_sem, reduceCtorEq, Nat.reduceAdd, Nat.reduceMul, Nat.reduceLeDiff, Nat.reduceLT, Nat.reduceEqDiff, Int.reduceNegSucc, ↓gs_tt, ↓gs_ff, ↓gs_tf, ↓gs_ft] <;> rfl)); (· (first | exact hB | exact hQ | exact wakes_ok)); (· rfl); (· rfl); (· (first | exact Eq.refl true | exact Eq.refl false)); (simp (implicitDefEqProofs := false) only [h2, h3, d1, d2, g1, g2, g3, encC, dE11', w000, s0eq, Bool.not_true, Bool.not_false, go_sem, reduceCtorEq, Nat.reduceAdd, Nat.reduceMul, Nat.reduceLeDiff, Nat.reduceLT, Nat.reduceEqDiff, Int.reduceNegSucc, ↓gs_tt, ↓gs_ff, ↓gs_tf, ↓gs_ft])) | fail)
      rw [h1] at hB
      obtain ⟨-, d0, hd⟩ := z3.resolve_left (by rw [h1]; simp)
      obtain ⟨-, g0, hg⟩ := s3.resolve_left (by rw [h1]; simp)
      rw [d0] at hRD
      rcases hd with ⟨d1, d2, d3⟩ | ⟨d1, d2, d3⟩
      all_goals
        repeat' (first | (with_reducible refine And.intro ?_ ?_) | (with_reducible refine gs_t ?_ ?_) | (with_reducible refine gs_f ?_ ?_) | (intro _) | ((with_reducible apply wCall_any); (· (simp (implicitDefEqProofs := false) only [go_sem, reduceCtorEq, Nat.reduceAdd, Nat.reduceMul, Nat.reduceLeDiff, Nat.reduceLT, Nat.reduceEqDiff, Int.reduceNegSucc, ↓gs_tt, ↓gs_ff, ↓gs_tf, ↓gs_ft] <;> rfl)); (· (first | exact hB | exact hRE | exact hRD | exact hKD)); (· rfl); (· rfl); (· (first | exact Eq.refl true | exact Eq.refl false)); (simp (implicitDefEqProofs := false) only [h2, h3, d1, d2, d3, bself, s0eq, dE12, btt, bff, Bool.not_true, Bool.not_false, go_sem, reduceCtorEq, Nat.reduceAdd, Nat.reduceMul, Nat.reduceLeDiff, Nat.reduceLT, Nat.reduceEqDiff, Int.reduceNegSucc, ↓gs_tt, ↓gs_ff, ↓gs_tf, ↓gs_ft])) | fail)
        rcases hg with ⟨g1, g2⟩ | ⟨g1, g2, g3, g4⟩
        · repeat' (first | (with_reducible refine And.intro ?_ ?_) | (with_reducible refine gs_t ?_ ?_) | (with_reducible refine gs_f ?_ ?_) | (intro _) | ((with_reducible apply wCall_any); (· (simp (implicitDefEqProofs := false) only [go_sem, reduceCtorEq, Nat.reduceAdd, Nat.reduceMul, Nat.reduceLeDiff, Nat.reduceLT, Nat.reduceEqDiff, Int.reduceNegSucc, ↓gs_tt, ↓gs_ff, ↓gs_tf, ↓gs_ft] <;> rfl)); (· (first | exact hM | exact hP | exact hRP | exact hQ | exact wakes_ok)); (· rfl); (· rfl); (· (first | exact Eq.refl true | exact Eq.refl false)); (simp (implicitDefEqProofs := false) only [g0, g1, g2, s0eq, dself, bself, bft, btt, bff, Bool.not_true, Bool.not_false, go_sem, reduceCtorEq, Nat.reduceAdd, Nat.reduceMul, Nat.reduceLeDiff, Nat.reduceLT, Nat.reduceEqDiff, Int.reduceNegSucc, ↓gs_tt, ↓gs_ff, ↓gs_tf, ↓gs_ft])) | fail)
        · have hRS := rSpan_ok l v vals hs ht (by omega) g2 g3
          rw [g4] at hRS
          repeat' (first | (with_reducible refine And.intro ?_ ?_) | (with_reducible refine gs_t ?_ ?_) | (with_reducible refine gs_f ?_ ?_) | (intro _) | ((with_reducible apply wCall_any); (· (simp (implicitDefEqProofs := false) only [go_sem, reduceCtorEq, Nat.reduceAdd, Nat.reduceMul, Nat.reduceLeDiff, Nat.reduceLT, Nat.reduceEqDiff, Int.reduceNegSucc, ↓gs_tt, ↓gs_ff, ↓gs_tf, ↓gs_ft] <;> rfl)); (· (first | exact hM | exact hRS | exact hP | exact hRP | exact hQ | exact wakes_ok)); (· rfl); (· rfl); (· (first | exact Eq.refl true | exact Eq.refl false)); (simp (implicitDefEqProofs := false) only [g0, g1, dself, bself, bft, btt, bff, Bool.not_true, Bool.not_false, go_sem, reduceCtorEq, Nat.reduceAdd, Nat.reduceMul, Nat.reduceLeDiff, Nat.reduceLT, Nat.reduceEqDiff, Int.reduceNegSucc, ↓gs_tt, ↓gs_ff, ↓gs_tf, ↓gs_ft])) | fail)
end Go.Proofs.Ythdlkpmhjbaplaa.Dx
