/- What sum, fits, Add come to. No statement of this seat is proved here. -/
import Derived.Test.YthdlkpmhjbaplaaVyJ
set_option autoImplicit false
set_option linter.unusedSimpArgs false
set_option linter.unusedVariables false
set_option maxRecDepth 10000
namespace Go.Proofs.Ythdlkpmhjbaplaa.Dx
open Go
attribute [local irreducible] wCall wLoop
attribute [local go_sem] decide_true decide_false Bool.and_true Bool.true_and Bool.and_self Bool.false_and Bool.and_false vMs vCs vIs Slots At Tr.get_z Tr.get_l Tr.get_r Tr.get_e Tr.set_z_e Tr.set_z_n Tr.set_l_e Tr.set_l_n Tr.set_r_e Tr.set_r_n eOs_n eOs_c eDs_n eDs_c ekOs ekDs ekPut ekBack ekSeq_n ekSeq_x ekSeq_r ekBlk_n ekBlk_x ekBlk_r eO_mk eO_gd eO_loc eO_locb eD_mk eD_loc eD_locb eD_gd eDr eC_skip eC_reg eC_drw eC_seq eC_cond eC_block eC_loop eC_exit eC_ret eRetW_n eRetW_r wk wkL eRet_n eRet_r ekLd_n ekLd_x ekLd_r ekLp_n ekLp_x ekLp_r wI wBin wBd vev vov vovs vplace vouter ofDV ofDVs vcells spl vfills vput vuse vuseP vback vbackP wOf vbare isVarV vkeep hget hset hdels hdel hkeys live vw vwL keysV keysL pureV pureL vsrc veqs vmx vmn vT cT vC cC VOb.cells vres vrsL vrs1 vone List.length_cons List.length_nil List.getElem?_cons_zero List.getElem?_cons_succ List.take_succ_cons List.take_zero List.drop_succ_cons List.drop_zero List.drop_nil List.take_nil List.nil_append List.cons_append List.append_nil Option.some.injEq Nat.zero_add Nat.add_zero if_true if_false ite_true ite_false true_and and_true false_and and_false true_implies implies_true false_implies Bool.true_eq_false Bool.false_eq_true Bool.not_true Bool.not_false eq_self_iff_true Int.toNat_natCast Int.ofNat_eq_natCast Int.ofNat_zero Int.ofNat_one Int.cast_ofNat_Int VV.int.injEq VV.bool.injEq

def keepM (m : Mono) (l : List Mono) : List Mono := if m.k = 0 then l else m :: l
def sumM : List Mono → List Mono → List Mono
  | [], [] => []
  | m :: x, [] => keepM m (sumM x [])
  | [], n :: y => keepM n (sumM [] y)
  | m :: x, n :: y => if m.v < n.v then keepM m (sumM x (n :: y)) else if n.v < m.v then keepM n (sumM (m :: x) y) else keepM ⟨m.v, IntKind.i64.wrap (m.k + n.k)⟩ (sumM x y)
termination_by x y => x.length + y.length
theorem encM_g0' (m : Mono) (l : List Mono) : (encM (m :: l))[0]? = some (.int .i64 m.v) := rfl
theorem vsub_one (m : Mono) (l : List Mono) : vsub (encM (m :: l)) 2 1 (l.length + 1) = encM l := by
  unfold vsub
  have : (encM (m :: l)).drop (1 * 2) = encM l := rfl
  rw [this, List.take_of_length_le]
  rw [encM_len]; omega
theorem vsub_two (m : Mono) (l : List Mono) : vsub (.int .i64 m.v :: .int .i64 m.k :: encM l) 2 1 (l.length + 1) = encM l := vsub_one m l
theorem sumY (Y : List Mono) : (decide ((0 : Int) < ((Y.length + 1 : Nat) : Int)) = true) ∧ (decide (((Y.length + 1 : Nat) : Int) = 0) = false) := by
  constructor <;> simp <;> omega
theorem s0lt : decide ((0 : Int) < 0) = false := rfl
theorem s0eq : decide ((0 : Int) = 0) = true := rfl
set_option maxHeartbeats 2000000 in
theorem sum_ok (c : Int) (a : List Mono) (d : Int) (b : List Mono) (ha : a.length ≤ 1000000) (hb : b.length ≤ 1000000) :
    VPure FT p110 [.agg [.int .i64 c, .fz a.length none 2 (encM a)], .agg [.int .i64 d, .fz b.length none 2 (encM b)]] (.agg [.int .i64 (IntKind.i64.wrap (c + d)), .fz (sumM a b).length none 2 (encM (sumM a b))]) := by
  refine vpure_of_body' (f := p110) rfl rfl ?_
  simp (implicitDefEqProofs := false) only [go_sem, reduceCtorEq, Nat.reduceAdd, Nat.reduceMul, Nat.reduceLeDiff, Nat.reduceLT, Nat.reduceEqDiff, Int.reduceNegSucc, ↓gs_tt, ↓gs_ff, ↓gs_tf, ↓gs_ft]
  refine wLoop_ownV p5 1 2 (by simp (implicitDefEqProofs := false) only [go_sem, reduceCtorEq, Nat.reduceAdd, Nat.reduceMul, Nat.reduceLeDiff, Nat.reduceLT, Nat.reduceEqDiff, Int.reduceNegSucc, ↓gs_tt, ↓gs_ff, ↓gs_tf, ↓gs_ft]; rfl) (by rfl) ?_
  simp (implicitDefEqProofs := false) only [go_sem, reduceCtorEq, Nat.reduceAdd, Nat.reduceMul, Nat.reduceLeDiff, Nat.reduceLT, Nat.reduceEqDiff, Int.reduceNegSucc, ↓gs_tt, ↓gs_ff, ↓gs_tf, ↓gs_ft]
  refine wLoop_dr (fun n s => ∃ (O X Y : List Mono) (m : Nat), X.length + Y.length = n ∧ O.length + n ≤ a.length + b.length ∧ At s [(p4, .var [.int .i64 0, .nils]), (p5, .var [.int .i64 (IntKind.i64.wrap (c + d)), .ow 0 O.length 2]), (p6, .fz X.length none 2 (encM X)), (p7, .fz Y.length none 2 (encM Y))] (m + 1) 0 [(0, .row (encM O))] ∧ sumM a b = O ++ sumM X Y) (a.length + b.length) ?_ ?_
  · exact ⟨[], a, b, 0, rfl, by simp, by simp (implicitDefEqProofs := false) only [go_sem, reduceCtorEq, Nat.reduceAdd, Nat.reduceMul, Nat.reduceLeDiff, Nat.reduceLT, Nat.reduceEqDiff, Int.reduceNegSucc, ↓gs_tt, ↓gs_ff, ↓gs_tf, ↓gs_ft]; simp [encM], rfl⟩
  · rintro n ⟨e, nx, w, h⟩ ⟨O, X, Y, mm, hn, hO, ⟨⟨s1, s2, s3, s4, -⟩, rfl, rfl, rfl⟩, hk⟩
    cases X with
    | nil =>
      cases Y with
      | nil =>
        simp (implicitDefEqProofs := false) only [s1, s2, s3, s4, s0lt, s0eq, Int.toNat_zero, Int.toNat_one, Nat.zero_mul, Nat.add_sub_cancel, encM, encM_len, go_sem, reduceCtorEq, Nat.reduceAdd, Nat.reduceMul, Nat.reduceLeDiff, Nat.reduceLT, Nat.reduceEqDiff, Int.reduceNegSucc, ↓gs_tt, ↓gs_ff, ↓gs_tf, ↓gs_ft]
        have : sumM [] [] = [] := by simp [sumM]
        rw [this, List.append_nil] at hk
        rw [hk]
      | cons y Y =>
        have hs : sumM [] (y :: Y) = keepM y (sumM [] Y) := by simp [sumM]
        rw [hs] at hk
        have fin : ∀ Z : List Mono, sumM a b = O ++ keepM y Z → (y.k = 0 → sumM a b = O ++ Z) ∧ (y.k ≠ 0 → sumM a b = (O ++ [y]) ++ Z) := fun Z h => ⟨fun h0 => by rw [h]; simp [keepM, h0], fun h0 => by rw [h]; simp [keepM, h0]⟩
        obtain ⟨fin1, fin2⟩ := fin _ hk
        simp only [List.length_cons, List.length_nil] at hn
        by_cases h0 : y.k = 0
        · have hd : decide (y.k = 0) = true := by simpa using h0
          simp (implicitDefEqProofs := false) only [s1, s2, s3, s4, hd, s0lt, s0eq, Int.toNat_zero, Int.toNat_one, Nat.zero_mul, Nat.add_sub_cancel, encM, sumY Y, vsub_two, encM_len, go_sem, reduceCtorEq, Nat.reduceAdd, Nat.reduceMul, Nat.reduceLeDiff, Nat.reduceLT, Nat.reduceEqDiff, Int.reduceNegSucc, ↓gs_tt, ↓gs_ff, ↓gs_tf, ↓gs_ft]
          repeat' (first | (with_reducible refine And.intro ?_ ?_) | (with_reducible refine gs_t ?_ ?_) | (with_reducible refine gs_f ?_ ?_) | (intro _) | fail)
          all_goals first | omega | skip
          exact ⟨n - 1, by omega, _, subH_refl _, O, [], Y, mm, by simp; omega, by omega, ⟨⟨rfl, rfl, rfl⟩, rfl, rfl⟩, fin1 h0⟩
        · have hd : decide (y.k = 0) = false := by simpa using h0
          simp (implicitDefEqProofs := false) only [s1, s2, s3, s4, hd, s0lt, s0eq, Int.toNat_zero, Int.toNat_one, Nat.zero_mul, Nat.add_sub_cancel, encM, sumY Y, vsub_two, encM_len, go_sem, reduceCtorEq, Nat.reduceAdd, Nat.reduceMul, Nat.reduceLeDiff, Nat.reduceLT, Nat.reduceEqDiff, Int.reduceNegSucc, ↓gs_tt, ↓gs_ff, ↓gs_tf, ↓gs_ft]
          repeat' (first | (with_reducible refine And.intro ?_ ?_) | (with_reducible refine gs_t ?_ ?_) | (with_reducible refine gs_f ?_ ?_) | (intro _) | fail)
          all_goals first | omega | skip
          exact ⟨n - 1, by omega, _, subH_tail (by simp [hget]), O ++ [y], [], Y, mm + 1, by simp; omega, by simp; omega, ⟨⟨by simp, rfl, rfl⟩, rfl, by simp [encM_app, encM]⟩, fin2 h0⟩
    | cons x X =>
      cases Y with
      | nil =>
        have hs : sumM (x :: X) [] = keepM x (sumM X []) := by simp [sumM]
        rw [hs] at hk
        simp only [List.length_cons, List.length_nil] at hn
        by_cases h0 : x.k = 0
        · have hd : decide (x.k = 0) = true := by simpa using h0
          simp (implicitDefEqProofs := false) only [s1, s2, s3, s4, hd, s0lt, s0eq, Int.toNat_zero, Int.toNat_one, Nat.zero_mul, Nat.add_sub_cancel, encM, sumY X, vsub_two, encM_len, go_sem, reduceCtorEq, Nat.reduceAdd, Nat.reduceMul, Nat.reduceLeDiff, Nat.reduceLT, Nat.reduceEqDiff, Int.reduceNegSucc, ↓gs_tt, ↓gs_ff, ↓gs_tf, ↓gs_ft]
          repeat' (first | (with_reducible refine And.intro ?_ ?_) | (with_reducible refine gs_t ?_ ?_) | (with_reducible refine gs_f ?_ ?_) | (intro _) | fail)
          all_goals first | omega | skip
          exact ⟨n - 1, by omega, _, subH_refl _, O, X, [], mm, by simp; omega, by omega, ⟨⟨rfl, rfl, rfl⟩, rfl, rfl⟩, by rw [hk]; simp [keepM, h0]⟩
        · have hd : decide (x.k = 0) = false := by simpa using h0
          simp (implicitDefEqProofs := false) only [s1, s2, s3, s4, hd, s0lt, s0eq, Int.toNat_zero, Int.toNat_one, Nat.zero_mul, Nat.add_sub_cancel, encM, sumY X, vsub_two, encM_len, go_sem, reduceCtorEq, Nat.reduceAdd, Nat.reduceMul, Nat.reduceLeDiff, Nat.reduceLT, Nat.reduceEqDiff, Int.reduceNegSucc, ↓gs_tt, ↓gs_ff, ↓gs_tf, ↓gs_ft]
          repeat' (first | (with_reducible refine And.intro ?_ ?_) | (with_reducible refine gs_t ?_ ?_) | (with_reducible refine gs_f ?_ ?_) | (intro _) | fail)
          all_goals first | omega | skip
          exact ⟨n - 1, by omega, _, subH_tail (by simp [hget]), O ++ [x], X, [], mm + 1, by simp; omega, by simp; omega, ⟨⟨by simp, rfl, rfl⟩, rfl, by simp [encM_app, encM]⟩, by rw [hk]; simp [keepM, h0]⟩
      | cons y Y =>
        simp only [List.length_cons, List.length_nil] at hn
        by_cases hlt : x.v < y.v
        · have hs : sumM (x :: X) (y :: Y) = keepM x (sumM X (y :: Y)) := by rw [sumM, if_pos hlt]
          rw [hs] at hk
          have hd1 : decide (x.v < y.v) = true := by simpa using hlt
          by_cases h0 : x.k = 0
          · have hd : decide (x.k = 0) = true := by simpa using h0
            simp (implicitDefEqProofs := false) only [s1, s2, s3, s4, hd, hd1, s0lt, s0eq, Int.toNat_zero, Int.toNat_one, Nat.zero_mul, Nat.add_sub_cancel, encM, sumY X, sumY Y, vsub_two, encM_len, go_sem, reduceCtorEq, Nat.reduceAdd, Nat.reduceMul, Nat.reduceLeDiff, Nat.reduceLT, Nat.reduceEqDiff, Int.reduceNegSucc, ↓gs_tt, ↓gs_ff, ↓gs_tf, ↓gs_ft]
            repeat' (first | (with_reducible refine And.intro ?_ ?_) | (with_reducible refine gs_t ?_ ?_) | (with_reducible refine gs_f ?_ ?_) | (intro _) | fail)
            all_goals first | omega | skip
            exact ⟨n - 1, by omega, _, subH_refl _, O, X, y :: Y, mm, by simp; omega, by omega, ⟨⟨rfl, rfl, rfl⟩, rfl, rfl⟩, by rw [hk]; simp [keepM, h0]⟩
          · have hd : decide (x.k = 0) = false := by simpa using h0
            simp (implicitDefEqProofs := false) only [s1, s2, s3, s4, hd, hd1, s0lt, s0eq, Int.toNat_zero, Int.toNat_one, Nat.zero_mul, Nat.add_sub_cancel, encM, sumY X, sumY Y, vsub_two, encM_len, go_sem, reduceCtorEq, Nat.reduceAdd, Nat.reduceMul, Nat.reduceLeDiff, Nat.reduceLT, Nat.reduceEqDiff, Int.reduceNegSucc, ↓gs_tt, ↓gs_ff, ↓gs_tf, ↓gs_ft]
            repeat' (first | (with_reducible refine And.intro ?_ ?_) | (with_reducible refine gs_t ?_ ?_) | (with_reducible refine gs_f ?_ ?_) | (intro _) | fail)
            all_goals first | omega | skip
            exact ⟨n - 1, by omega, _, subH_tail (by simp [hget]), O ++ [x], X, y :: Y, mm + 1, by simp; omega, by simp; omega, ⟨⟨by simp, rfl, rfl⟩, rfl, by simp [encM_app, encM]⟩, by rw [hk]; simp [keepM, h0]⟩
        · have hd1 : decide (x.v < y.v) = false := by simpa using hlt
          by_cases hgt : y.v < x.v
          · have hs : sumM (x :: X) (y :: Y) = keepM y (sumM (x :: X) Y) := by rw [sumM, if_neg hlt, if_pos hgt]
            rw [hs] at hk
            have hd2 : decide (y.v < x.v) = true := by simpa using hgt
            by_cases h0 : y.k = 0
            · have hd : decide (y.k = 0) = true := by simpa using h0
              simp (implicitDefEqProofs := false) only [s1, s2, s3, s4, hd, hd1, hd2, s0lt, s0eq, Int.toNat_zero, Int.toNat_one, Nat.zero_mul, Nat.add_sub_cancel, encM, sumY X, sumY Y, vsub_two, encM_len, go_sem, reduceCtorEq, Nat.reduceAdd, Nat.reduceMul, Nat.reduceLeDiff, Nat.reduceLT, Nat.reduceEqDiff, Int.reduceNegSucc, ↓gs_tt, ↓gs_ff, ↓gs_tf, ↓gs_ft]
              repeat' (first | (with_reducible refine And.intro ?_ ?_) | (with_reducible refine gs_t ?_ ?_) | (with_reducible refine gs_f ?_ ?_) | (intro _) | fail)
              all_goals first | omega | skip
              exact ⟨n - 1, by omega, _, subH_refl _, O, x :: X, Y, mm, by simp; omega, by omega, ⟨⟨rfl, rfl, rfl⟩, rfl, rfl⟩, by rw [hk]; simp [keepM, h0]⟩
            · have hd : decide (y.k = 0) = false := by simpa using h0
              simp (implicitDefEqProofs := false) only [s1, s2, s3, s4, hd, hd1, hd2, s0lt, s0eq, Int.toNat_zero, Int.toNat_one, Nat.zero_mul, Nat.add_sub_cancel, encM, sumY X, sumY Y, vsub_two, encM_len, go_sem, reduceCtorEq, Nat.reduceAdd, Nat.reduceMul, Nat.reduceLeDiff, Nat.reduceLT, Nat.reduceEqDiff, Int.reduceNegSucc, ↓gs_tt, ↓gs_ff, ↓gs_tf, ↓gs_ft]
              repeat' (first | (with_reducible refine And.intro ?_ ?_) | (with_reducible refine gs_t ?_ ?_) | (with_reducible refine gs_f ?_ ?_) | (intro _) | fail)
              all_goals first | omega | skip
              exact ⟨n - 1, by omega, _, subH_tail (by simp [hget]), O ++ [y], x :: X, Y, mm + 1, by simp; omega, by simp; omega, ⟨⟨by simp, rfl, rfl⟩, rfl, by simp [encM_app, encM]⟩, by rw [hk]; simp [keepM, h0]⟩
          · have hs : sumM (x :: X) (y :: Y) = keepM ⟨x.v, IntKind.i64.wrap (x.k + y.k)⟩ (sumM X Y) := by rw [sumM, if_neg hlt, if_neg hgt]
            rw [hs] at hk
            have hd2 : decide (y.v < x.v) = false := by simpa using hgt
            by_cases h0 : IntKind.i64.wrap (x.k + y.k) = 0
            · have hd : decide (IntKind.i64.wrap (x.k + y.k) = 0) = true := by simpa using h0
              simp (implicitDefEqProofs := false) only [s1, s2, s3, s4, hd, hd1, hd2, s0lt, s0eq, Int.toNat_zero, Int.toNat_one, Nat.zero_mul, Nat.add_sub_cancel, encM, sumY X, sumY Y, vsub_two, encM_len, go_sem, reduceCtorEq, Nat.reduceAdd, Nat.reduceMul, Nat.reduceLeDiff, Nat.reduceLT, Nat.reduceEqDiff, Int.reduceNegSucc, ↓gs_tt, ↓gs_ff, ↓gs_tf, ↓gs_ft]
              repeat' (first | (with_reducible refine And.intro ?_ ?_) | (with_reducible refine gs_t ?_ ?_) | (with_reducible refine gs_f ?_ ?_) | (intro _) | fail)
              all_goals first | omega | skip
              exact ⟨n - 2, by omega, _, subH_refl _, O, X, Y, mm, by omega, by omega, ⟨⟨rfl, rfl, rfl⟩, rfl, rfl⟩, by rw [hk]; simp [keepM, h0]⟩
            · have hd : decide (IntKind.i64.wrap (x.k + y.k) = 0) = false := by simpa using h0
              simp (implicitDefEqProofs := false) only [s1, s2, s3, s4, hd, hd1, hd2, s0lt, s0eq, Int.toNat_zero, Int.toNat_one, Nat.zero_mul, Nat.add_sub_cancel, encM, sumY X, sumY Y, vsub_two, encM_len, go_sem, reduceCtorEq, Nat.reduceAdd, Nat.reduceMul, Nat.reduceLeDiff, Nat.reduceLT, Nat.reduceEqDiff, Int.reduceNegSucc, ↓gs_tt, ↓gs_ff, ↓gs_tf, ↓gs_ft]
              repeat' (first | (with_reducible refine And.intro ?_ ?_) | (with_reducible refine gs_t ?_ ?_) | (with_reducible refine gs_f ?_ ?_) | (intro _) | fail)
              all_goals first | omega | skip
              exact ⟨n - 2, by omega, _, subH_tail (by simp [hget]), O ++ [⟨x.v, IntKind.i64.wrap (x.k + y.k)⟩], X, Y, mm + 1, by omega, by simp; omega, ⟨⟨by simp, rfl, rfl⟩, rfl, by simp [encM_app, encM]⟩, by rw [hk]; simp [keepM, h0]⟩
theorem fits_ok (c : Int) (l : List Mono) (hl : l.length ≤ 1000000) : VPure FT p109 [.agg [.int .i64 c, .fz l.length none 2 (encM l)]] (vTE (if okT c l = true then (c, l, 0) else (0, [], 12))) := by
  refine vpure_of_body' (f := p109) rfl rfl ?_
  cases hok : okT c l with
  | true =>
    simp (implicitDefEqProofs := false) only [vTE, if_true, go_sem, reduceCtorEq, Nat.reduceAdd, Nat.reduceMul, Nat.reduceLeDiff, Nat.reduceLT, Nat.reduceEqDiff, Int.reduceNegSucc, ↓gs_tt, ↓gs_ff, ↓gs_tf, ↓gs_ft]
    repeat' (first | (with_reducible refine And.intro ?_ ?_) | (with_reducible refine gs_t ?_ ?_) | (with_reducible refine gs_f ?_ ?_) | (intro _) | ((with_reducible apply wCall_pure); (· (simp (implicitDefEqProofs := false) only [go_sem, reduceCtorEq, Nat.reduceAdd, Nat.reduceMul, Nat.reduceLeDiff, Nat.reduceLT, Nat.reduceEqDiff, Int.reduceNegSucc, ↓gs_tt, ↓gs_ff, ↓gs_tf, ↓gs_ft] <;> rfl)); (· (exact Check_ok _ _ (by omega))); (· rfl); (· (first | exact .inl rfl | exact .inr rfl)); (simp (implicitDefEqProofs := false) only [hok, if_true, go_sem, reduceCtorEq, Nat.reduceAdd, Nat.reduceMul, Nat.reduceLeDiff, Nat.reduceLT, Nat.reduceEqDiff, Int.reduceNegSucc, ↓gs_tt, ↓gs_ff, ↓gs_tf, ↓gs_ft])) | ((with_reducible apply wCall_freeze); (· (simp (implicitDefEqProofs := false) only [go_sem, reduceCtorEq, Nat.reduceAdd, Nat.reduceMul, Nat.reduceLeDiff, Nat.reduceLT, Nat.reduceEqDiff, Int.reduceNegSucc, ↓gs_tt, ↓gs_ff, ↓gs_tf, ↓gs_ft] <;> rfl)); (simp (implicitDefEqProofs := false) only [go_sem, reduceCtorEq, Nat.reduceAdd, Nat.reduceMul, Nat.reduceLeDiff, Nat.reduceLT, Nat.reduceEqDiff, Int.reduceNegSucc, ↓gs_tt, ↓gs_ff, ↓gs_tf, ↓gs_ft]); (with_reducible apply wCall_pure); (· (simp (implicitDefEqProofs := false) only [go_sem, reduceCtorEq, Nat.reduceAdd, Nat.reduceMul, Nat.reduceLeDiff, Nat.reduceLT, Nat.reduceEqDiff, Int.reduceNegSucc, ↓gs_tt, ↓gs_ff, ↓gs_tf, ↓gs_ft] <;> rfl)); (· (exact Check_ok _ _ (by omega))); (· rfl); (· (exact .inr rfl)); (simp (implicitDefEqProofs := false) only [hok, if_true, go_sem, reduceCtorEq, Nat.reduceAdd, Nat.reduceMul, Nat.reduceLeDiff, Nat.reduceLT, Nat.reduceEqDiff, Int.reduceNegSucc, ↓gs_tt, ↓gs_ff, ↓gs_tf, ↓gs_ft])) | fail)
  | false =>
    have h1 : decide ((1 : Int) = 0) = false := rfl
    simp (implicitDefEqProofs := false) only [vTE, Bool.false_eq_true, if_false, encM, go_sem, reduceCtorEq, Nat.reduceAdd, Nat.reduceMul, Nat.reduceLeDiff, Nat.reduceLT, Nat.reduceEqDiff, Int.reduceNegSucc, ↓gs_tt, ↓gs_ff, ↓gs_tf, ↓gs_ft]
    repeat' (first | (with_reducible refine And.intro ?_ ?_) | (with_reducible refine gs_t ?_ ?_) | (with_reducible refine gs_f ?_ ?_) | (intro _) | ((with_reducible apply wCall_pure); (· (simp (implicitDefEqProofs := false) only [go_sem, reduceCtorEq, Nat.reduceAdd, Nat.reduceMul, Nat.reduceLeDiff, Nat.reduceLT, Nat.reduceEqDiff, Int.reduceNegSucc, ↓gs_tt, ↓gs_ff, ↓gs_tf, ↓gs_ft] <;> rfl)); (· (exact Check_ok _ _ (by omega))); (· rfl); (· (first | exact .inl rfl | exact .inr rfl)); (simp (implicitDefEqProofs := false) only [hok, Bool.false_eq_true, if_false, encM, h1, go_sem, reduceCtorEq, Nat.reduceAdd, Nat.reduceMul, Nat.reduceLeDiff, Nat.reduceLT, Nat.reduceEqDiff, Int.reduceNegSucc, ↓gs_tt, ↓gs_ff, ↓gs_tf, ↓gs_ft])) | ((with_reducible apply wCall_freeze); (· (simp (implicitDefEqProofs := false) only [go_sem, reduceCtorEq, Nat.reduceAdd, Nat.reduceMul, Nat.reduceLeDiff, Nat.reduceLT, Nat.reduceEqDiff, Int.reduceNegSucc, ↓gs_tt, ↓gs_ff, ↓gs_tf, ↓gs_ft] <;> rfl)); (simp (implicitDefEqProofs := false) only [go_sem, reduceCtorEq, Nat.reduceAdd, Nat.reduceMul, Nat.reduceLeDiff, Nat.reduceLT, Nat.reduceEqDiff, Int.reduceNegSucc, ↓gs_tt, ↓gs_ff, ↓gs_tf, ↓gs_ft]); (with_reducible apply wCall_pure); (· (simp (implicitDefEqProofs := false) only [go_sem, reduceCtorEq, Nat.reduceAdd, Nat.reduceMul, Nat.reduceLeDiff, Nat.reduceLT, Nat.reduceEqDiff, Int.reduceNegSucc, ↓gs_tt, ↓gs_ff, ↓gs_tf, ↓gs_ft] <;> rfl)); (· (exact Check_ok _ _ (by omega))); (· rfl); (· (exact .inr rfl)); (simp (implicitDefEqProofs := false) only [hok, Bool.false_eq_true, if_false, encM, h1, go_sem, reduceCtorEq, Nat.reduceAdd, Nat.reduceMul, Nat.reduceLeDiff, Nat.reduceLT, Nat.reduceEqDiff, Int.reduceNegSucc, ↓gs_tt, ↓gs_ff, ↓gs_tf, ↓gs_ft])) | fail)
/-- What Add tells. -/
def addR (c : Int) (a : List Mono) (d : Int) (b : List Mono) : Int × List Mono × Int :=
  if okT c a = false ∨ okT d b = false then (0, [], 1) else if okT (IntKind.i64.wrap (c + d)) (sumM a b) = true then (IntKind.i64.wrap (c + d), sumM a b, 0) else (0, [], 12)
theorem sumM_len : ∀ a b : List Mono, (sumM a b).length ≤ a.length + b.length := by
  intro a b
  induction a, b using sumM.induct <;> simp_all [sumM, keepM]
  all_goals (repeat' split) <;> first | omega | (simp only [List.length_cons] at *; omega) | (simp_all; done) | (simp_all; omega)
theorem Add_ok (c : Int) (a : List Mono) (d : Int) (b : List Mono) (ha : a.length ≤ 500000) (hb : b.length ≤ 500000) :
    VPure FT p86 [.agg [.int .i64 c, .fz a.length none 2 (encM a)], .agg [.int .i64 d, .fz b.length none 2 (encM b)]] (vTE (addR c a d b)) := by
  refine vpure_of_body' (f := p86) rfl rfl ?_
  have h1 : decide ((1 : Int) = 0) = false := rfl
  have hlen := sumM_len a b
  cases hok : okT c a with
  | false =>
    have e : addR c a d b = (0, [], 1) := by unfold addR; rw [if_pos (.inl hok)]
    simp (implicitDefEqProofs := false) only [e, vTE, encM, go_sem, reduceCtorEq, Nat.reduceAdd, Nat.reduceMul, Nat.reduceLeDiff, Nat.reduceLT, Nat.reduceEqDiff, Int.reduceNegSucc, ↓gs_tt, ↓gs_ff, ↓gs_tf, ↓gs_ft]
    repeat' (first | (with_reducible refine And.intro ?_ ?_) | (with_reducible refine gs_t ?_ ?_) | (with_reducible refine gs_f ?_ ?_) | (intro _) | ((with_reducible apply wCall_pure); (· (simp (implicitDefEqProofs := false) only [go_sem, reduceCtorEq, Nat.reduceAdd, Nat.reduceMul, Nat.reduceLeDiff, Nat.reduceLT, Nat.reduceEqDiff, Int.reduceNegSucc, ↓gs_tt, ↓gs_ff, ↓gs_tf, ↓gs_ft] <;> rfl)); (· (exact Check_ok _ _ (by omega))); (· rfl); (· (first | exact .inl rfl | exact .inr rfl)); (simp (implicitDefEqProofs := false) only [hok, Bool.false_eq_true, if_false, encM, h1, go_sem, reduceCtorEq, Nat.reduceAdd, Nat.reduceMul, Nat.reduceLeDiff, Nat.reduceLT, Nat.reduceEqDiff, Int.reduceNegSucc, ↓gs_tt, ↓gs_ff, ↓gs_tf, ↓gs_ft])) | ((with_reducible apply wCall_freeze); (· (simp (implicitDefEqProofs := false) only [go_sem, reduceCtorEq, Nat.reduceAdd, Nat.reduceMul, Nat.reduceLeDiff, Nat.reduceLT, Nat.reduceEqDiff, Int.reduceNegSucc, ↓gs_tt, ↓gs_ff, ↓gs_tf, ↓gs_ft] <;> rfl)); (simp (implicitDefEqProofs := false) only [go_sem, reduceCtorEq, Nat.reduceAdd, Nat.reduceMul, Nat.reduceLeDiff, Nat.reduceLT, Nat.reduceEqDiff, Int.reduceNegSucc, ↓gs_tt, ↓gs_ff, ↓gs_tf, ↓gs_ft]); (with_reducible apply wCall_pure); (· (simp (implicitDefEqProofs := false) only [go_sem, reduceCtorEq, Nat.reduceAdd, Nat.reduceMul, Nat.reduceLeDiff, Nat.reduceLT, Nat.reduceEqDiff, Int.reduceNegSucc, ↓gs_tt, ↓gs_ff, ↓gs_tf, ↓gs_ft] <;> rfl)); (· (exact Check_ok _ _ (by omega))); (· rfl); (· (exact .inr rfl)); (simp (implicitDefEqProofs := false) only [hok, Bool.false_eq_true, if_false, encM, h1, go_sem, reduceCtorEq, Nat.reduceAdd, Nat.reduceMul, Nat.reduceLeDiff, Nat.reduceLT, Nat.reduceEqDiff, Int.reduceNegSucc, ↓gs_tt, ↓gs_ff, ↓gs_tf, ↓gs_ft])) | fail)
  | true =>
    cases hok2 : okT d b with
    | false =>
      have e : addR c a d b = (0, [], 1) := by unfold addR; rw [if_pos (.inr hok2)]
      simp (implicitDefEqProofs := false) only [e, vTE, encM, go_sem, reduceCtorEq, Nat.reduceAdd, Nat.reduceMul, Nat.reduceLeDiff, Nat.reduceLT, Nat.reduceEqDiff, Int.reduceNegSucc, ↓gs_tt, ↓gs_ff, ↓gs_tf, ↓gs_ft]
      repeat' (first | (with_reducible refine And.intro ?_ ?_) | (with_reducible refine gs_t ?_ ?_) | (with_reducible refine gs_f ?_ ?_) | (intro _) | ((with_reducible apply wCall_pure); (· (simp (implicitDefEqProofs := false) only [go_sem, reduceCtorEq, Nat.reduceAdd, Nat.reduceMul, Nat.reduceLeDiff, Nat.reduceLT, Nat.reduceEqDiff, Int.reduceNegSucc, ↓gs_tt, ↓gs_ff, ↓gs_tf, ↓gs_ft] <;> rfl)); (· (exact Check_ok _ _ (by omega))); (· rfl); (· (first | exact .inl rfl | exact .inr rfl)); (simp (implicitDefEqProofs := false) only [hok, hok2, Bool.false_eq_true, if_false, if_true, encM, h1, go_sem, reduceCtorEq, Nat.reduceAdd, Nat.reduceMul, Nat.reduceLeDiff, Nat.reduceLT, Nat.reduceEqDiff, Int.reduceNegSucc, ↓gs_tt, ↓gs_ff, ↓gs_tf, ↓gs_ft])) | ((with_reducible apply wCall_freeze); (· (simp (implicitDefEqProofs := false) only [go_sem, reduceCtorEq, Nat.reduceAdd, Nat.reduceMul, Nat.reduceLeDiff, Nat.reduceLT, Nat.reduceEqDiff, Int.reduceNegSucc, ↓gs_tt, ↓gs_ff, ↓gs_tf, ↓gs_ft] <;> rfl)); (simp (implicitDefEqProofs := false) only [go_sem, reduceCtorEq, Nat.reduceAdd, Nat.reduceMul, Nat.reduceLeDiff, Nat.reduceLT, Nat.reduceEqDiff, Int.reduceNegSucc, ↓gs_tt, ↓gs_ff, ↓gs_tf, ↓gs_ft]); (with_reducible apply wCall_pure); (· (simp (implicitDefEqProofs := false) only [go_sem, reduceCtorEq, Nat.reduceAdd, Nat.reduceMul, Nat.reduceLeDiff, Nat.reduceLT, Nat.reduceEqDiff, Int.reduceNegSucc, ↓gs_tt, ↓gs_ff, ↓gs_tf, ↓gs_ft] <;> rfl)); (· (exact Check_ok _ _ (by omega))); (· rfl); (· (exact .inr rfl)); (simp (implicitDefEqProofs := false) only [hok, hok2, Bool.false_eq_true, if_false, if_true, encM, h1, go_sem, reduceCtorEq, Nat.reduceAdd, Nat.reduceMul, Nat.reduceLeDiff, Nat.reduceLT, Nat.reduceEqDiff, Int.reduceNegSucc, ↓gs_tt, ↓gs_ff, ↓gs_tf, ↓gs_ft])) | fail)
    | true =>
      have e : addR c a d b = if okT (IntKind.i64.wrap (c + d)) (sumM a b) = true then (IntKind.i64.wrap (c + d), sumM a b, 0) else (0, [], 12) := by unfold addR; rw [if_neg (by rw [hok, hok2]; simp)]
      rw [e]
      simp (implicitDefEqProofs := false) only [vTE, go_sem, reduceCtorEq, Nat.reduceAdd, Nat.reduceMul, Nat.reduceLeDiff, Nat.reduceLT, Nat.reduceEqDiff, Int.reduceNegSucc, ↓gs_tt, ↓gs_ff, ↓gs_tf, ↓gs_ft]
      repeat' (first | (with_reducible refine And.intro ?_ ?_) | (with_reducible refine gs_t ?_ ?_) | (with_reducible refine gs_f ?_ ?_) | (intro _) | ((with_reducible apply wCall_pure); (· (simp (implicitDefEqProofs := false) only [go_sem, reduceCtorEq, Nat.reduceAdd, Nat.reduceMul, Nat.reduceLeDiff, Nat.reduceLT, Nat.reduceEqDiff, Int.reduceNegSucc, ↓gs_tt, ↓gs_ff, ↓gs_tf, ↓gs_ft] <;> rfl)); (· (first | exact Check_ok _ _ (by omega) | exact sum_ok c a d b (by omega) (by omega) | exact fits_ok _ (sumM a b) (by omega))); (· rfl); (· (first | exact .inl rfl | exact .inr rfl)); (simp (implicitDefEqProofs := false) only [vTE, hok, hok2, if_true, go_sem, reduceCtorEq, Nat.reduceAdd, Nat.reduceMul, Nat.reduceLeDiff, Nat.reduceLT, Nat.reduceEqDiff, Int.reduceNegSucc, ↓gs_tt, ↓gs_ff, ↓gs_tf, ↓gs_ft])) | ((with_reducible apply wCall_freeze); (· (simp (implicitDefEqProofs := false) only [go_sem, reduceCtorEq, Nat.reduceAdd, Nat.reduceMul, Nat.reduceLeDiff, Nat.reduceLT, Nat.reduceEqDiff, Int.reduceNegSucc, ↓gs_tt, ↓gs_ff, ↓gs_tf, ↓gs_ft] <;> rfl)); (simp (implicitDefEqProofs := false) only [go_sem, reduceCtorEq, Nat.reduceAdd, Nat.reduceMul, Nat.reduceLeDiff, Nat.reduceLT, Nat.reduceEqDiff, Int.reduceNegSucc, ↓gs_tt, ↓gs_ff, ↓gs_tf, ↓gs_ft]); (with_reducible apply wCall_pure); (· (simp (implicitDefEqProofs := false) only [go_sem, reduceCtorEq, Nat.reduceAdd, Nat.reduceMul, Nat.reduceLeDiff, Nat.reduceLT, Nat.reduceEqDiff, Int.reduceNegSucc, ↓gs_tt, ↓gs_ff, ↓gs_tf, ↓gs_ft] <;> rfl)); (· (first | exact Check_ok _ _ (by omega) | exact sum_ok c a d b (by omega) (by omega) | exact fits_ok _ (sumM a b) (by omega))); (· rfl); (· (exact .inr rfl)); (simp (implicitDefEqProofs := false) only [vTE, hok, hok2, if_true, go_sem, reduceCtorEq, Nat.reduceAdd, Nat.reduceMul, Nat.reduceLeDiff, Nat.reduceLT, Nat.reduceEqDiff, Int.reduceNegSucc, ↓gs_tt, ↓gs_ff, ↓gs_tf, ↓gs_ft])) | fail)
end Go.Proofs.Ythdlkpmhjbaplaa.Dx
