/- What wakes of chapter 15 comes to. No statement of this seat is proved here. -/
import Derived.Test.YthdlkpmhjbaplaaVyL
set_option autoImplicit false
set_option linter.unusedSimpArgs false
set_option linter.unusedVariables false
set_option maxRecDepth 10000
namespace Go.Proofs.Ythdlkpmhjbaplaa.Dx
open Go
attribute [local irreducible] wCall wLoop
attribute [local go_sem] decide_true decide_false Bool.and_true Bool.true_and Bool.and_self Bool.false_and Bool.and_false vMs vCs vIs Slots At Tr.get_z Tr.get_l Tr.get_r Tr.get_e Tr.set_z_e Tr.set_z_n Tr.set_l_e Tr.set_l_n Tr.set_r_e Tr.set_r_n eOs_n eOs_c eDs_n eDs_c ekOs ekDs ekPut ekBack ekSeq_n ekSeq_x ekSeq_r ekBlk_n ekBlk_x ekBlk_r eO_mk eO_gd eO_loc eO_locb eD_mk eD_loc eD_locb eD_gd eDr eC_skip eC_reg eC_drw eC_seq eC_cond eC_block eC_loop eC_exit eC_ret eRetW_n eRetW_r wk wkL eRet_n eRet_r ekLd_n ekLd_x ekLd_r ekLp_n ekLp_x ekLp_r wI wBin wBd vev vov vovs vplace vouter ofDV ofDVs vcells spl vfills vput vuse vuseP vback vbackP wOf vbare isVarV vkeep hget hset hdels hdel hkeys live vw vwL keysV keysL pureV pureL vsrc veqs vmx vmn vT cT vC cC VOb.cells vres vrsL vrs1 vone List.length_cons List.length_nil List.getElem?_cons_zero List.getElem?_cons_succ List.take_succ_cons List.take_zero List.drop_succ_cons List.drop_zero List.drop_nil List.take_nil List.nil_append List.cons_append List.append_nil Option.some.injEq Nat.zero_add Nat.add_zero if_true if_false ite_true ite_false true_and and_true false_and and_false true_implies implies_true false_implies Bool.true_eq_false Bool.false_eq_true Bool.not_true Bool.not_false eq_self_iff_true Int.toNat_natCast Int.ofNat_eq_natCast Int.ofNat_zero Int.ofNat_one Int.cast_ofNat_Int VV.int.injEq VV.bool.injEq

def lw : List Cons := [⟨⟨3, [⟨0, -1⟩]⟩, false⟩, ⟨⟨-7, [⟨0, 1⟩]⟩, false⟩]
theorem lw_small : smallC lw := ⟨by simp [lw], by intro x hx; simp [lw] at hx; rcases hx with rfl | rfl <;> simp⟩
theorem w_span : spanV lw 0 [] = .tup [.int .i64 3, .int .i64 7, .int .i64 0] := by rfl
theorem w_sum : sumM [⟨0, 1⟩] [⟨0, -1⟩] = [] := by
  rw [sumM, if_neg (by decide), if_neg (by decide), show IntKind.i64.wrap (1 + -1) = 0 from rfl]
  simp [sumM, keepM]
theorem w_pair : pairR ⟨⟨3, [⟨0, -1⟩]⟩, false⟩ ⟨⟨-7, [⟨0, 1⟩]⟩, false⟩ 0 = (-4, [], 0) := by
  have h1 : scaleR (-7) [⟨0, 1⟩] (-(kOf [⟨0, -1⟩] 0)) = (-7, [⟨0, 1⟩], 0) := by rfl
  have h2 : scaleR 3 [⟨0, -1⟩] (kOf [⟨0, 1⟩] 0) = (3, [⟨0, -1⟩], 0) := by rfl
  unfold pairR
  simp only [h1, h2]
  rw [if_neg (by simp)]
  unfold addR
  rw [w_sum]; rfl
theorem w_drop : dropV lw 0 = .tup [.fz 1 none 3 [.int .i64 (-4), .fz 0 none 2 [], .bool false], .int .i64 0] := by
  have e1 : lowsOf lw 0 = [⟨⟨3, [⟨0, -1⟩]⟩, false⟩] := by rfl
  have e2 : highsOf lw 0 = [⟨⟨-7, [⟨0, 1⟩]⟩, false⟩] := by rfl
  have e3 : othersOf lw 0 = [] := by rfl
  have e4 : mayE lw 0 = 0 := by rfl
  unfold dropV dropErr dropList
  rw [e1, e2, e3, e4]
  simp only [List.flatMap_cons, List.flatMap_nil, errRow, conRow, List.map_cons, List.map_nil, w_pair, mkC]
  rfl
theorem w_may : mayE lw 0 = 0 := by rfl
theorem w_exact : exactB lw 0 = true := by rfl
theorem w_unit : unitV lw = .tup [.int .i64 0, .int .i64 0, .int .i64 5] := by rfl
set_option maxHeartbeats 1000000 in
theorem wakes_ok : VPure FT p18 [] (.bool true) := by
  refine vpure_of_body (f := p18) rfl rfl ?_
  have S := Span_ok lw 0 [] lw_small (by simp)
  have D := Drop_ok lw 0 lw_small
  have E := Exact_ok lw 0 lw_small
  have U := Unit_ok lw lw_small
  have Pk : VPure FT p35 [.int .i64 3, .int .i64 7] (.tup [.int .i64 3, .bool true]) := by
    have := Pick_ok 3 7
    rw [if_neg (by decide), show (min (max 0 3) 7 : Int) = 3 from by decide, show decide ((3 : Int) ≤ 7) = true from by decide] at this; exact this
  rw [w_span] at S; rw [w_drop] at D; rw [w_may, w_exact] at E; rw [w_unit] at U
  simp only [lw, encC, vMs, encM, encI, List.length_cons, List.length_nil, Nat.zero_add, Nat.reduceAdd] at S D E U
  simp (implicitDefEqProofs := false) only [go_sem, reduceCtorEq, Nat.reduceAdd, Nat.reduceMul, Nat.reduceLeDiff, Nat.reduceLT, Nat.reduceEqDiff, Int.reduceNegSucc, ↓gs_tt, ↓gs_ff, ↓gs_tf, ↓gs_ft]
  repeat' (first | (with_reducible refine And.intro ?_ ?_) | (with_reducible refine gs_t ?_ ?_) | (with_reducible refine gs_f ?_ ?_) | (intro _) | ((with_reducible apply wCall_pure); (· (simp (implicitDefEqProofs := false) only [go_sem, reduceCtorEq, Nat.reduceAdd, Nat.reduceMul, Nat.reduceLeDiff, Nat.reduceLT, Nat.reduceEqDiff, Int.reduceNegSucc, ↓gs_tt, ↓gs_ff, ↓gs_tf, ↓gs_ft] <;> rfl)); (· (exact Line_ok _ _ _)); (· rfl); (· (first | exact .inl rfl | exact .inr rfl)); (simp (implicitDefEqProofs := false) only [encM, go_sem, reduceCtorEq, Nat.reduceAdd, Nat.reduceMul, Nat.reduceLeDiff, Nat.reduceLT, Nat.reduceEqDiff, Int.reduceNegSucc, ↓gs_tt, ↓gs_ff, ↓gs_tf, ↓gs_ft])) | ((with_reducible apply wCall_freeze); (· (simp (implicitDefEqProofs := false) only [go_sem, reduceCtorEq, Nat.reduceAdd, Nat.reduceMul, Nat.reduceLeDiff, Nat.reduceLT, Nat.reduceEqDiff, Int.reduceNegSucc, ↓gs_tt, ↓gs_ff, ↓gs_tf, ↓gs_ft] <;> rfl)); (simp (implicitDefEqProofs := false) only [go_sem, reduceCtorEq, Nat.reduceAdd, Nat.reduceMul, Nat.reduceLeDiff, Nat.reduceLT, Nat.reduceEqDiff, Int.reduceNegSucc, ↓gs_tt, ↓gs_ff, ↓gs_tf, ↓gs_ft]); (with_reducible apply wCall_pure); (· (simp (implicitDefEqProofs := false) only [go_sem, reduceCtorEq, Nat.reduceAdd, Nat.reduceMul, Nat.reduceLeDiff, Nat.reduceLT, Nat.reduceEqDiff, Int.reduceNegSucc, ↓gs_tt, ↓gs_ff, ↓gs_tf, ↓gs_ft] <;> rfl)); (· (exact Line_ok _ _ _)); (· rfl); (· (exact .inr rfl)); (simp (implicitDefEqProofs := false) only [encM, go_sem, reduceCtorEq, Nat.reduceAdd, Nat.reduceMul, Nat.reduceLeDiff, Nat.reduceLT, Nat.reduceEqDiff, Int.reduceNegSucc, ↓gs_tt, ↓gs_ff, ↓gs_tf, ↓gs_ft])) | fail)
  refine wCall_frz p1 (by simp (implicitDefEqProofs := false) only [go_sem, reduceCtorEq, Nat.reduceAdd, Nat.reduceMul, Nat.reduceLeDiff, Nat.reduceLT, Nat.reduceEqDiff, Int.reduceNegSucc, ↓gs_tt, ↓gs_ff, ↓gs_tf, ↓gs_ft]; rfl) (by simp (implicitDefEqProofs := false) only [go_sem, reduceCtorEq, Nat.reduceAdd, Nat.reduceMul, Nat.reduceLeDiff, Nat.reduceLT, Nat.reduceEqDiff, Int.reduceNegSucc, ↓gs_tt, ↓gs_ff, ↓gs_tf, ↓gs_ft]; rfl) (by simp (implicitDefEqProofs := false) only [go_sem, reduceCtorEq, Nat.reduceAdd, Nat.reduceMul, Nat.reduceLeDiff, Nat.reduceLT, Nat.reduceEqDiff, Int.reduceNegSucc, ↓gs_tt, ↓gs_ff, ↓gs_tf, ↓gs_ft]; rfl) ?_
  simp (implicitDefEqProofs := false) only [go_sem, reduceCtorEq, Nat.reduceAdd, Nat.reduceMul, Nat.reduceLeDiff, Nat.reduceLT, Nat.reduceEqDiff, Int.reduceNegSucc, ↓gs_tt, ↓gs_ff, ↓gs_tf, ↓gs_ft]
  refine wCall_wk (args' := [.fz 2 none 3 [.int .i64 3, .fz 1 none 2 [.int .i64 0, .int .i64 (-1)], .bool false, .int .i64 (-7), .fz 1 none 2 [.int .i64 0, .int .i64 1], .bool false], .int .i64 0, .fz 0 none 1 []]) (by simp (implicitDefEqProofs := false) only [go_sem, reduceCtorEq, Nat.reduceAdd, Nat.reduceMul, Nat.reduceLeDiff, Nat.reduceLT, Nat.reduceEqDiff, Int.reduceNegSucc, ↓gs_tt, ↓gs_ff, ↓gs_tf, ↓gs_ft]) ?_
  simp only [ite_true] at E
  repeat' (first | (with_reducible refine And.intro ?_ ?_) | (with_reducible refine gs_t ?_ ?_) | (with_reducible refine gs_f ?_ ?_) | (intro _) | ((with_reducible apply wCall_pure); (· (simp (implicitDefEqProofs := false) only [go_sem, reduceCtorEq, Nat.reduceAdd, Nat.reduceMul, Nat.reduceLeDiff, Nat.reduceLT, Nat.reduceEqDiff, Int.reduceNegSucc, ↓gs_tt, ↓gs_ff, ↓gs_tf, ↓gs_ft] <;> rfl)); (· (first | exact S | exact D | exact Pk | exact E | exact U)); (· rfl); (· (first | exact .inl rfl | exact .inr rfl)); (simp (implicitDefEqProofs := false) only [encM, show (0 : Int) ≤ 0 from by decide, show Int.toNat 0 = 0 from rfl, go_sem, reduceCtorEq, Nat.reduceAdd, Nat.reduceMul, Nat.reduceLeDiff, Nat.reduceLT, Nat.reduceEqDiff, Int.reduceNegSucc, ↓gs_tt, ↓gs_ff, ↓gs_tf, ↓gs_ft])) | ((with_reducible apply wCall_freeze); (· (simp (implicitDefEqProofs := false) only [go_sem, reduceCtorEq, Nat.reduceAdd, Nat.reduceMul, Nat.reduceLeDiff, Nat.reduceLT, Nat.reduceEqDiff, Int.reduceNegSucc, ↓gs_tt, ↓gs_ff, ↓gs_tf, ↓gs_ft] <;> rfl)); (simp (implicitDefEqProofs := false) only [go_sem, reduceCtorEq, Nat.reduceAdd, Nat.reduceMul, Nat.reduceLeDiff, Nat.reduceLT, Nat.reduceEqDiff, Int.reduceNegSucc, ↓gs_tt, ↓gs_ff, ↓gs_tf, ↓gs_ft]); (with_reducible apply wCall_pure); (· (simp (implicitDefEqProofs := false) only [go_sem, reduceCtorEq, Nat.reduceAdd, Nat.reduceMul, Nat.reduceLeDiff, Nat.reduceLT, Nat.reduceEqDiff, Int.reduceNegSucc, ↓gs_tt, ↓gs_ff, ↓gs_tf, ↓gs_ft] <;> rfl)); (· (first | exact S | exact D | exact Pk | exact E | exact U)); (· rfl); (· (exact .inr rfl)); (simp (implicitDefEqProofs := false) only [encM, show (0 : Int) ≤ 0 from by decide, show Int.toNat 0 = 0 from rfl, go_sem, reduceCtorEq, Nat.reduceAdd, Nat.reduceMul, Nat.reduceLeDiff, Nat.reduceLT, Nat.reduceEqDiff, Int.reduceNegSucc, ↓gs_tt, ↓gs_ff, ↓gs_tf, ↓gs_ft])) | fail)
  all_goals first | omega | (simp [gSplit])
end Go.Proofs.Ythdlkpmhjbaplaa.Dx
