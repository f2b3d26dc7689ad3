/- What the references room, Scale, without come to. No statement of this seat is proved here. -/
import Derived.Test.YthdlkpmhjbaplaaVyW
import Derived.Test.YthdlkpmhjbaplaaVyQ
set_option autoImplicit false
set_option linter.unusedSimpArgs false
set_option linter.unusedVariables false
set_option maxRecDepth 10000
namespace Go.Proofs.Ythdlkpmhjbaplaa.Dx
open Go
attribute [local irreducible] wCall wLoop
attribute [local go_sem] decide_true decide_false Bool.and_true Bool.true_and Bool.and_self Bool.false_and Bool.and_false vMs vCs vIs Slots At Tr.get_z Tr.get_l Tr.get_r Tr.get_e Tr.set_z_e Tr.set_z_n Tr.set_l_e Tr.set_l_n Tr.set_r_e Tr.set_r_n eOs_n eOs_c eDs_n eDs_c ekOs ekDs ekPut ekBack ekSeq_n ekSeq_x ekSeq_r ekBlk_n ekBlk_x ekBlk_r eO_mk eO_gd eO_loc eO_locb eD_mk eD_loc eD_locb eD_gd eDr eC_skip eC_reg eC_drw eC_seq eC_cond eC_block eC_loop eC_exit eC_ret eRetW_n eRetW_r wk wkL eRet_n eRet_r ekLd_n ekLd_x ekLd_r ekLp_n ekLp_x ekLp_r wI wBin wBd vev vov vovs vplace vouter ofDV ofDVs vcells spl vfills vput vuse vuseP vback vbackP wOf vbare isVarV vkeep hget hset hdels hdel hkeys live vw vwL keysV keysL pureV pureL vsrc veqs vmx vmn vT cT vC cC VOb.cells vres vrsL vrs1 vone List.length_cons List.length_nil List.getElem?_cons_zero List.getElem?_cons_succ List.take_succ_cons List.take_zero List.drop_succ_cons List.drop_zero List.drop_nil List.take_nil List.nil_append List.cons_append List.append_nil Option.some.injEq Nat.zero_add Nat.add_zero if_true if_false ite_true ite_false true_and and_true false_and and_false true_implies implies_true false_implies Bool.true_eq_false Bool.false_eq_true Bool.not_true Bool.not_false eq_self_iff_true Int.toNat_natCast Int.ofNat_eq_natCast Int.ofNat_zero Int.ofNat_one Int.cast_ofNat_Int VV.int.injEq VV.bool.injEq cond_true cond_false

theorem magI_eq {n : Int} (h : -4611686018427387904 ≤ n ∧ n ≤ 4611686018427387904) : magI n = max n (-n) := by
  unfold magI
  split
  · rw [i64 (by omega)]; omega
  · omega
theorem in_tdiv {a m k : Int} (hm : 0 ≤ m) (hk : 0 < k) : inB a ((-m).tdiv k) (m.tdiv k) = decide (max a (-a) ≤ m.tdiv k) := by
  unfold inB
  rw [Int.neg_tdiv]
  by_cases h : max a (-a) ≤ m.tdiv k
  · rw [decide_eq_true h]; simp; omega
  · rw [decide_eq_false h]; simp; omega
theorem inB_room (a m : Int) : inB a (-m) m = roomB a m := rfl
theorem rroom_ok (a k most : Int) (hm : 0 < most ∧ most ≤ 4611686018427387904) : VPure FT p94 [.int .i64 a, .int .i64 k, .int .i64 most] (.bool (timesP a k most).2) := by
  refine vpure_of_body (f := p94) rfl rfl ?_
  by_cases ha : a = 0
  · have d1 : decide (a = 0) = true := by simpa using ha
    have e : timesP a k most = (0, true) := by unfold timesP; rw [if_pos (.inl ha)]
    simp (implicitDefEqProofs := false) only [d1, e, go_sem, reduceCtorEq, Nat.reduceAdd, Nat.reduceMul, Nat.reduceLeDiff, Nat.reduceLT, Nat.reduceEqDiff, Int.reduceNegSucc, ↓gs_tt, ↓gs_ff, ↓gs_tf, ↓gs_ft]
  have d1 : decide (a = 0) = false := by simpa using ha
  by_cases hk : k = 0
  · have d2 : decide (k = 0) = true := by simpa using hk
    have e : timesP a k most = (0, true) := by unfold timesP; rw [if_pos (.inr hk)]
    simp (implicitDefEqProofs := false) only [d1, d2, e, go_sem, reduceCtorEq, Nat.reduceAdd, Nat.reduceMul, Nat.reduceLeDiff, Nat.reduceLT, Nat.reduceEqDiff, Int.reduceNegSucc, ↓gs_tt, ↓gs_ff, ↓gs_tf, ↓gs_ft]
  have d2 : decide (k = 0) = false := by simpa using hk
  have hab : ¬ (a = 0 ∨ k = 0) := by omega
  have w0 : IntKind.i64.wrap (-most) = -most := i64 (by omega)
  cases hra : roomB a most with
  | false =>
    have e : (timesP a k most).2 = false := by unfold timesP; rw [if_neg hab, if_pos (.inl hra)]
    have hin : inB a (-most) most = false := by rw [inB_room, hra]
    simp (implicitDefEqProofs := false) only [d1, d2, e, w0, go_sem, reduceCtorEq, Nat.reduceAdd, Nat.reduceMul, Nat.reduceLeDiff, Nat.reduceLT, Nat.reduceEqDiff, Int.reduceNegSucc, ↓gs_tt, ↓gs_ff, ↓gs_tf, ↓gs_ft]
    repeat' (first | (with_reducible refine And.intro ?_ ?_) | (with_reducible refine gs_t ?_ ?_) | (with_reducible refine gs_f ?_ ?_) | (intro _) | ((with_reducible apply wCall_any); (· (simp (implicitDefEqProofs := false) only [go_sem, reduceCtorEq, Nat.reduceAdd, Nat.reduceMul, Nat.reduceLeDiff, Nat.reduceLT, Nat.reduceEqDiff, Int.reduceNegSucc, ↓gs_tt, ↓gs_ff, ↓gs_tf, ↓gs_ft] <;> rfl)); (· (exact in_ok _ _ _)); (· rfl); (· rfl); (· (first | exact Eq.refl true | exact Eq.refl false)); (simp (implicitDefEqProofs := false) only [hin, w0, go_sem, reduceCtorEq, Nat.reduceAdd, Nat.reduceMul, Nat.reduceLeDiff, Nat.reduceLT, Nat.reduceEqDiff, Int.reduceNegSucc, ↓gs_tt, ↓gs_ff, ↓gs_tf, ↓gs_ft])) | fail)
  | true =>
    have hin : inB a (-most) most = true := by rw [inB_room, hra]
    cases hrb : roomB k most with
    | false =>
      have e : (timesP a k most).2 = false := by unfold timesP; rw [if_neg hab, if_pos (.inr hrb)]
      have hin2 : inB k (-most) most = false := by rw [inB_room, hrb]
      simp (implicitDefEqProofs := false) only [d1, d2, e, w0, go_sem, reduceCtorEq, Nat.reduceAdd, Nat.reduceMul, Nat.reduceLeDiff, Nat.reduceLT, Nat.reduceEqDiff, Int.reduceNegSucc, ↓gs_tt, ↓gs_ff, ↓gs_tf, ↓gs_ft]
      repeat' (first | (with_reducible refine And.intro ?_ ?_) | (with_reducible refine gs_t ?_ ?_) | (with_reducible refine gs_f ?_ ?_) | (intro _) | ((with_reducible apply wCall_any); (· (simp (implicitDefEqProofs := false) only [go_sem, reduceCtorEq, Nat.reduceAdd, Nat.reduceMul, Nat.reduceLeDiff, Nat.reduceLT, Nat.reduceEqDiff, Int.reduceNegSucc, ↓gs_tt, ↓gs_ff, ↓gs_tf, ↓gs_ft] <;> rfl)); (· (exact in_ok _ _ _)); (· rfl); (· rfl); (· (first | exact Eq.refl true | exact Eq.refl false)); (simp (implicitDefEqProofs := false) only [hin, hin2, w0, go_sem, reduceCtorEq, Nat.reduceAdd, Nat.reduceMul, Nat.reduceLeDiff, Nat.reduceLT, Nat.reduceEqDiff, Int.reduceNegSucc, ↓gs_tt, ↓gs_ff, ↓gs_tf, ↓gs_ft])) | fail)
    | true =>
      have hin2 : inB k (-most) most = true := by rw [inB_room, hrb]
      have rb := hrb
      simp only [roomB, Bool.and_eq_true, decide_eq_true_eq] at rb
      have hmag : magI k = max k (-k) := magI_eq (by omega)
      have hkp : 0 < max k (-k) := by omega
      have b1 := tdiv_bound' most (max k (-k)) hkp (by omega)
      have w1 : IntKind.i64.wrap ((-most).tdiv (max k (-k))) = (-most).tdiv (max k (-k)) := by rw [Int.neg_tdiv]; exact i64 (by omega)
      have w2 : IntKind.i64.wrap (most.tdiv (max k (-k))) = most.tdiv (max k (-k)) := i64 (by omega)
      have hin3 := in_tdiv (a := a) (m := most) (k := max k (-k)) (by omega) hkp
      have e : (timesP a k most).2 = decide (max a (-a) ≤ most.tdiv (max k (-k))) := by unfold timesP; rw [if_neg hab, if_neg (by rw [hra, hrb]; simp)]
      have hM := mag_ok k
      rw [hmag] at hM
      simp (implicitDefEqProofs := false) only [d1, d2, e, w0, go_sem, reduceCtorEq, Nat.reduceAdd, Nat.reduceMul, Nat.reduceLeDiff, Nat.reduceLT, Nat.reduceEqDiff, Int.reduceNegSucc, ↓gs_tt, ↓gs_ff, ↓gs_tf, ↓gs_ft]
      repeat' (first | (with_reducible refine And.intro ?_ ?_) | (with_reducible refine gs_t ?_ ?_) | (with_reducible refine gs_f ?_ ?_) | (intro _) | ((with_reducible apply wCall_any); (· (simp (implicitDefEqProofs := false) only [go_sem, reduceCtorEq, Nat.reduceAdd, Nat.reduceMul, Nat.reduceLeDiff, Nat.reduceLT, Nat.reduceEqDiff, Int.reduceNegSucc, ↓gs_tt, ↓gs_ff, ↓gs_tf, ↓gs_ft] <;> rfl)); (· (first | exact in_ok _ _ _ | exact hM)); (· rfl); (· rfl); (· (first | exact Eq.refl true | exact Eq.refl false)); (simp (implicitDefEqProofs := false) only [hin, hin2, hin3, w0, w1, w2, go_sem, reduceCtorEq, Nat.reduceAdd, Nat.reduceMul, Nat.reduceLeDiff, Nat.reduceLT, Nat.reduceEqDiff, Int.reduceNegSucc, ↓gs_tt, ↓gs_ff, ↓gs_tf, ↓gs_ft])) | fail)
      all_goals omega
def vTB (r : Int × List Mono × Int) : VV := .tup [.agg [.int .i64 r.1, .fz r.2.1.length none 2 (encM r.2.1)], .bool (decide (r.2.2 = 0))]
/-- What the reference's Scale makes of monos. -/
def rscaleL (k : Int) (l : List Mono) : List Mono := l.map fun m => ⟨m.v, IntKind.i64.wrap (m.k * k)⟩
theorem rscale_eq {k : Int} (hk : k ≠ 0) : ∀ {l : List Mono} {p : Option Int}, okFrom p l = true → scaleB k l = true → scaleL k l = rscaleL k l
  | [], _, _, _ => rfl
  | m :: l, p, h, hs => by
    obtain ⟨h1, h2, h3⟩ := okFrom_cons.1 h
    have hs1 : (timesP m.k k 1048576).2 = true := by simp [scaleB] at hs; exact hs.1
    have hs2 : scaleB k l = true := by simp [scaleB] at hs ⊢; exact hs.2
    have hm := okM_spec.1 h1
    have ht := times_spec (by omega) hs1
    have hw : IntKind.i64.wrap (m.k * k) = m.k * k := i64 (by omega)
    have hne : m.k * k ≠ 0 := Int.mul_ne_zero hm.2.2.1 hk
    rw [scaleL, if_neg (by rw [ht.1]; exact hne), rscale_eq hk h3 hs2, ht.1]
    unfold rscaleL
    rw [List.map_cons, hw]
theorem scaleL_zero : ∀ l : List Mono, scaleL 0 l = []
  | [] => rfl
  | m :: l => by
    have : timesP m.k 0 1048576 = (0, true) := by unfold timesP; rw [if_pos (.inr rfl)]
    rw [scaleL, this, if_pos rfl, scaleL_zero l]
theorem scaleB_zero (l : List Mono) : scaleB 0 l = true := by
  unfold scaleB
  rw [List.all_eq_true]
  intro m _
  unfold timesP; rw [if_pos (.inr rfl)]
set_option maxHeartbeats 1000000 in
theorem rScale_ok (c : Int) (l : List Mono) (k : Int) (ho : okT c l = true) : VPure FT p72 [.agg [.int .i64 c, .fz l.length none 2 (encM l)], .int .i64 k] (vTB (scaleR c l k)) := by
  refine vpure_of_body' (f := p72) rfl rfl ?_
  obtain ⟨o1, o2, o3, o4⟩ := okT_spec.1 ho
  by_cases hk : k = 0
  · subst hk
    have e : scaleR c l 0 = (0, [], 0) := by
      have : timesP c 0 1099511627776 = (0, true) := by unfold timesP; rw [if_pos (.inr rfl)]
      unfold scaleR; rw [if_neg (by simp [ho]), this, scaleB_zero, scaleL_zero]; rfl
    rw [e]
    simp (implicitDefEqProofs := false) only [vTB, encM, List.length_nil, s0eq, go_sem, reduceCtorEq, Nat.reduceAdd, Nat.reduceMul, Nat.reduceLeDiff, Nat.reduceLT, Nat.reduceEqDiff, Int.reduceNegSucc, ↓gs_tt, ↓gs_ff, ↓gs_tf, ↓gs_ft]
  have dk : decide (k = 0) = false := by simpa using hk
  have hS : scaleR c l k = if ((timesP c k 1099511627776).2 && scaleB k l) = true then ((timesP c k 1099511627776).1, scaleL k l, 0) else (0, [], 12) := by unfold scaleR; rw [if_neg (by simp [ho])]
  have d12 : decide ((12 : Int) = 0) = false := rfl
  cases hc : (timesP c k 1099511627776).2 with
  | false =>
    rw [hS, hc, Bool.false_and, if_neg (by simp)]
    simp (implicitDefEqProofs := false) only [vTB, encM, List.length_nil, d12, dk, go_sem, reduceCtorEq, Nat.reduceAdd, Nat.reduceMul, Nat.reduceLeDiff, Nat.reduceLT, Nat.reduceEqDiff, Int.reduceNegSucc, ↓gs_tt, ↓gs_ff, ↓gs_tf, ↓gs_ft]
    repeat' (first | (with_reducible refine And.intro ?_ ?_) | (with_reducible refine gs_t ?_ ?_) | (with_reducible refine gs_f ?_ ?_) | (intro _) | ((with_reducible apply wCall_any); (· (simp (implicitDefEqProofs := false) only [go_sem, reduceCtorEq, Nat.reduceAdd, Nat.reduceMul, Nat.reduceLeDiff, Nat.reduceLT, Nat.reduceEqDiff, Int.reduceNegSucc, ↓gs_tt, ↓gs_ff, ↓gs_tf, ↓gs_ft] <;> rfl)); (· (exact rroom_ok _ _ _ (by omega))); (· rfl); (· rfl); (· (first | exact Eq.refl true | exact Eq.refl false)); (simp (implicitDefEqProofs := false) only [hc, Bool.not_false, go_sem, reduceCtorEq, Nat.reduceAdd, Nat.reduceMul, Nat.reduceLeDiff, Nat.reduceLT, Nat.reduceEqDiff, Int.reduceNegSucc, ↓gs_tt, ↓gs_ff, ↓gs_tf, ↓gs_ft])) | fail)
  | true =>
    rw [hc, Bool.true_and] at hS
    have htc := times_spec (by omega) hc
    have hw0 : IntKind.i64.wrap (c * k) = c * k := i64 (by omega)
    simp (implicitDefEqProofs := false) only [dk, go_sem, reduceCtorEq, Nat.reduceAdd, Nat.reduceMul, Nat.reduceLeDiff, Nat.reduceLT, Nat.reduceEqDiff, Int.reduceNegSucc, ↓gs_tt, ↓gs_ff, ↓gs_tf, ↓gs_ft]
    repeat' (first | (with_reducible refine And.intro ?_ ?_) | (with_reducible refine gs_t ?_ ?_) | (with_reducible refine gs_f ?_ ?_) | (intro _) | ((with_reducible apply wCall_any); (· (simp (implicitDefEqProofs := false) only [go_sem, reduceCtorEq, Nat.reduceAdd, Nat.reduceMul, Nat.reduceLeDiff, Nat.reduceLT, Nat.reduceEqDiff, Int.reduceNegSucc, ↓gs_tt, ↓gs_ff, ↓gs_tf, ↓gs_ft] <;> rfl)); (· (exact rroom_ok _ _ _ (by omega))); (· rfl); (· rfl); (· (first | exact Eq.refl true | exact Eq.refl false)); (simp (implicitDefEqProofs := false) only [hc, Bool.not_true, hw0, go_sem, reduceCtorEq, Nat.reduceAdd, Nat.reduceMul, Nat.reduceLeDiff, Nat.reduceLT, Nat.reduceEqDiff, Int.reduceNegSucc, ↓gs_tt, ↓gs_ff, ↓gs_tf, ↓gs_ft])) | fail)
    refine wLoop_ownV p6 1 2 (by simp (implicitDefEqProofs := false) only [go_sem, reduceCtorEq, Nat.reduceAdd, Nat.reduceMul, Nat.reduceLeDiff, Nat.reduceLT, Nat.reduceEqDiff, Int.reduceNegSucc, ↓gs_tt, ↓gs_ff, ↓gs_tf, ↓gs_ft]; rfl) (by rfl) ?_
    simp (implicitDefEqProofs := false) only [go_sem, reduceCtorEq, Nat.reduceAdd, Nat.reduceMul, Nat.reduceLeDiff, Nat.reduceLT, Nat.reduceEqDiff, Int.reduceNegSucc, ↓gs_tt, ↓gs_ff, ↓gs_tf, ↓gs_ft]
    refine wLoop_dr (fun n s => ∃ i m : Nat, i + n = l.length ∧ At s [(p1, .int .i64 k), (p2, .var [.int .i64 c, .fz l.length none 2 (encM l)]), (p4, .var [.int .i64 0, .nils]), (p6, .var [.int .i64 (c * k), .ow 0 (rscaleL k (l.take i)).length 2]), (p7, .int .i64 i)] (m + 1) 0 [(0, .row (encM (rscaleL k (l.take i))))] ∧
      scaleB k (l.take i) = true) l.length ?_ ?_
    · exact ⟨0, 0, by simp, by simp (implicitDefEqProofs := false) only [go_sem, reduceCtorEq, Nat.reduceAdd, Nat.reduceMul, Nat.reduceLeDiff, Nat.reduceLT, Nat.reduceEqDiff, Int.reduceNegSucc, ↓gs_tt, ↓gs_ff, ↓gs_tf, ↓gs_ft]; simp [rscaleL, encM], by simp [scaleB]⟩
    · rintro n ⟨e, nx, w, h⟩ ⟨i, mm, hi, ⟨⟨s1, s2, s3, s4, s5, -⟩, rfl, rfl, rfl⟩, hb⟩
      rcases Nat.lt_or_ge i l.length with hlt | hge
      · obtain ⟨m, hm⟩ := has hlt
        have hmm := List.mem_of_getElem? hm
        have ht := take_snoc hm
        have hrl : (rscaleL k (l.take i)).length = i := by unfold rscaleL; rw [List.length_map, List.length_take]; omega
        rw [hrl] at s4
        simp (implicitDefEqProofs := false) only [s1, s2, s3, s4, s5, ltT hlt, encM_g0 hm, encM_g1 hm, encM_len, hrl, inc64 hlt (by omega : l.length ≤ 4611686018427387904), go_sem, reduceCtorEq, Nat.reduceAdd, Nat.reduceMul, Nat.reduceLeDiff, Nat.reduceLT, Nat.reduceEqDiff, Int.reduceNegSucc, ↓gs_tt, ↓gs_ff, ↓gs_tf, ↓gs_ft]
        refine ⟨⟨by omega, by omega⟩, ?_⟩
        refine wCall_pp (r := .bool (timesP m.k k 1048576).2) rfl (rroom_ok m.k k 1048576 (by omega)) rfl ?_
        cases hmk : (timesP m.k k 1048576).2 with
        | false =>
          have hfin : scaleB k l = false := by
            unfold scaleB; rw [List.all_eq_false]; exact ⟨m, hmm, by simp [hmk]⟩
          rw [hS, hfin, if_neg (by simp)]
          simp (implicitDefEqProofs := false) only [vTB, encM, List.length_nil, d12, Bool.not_false, go_sem, reduceCtorEq, Nat.reduceAdd, Nat.reduceMul, Nat.reduceLeDiff, Nat.reduceLT, Nat.reduceEqDiff, Int.reduceNegSucc, ↓gs_tt, ↓gs_ff, ↓gs_tf, ↓gs_ft]
        | true =>
          simp (implicitDefEqProofs := false) only [Bool.not_true, encM_g0 hm, encM_g1 hm, encM_len, hrl, inc64 hlt (by omega : l.length ≤ 4611686018427387904), go_sem, reduceCtorEq, Nat.reduceAdd, Nat.reduceMul, Nat.reduceLeDiff, Nat.reduceLT, Nat.reduceEqDiff, Int.reduceNegSucc, ↓gs_tt, ↓gs_ff, ↓gs_tf, ↓gs_ft]
          have hrl2 : (rscaleL k (l.take (i + 1))).length = i + 1 := by unfold rscaleL; rw [List.length_map, List.length_take]; omega
          refine ⟨⟨by omega, by omega⟩, ⟨by omega, by omega⟩, by omega, n - 1, by omega, _, subH_tail (by simp [hget]), i + 1, mm + 1, by omega, ⟨⟨?_, rfl⟩, rfl, ?_⟩, ?_⟩
          · rw [hrl2]
          · rw [ht]; simp [rscaleL, encM_app, encM]
          · rw [ht]; unfold scaleB at hb ⊢; rw [List.all_append, hb]; simp [hmk]
      · rw [List.take_of_length_le hge] at hb s4
        rw [hS, if_pos hb, htc.1, rscale_eq hk o4 hb]
        have hrl : (rscaleL k l).length = l.length := by unfold rscaleL; rw [List.length_map]
        simp (implicitDefEqProofs := false) only [s1, s2, s3, s4, s5, ltF hge, List.take_of_length_le hge, vTB, hrl, encM_len, s0eq, go_sem, reduceCtorEq, Nat.reduceAdd, Nat.reduceMul, Nat.reduceLeDiff, Nat.reduceLT, Nat.reduceEqDiff, Int.reduceNegSucc, ↓gs_tt, ↓gs_ff, ↓gs_tf, ↓gs_ft]
end Go.Proofs.Ythdlkpmhjbaplaa.Dx

/- What the references without, Add, Put come to. No statement of this seat is proved here. -/
set_option autoImplicit false
set_option linter.unusedSimpArgs false
set_option linter.unusedVariables false
set_option maxRecDepth 10000
namespace Go.Proofs.Ythdlkpmhjbaplaa.Dx
open Go
attribute [local irreducible] wCall wLoop
attribute [local go_sem] decide_true decide_false Bool.and_true Bool.true_and Bool.and_self Bool.false_and Bool.and_false vMs vCs vIs Slots At Tr.get_z Tr.get_l Tr.get_r Tr.get_e Tr.set_z_e Tr.set_z_n Tr.set_l_e Tr.set_l_n Tr.set_r_e Tr.set_r_n eOs_n eOs_c eDs_n eDs_c ekOs ekDs ekPut ekBack ekSeq_n ekSeq_x ekSeq_r ekBlk_n ekBlk_x ekBlk_r eO_mk eO_gd eO_loc eO_locb eD_mk eD_loc eD_locb eD_gd eDr eC_skip eC_reg eC_drw eC_seq eC_cond eC_block eC_loop eC_exit eC_ret eRetW_n eRetW_r wk wkL eRet_n eRet_r ekLd_n ekLd_x ekLd_r ekLp_n ekLp_x ekLp_r wI wBin wBd vev vov vovs vplace vouter ofDV ofDVs vcells spl vfills vput vuse vuseP vback vbackP wOf vbare isVarV vkeep hget hset hdels hdel hkeys live vw vwL keysV keysL pureV pureL vsrc veqs vmx vmn vT cT vC cC VOb.cells vres vrsL vrs1 vone List.length_cons List.length_nil List.getElem?_cons_zero List.getElem?_cons_succ List.take_succ_cons List.take_zero List.drop_succ_cons List.drop_zero List.drop_nil List.take_nil List.nil_append List.cons_append List.append_nil Option.some.injEq Nat.zero_add Nat.add_zero if_true if_false ite_true ite_false true_and and_true false_and and_false true_implies implies_true false_implies Bool.true_eq_false Bool.false_eq_true Bool.not_true Bool.not_false eq_self_iff_true Int.toNat_natCast Int.ofNat_eq_natCast Int.ofNat_zero Int.ofNat_one Int.cast_ofNat_Int VV.int.injEq VV.bool.injEq cond_true cond_false

theorem without_ok (c : Int) (l : List Mono) (v : Int) (hl : l.length ≤ 400000) : VPure FT p74 [.agg [.int .i64 c, .fz l.length none 2 (encM l)], .int .i64 v] (.agg [.int .i64 c, .fz (delM v l).length none 2 (encM (delM v l))]) := by
  refine vpure_of_body' (f := p74) rfl rfl ?_
  simp (implicitDefEqProofs := false) only [go_sem, reduceCtorEq, Nat.reduceAdd, Nat.reduceMul, Nat.reduceLeDiff, Nat.reduceLT, Nat.reduceEqDiff, Int.reduceNegSucc, ↓gs_tt, ↓gs_ff, ↓gs_tf, ↓gs_ft]
  refine wLoop_ownV p5 1 2 (by simp (implicitDefEqProofs := false) only [go_sem, reduceCtorEq, Nat.reduceAdd, Nat.reduceMul, Nat.reduceLeDiff, Nat.reduceLT, Nat.reduceEqDiff, Int.reduceNegSucc, ↓gs_tt, ↓gs_ff, ↓gs_tf, ↓gs_ft]; rfl) (by rfl) ?_
  simp (implicitDefEqProofs := false) only [go_sem, reduceCtorEq, Nat.reduceAdd, Nat.reduceMul, Nat.reduceLeDiff, Nat.reduceLT, Nat.reduceEqDiff, Int.reduceNegSucc, ↓gs_tt, ↓gs_ff, ↓gs_tf, ↓gs_ft]
  refine wLoop_dr (fun n s => ∃ i m : Nat, i + n = l.length ∧ At s [(p1, .int .i64 v), (p2, .var [.int .i64 c, .fz l.length none 2 (encM l)]), (p4, .var [.int .i64 0, .nils]), (p5, .var [.int .i64 c, .ow 0 (delM v (l.take i)).length 2]), (p6, .int .i64 i)] (m + 1) 0 [(0, .row (encM (delM v (l.take i))))]) l.length ?_ ?_
  · exact ⟨0, 0, by simp, by simp (implicitDefEqProofs := false) only [go_sem, reduceCtorEq, Nat.reduceAdd, Nat.reduceMul, Nat.reduceLeDiff, Nat.reduceLT, Nat.reduceEqDiff, Int.reduceNegSucc, ↓gs_tt, ↓gs_ff, ↓gs_tf, ↓gs_ft]; simp [delM, encM]⟩
  · rintro n ⟨e, nx, w, h⟩ ⟨i, mm, hi, ⟨s1, s2, s3, s4, s5, -⟩, rfl, rfl, rfl⟩
    rcases Nat.lt_or_ge i l.length with hlt | hge
    · obtain ⟨m, hm⟩ := has hlt
      have ht := take_snoc hm
      have hdl : (delM v (l.take i)).length ≤ 400000 := Nat.le_trans (delM_len _ _) (Nat.le_trans (List.length_take_le _ _) (by omega))
      simp (implicitDefEqProofs := false) only [s1, s2, s3, s4, s5, ltT hlt, encM_g0 hm, encM_cut hm, encM_len, inc64 hlt (by omega : l.length ≤ 4611686018427387904), go_sem, reduceCtorEq, Nat.reduceAdd, Nat.reduceMul, Nat.reduceLeDiff, Nat.reduceLT, Nat.reduceEqDiff, Int.reduceNegSucc, ↓gs_tt, ↓gs_ff, ↓gs_tf, ↓gs_ft]
      refine ⟨⟨by omega, by omega⟩, gs_t (fun h => ?_) (fun h => ?_)⟩
      · have hd : delM v (l.take (i + 1)) = delM v (l.take i) ++ [m] := by rw [ht, delM_app]; simp [delM]; simpa using h
        refine ⟨⟨by omega, by omega⟩, by omega, by omega, n - 1, by omega, _, subH_tail (by simp [hget]), i + 1, mm + 1, by omega, ⟨?_, rfl⟩, rfl, ?_⟩
        · rw [hd]; simp [encM_app, encM]
        · rw [hd]; simp [encM_app, encM]
      · have hd : delM v (l.take (i + 1)) = delM v (l.take i) := by rw [ht, delM_app]; simp [delM]; simpa using h
        refine ⟨n - 1, by omega, _, subH_refl _, i + 1, mm, by omega, ⟨?_, rfl⟩, rfl, ?_⟩ <;> rw [hd]
    · rw [List.take_of_length_le hge] at s4
      simp (implicitDefEqProofs := false) only [s1, s2, s3, s4, s5, ltF hge, List.take_of_length_le hge, encM_len, go_sem, reduceCtorEq, Nat.reduceAdd, Nat.reduceMul, Nat.reduceLeDiff, Nat.reduceLT, Nat.reduceEqDiff, Int.reduceNegSucc, ↓gs_tt, ↓gs_ff, ↓gs_tf, ↓gs_ft]
end Go.Proofs.Ythdlkpmhjbaplaa.Dx
