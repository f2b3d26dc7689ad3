/- What Clone, Twin, times, Scale come to. No statement of this seat is proved here. -/
import Derived.Test.YthdlkpmhjbaplaaVyH
set_option autoImplicit false
set_option linter.unusedSimpArgs false
set_option linter.unusedVariables false
set_option maxRecDepth 10000
namespace Go.Proofs.Ythdlkpmhjbaplaa.Dx
open Go
attribute [local irreducible] wCall wLoop
attribute [local go_sem] decide_true decide_false Bool.and_true Bool.true_and Bool.and_self Bool.false_and Bool.and_false vMs vCs vIs Slots At Tr.get_z Tr.get_l Tr.get_r Tr.get_e Tr.set_z_e Tr.set_z_n Tr.set_l_e Tr.set_l_n Tr.set_r_e Tr.set_r_n eOs_n eOs_c eDs_n eDs_c ekOs ekDs ekPut ekBack ekSeq_n ekSeq_x ekSeq_r ekBlk_n ekBlk_x ekBlk_r eO_mk eO_gd eO_loc eO_locb eD_mk eD_loc eD_locb eD_gd eDr eC_skip eC_reg eC_drw eC_seq eC_cond eC_block eC_loop eC_exit eC_ret eRetW_n eRetW_r wk wkL eRet_n eRet_r ekLd_n ekLd_x ekLd_r ekLp_n ekLp_x ekLp_r wI wBin wBd vev vov vovs vplace vouter ofDV ofDVs vcells spl vfills vput vuse vuseP vback vbackP wOf vbare isVarV vkeep hget hset hdels hdel hkeys live vw vwL keysV keysL pureV pureL vsrc veqs vmx vmn vT cT vC cC VOb.cells vres vrsL vrs1 vone List.length_cons List.length_nil List.getElem?_cons_zero List.getElem?_cons_succ List.take_succ_cons List.take_zero List.drop_succ_cons List.drop_zero List.drop_nil List.take_nil List.nil_append List.cons_append List.append_nil Option.some.injEq Nat.zero_add Nat.add_zero if_true if_false ite_true ite_false true_and and_true false_and and_false true_implies implies_true false_implies Bool.true_eq_false Bool.false_eq_true Bool.not_true Bool.not_false eq_self_iff_true Int.toNat_natCast Int.ofNat_eq_natCast Int.ofNat_zero Int.ofNat_one Int.cast_ofNat_Int VV.int.injEq VV.bool.injEq cond_true cond_false

theorem CloneM_ok (l : List Mono) (hl : l.length ≤ 1000000) : VPure FT p108 [.fz l.length none 2 (encM l)] (.fz l.length none 2 (encM l)) := by
  refine vpure_of_body' (f := p108) rfl rfl ?_
  simp (implicitDefEqProofs := false) only [go_sem, reduceCtorEq, Nat.reduceAdd, Nat.reduceMul, Nat.reduceLeDiff, Nat.reduceLT, Nat.reduceEqDiff, Int.reduceNegSucc, ↓gs_tt, ↓gs_ff, ↓gs_tf, ↓gs_ft]
  intro b hb
  have e : (false != b) = b := by cases b <;> rfl
  rw [e]
  refine gs_t (fun h => ?_) (fun h => ?_)
  · have h0 := hb h
    have : l = [] := List.length_eq_zero_iff.1 h0
    subst this
    simp (implicitDefEqProofs := false) only [encM, go_sem, reduceCtorEq, Nat.reduceAdd, Nat.reduceMul, Nat.reduceLeDiff, Nat.reduceLT, Nat.reduceEqDiff, Int.reduceNegSucc, ↓gs_tt, ↓gs_ff, ↓gs_tf, ↓gs_ft]
  · simp (implicitDefEqProofs := false) only [encM_len, go_sem, reduceCtorEq, Nat.reduceAdd, Nat.reduceMul, Nat.reduceLeDiff, Nat.reduceLT, Nat.reduceEqDiff, Int.reduceNegSucc, ↓gs_tt, ↓gs_ff, ↓gs_tf, ↓gs_ft]
    first | omega | (refine ⟨by omega, ?_⟩; omega) | trivial
theorem TwinT_ok (c : Int) (l : List Mono) (hl : l.length ≤ 1000000) : VPure FT p85 [.agg [.int .i64 c, .fz l.length none 2 (encM l)]] (.agg [.int .i64 c, .fz l.length none 2 (encM l)]) := by
  refine vpure_of_body (f := p85) rfl rfl ?_
  simp (implicitDefEqProofs := false) only [go_sem, reduceCtorEq, Nat.reduceAdd, Nat.reduceMul, Nat.reduceLeDiff, Nat.reduceLT, Nat.reduceEqDiff, Int.reduceNegSucc, ↓gs_tt, ↓gs_ff, ↓gs_tf, ↓gs_ft]
  repeat' (first | (with_reducible refine And.intro ?_ ?_) | (with_reducible refine gs_t ?_ ?_) | (with_reducible refine gs_f ?_ ?_) | (intro _) | ((with_reducible apply wCall_any); (· (simp (implicitDefEqProofs := false) only [go_sem, reduceCtorEq, Nat.reduceAdd, Nat.reduceMul, Nat.reduceLeDiff, Nat.reduceLT, Nat.reduceEqDiff, Int.reduceNegSucc, ↓gs_tt, ↓gs_ff, ↓gs_tf, ↓gs_ft] <;> rfl)); (· (exact CloneM_ok l hl)); (· rfl); (· rfl); (· (first | exact Eq.refl true | exact Eq.refl false)); (simp (implicitDefEqProofs := false) only [go_sem, reduceCtorEq, Nat.reduceAdd, Nat.reduceMul, Nat.reduceLeDiff, Nat.reduceLT, Nat.reduceEqDiff, Int.reduceNegSucc, ↓gs_tt, ↓gs_ff, ↓gs_tf, ↓gs_ft])) | fail)
theorem twin_ok (x : Cons) (hl : x.t.l.length ≤ 1000000) : VPure FT p54 [.agg (cC x)] (.agg (cC x)) := by
  refine vpure_of_body (f := p54) rfl rfl ?_
  simp (implicitDefEqProofs := false) only [go_sem, reduceCtorEq, Nat.reduceAdd, Nat.reduceMul, Nat.reduceLeDiff, Nat.reduceLT, Nat.reduceEqDiff, Int.reduceNegSucc, ↓gs_tt, ↓gs_ff, ↓gs_tf, ↓gs_ft]
  repeat' (first | (with_reducible refine And.intro ?_ ?_) | (with_reducible refine gs_t ?_ ?_) | (with_reducible refine gs_f ?_ ?_) | (intro _) | ((with_reducible apply wCall_any); (· (simp (implicitDefEqProofs := false) only [go_sem, reduceCtorEq, Nat.reduceAdd, Nat.reduceMul, Nat.reduceLeDiff, Nat.reduceLT, Nat.reduceEqDiff, Int.reduceNegSucc, ↓gs_tt, ↓gs_ff, ↓gs_tf, ↓gs_ft] <;> rfl)); (· (exact TwinT_ok _ _ hl)); (· rfl); (· rfl); (· (first | exact Eq.refl true | exact Eq.refl false)); (simp (implicitDefEqProofs := false) only [go_sem, reduceCtorEq, Nat.reduceAdd, Nat.reduceMul, Nat.reduceLeDiff, Nat.reduceLT, Nat.reduceEqDiff, Int.reduceNegSucc, ↓gs_tt, ↓gs_ff, ↓gs_tf, ↓gs_ft])) | fail)
theorem tdiv_bound' (a b : Int) (hb : 0 < b) (ha : 0 ≤ a ∧ a ≤ 4611686018427387904) : 0 ≤ a.tdiv b ∧ a.tdiv b ≤ 4611686018427387904 := by
  have h : (a.tdiv b).natAbs ≤ a.natAbs := by rw [Int.natAbs_tdiv]; exact Nat.div_le_self _ _
  have h2 : 0 ≤ a.tdiv b := Int.tdiv_nonneg ha.1 (by omega)
  omega
/-- A product; false: it has no room. -/
def timesP (a b most : Int) : Int × Bool :=
  if a = 0 ∨ b = 0 then (0, true) else if roomB a most = false ∨ roomB b most = false then (0, false) else (IntKind.i64.wrap (a * b), decide (max a (-a) ≤ most.tdiv (max b (-b))))
theorem times_ok (a b most : Int) (hm : 0 ≤ most ∧ most ≤ 4611686018427387904) : VPure FT p95 [.int .i64 a, .int .i64 b, .int .i64 most] (.tup [.int .i64 (timesP a b most).1, .bool (timesP a b most).2]) := by
  refine vpure_of_body (f := p95) rfl rfl ?_
  by_cases ha : a = 0
  · have hd : decide (a = 0) = true := by simpa using ha
    have e : timesP a b most = (0, true) := by unfold timesP; rw [if_pos (.inl ha)]
    simp (implicitDefEqProofs := false) only [hd, e, go_sem, reduceCtorEq, Nat.reduceAdd, Nat.reduceMul, Nat.reduceLeDiff, Nat.reduceLT, Nat.reduceEqDiff, Int.reduceNegSucc, ↓gs_tt, ↓gs_ff, ↓gs_tf, ↓gs_ft]
  by_cases hb : b = 0
  · have hd : decide (a = 0) = false := by simpa using ha
    have hd2 : decide (b = 0) = true := by simpa using hb
    have e : timesP a b most = (0, true) := by unfold timesP; rw [if_pos (.inr hb)]
    simp (implicitDefEqProofs := false) only [hd, hd2, e, go_sem, reduceCtorEq, Nat.reduceAdd, Nat.reduceMul, Nat.reduceLeDiff, Nat.reduceLT, Nat.reduceEqDiff, Int.reduceNegSucc, ↓gs_tt, ↓gs_ff, ↓gs_tf, ↓gs_ft]
  have hd : decide (a = 0) = false := by simpa using ha
  have hd2 : decide (b = 0) = false := by simpa using hb
  have hab : ¬ (a = 0 ∨ b = 0) := by omega
  cases hra : roomB a most with
  | false =>
    have e : timesP a b most = (0, false) := by unfold timesP; rw [if_neg hab, if_pos (.inl hra)]
    simp (implicitDefEqProofs := false) only [hd, hd2, e, go_sem, reduceCtorEq, Nat.reduceAdd, Nat.reduceMul, Nat.reduceLeDiff, Nat.reduceLT, Nat.reduceEqDiff, Int.reduceNegSucc, ↓gs_tt, ↓gs_ff, ↓gs_tf, ↓gs_ft]
    repeat' (first | (with_reducible refine And.intro ?_ ?_) | (with_reducible refine gs_t ?_ ?_) | (with_reducible refine gs_f ?_ ?_) | (intro _) | ((with_reducible apply wCall_any); (· (simp (implicitDefEqProofs := false) only [go_sem, reduceCtorEq, Nat.reduceAdd, Nat.reduceMul, Nat.reduceLeDiff, Nat.reduceLT, Nat.reduceEqDiff, Int.reduceNegSucc, ↓gs_tt, ↓gs_ff, ↓gs_tf, ↓gs_ft] <;> rfl)); (· (exact room_ok _ _ hm)); (· rfl); (· rfl); (· (first | exact Eq.refl true | exact Eq.refl false)); (simp (implicitDefEqProofs := false) only [hra, go_sem, reduceCtorEq, Nat.reduceAdd, Nat.reduceMul, Nat.reduceLeDiff, Nat.reduceLT, Nat.reduceEqDiff, Int.reduceNegSucc, ↓gs_tt, ↓gs_ff, ↓gs_tf, ↓gs_ft])) | fail)
  | true =>
    cases hrb : roomB b most with
    | false =>
      have e : timesP a b most = (0, false) := by unfold timesP; rw [if_neg hab, if_pos (.inr hrb)]
      simp (implicitDefEqProofs := false) only [hd, hd2, e, go_sem, reduceCtorEq, Nat.reduceAdd, Nat.reduceMul, Nat.reduceLeDiff, Nat.reduceLT, Nat.reduceEqDiff, Int.reduceNegSucc, ↓gs_tt, ↓gs_ff, ↓gs_tf, ↓gs_ft]
      repeat' (first | (with_reducible refine And.intro ?_ ?_) | (with_reducible refine gs_t ?_ ?_) | (with_reducible refine gs_f ?_ ?_) | (intro _) | ((with_reducible apply wCall_any); (· (simp (implicitDefEqProofs := false) only [go_sem, reduceCtorEq, Nat.reduceAdd, Nat.reduceMul, Nat.reduceLeDiff, Nat.reduceLT, Nat.reduceEqDiff, Int.reduceNegSucc, ↓gs_tt, ↓gs_ff, ↓gs_tf, ↓gs_ft] <;> rfl)); (· (exact room_ok _ _ hm)); (· rfl); (· rfl); (· (first | exact Eq.refl true | exact Eq.refl false)); (simp (implicitDefEqProofs := false) only [hra, hrb, go_sem, reduceCtorEq, Nat.reduceAdd, Nat.reduceMul, Nat.reduceLeDiff, Nat.reduceLT, Nat.reduceEqDiff, Int.reduceNegSucc, ↓gs_tt, ↓gs_ff, ↓gs_tf, ↓gs_ft])) | fail)
    | true =>
      have ra := hra; have rb := hrb
      simp only [roomB, Bool.and_eq_true, decide_eq_true_eq] at ra rb
      have w1 : IntKind.i64.wrap (-a) = -a := i64 (by omega)
      have w2 : IntKind.i64.wrap (-b) = -b := i64 (by omega)
      have hdv := tdiv_bound' most (max b (-b)) (by omega) hm
      have w3 : IntKind.i64.wrap (most.tdiv (max b (-b))) = most.tdiv (max b (-b)) := i64 (by omega)
      have e : timesP a b most = (IntKind.i64.wrap (a * b), decide (max a (-a) ≤ most.tdiv (max b (-b)))) := by unfold timesP; rw [if_neg hab, if_neg (by rw [hra, hrb]; simp)]
      simp (implicitDefEqProofs := false) only [hd, hd2, e, go_sem, reduceCtorEq, Nat.reduceAdd, Nat.reduceMul, Nat.reduceLeDiff, Nat.reduceLT, Nat.reduceEqDiff, Int.reduceNegSucc, ↓gs_tt, ↓gs_ff, ↓gs_tf, ↓gs_ft]
      repeat' (first | (with_reducible refine And.intro ?_ ?_) | (with_reducible refine gs_t ?_ ?_) | (with_reducible refine gs_f ?_ ?_) | (intro _) | ((with_reducible apply wCall_any); (· (simp (implicitDefEqProofs := false) only [go_sem, reduceCtorEq, Nat.reduceAdd, Nat.reduceMul, Nat.reduceLeDiff, Nat.reduceLT, Nat.reduceEqDiff, Int.reduceNegSucc, ↓gs_tt, ↓gs_ff, ↓gs_tf, ↓gs_ft] <;> rfl)); (· (exact room_ok _ _ hm)); (· rfl); (· rfl); (· (first | exact Eq.refl true | exact Eq.refl false)); (simp (implicitDefEqProofs := false) only [hra, hrb, w1, w2, w3, go_sem, reduceCtorEq, Nat.reduceAdd, Nat.reduceMul, Nat.reduceLeDiff, Nat.reduceLT, Nat.reduceEqDiff, Int.reduceNegSucc, ↓gs_tt, ↓gs_ff, ↓gs_tf, ↓gs_ft])) | fail)
      omega
end Go.Proofs.Ythdlkpmhjbaplaa.Dx

/- What Scale comes to. No statement of this seat is proved here. -/
set_option autoImplicit false
set_option linter.unusedSimpArgs false
set_option linter.unusedVariables false
set_option maxRecDepth 10000
namespace Go.Proofs.Ythdlkpmhjbaplaa.Dx
open Go
attribute [local irreducible] wCall wLoop
attribute [local go_sem] decide_true decide_false Bool.and_true Bool.true_and Bool.and_self Bool.false_and Bool.and_false vMs vCs vIs Slots At Tr.get_z Tr.get_l Tr.get_r Tr.get_e Tr.set_z_e Tr.set_z_n Tr.set_l_e Tr.set_l_n Tr.set_r_e Tr.set_r_n eOs_n eOs_c eDs_n eDs_c ekOs ekDs ekPut ekBack ekSeq_n ekSeq_x ekSeq_r ekBlk_n ekBlk_x ekBlk_r eO_mk eO_gd eO_loc eO_locb eD_mk eD_loc eD_locb eD_gd eDr eC_skip eC_reg eC_drw eC_seq eC_cond eC_block eC_loop eC_exit eC_ret eRetW_n eRetW_r wk wkL eRet_n eRet_r ekLd_n ekLd_x ekLd_r ekLp_n ekLp_x ekLp_r wI wBin wBd vev vov vovs vplace vouter ofDV ofDVs vcells spl vfills vput vuse vuseP vback vbackP wOf vbare isVarV vkeep hget hset hdels hdel hkeys live vw vwL keysV keysL pureV pureL vsrc veqs vmx vmn vT cT vC cC VOb.cells vres vrsL vrs1 vone List.length_cons List.length_nil List.getElem?_cons_zero List.getElem?_cons_succ List.take_succ_cons List.take_zero List.drop_succ_cons List.drop_zero List.drop_nil List.take_nil List.nil_append List.cons_append List.append_nil Option.some.injEq Nat.zero_add Nat.add_zero if_true if_false ite_true ite_false true_and and_true false_and and_false true_implies implies_true false_implies Bool.true_eq_false Bool.false_eq_true Bool.not_true Bool.not_false eq_self_iff_true Int.toNat_natCast Int.ofNat_eq_natCast Int.ofNat_zero Int.ofNat_one Int.cast_ofNat_Int VV.int.injEq VV.bool.injEq cond_true cond_false

def scaleL (k : Int) : List Mono → List Mono
  | [] => []
  | m :: l => if (timesP m.k k 1048576).1 = 0 then scaleL k l else ⟨m.v, (timesP m.k k 1048576).1⟩ :: scaleL k l
def scaleB (k : Int) (l : List Mono) : Bool := l.all fun m => (timesP m.k k 1048576).2
theorem scaleL_app (k : Int) : ∀ a b : List Mono, scaleL k (a ++ b) = scaleL k a ++ scaleL k b
  | [], b => rfl
  | m :: a, b => by
    simp only [List.cons_append, scaleL, scaleL_app k a b]; split <;> rfl
theorem scaleL_len (k : Int) : ∀ a : List Mono, (scaleL k a).length ≤ a.length
  | [] => Nat.le_refl _
  | m :: a => by
    have := scaleL_len k a
    simp only [scaleL]; split <;> simp <;> omega
/-- What Scale tells: the constant, the rest, the error. -/
def scaleR (c : Int) (l : List Mono) (k : Int) : Int × List Mono × Int :=
  if okT c l = false then (0, [], 1) else if ((timesP c k 1099511627776).2 && scaleB k l) = true then ((timesP c k 1099511627776).1, scaleL k l, 0) else (0, [], 12)
def vTE (r : Int × List Mono × Int) : VV := .tup [.agg [.int .i64 r.1, .fz r.2.1.length none 2 (encM r.2.1)], .int .i64 r.2.2]
set_option maxHeartbeats 1000000 in
theorem Scale_ok (c : Int) (l : List Mono) (k : Int) (hl : l.length ≤ 1000000) : VPure FT p77 [.agg [.int .i64 c, .fz l.length none 2 (encM l)], .int .i64 k] (vTE (scaleR c l k)) := by
  refine vpure_of_body' (f := p77) rfl rfl ?_
  cases hok : okT c l with
  | false =>
    have e : scaleR c l k = (0, [], 1) := by unfold scaleR; rw [if_pos hok]
    have h1 : (1 : Int) ≠ 0 := by decide
    simp (implicitDefEqProofs := false) only [e, vTE, encM, go_sem, reduceCtorEq, Nat.reduceAdd, Nat.reduceMul, Nat.reduceLeDiff, Nat.reduceLT, Nat.reduceEqDiff, Int.reduceNegSucc, ↓gs_tt, ↓gs_ff, ↓gs_tf, ↓gs_ft]
    repeat' (first | (with_reducible refine And.intro ?_ ?_) | (with_reducible refine gs_t ?_ ?_) | (with_reducible refine gs_f ?_ ?_) | (intro _) | ((with_reducible apply wCall_any); (· (simp (implicitDefEqProofs := false) only [go_sem, reduceCtorEq, Nat.reduceAdd, Nat.reduceMul, Nat.reduceLeDiff, Nat.reduceLT, Nat.reduceEqDiff, Int.reduceNegSucc, ↓gs_tt, ↓gs_ff, ↓gs_tf, ↓gs_ft] <;> rfl)); (· (exact Check_ok _ _ (by omega))); (· rfl); (· rfl); (· (first | exact Eq.refl true | exact Eq.refl false)); (simp (implicitDefEqProofs := false) only [hok, Bool.false_eq_true, if_false, encM, go_sem, reduceCtorEq, Nat.reduceAdd, Nat.reduceMul, Nat.reduceLeDiff, Nat.reduceLT, Nat.reduceEqDiff, Int.reduceNegSucc, ↓gs_tt, ↓gs_ff, ↓gs_tf, ↓gs_ft])) | fail)
    all_goals first | trivial | (rename_i h; simp at h; done) | (rename_i h; simp at h; trivial)
  | true =>
    simp (implicitDefEqProofs := false) only [vTE, go_sem, reduceCtorEq, Nat.reduceAdd, Nat.reduceMul, Nat.reduceLeDiff, Nat.reduceLT, Nat.reduceEqDiff, Int.reduceNegSucc, ↓gs_tt, ↓gs_ff, ↓gs_tf, ↓gs_ft]
    repeat' (first | (with_reducible refine And.intro ?_ ?_) | (with_reducible refine gs_t ?_ ?_) | (with_reducible refine gs_f ?_ ?_) | (intro _) | ((with_reducible apply wCall_any); (· (simp (implicitDefEqProofs := false) only [go_sem, reduceCtorEq, Nat.reduceAdd, Nat.reduceMul, Nat.reduceLeDiff, Nat.reduceLT, Nat.reduceEqDiff, Int.reduceNegSucc, ↓gs_tt, ↓gs_ff, ↓gs_tf, ↓gs_ft] <;> rfl)); (· (first | exact Check_ok _ _ (by omega) | exact times_ok _ _ _ (by omega))); (· rfl); (· rfl); (· (first | exact Eq.refl true | exact Eq.refl false)); (simp (implicitDefEqProofs := false) only [hok, if_true, go_sem, reduceCtorEq, Nat.reduceAdd, Nat.reduceMul, Nat.reduceLeDiff, Nat.reduceLT, Nat.reduceEqDiff, Int.reduceNegSucc, ↓gs_tt, ↓gs_ff, ↓gs_tf, ↓gs_ft])) | fail)
    all_goals (try (rename_i h; simp at h; done))
    refine wLoop_ownV p8 1 2 (by simp (implicitDefEqProofs := false) only [go_sem, reduceCtorEq, Nat.reduceAdd, Nat.reduceMul, Nat.reduceLeDiff, Nat.reduceLT, Nat.reduceEqDiff, Int.reduceNegSucc, ↓gs_tt, ↓gs_ff, ↓gs_tf, ↓gs_ft]; rfl) (by rfl) ?_
    simp (implicitDefEqProofs := false) only [go_sem, reduceCtorEq, Nat.reduceAdd, Nat.reduceMul, Nat.reduceLeDiff, Nat.reduceLT, Nat.reduceEqDiff, Int.reduceNegSucc, ↓gs_tt, ↓gs_ff, ↓gs_tf, ↓gs_ft]
    refine wLoop_dr (fun n s => ∃ i m : Nat, i + n = l.length ∧ At s [(p1, .int .i64 k), (p4, .var [.int .i64 0, .nils]), (p7, .bool ((timesP c k 1099511627776).2 && scaleB k (l.take i))), (p8, .var [.int .i64 (timesP c k 1099511627776).1, .ow 0 (scaleL k (l.take i)).length 2]),
      (p27, .fz l.length none 2 (encM l)), (p28, .int .i64 l.length), (p29, .int .i64 i)] (m + 1) 0 [(0, .row (encM (scaleL k (l.take i))))]) l.length ?_ ?_
    · exact ⟨0, 0, by simp, by simp (implicitDefEqProofs := false) only [go_sem, reduceCtorEq, Nat.reduceAdd, Nat.reduceMul, Nat.reduceLeDiff, Nat.reduceLT, Nat.reduceEqDiff, Int.reduceNegSucc, ↓gs_tt, ↓gs_ff, ↓gs_tf, ↓gs_ft]; simp [scaleB, scaleL, encM]⟩
    · rintro n ⟨e, nx, w, h⟩ ⟨i, mm, hi, ⟨s1, s2, s3, s4, s5, s6, s7, -⟩, rfl, rfl, rfl⟩
      rcases Nat.lt_or_ge i l.length with hlt | hge
      · obtain ⟨m, hm⟩ := has hlt
        have hb := scaleL_len k (l.take i)
        have hb2 : (l.take i).length ≤ i := List.length_take_le _ _
        have ht := take_snoc hm
        have hsl : scaleL k (l.take (i + 1)) = scaleL k (l.take i) ++ (if (timesP m.k k 1048576).1 = 0 then [] else [⟨m.v, (timesP m.k k 1048576).1⟩]) := by
          rw [ht, scaleL_app]; simp only [scaleL]
        have hsb : scaleB k (l.take (i + 1)) = (scaleB k (l.take i) && (timesP m.k k 1048576).2) := by
          rw [ht]; simp [scaleB, List.all_append]
        obtain ⟨B, hB⟩ : ∃ B, B = ((timesP c k 1099511627776).2 && scaleB k (l.take i)) := ⟨_, rfl⟩
        rw [← hB] at s3
        simp (implicitDefEqProofs := false) only [s1, s2, s3, s4, s5, s6, s7, ltT hlt, encM_cut hm, encM_len, inc64 hlt (by omega : l.length ≤ 4611686018427387904), go_sem, reduceCtorEq, Nat.reduceAdd, Nat.reduceMul, Nat.reduceLeDiff, Nat.reduceLT, Nat.reduceEqDiff, Int.reduceNegSucc, ↓gs_tt, ↓gs_ff, ↓gs_tf, ↓gs_ft]
        repeat' (first | (with_reducible refine And.intro ?_ ?_) | (with_reducible refine gs_t ?_ ?_) | (with_reducible refine gs_f ?_ ?_) | (intro _) | ((with_reducible apply wCall_any); (· (simp (implicitDefEqProofs := false) only [go_sem, reduceCtorEq, Nat.reduceAdd, Nat.reduceMul, Nat.reduceLeDiff, Nat.reduceLT, Nat.reduceEqDiff, Int.reduceNegSucc, ↓gs_tt, ↓gs_ff, ↓gs_tf, ↓gs_ft] <;> rfl)); (· (exact times_ok _ _ _ (by omega))); (· rfl); (· rfl); (· (first | exact Eq.refl true | exact Eq.refl false)); (simp (implicitDefEqProofs := false) only [encM_len, inc64 hlt (by omega : l.length ≤ 4611686018427387904), go_sem, reduceCtorEq, Nat.reduceAdd, Nat.reduceMul, Nat.reduceLeDiff, Nat.reduceLT, Nat.reduceEqDiff, Int.reduceNegSucc, ↓gs_tt, ↓gs_ff, ↓gs_tf, ↓gs_ft])) | fail)
        all_goals (clear s1 s2 s3 s4 s5 s6 s7; try omega)
        all_goals
          have hB' : ((timesP c k 1099511627776).2 && scaleB k (l.take (i + 1))) = (B && (timesP m.k k 1048576).2) := by rw [hsb, hB, Bool.and_assoc]
          rename_i hBv hz
          by_cases hz' : (timesP m.k k 1048576).1 = 0
          · rw [if_pos hz', List.append_nil] at hsl
            first
              | (exfalso; simp [hz'] at hz; done)
              | (refine ⟨n - 1, by omega, _, subH_refl _, i + 1, mm, by omega, ⟨?_, ?_, rfl⟩, rfl, ?_⟩ <;> first | (rw [hB', hBv]; simp; done) | (rw [hsl]; done))
          · rw [if_neg hz'] at hsl
            first
              | (exfalso; simp [hz'] at hz; done)
              | (refine ⟨n - 1, by omega, _, subH_tail (by simp [hget]), i + 1, mm + 1, by omega, ⟨?_, ?_, rfl⟩, rfl, ?_⟩ <;> first | (rw [hB', hBv]; simp; done) | (rw [hsl]; simp [encM_app, encM]; done))
      · rw [List.take_of_length_le hge] at s3 s4
        have hfin : ∀ B, B = ((timesP c k 1099511627776).2 && scaleB k l) → scaleR c l k = if B = true then ((timesP c k 1099511627776).1, scaleL k l, 0) else (0, [], 12) := by
          intro B hB; unfold scaleR; rw [if_neg (by rw [hok]; simp), hB]
        obtain ⟨B, hB⟩ : ∃ B, B = ((timesP c k 1099511627776).2 && scaleB k l) := ⟨_, rfl⟩
        rw [← hB] at s3
        rw [hfin B hB]
        simp (implicitDefEqProofs := false) only [s1, s2, s3, s4, s5, s6, s7, ltF hge, List.take_of_length_le hge, encM_len, go_sem, reduceCtorEq, Nat.reduceAdd, Nat.reduceMul, Nat.reduceLeDiff, Nat.reduceLT, Nat.reduceEqDiff, Int.reduceNegSucc, ↓gs_tt, ↓gs_ff, ↓gs_tf, ↓gs_ft]
        cases B
        · simp (implicitDefEqProofs := false) only [encM, go_sem, reduceCtorEq, Nat.reduceAdd, Nat.reduceMul, Nat.reduceLeDiff, Nat.reduceLT, Nat.reduceEqDiff, Int.reduceNegSucc, ↓gs_tt, ↓gs_ff, ↓gs_tf, ↓gs_ft]
        · simp (implicitDefEqProofs := false) only [go_sem, reduceCtorEq, Nat.reduceAdd, Nat.reduceMul, Nat.reduceLeDiff, Nat.reduceLT, Nat.reduceEqDiff, Int.reduceNegSucc, ↓gs_tt, ↓gs_ff, ↓gs_tf, ↓gs_ft]
end Go.Proofs.Ythdlkpmhjbaplaa.Dx

/- What sum, fits, Add come to. No statement of this seat is proved here. -/
set_option autoImplicit false
set_option linter.unusedSimpArgs false
set_option linter.unusedVariables false
set_option maxRecDepth 10000
namespace Go.Proofs.Ythdlkpmhjbaplaa.Dx
open Go
attribute [local irreducible] wCall wLoop
attribute [local go_sem] decide_true decide_false Bool.and_true Bool.true_and Bool.and_self Bool.false_and Bool.and_false vMs vCs vIs Slots At Tr.get_z Tr.get_l Tr.get_r Tr.get_e Tr.set_z_e Tr.set_z_n Tr.set_l_e Tr.set_l_n Tr.set_r_e Tr.set_r_n eOs_n eOs_c eDs_n eDs_c ekOs ekDs ekPut ekBack ekSeq_n ekSeq_x ekSeq_r ekBlk_n ekBlk_x ekBlk_r eO_mk eO_gd eO_loc eO_locb eD_mk eD_loc eD_locb eD_gd eDr eC_skip eC_reg eC_drw eC_seq eC_cond eC_block eC_loop eC_exit eC_ret eRetW_n eRetW_r wk wkL eRet_n eRet_r ekLd_n ekLd_x ekLd_r ekLp_n ekLp_x ekLp_r wI wBin wBd vev vov vovs vplace vouter ofDV ofDVs vcells spl vfills vput vuse vuseP vback vbackP wOf vbare isVarV vkeep hget hset hdels hdel hkeys live vw vwL keysV keysL pureV pureL vsrc veqs vmx vmn vT cT vC cC VOb.cells vres vrsL vrs1 vone List.length_cons List.length_nil List.getElem?_cons_zero List.getElem?_cons_succ List.take_succ_cons List.take_zero List.drop_succ_cons List.drop_zero List.drop_nil List.take_nil List.nil_append List.cons_append List.append_nil Option.some.injEq Nat.zero_add Nat.add_zero if_true if_false ite_true ite_false true_and and_true false_and and_false true_implies implies_true false_implies Bool.true_eq_false Bool.false_eq_true Bool.not_true Bool.not_false eq_self_iff_true Int.toNat_natCast Int.ofNat_eq_natCast Int.ofNat_zero Int.ofNat_one Int.cast_ofNat_Int VV.int.injEq VV.bool.injEq cond_true cond_false

def keepM (m : Mono) (l : List Mono) : List Mono := if m.k = 0 then l else m :: l
def sumM : List Mono → List Mono → List Mono
  | [], [] => []
  | m :: x, [] => keepM m (sumM x [])
  | [], n :: y => keepM n (sumM [] y)
  | m :: x, n :: y => if m.v < n.v then keepM m (sumM x (n :: y)) else if n.v < m.v then keepM n (sumM (m :: x) y) else keepM ⟨m.v, IntKind.i64.wrap (m.k + n.k)⟩ (sumM x y)
termination_by x y => x.length + y.length
theorem encM_g0' (m : Mono) (l : List Mono) : (encM (m :: l))[0]? = some (.int .i64 m.v) := rfl
theorem vsub_one (m : Mono) (l : List Mono) : vsub (encM (m :: l)) 2 1 (l.length + 1) = encM l := by
  unfold vsub
  have : (encM (m :: l)).drop (1 * 2) = encM l := rfl
  rw [this, List.take_of_length_le]
  rw [encM_len]; omega
theorem vsub_two (m : Mono) (l : List Mono) : vsub (.int .i64 m.v :: .int .i64 m.k :: encM l) 2 1 (l.length + 1) = encM l := vsub_one m l
theorem sumY (Y : List Mono) : (decide ((0 : Int) < ((Y.length + 1 : Nat) : Int)) = true) ∧ (decide (((Y.length + 1 : Nat) : Int) = 0) = false) := by
  constructor <;> simp <;> omega
theorem s0lt : decide ((0 : Int) < 0) = false := rfl
theorem s0eq : decide ((0 : Int) = 0) = true := rfl
set_option maxHeartbeats 2000000 in
theorem sum_ok (c : Int) (a : List Mono) (d : Int) (b : List Mono) (ha : a.length ≤ 1000000) (hb : b.length ≤ 1000000) :
    VPure FT p110 [.agg [.int .i64 c, .fz a.length none 2 (encM a)], .agg [.int .i64 d, .fz b.length none 2 (encM b)]] (.agg [.int .i64 (IntKind.i64.wrap (c + d)), .fz (sumM a b).length none 2 (encM (sumM a b))]) := by
  refine vpure_of_body' (f := p110) rfl rfl ?_
  simp (implicitDefEqProofs := false) only [go_sem, reduceCtorEq, Nat.reduceAdd, Nat.reduceMul, Nat.reduceLeDiff, Nat.reduceLT, Nat.reduceEqDiff, Int.reduceNegSucc, ↓gs_tt, ↓gs_ff, ↓gs_tf, ↓gs_ft]
  refine wLoop_ownV p5 1 2 (by simp (implicitDefEqProofs := false) only [go_sem, reduceCtorEq, Nat.reduceAdd, Nat.reduceMul, Nat.reduceLeDiff, Nat.reduceLT, Nat.reduceEqDiff, Int.reduceNegSucc, ↓gs_tt, ↓gs_ff, ↓gs_tf, ↓gs_ft]; rfl) (by rfl) ?_
  simp (implicitDefEqProofs := false) only [go_sem, reduceCtorEq, Nat.reduceAdd, Nat.reduceMul, Nat.reduceLeDiff, Nat.reduceLT, Nat.reduceEqDiff, Int.reduceNegSucc, ↓gs_tt, ↓gs_ff, ↓gs_tf, ↓gs_ft]
  refine wLoop_dr (fun n s => ∃ (O X Y : List Mono) (m : Nat), X.length + Y.length = n ∧ O.length + n ≤ a.length + b.length ∧ At s [(p4, .var [.int .i64 0, .nils]), (p5, .var [.int .i64 (IntKind.i64.wrap (c + d)), .ow 0 O.length 2]), (p6, .fz X.length none 2 (encM X)), (p7, .fz Y.length none 2 (encM Y))] (m + 1) 0 [(0, .row (encM O))] ∧ sumM a b = O ++ sumM X Y) (a.length + b.length) ?_ ?_
  · exact ⟨[], a, b, 0, rfl, by simp, by simp (implicitDefEqProofs := false) only [go_sem, reduceCtorEq, Nat.reduceAdd, Nat.reduceMul, Nat.reduceLeDiff, Nat.reduceLT, Nat.reduceEqDiff, Int.reduceNegSucc, ↓gs_tt, ↓gs_ff, ↓gs_tf, ↓gs_ft]; simp [encM], rfl⟩
  · rintro n ⟨e, nx, w, h⟩ ⟨O, X, Y, mm, hn, hO, ⟨⟨s1, s2, s3, s4, -⟩, rfl, rfl, rfl⟩, hk⟩
    cases X with
    | nil =>
      cases Y with
      | nil =>
        simp (implicitDefEqProofs := false) only [s1, s2, s3, s4, s0lt, s0eq, Int.toNat_zero, Int.toNat_one, Nat.zero_mul, Nat.add_sub_cancel, encM, encM_len, go_sem, reduceCtorEq, Nat.reduceAdd, Nat.reduceMul, Nat.reduceLeDiff, Nat.reduceLT, Nat.reduceEqDiff, Int.reduceNegSucc, ↓gs_tt, ↓gs_ff, ↓gs_tf, ↓gs_ft]
        have : sumM [] [] = [] := by simp [sumM]
        rw [this, List.append_nil] at hk
        rw [hk]
      | cons y Y =>
        have hs : sumM [] (y :: Y) = keepM y (sumM [] Y) := by simp [sumM]
        rw [hs] at hk
        have fin : ∀ Z : List Mono, sumM a b = O ++ keepM y Z → (y.k = 0 → sumM a b = O ++ Z) ∧ (y.k ≠ 0 → sumM a b = (O ++ [y]) ++ Z) := fun Z h => ⟨fun h0 => by rw [h]; simp [keepM, h0], fun h0 => by rw [h]; simp [keepM, h0]⟩
        obtain ⟨fin1, fin2⟩ := fin _ hk
        simp only [List.length_cons, List.length_nil] at hn
        by_cases h0 : y.k = 0
        · have hd : decide (y.k = 0) = true := by simpa using h0
          simp (implicitDefEqProofs := false) only [s1, s2, s3, s4, hd, s0lt, s0eq, Int.toNat_zero, Int.toNat_one, Nat.zero_mul, Nat.add_sub_cancel, encM, sumY Y, vsub_two, encM_len, go_sem, reduceCtorEq, Nat.reduceAdd, Nat.reduceMul, Nat.reduceLeDiff, Nat.reduceLT, Nat.reduceEqDiff, Int.reduceNegSucc, ↓gs_tt, ↓gs_ff, ↓gs_tf, ↓gs_ft]
          repeat' (first | (with_reducible refine And.intro ?_ ?_) | (with_reducible refine gs_t ?_ ?_) | (with_reducible refine gs_f ?_ ?_) | (intro _) | fail)
          all_goals first | omega | skip
          exact ⟨n - 1, by omega, _, subH_refl _, O, [], Y, mm, by simp; omega, by omega, ⟨⟨rfl, rfl, rfl⟩, rfl, rfl⟩, fin1 h0⟩
        · have hd : decide (y.k = 0) = false := by simpa using h0
          simp (implicitDefEqProofs := false) only [s1, s2, s3, s4, hd, s0lt, s0eq, Int.toNat_zero, Int.toNat_one, Nat.zero_mul, Nat.add_sub_cancel, encM, sumY Y, vsub_two, encM_len, go_sem, reduceCtorEq, Nat.reduceAdd, Nat.reduceMul, Nat.reduceLeDiff, Nat.reduceLT, Nat.reduceEqDiff, Int.reduceNegSucc, ↓gs_tt, ↓gs_ff, ↓gs_tf, ↓gs_ft]
          repeat' (first | (with_reducible refine And.intro ?_ ?_) | (with_reducible refine gs_t ?_ ?_) | (with_reducible refine gs_f ?_ ?_) | (intro _) | fail)
          all_goals first | omega | skip
          exact ⟨n - 1, by omega, _, subH_tail (by simp [hget]), O ++ [y], [], Y, mm + 1, by simp; omega, by simp; omega, ⟨⟨by simp, rfl, rfl⟩, rfl, by simp [encM_app, encM]⟩, fin2 h0⟩
    | cons x X =>
      cases Y with
      | nil =>
        have hs : sumM (x :: X) [] = keepM x (sumM X []) := by simp [sumM]
        rw [hs] at hk
        simp only [List.length_cons, List.length_nil] at hn
        by_cases h0 : x.k = 0
        · have hd : decide (x.k = 0) = true := by simpa using h0
          simp (implicitDefEqProofs := false) only [s1, s2, s3, s4, hd, s0lt, s0eq, Int.toNat_zero, Int.toNat_one, Nat.zero_mul, Nat.add_sub_cancel, encM, sumY X, vsub_two, encM_len, go_sem, reduceCtorEq, Nat.reduceAdd, Nat.reduceMul, Nat.reduceLeDiff, Nat.reduceLT, Nat.reduceEqDiff, Int.reduceNegSucc, ↓gs_tt, ↓gs_ff, ↓gs_tf, ↓gs_ft]
          repeat' (first | (with_reducible refine And.intro ?_ ?_) | (with_reducible refine gs_t ?_ ?_) | (with_reducible refine gs_f ?_ ?_) | (intro _) | fail)
          all_goals first | omega | skip
          exact ⟨n - 1, by omega, _, subH_refl _, O, X, [], mm, by simp; omega, by omega, ⟨⟨rfl, rfl, rfl⟩, rfl, rfl⟩, by rw [hk]; simp [keepM, h0]⟩
        · have hd : decide (x.k = 0) = false := by simpa using h0
          simp (implicitDefEqProofs := false) only [s1, s2, s3, s4, hd, s0lt, s0eq, Int.toNat_zero, Int.toNat_one, Nat.zero_mul, Nat.add_sub_cancel, encM, sumY X, vsub_two, encM_len, go_sem, reduceCtorEq, Nat.reduceAdd, Nat.reduceMul, Nat.reduceLeDiff, Nat.reduceLT, Nat.reduceEqDiff, Int.reduceNegSucc, ↓gs_tt, ↓gs_ff, ↓gs_tf, ↓gs_ft]
          repeat' (first | (with_reducible refine And.intro ?_ ?_) | (with_reducible refine gs_t ?_ ?_) | (with_reducible refine gs_f ?_ ?_) | (intro _) | fail)
          all_goals first | omega | skip
          exact ⟨n - 1, by omega, _, subH_tail (by simp [hget]), O ++ [x], X, [], mm + 1, by simp; omega, by simp; omega, ⟨⟨by simp, rfl, rfl⟩, rfl, by simp [encM_app, encM]⟩, by rw [hk]; simp [keepM, h0]⟩
      | cons y Y =>
        simp only [List.length_cons, List.length_nil] at hn
        by_cases hlt : x.v < y.v
        · have hs : sumM (x :: X) (y :: Y) = keepM x (sumM X (y :: Y)) := by rw [sumM, if_pos hlt]
          rw [hs] at hk
          have hd1 : decide (x.v < y.v) = true := by simpa using hlt
          by_cases h0 : x.k = 0
          · have hd : decide (x.k = 0) = true := by simpa using h0
            simp (implicitDefEqProofs := false) only [s1, s2, s3, s4, hd, hd1, s0lt, s0eq, Int.toNat_zero, Int.toNat_one, Nat.zero_mul, Nat.add_sub_cancel, encM, sumY X, sumY Y, vsub_two, encM_len, go_sem, reduceCtorEq, Nat.reduceAdd, Nat.reduceMul, Nat.reduceLeDiff, Nat.reduceLT, Nat.reduceEqDiff, Int.reduceNegSucc, ↓gs_tt, ↓gs_ff, ↓gs_tf, ↓gs_ft]
            repeat' (first | (with_reducible refine And.intro ?_ ?_) | (with_reducible refine gs_t ?_ ?_) | (with_reducible refine gs_f ?_ ?_) | (intro _) | fail)
            all_goals first | omega | skip
            exact ⟨n - 1, by omega, _, subH_refl _, O, X, y :: Y, mm, by simp; omega, by omega, ⟨⟨rfl, rfl, rfl⟩, rfl, rfl⟩, by rw [hk]; simp [keepM, h0]⟩
          · have hd : decide (x.k = 0) = false := by simpa using h0
            simp (implicitDefEqProofs := false) only [s1, s2, s3, s4, hd, hd1, s0lt, s0eq, Int.toNat_zero, Int.toNat_one, Nat.zero_mul, Nat.add_sub_cancel, encM, sumY X, sumY Y, vsub_two, encM_len, go_sem, reduceCtorEq, Nat.reduceAdd, Nat.reduceMul, Nat.reduceLeDiff, Nat.reduceLT, Nat.reduceEqDiff, Int.reduceNegSucc, ↓gs_tt, ↓gs_ff, ↓gs_tf, ↓gs_ft]
            repeat' (first | (with_reducible refine And.intro ?_ ?_) | (with_reducible refine gs_t ?_ ?_) | (with_reducible refine gs_f ?_ ?_) | (intro _) | fail)
            all_goals first | omega | skip
            exact ⟨n - 1, by omega, _, subH_tail (by simp [hget]), O ++ [x], X, y :: Y, mm + 1, by simp; omega, by simp; omega, ⟨⟨by simp, rfl, rfl⟩, rfl, by simp [encM_app, encM]⟩, by rw [hk]; simp [keepM, h0]⟩
        · have hd1 : decide (x.v < y.v) = false := by simpa using hlt
          by_cases hgt : y.v < x.v
          · have hs : sumM (x :: X) (y :: Y) = keepM y (sumM (x :: X) Y) := by rw [sumM, if_neg hlt, if_pos hgt]
            rw [hs] at hk
            have hd2 : decide (y.v < x.v) = true := by simpa using hgt
            by_cases h0 : y.k = 0
            · have hd : decide (y.k = 0) = true := by simpa using h0
              simp (implicitDefEqProofs := false) only [s1, s2, s3, s4, hd, hd1, hd2, s0lt, s0eq, Int.toNat_zero, Int.toNat_one, Nat.zero_mul, Nat.add_sub_cancel, encM, sumY X, sumY Y, vsub_two, encM_len, go_sem, reduceCtorEq, Nat.reduceAdd, Nat.reduceMul, Nat.reduceLeDiff, Nat.reduceLT, Nat.reduceEqDiff, Int.reduceNegSucc, ↓gs_tt, ↓gs_ff, ↓gs_tf, ↓gs_ft]
              repeat' (first | (with_reducible refine And.intro ?_ ?_) | (with_reducible refine gs_t ?_ ?_) | (with_reducible refine gs_f ?_ ?_) | (intro _) | fail)
              all_goals first | omega | skip
              exact ⟨n - 1, by omega, _, subH_refl _, O, x :: X, Y, mm, by simp; omega, by omega, ⟨⟨rfl, rfl, rfl⟩, rfl, rfl⟩, by rw [hk]; simp [keepM, h0]⟩
            · have hd : decide (y.k = 0) = false := by simpa using h0
              simp (implicitDefEqProofs := false) only [s1, s2, s3, s4, hd, hd1, hd2, s0lt, s0eq, Int.toNat_zero, Int.toNat_one, Nat.zero_mul, Nat.add_sub_cancel, encM, sumY X, sumY Y, vsub_two, encM_len, go_sem, reduceCtorEq, Nat.reduceAdd, Nat.reduceMul, Nat.reduceLeDiff, Nat.reduceLT, Nat.reduceEqDiff, Int.reduceNegSucc, ↓gs_tt, ↓gs_ff, ↓gs_tf, ↓gs_ft]
              repeat' (first | (with_reducible refine And.intro ?_ ?_) | (with_reducible refine gs_t ?_ ?_) | (with_reducible refine gs_f ?_ ?_) | (intro _) | fail)
              all_goals first | omega | skip
              exact ⟨n - 1, by omega, _, subH_tail (by simp [hget]), O ++ [y], x :: X, Y, mm + 1, by simp; omega, by simp; omega, ⟨⟨by simp, rfl, rfl⟩, rfl, by simp [encM_app, encM]⟩, by rw [hk]; simp [keepM, h0]⟩
          · have hs : sumM (x :: X) (y :: Y) = keepM ⟨x.v, IntKind.i64.wrap (x.k + y.k)⟩ (sumM X Y) := by rw [sumM, if_neg hlt, if_neg hgt]
            rw [hs] at hk
            have hd2 : decide (y.v < x.v) = false := by simpa using hgt
            by_cases h0 : IntKind.i64.wrap (x.k + y.k) = 0
            · have hd : decide (IntKind.i64.wrap (x.k + y.k) = 0) = true := by simpa using h0
              simp (implicitDefEqProofs := false) only [s1, s2, s3, s4, hd, hd1, hd2, s0lt, s0eq, Int.toNat_zero, Int.toNat_one, Nat.zero_mul, Nat.add_sub_cancel, encM, sumY X, sumY Y, vsub_two, encM_len, go_sem, reduceCtorEq, Nat.reduceAdd, Nat.reduceMul, Nat.reduceLeDiff, Nat.reduceLT, Nat.reduceEqDiff, Int.reduceNegSucc, ↓gs_tt, ↓gs_ff, ↓gs_tf, ↓gs_ft]
              repeat' (first | (with_reducible refine And.intro ?_ ?_) | (with_reducible refine gs_t ?_ ?_) | (with_reducible refine gs_f ?_ ?_) | (intro _) | fail)
              all_goals first | omega | skip
              exact ⟨n - 2, by omega, _, subH_refl _, O, X, Y, mm, by omega, by omega, ⟨⟨rfl, rfl, rfl⟩, rfl, rfl⟩, by rw [hk]; simp [keepM, h0]⟩
            · have hd : decide (IntKind.i64.wrap (x.k + y.k) = 0) = false := by simpa using h0
              simp (implicitDefEqProofs := false) only [s1, s2, s3, s4, hd, hd1, hd2, s0lt, s0eq, Int.toNat_zero, Int.toNat_one, Nat.zero_mul, Nat.add_sub_cancel, encM, sumY X, sumY Y, vsub_two, encM_len, go_sem, reduceCtorEq, Nat.reduceAdd, Nat.reduceMul, Nat.reduceLeDiff, Nat.reduceLT, Nat.reduceEqDiff, Int.reduceNegSucc, ↓gs_tt, ↓gs_ff, ↓gs_tf, ↓gs_ft]
              repeat' (first | (with_reducible refine And.intro ?_ ?_) | (with_reducible refine gs_t ?_ ?_) | (with_reducible refine gs_f ?_ ?_) | (intro _) | fail)
              all_goals first | omega | skip
              exact ⟨n - 2, by omega, _, subH_tail (by simp [hget]), O ++ [⟨x.v, IntKind.i64.wrap (x.k + y.k)⟩], X, Y, mm + 1, by omega, by simp; omega, ⟨⟨by simp, rfl, rfl⟩, rfl, by simp [encM_app, encM]⟩, by rw [hk]; simp [keepM, h0]⟩
theorem fits_ok (c : Int) (l : List Mono) (hl : l.length ≤ 1000000) : VPure FT p109 [.agg [.int .i64 c, .fz l.length none 2 (encM l)]] (vTE (if okT c l = true then (c, l, 0) else (0, [], 12))) := by
  refine vpure_of_body' (f := p109) rfl rfl ?_
  cases hok : okT c l with
  | true =>
    simp (implicitDefEqProofs := false) only [vTE, if_true, go_sem, reduceCtorEq, Nat.reduceAdd, Nat.reduceMul, Nat.reduceLeDiff, Nat.reduceLT, Nat.reduceEqDiff, Int.reduceNegSucc, ↓gs_tt, ↓gs_ff, ↓gs_tf, ↓gs_ft]
    repeat' (first | (with_reducible refine And.intro ?_ ?_) | (with_reducible refine gs_t ?_ ?_) | (with_reducible refine gs_f ?_ ?_) | (intro _) | ((with_reducible apply wCall_any); (· (simp (implicitDefEqProofs := false) only [go_sem, reduceCtorEq, Nat.reduceAdd, Nat.reduceMul, Nat.reduceLeDiff, Nat.reduceLT, Nat.reduceEqDiff, Int.reduceNegSucc, ↓gs_tt, ↓gs_ff, ↓gs_tf, ↓gs_ft] <;> rfl)); (· (exact Check_ok _ _ (by omega))); (· rfl); (· rfl); (· (first | exact Eq.refl true | exact Eq.refl false)); (simp (implicitDefEqProofs := false) only [hok, if_true, go_sem, reduceCtorEq, Nat.reduceAdd, Nat.reduceMul, Nat.reduceLeDiff, Nat.reduceLT, Nat.reduceEqDiff, Int.reduceNegSucc, ↓gs_tt, ↓gs_ff, ↓gs_tf, ↓gs_ft])) | fail)
  | false =>
    have h1 : decide ((1 : Int) = 0) = false := rfl
    simp (implicitDefEqProofs := false) only [vTE, Bool.false_eq_true, if_false, encM, go_sem, reduceCtorEq, Nat.reduceAdd, Nat.reduceMul, Nat.reduceLeDiff, Nat.reduceLT, Nat.reduceEqDiff, Int.reduceNegSucc, ↓gs_tt, ↓gs_ff, ↓gs_tf, ↓gs_ft]
    repeat' (first | (with_reducible refine And.intro ?_ ?_) | (with_reducible refine gs_t ?_ ?_) | (with_reducible refine gs_f ?_ ?_) | (intro _) | ((with_reducible apply wCall_any); (· (simp (implicitDefEqProofs := false) only [go_sem, reduceCtorEq, Nat.reduceAdd, Nat.reduceMul, Nat.reduceLeDiff, Nat.reduceLT, Nat.reduceEqDiff, Int.reduceNegSucc, ↓gs_tt, ↓gs_ff, ↓gs_tf, ↓gs_ft] <;> rfl)); (· (exact Check_ok _ _ (by omega))); (· rfl); (· rfl); (· (first | exact Eq.refl true | exact Eq.refl false)); (simp (implicitDefEqProofs := false) only [hok, Bool.false_eq_true, if_false, encM, h1, go_sem, reduceCtorEq, Nat.reduceAdd, Nat.reduceMul, Nat.reduceLeDiff, Nat.reduceLT, Nat.reduceEqDiff, Int.reduceNegSucc, ↓gs_tt, ↓gs_ff, ↓gs_tf, ↓gs_ft])) | fail)
/-- What Add tells. -/
def addR (c : Int) (a : List Mono) (d : Int) (b : List Mono) : Int × List Mono × Int :=
  if okT c a = false ∨ okT d b = false then (0, [], 1) else if okT (IntKind.i64.wrap (c + d)) (sumM a b) = true then (IntKind.i64.wrap (c + d), sumM a b, 0) else (0, [], 12)
theorem sumM_len : ∀ a b : List Mono, (sumM a b).length ≤ a.length + b.length := by
  intro a b
  induction a, b using sumM.induct <;> simp_all [sumM, keepM]
  all_goals (repeat' split) <;> first | omega | (simp only [List.length_cons] at *; omega) | (simp_all; done) | (simp_all; omega)
theorem Add_ok (c : Int) (a : List Mono) (d : Int) (b : List Mono) (ha : a.length ≤ 500000) (hb : b.length ≤ 500000) :
    VPure FT p86 [.agg [.int .i64 c, .fz a.length none 2 (encM a)], .agg [.int .i64 d, .fz b.length none 2 (encM b)]] (vTE (addR c a d b)) := by
  refine vpure_of_body' (f := p86) rfl rfl ?_
  have h1 : decide ((1 : Int) = 0) = false := rfl
  have hlen := sumM_len a b
  cases hok : okT c a with
  | false =>
    have e : addR c a d b = (0, [], 1) := by unfold addR; rw [if_pos (.inl hok)]
    simp (implicitDefEqProofs := false) only [e, vTE, encM, go_sem, reduceCtorEq, Nat.reduceAdd, Nat.reduceMul, Nat.reduceLeDiff, Nat.reduceLT, Nat.reduceEqDiff, Int.reduceNegSucc, ↓gs_tt, ↓gs_ff, ↓gs_tf, ↓gs_ft]
    repeat' (first | (with_reducible refine And.intro ?_ ?_) | (with_reducible refine gs_t ?_ ?_) | (with_reducible refine gs_f ?_ ?_) | (intro _) | ((with_reducible apply wCall_any); (· (simp (implicitDefEqProofs := false) only [go_sem, reduceCtorEq, Nat.reduceAdd, Nat.reduceMul, Nat.reduceLeDiff, Nat.reduceLT, Nat.reduceEqDiff, Int.reduceNegSucc, ↓gs_tt, ↓gs_ff, ↓gs_tf, ↓gs_ft] <;> rfl)); (· (exact Check_ok _ _ (by omega))); (· rfl); (· rfl); (· (first | exact Eq.refl true | exact Eq.refl false)); (simp (implicitDefEqProofs := false) only [hok, Bool.false_eq_true, if_false, encM, h1, go_sem, reduceCtorEq, Nat.reduceAdd, Nat.reduceMul, Nat.reduceLeDiff, Nat.reduceLT, Nat.reduceEqDiff, Int.reduceNegSucc, ↓gs_tt, ↓gs_ff, ↓gs_tf, ↓gs_ft])) | fail)
  | true =>
    cases hok2 : okT d b with
    | false =>
      have e : addR c a d b = (0, [], 1) := by unfold addR; rw [if_pos (.inr hok2)]
      simp (implicitDefEqProofs := false) only [e, vTE, encM, go_sem, reduceCtorEq, Nat.reduceAdd, Nat.reduceMul, Nat.reduceLeDiff, Nat.reduceLT, Nat.reduceEqDiff, Int.reduceNegSucc, ↓gs_tt, ↓gs_ff, ↓gs_tf, ↓gs_ft]
      repeat' (first | (with_reducible refine And.intro ?_ ?_) | (with_reducible refine gs_t ?_ ?_) | (with_reducible refine gs_f ?_ ?_) | (intro _) | ((with_reducible apply wCall_any); (· (simp (implicitDefEqProofs := false) only [go_sem, reduceCtorEq, Nat.reduceAdd, Nat.reduceMul, Nat.reduceLeDiff, Nat.reduceLT, Nat.reduceEqDiff, Int.reduceNegSucc, ↓gs_tt, ↓gs_ff, ↓gs_tf, ↓gs_ft] <;> rfl)); (· (exact Check_ok _ _ (by omega))); (· rfl); (· rfl); (· (first | exact Eq.refl true | exact Eq.refl false)); (simp (implicitDefEqProofs := false) only [hok, hok2, Bool.false_eq_true, if_false, if_true, encM, h1, go_sem, reduceCtorEq, Nat.reduceAdd, Nat.reduceMul, Nat.reduceLeDiff, Nat.reduceLT, Nat.reduceEqDiff, Int.reduceNegSucc, ↓gs_tt, ↓gs_ff, ↓gs_tf, ↓gs_ft])) | fail)
    | true =>
      have e : addR c a d b = if okT (IntKind.i64.wrap (c + d)) (sumM a b) = true then (IntKind.i64.wrap (c + d), sumM a b, 0) else (0, [], 12) := by unfold addR; rw [if_neg (by rw [hok, hok2]; simp)]
      rw [e]
      simp (implicitDefEqProofs := false) only [vTE, go_sem, reduceCtorEq, Nat.reduceAdd, Nat.reduceMul, Nat.reduceLeDiff, Nat.reduceLT, Nat.reduceEqDiff, Int.reduceNegSucc, ↓gs_tt, ↓gs_ff, ↓gs_tf, ↓gs_ft]
      repeat' (first | (with_reducible refine And.intro ?_ ?_) | (with_reducible refine gs_t ?_ ?_) | (with_reducible refine gs_f ?_ ?_) | (intro _) | ((with_reducible apply wCall_any); (· (simp (implicitDefEqProofs := false) only [go_sem, reduceCtorEq, Nat.reduceAdd, Nat.reduceMul, Nat.reduceLeDiff, Nat.reduceLT, Nat.reduceEqDiff, Int.reduceNegSucc, ↓gs_tt, ↓gs_ff, ↓gs_tf, ↓gs_ft] <;> rfl)); (· (first | exact Check_ok _ _ (by omega) | exact sum_ok c a d b (by omega) (by omega) | exact fits_ok _ (sumM a b) (by omega))); (· rfl); (· rfl); (· (first | exact Eq.refl true | exact Eq.refl false)); (simp (implicitDefEqProofs := false) only [vTE, hok, hok2, if_true, go_sem, reduceCtorEq, Nat.reduceAdd, Nat.reduceMul, Nat.reduceLeDiff, Nat.reduceLT, Nat.reduceEqDiff, Int.reduceNegSucc, ↓gs_tt, ↓gs_ff, ↓gs_tf, ↓gs_ft])) | fail)
end Go.Proofs.Ythdlkpmhjbaplaa.Dx
