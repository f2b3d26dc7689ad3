/- What Put and Swap come to. No statement of this seat is proved here. -/
import Derived.Test.YthdlkpmhjbaplaaVyU
set_option autoImplicit false
set_option linter.unusedSimpArgs false
set_option linter.unusedVariables false
set_option maxRecDepth 10000
namespace Go.Proofs.Ythdlkpmhjbaplaa.Dx
open Go
attribute [local irreducible] wCall wLoop
attribute [local go_sem] decide_true decide_false Bool.and_true Bool.true_and Bool.and_self Bool.false_and Bool.and_false vMs vCs vIs Slots At Tr.get_z Tr.get_l Tr.get_r Tr.get_e Tr.set_z_e Tr.set_z_n Tr.set_l_e Tr.set_l_n Tr.set_r_e Tr.set_r_n eOs_n eOs_c eDs_n eDs_c ekOs ekDs ekPut ekBack ekSeq_n ekSeq_x ekSeq_r ekBlk_n ekBlk_x ekBlk_r eO_mk eO_gd eO_loc eO_locb eD_mk eD_loc eD_locb eD_gd eDr eC_skip eC_reg eC_drw eC_seq eC_cond eC_block eC_loop eC_exit eC_ret eRetW_n eRetW_r wk wkL eRet_n eRet_r ekLd_n ekLd_x ekLd_r ekLp_n ekLp_x ekLp_r wI wBin wBd vev vov vovs vplace vouter ofDV ofDVs vcells spl vfills vput vuse vuseP vback vbackP wOf vbare isVarV vkeep hget hset hdels hdel hkeys live vw vwL keysV keysL pureV pureL vsrc veqs vmx vmn vT cT vC cC VOb.cells vres vrsL vrs1 vone List.length_cons List.length_nil List.getElem?_cons_zero List.getElem?_cons_succ List.take_succ_cons List.take_zero List.drop_succ_cons List.drop_zero List.drop_nil List.take_nil List.nil_append List.cons_append List.append_nil Option.some.injEq Nat.zero_add Nat.add_zero if_true if_false ite_true ite_false true_and and_true false_and and_false true_implies implies_true false_implies Bool.true_eq_false Bool.false_eq_true Bool.not_true Bool.not_false eq_self_iff_true Int.toNat_natCast Int.ofNat_eq_natCast Int.ofNat_zero Int.ofNat_one Int.cast_ofNat_Int VV.int.injEq VV.bool.injEq cond_true cond_false

/-- What Put tells. -/
def putR (c : Int) (a : List Mono) (v : Int) (d : Int) (b : List Mono) : Int × List Mono × Int :=
  if okT c a = false ∨ okT d b = false then (0, [], 1)
  else if (scaleR d b (kOf a v)).2.2 ≠ 0 then (0, [], (scaleR d b (kOf a v)).2.2)
  else addR c (delM v a) (scaleR d b (kOf a v)).1 (scaleR d b (kOf a v)).2.1
theorem delM_len (v : Int) (a : List Mono) : (delM v a).length ≤ a.length := List.length_filter_le _ _
set_option maxHeartbeats 1000000 in
theorem Put_ok (c : Int) (a : List Mono) (v : Int) (d : Int) (b : List Mono) (ha : a.length ≤ 400000) (hb : b.length ≤ 400000) :
    VPure FT p67 [.agg [.int .i64 c, .fz a.length none 2 (encM a)], .int .i64 v, .agg [.int .i64 d, .fz b.length none 2 (encM b)]] (vTE (putR c a v d b)) := by
  refine vpure_of_body' (f := p67) rfl rfl ?_
  obtain ⟨A, hA⟩ : ∃ A, A = scaleR d b (kOf a v) := ⟨_, rfl⟩
  have SA := Scale_ok d b (kOf a v) (by omega)
  have lA : A.2.1.length ≤ 400000 := by rw [hA]; exact Nat.le_trans (scaleR_len _ _ _) hb
  have hP : putR c a v d b = if okT c a = false ∨ okT d b = false then (0, [], 1) else if A.2.2 ≠ 0 then (0, [], A.2.2) else addR c (delM v a) A.1 A.2.1 := by unfold putR; rw [hA]
  rw [← hA] at SA
  have d10 : decide ((1 : Int) = 0) = false := rfl
  cases h1 : okT c a with
  | false =>
    rw [hP, if_pos (.inl h1)]
    simp (implicitDefEqProofs := false) only [vTE, encM, go_sem, reduceCtorEq, Nat.reduceAdd, Nat.reduceMul, Nat.reduceLeDiff, Nat.reduceLT, Nat.reduceEqDiff, Int.reduceNegSucc, ↓gs_tt, ↓gs_ff, ↓gs_tf, ↓gs_ft]
    repeat' (first | (with_reducible refine And.intro ?_ ?_) | (with_reducible refine gs_t ?_ ?_) | (with_reducible refine gs_f ?_ ?_) | (intro _) | ((with_reducible apply wCall_any); (· (simp (implicitDefEqProofs := false) only [go_sem, reduceCtorEq, Nat.reduceAdd, Nat.reduceMul, Nat.reduceLeDiff, Nat.reduceLT, Nat.reduceEqDiff, Int.reduceNegSucc, ↓gs_tt, ↓gs_ff, ↓gs_tf, ↓gs_ft] <;> rfl)); (· (exact Check_ok _ _ (by omega))); (· rfl); (· rfl); (· (first | exact Eq.refl true | exact Eq.refl false)); (simp (implicitDefEqProofs := false) only [h1, Bool.false_eq_true, if_false, encM, d10, Bool.not_false, go_sem, reduceCtorEq, Nat.reduceAdd, Nat.reduceMul, Nat.reduceLeDiff, Nat.reduceLT, Nat.reduceEqDiff, Int.reduceNegSucc, ↓gs_tt, ↓gs_ff, ↓gs_tf, ↓gs_ft])) | fail)
  | true =>
  cases h2 : okT d b with
  | false =>
    rw [hP, if_pos (.inr h2)]
    simp (implicitDefEqProofs := false) only [vTE, encM, go_sem, reduceCtorEq, Nat.reduceAdd, Nat.reduceMul, Nat.reduceLeDiff, Nat.reduceLT, Nat.reduceEqDiff, Int.reduceNegSucc, ↓gs_tt, ↓gs_ff, ↓gs_tf, ↓gs_ft]
    repeat' (first | (with_reducible refine And.intro ?_ ?_) | (with_reducible refine gs_t ?_ ?_) | (with_reducible refine gs_f ?_ ?_) | (intro _) | ((with_reducible apply wCall_any); (· (simp (implicitDefEqProofs := false) only [go_sem, reduceCtorEq, Nat.reduceAdd, Nat.reduceMul, Nat.reduceLeDiff, Nat.reduceLT, Nat.reduceEqDiff, Int.reduceNegSucc, ↓gs_tt, ↓gs_ff, ↓gs_tf, ↓gs_ft] <;> rfl)); (· (exact Check_ok _ _ (by omega))); (· rfl); (· rfl); (· (first | exact Eq.refl true | exact Eq.refl false)); (simp (implicitDefEqProofs := false) only [h1, h2, Bool.false_eq_true, if_false, if_true, encM, d10, s0eq, Bool.not_false, Bool.not_true, go_sem, reduceCtorEq, Nat.reduceAdd, Nat.reduceMul, Nat.reduceLeDiff, Nat.reduceLT, Nat.reduceEqDiff, Int.reduceNegSucc, ↓gs_tt, ↓gs_ff, ↓gs_tf, ↓gs_ft])) | fail)
  | true =>
  have hno : ¬ (okT c a = false ∨ okT d b = false) := by rw [h1, h2]; simp
  rw [hP, if_neg hno]
  by_cases ea : A.2.2 = 0
  case neg =>
    have da : decide (A.2.2 = 0) = false := by simpa using ea
    rw [if_pos ea]
    simp (implicitDefEqProofs := false) only [vTE, encM, go_sem, reduceCtorEq, Nat.reduceAdd, Nat.reduceMul, Nat.reduceLeDiff, Nat.reduceLT, Nat.reduceEqDiff, Int.reduceNegSucc, ↓gs_tt, ↓gs_ff, ↓gs_tf, ↓gs_ft]
    repeat' (first | (with_reducible refine And.intro ?_ ?_) | (with_reducible refine gs_t ?_ ?_) | (with_reducible refine gs_f ?_ ?_) | (intro _) | ((with_reducible apply wCall_any); (· (simp (implicitDefEqProofs := false) only [go_sem, reduceCtorEq, Nat.reduceAdd, Nat.reduceMul, Nat.reduceLeDiff, Nat.reduceLT, Nat.reduceEqDiff, Int.reduceNegSucc, ↓gs_tt, ↓gs_ff, ↓gs_tf, ↓gs_ft] <;> rfl)); (· (first | exact Check_ok _ _ (by omega) | exact K_ok _ _ _ (by omega) | exact SA)); (· rfl); (· rfl); (· (first | exact Eq.refl true | exact Eq.refl false)); (simp (implicitDefEqProofs := false) only [h1, h2, if_true, encM, s0eq, Bool.not_true, vTE, da, Bool.not_false, go_sem, reduceCtorEq, Nat.reduceAdd, Nat.reduceMul, Nat.reduceLeDiff, Nat.reduceLT, Nat.reduceEqDiff, Int.reduceNegSucc, ↓gs_tt, ↓gs_ff, ↓gs_tf, ↓gs_ft])) | fail)
  have da : decide (A.2.2 = 0) = true := by simpa using ea
  rw [if_neg (by omega)]
  have hAdd := Add_ok c (delM v a) A.1 A.2.1 (by have := delM_len v a; omega) (by omega)
  by_cases hne : a = []
  · subst hne
    have hT := TwinT_ok c [] (by simp)
    simp only [encM, List.length_nil] at hT
    simp (implicitDefEqProofs := false) only [vTE, encM, List.length_nil, go_sem, reduceCtorEq, Nat.reduceAdd, Nat.reduceMul, Nat.reduceLeDiff, Nat.reduceLT, Nat.reduceEqDiff, Int.reduceNegSucc, ↓gs_tt, ↓gs_ff, ↓gs_tf, ↓gs_ft]
    simp only [show delM v [] = [] from rfl, encM, List.length_nil] at hAdd
    repeat' (first | (with_reducible refine And.intro ?_ ?_) | (with_reducible refine gs_t ?_ ?_) | (with_reducible refine gs_f ?_ ?_) | (intro _) | ((with_reducible apply wCall_any); (· (simp (implicitDefEqProofs := false) only [go_sem, reduceCtorEq, Nat.reduceAdd, Nat.reduceMul, Nat.reduceLeDiff, Nat.reduceLT, Nat.reduceEqDiff, Int.reduceNegSucc, ↓gs_tt, ↓gs_ff, ↓gs_tf, ↓gs_ft] <;> rfl)); (· (first | exact Check_ok _ [] (by simp) | exact Check_ok _ _ (by omega) | exact K_ok _ [] _ (by simp) | exact SA | exact hT | exact DelM_nil v | exact hAdd)); (· rfl); (· rfl); (· (first | exact Eq.refl true | exact Eq.refl false)); (simp (implicitDefEqProofs := false) only [h1, h2, if_true, encM, s0eq, Bool.not_true, vTE, da, Bool.not_false, List.length_nil, go_sem, reduceCtorEq, Nat.reduceAdd, Nat.reduceMul, Nat.reduceLeDiff, Nat.reduceLT, Nat.reduceEqDiff, Int.reduceNegSucc, ↓gs_tt, ↓gs_ff, ↓gs_tf, ↓gs_ft])) | fail)
    all_goals rfl
  · simp (implicitDefEqProofs := false) only [vTE, go_sem, reduceCtorEq, Nat.reduceAdd, Nat.reduceMul, Nat.reduceLeDiff, Nat.reduceLT, Nat.reduceEqDiff, Int.reduceNegSucc, ↓gs_tt, ↓gs_ff, ↓gs_tf, ↓gs_ft]
    repeat' (first | (with_reducible refine And.intro ?_ ?_) | (with_reducible refine gs_t ?_ ?_) | (with_reducible refine gs_f ?_ ?_) | (intro _) | ((with_reducible apply wCall_any); (· (simp (implicitDefEqProofs := false) only [go_sem, reduceCtorEq, Nat.reduceAdd, Nat.reduceMul, Nat.reduceLeDiff, Nat.reduceLT, Nat.reduceEqDiff, Int.reduceNegSucc, ↓gs_tt, ↓gs_ff, ↓gs_tf, ↓gs_ft] <;> rfl)); (· (first | exact Check_ok _ _ (by omega) | exact K_ok _ _ _ (by omega) | exact SA)); (· rfl); (· rfl); (· (first | exact Eq.refl true | exact Eq.refl false)); (simp (implicitDefEqProofs := false) only [h1, h2, if_true, s0eq, Bool.not_true, vTE, da, Bool.not_false, go_sem, reduceCtorEq, Nat.reduceAdd, Nat.reduceMul, Nat.reduceLeDiff, Nat.reduceLT, Nat.reduceEqDiff, Int.reduceNegSucc, ↓gs_tt, ↓gs_ff, ↓gs_tf, ↓gs_ft])) | fail)
    refine wCall_heap (hin := []) (TwinT_own c a (by omega) hne 1) (fun k o h => by cases h) ?_ ?_
    · rintro r nx' h' ⟨rfl, rfl, rfl⟩
      refine ⟨by simp [closed, keysV, keysL, hkeys], ?_⟩
      intro k o ho
      simp only [hget] at ho
      split at ho
      · cases ho; simp [closed, okeys]
      · cases ho
    · rintro r nx' h' ⟨rfl, rfl, rfl⟩ _
      simp (implicitDefEqProofs := false) only [hkeys, hdels, List.nil_append, List.cons_append, go_sem, reduceCtorEq, Nat.reduceAdd, Nat.reduceMul, Nat.reduceLeDiff, Nat.reduceLT, Nat.reduceEqDiff, Int.reduceNegSucc, ↓gs_tt, ↓gs_ff, ↓gs_tf, ↓gs_ft]
      refine wCall_heap (hin := [(1, .row (encM a)), (0, .obj [.int .i64 v])]) (DelM_ok a v (by omega)) (fun k o h => ⟨h, Nat.zero_le _⟩) ?_ ?_
      · rintro r nx' h' ⟨k', rfl, hk', hlt, rfl⟩
        refine ⟨by simp [closed, keysV, keysL, hkeys], ?_⟩
        intro k o ho
        simp only [hget] at ho
        split at ho
        · cases ho; simp [closed, okeys]
        · split at ho
          · cases ho; simp [closed, okeys, keysL, keysV]
          · cases ho
      · rintro r nx' h' ⟨k', rfl, hk', hlt, rfl⟩ _
        have hk0 : (k' = 0) = False := by simp; omega
        simp (implicitDefEqProofs := false) only [hkeys, hdels, hdel, List.append_nil, go_sem, reduceCtorEq, Nat.reduceAdd, Nat.reduceMul, Nat.reduceLeDiff, Nat.reduceLT, Nat.reduceEqDiff, Int.reduceNegSucc, ↓gs_tt, ↓gs_ff, ↓gs_tf, ↓gs_ft]
        refine wCall_freeze (args' := [.agg [.int .i64 c, .fz (delM v a).length none 2 (encM (delM v a))], .agg [.int .i64 A.1, .fz A.2.1.length none 2 (encM A.2.1)]]) (by simp (implicitDefEqProofs := false) only [encM_len, go_sem, reduceCtorEq, Nat.reduceAdd, Nat.reduceMul, Nat.reduceLeDiff, Nat.reduceLT, Nat.reduceEqDiff, Int.reduceNegSucc, ↓gs_tt, ↓gs_ff, ↓gs_tf, ↓gs_ft]) ?_
        simp (implicitDefEqProofs := false) only [go_sem, reduceCtorEq, Nat.reduceAdd, Nat.reduceMul, Nat.reduceLeDiff, Nat.reduceLT, Nat.reduceEqDiff, Int.reduceNegSucc, ↓gs_tt, ↓gs_ff, ↓gs_tf, ↓gs_ft]
        refine wCall_pp (by simp [pureL, pureV]) hAdd (by simp [pureV, pureL, vTE]) ?_
        simp (implicitDefEqProofs := false) only [vTE, go_sem, reduceCtorEq, Nat.reduceAdd, Nat.reduceMul, Nat.reduceLeDiff, Nat.reduceLT, Nat.reduceEqDiff, Int.reduceNegSucc, ↓gs_tt, ↓gs_ff, ↓gs_tf, ↓gs_ft]
/-- What Swap tells. -/
def swapX (v d : Int) (b : List Mono) (x : Cons) : Int × List Mono × Int := putR x.t.c x.t.l v d b
def swapC (v d : Int) (b : List Mono) (x : Cons) : Cons := ⟨⟨(swapX v d b x).1, (swapX v d b x).2.1⟩, x.eq⟩
def swapE (l : List Cons) (v d : Int) (b : List Mono) : Int :=
  if rightB l v = false ∨ okT d b = false then 1 else if l.any (fun x => decide ((swapX v d b x).2.2 ≠ 0)) = true then 12 else 0
def swapL (l : List Cons) (v d : Int) (b : List Mono) : List Cons := l.map (swapC v d b)
def swapV (l : List Cons) (v d : Int) (b : List Mono) : VV :=
  if swapE l v d b ≠ 0 then .tup [vCs [], .int .i64 (swapE l v d b)] else .tup [vCs (swapL l v d b), .int .i64 0]
theorem addR_len (c : Int) (a : List Mono) (d : Int) (b : List Mono) : (addR c a d b).2.1.length ≤ a.length + b.length := by
  unfold addR
  repeat' split
  all_goals first | (simp; done) | exact sumM_len _ _
theorem putR_len (c : Int) (a : List Mono) (v d : Int) (b : List Mono) : (putR c a v d b).2.1.length ≤ a.length + b.length := by
  unfold putR
  split
  · simp
  · split
    · simp
    · have h1 := addR_len c (delM v a) (scaleR d b (kOf a v)).1 (scaleR d b (kOf a v)).2.1
      have h2 := delM_len v a
      have h3 := scaleR_len d b (kOf a v)
      omega
set_option maxHeartbeats 1000000 in
theorem Swap_ok (l : List Cons) (v d : Int) (b : List Mono) (hl : smallC l) (hb : b.length ≤ 400000) :
    VPure FT p26 [.fz l.length none 3 (encC l), .int .i64 v, .agg [.int .i64 d, .fz b.length none 2 (encM b)]] (swapV l v d b) := by
  refine vpure_of_body' (f := p26) rfl rfl ?_
  have d10 : decide ((1 : Int) = 0) = false := rfl
  have hll := hl.len
  cases hr : rightB l v with
  | false =>
    have e : swapV l v d b = .tup [vCs [], .int .i64 1] := by
      have : swapE l v d b = 1 := by unfold swapE; rw [if_pos (.inl hr)]
      unfold swapV; rw [this]; rfl
    simp (implicitDefEqProofs := false) only [e, vCs, encC, go_sem, reduceCtorEq, Nat.reduceAdd, Nat.reduceMul, Nat.reduceLeDiff, Nat.reduceLT, Nat.reduceEqDiff, Int.reduceNegSucc, ↓gs_tt, ↓gs_ff, ↓gs_tf, ↓gs_ft]
    repeat' (first | (with_reducible refine And.intro ?_ ?_) | (with_reducible refine gs_t ?_ ?_) | (with_reducible refine gs_f ?_ ?_) | (intro _) | ((with_reducible apply wCall_any); (· (simp (implicitDefEqProofs := false) only [go_sem, reduceCtorEq, Nat.reduceAdd, Nat.reduceMul, Nat.reduceLeDiff, Nat.reduceLT, Nat.reduceEqDiff, Int.reduceNegSucc, ↓gs_tt, ↓gs_ff, ↓gs_tf, ↓gs_ft] <;> rfl)); (· (exact right_ok l v hl)); (· rfl); (· rfl); (· (first | exact Eq.refl true | exact Eq.refl false)); (simp (implicitDefEqProofs := false) only [hr, Bool.not_false, encC, go_sem, reduceCtorEq, Nat.reduceAdd, Nat.reduceMul, Nat.reduceLeDiff, Nat.reduceLT, Nat.reduceEqDiff, Int.reduceNegSucc, ↓gs_tt, ↓gs_ff, ↓gs_tf, ↓gs_ft])) | fail)
  | true =>
  cases ho : okT d b with
  | false =>
    have e : swapV l v d b = .tup [vCs [], .int .i64 1] := by
      have : swapE l v d b = 1 := by unfold swapE; rw [if_pos (.inr ho)]
      unfold swapV; rw [this]; rfl
    simp (implicitDefEqProofs := false) only [e, vCs, encC, go_sem, reduceCtorEq, Nat.reduceAdd, Nat.reduceMul, Nat.reduceLeDiff, Nat.reduceLT, Nat.reduceEqDiff, Int.reduceNegSucc, ↓gs_tt, ↓gs_ff, ↓gs_tf, ↓gs_ft]
    repeat' (first | (with_reducible refine And.intro ?_ ?_) | (with_reducible refine gs_t ?_ ?_) | (with_reducible refine gs_f ?_ ?_) | (intro _) | ((with_reducible apply wCall_any); (· (simp (implicitDefEqProofs := false) only [go_sem, reduceCtorEq, Nat.reduceAdd, Nat.reduceMul, Nat.reduceLeDiff, Nat.reduceLT, Nat.reduceEqDiff, Int.reduceNegSucc, ↓gs_tt, ↓gs_ff, ↓gs_tf, ↓gs_ft] <;> rfl)); (· (first | exact right_ok l v hl | exact Check_ok _ _ (by omega))); (· rfl); (· rfl); (· (first | exact Eq.refl true | exact Eq.refl false)); (simp (implicitDefEqProofs := false) only [hr, ho, Bool.not_false, Bool.not_true, encC, d10, Bool.false_eq_true, if_false, go_sem, reduceCtorEq, Nat.reduceAdd, Nat.reduceMul, Nat.reduceLeDiff, Nat.reduceLT, Nat.reduceEqDiff, Int.reduceNegSucc, ↓gs_tt, ↓gs_ff, ↓gs_tf, ↓gs_ft])) | fail)
  | true =>
    have hno : ¬ (rightB l v = false ∨ okT d b = false) := by rw [hr, ho]; simp
    have hall : ∀ x ∈ l, okC x = true := by
      simp only [rightB, Bool.and_eq_true] at hr; exact List.all_eq_true.1 hr.2
    simp (implicitDefEqProofs := false) only [go_sem, reduceCtorEq, Nat.reduceAdd, Nat.reduceMul, Nat.reduceLeDiff, Nat.reduceLT, Nat.reduceEqDiff, Int.reduceNegSucc, ↓gs_tt, ↓gs_ff, ↓gs_tf, ↓gs_ft]
    repeat' (first | (with_reducible refine And.intro ?_ ?_) | (with_reducible refine gs_t ?_ ?_) | (with_reducible refine gs_f ?_ ?_) | (intro _) | ((with_reducible apply wCall_any); (· (simp (implicitDefEqProofs := false) only [go_sem, reduceCtorEq, Nat.reduceAdd, Nat.reduceMul, Nat.reduceLeDiff, Nat.reduceLT, Nat.reduceEqDiff, Int.reduceNegSucc, ↓gs_tt, ↓gs_ff, ↓gs_tf, ↓gs_ft] <;> rfl)); (· (first | exact right_ok l v hl | exact Check_ok _ _ (by omega))); (· rfl); (· rfl); (· (first | exact Eq.refl true | exact Eq.refl false)); (simp (implicitDefEqProofs := false) only [hr, ho, Bool.not_false, Bool.not_true, s0eq, if_true, go_sem, reduceCtorEq, Nat.reduceAdd, Nat.reduceMul, Nat.reduceLeDiff, Nat.reduceLT, Nat.reduceEqDiff, Int.reduceNegSucc, ↓gs_tt, ↓gs_ff, ↓gs_tf, ↓gs_ft])) | fail)
    refine wLoop_own p8 3 (by simp (implicitDefEqProofs := false) only [go_sem, reduceCtorEq, Nat.reduceAdd, Nat.reduceMul, Nat.reduceLeDiff, Nat.reduceLT, Nat.reduceEqDiff, Int.reduceNegSucc, ↓gs_tt, ↓gs_ff, ↓gs_tf, ↓gs_ft]) ?_
    simp (implicitDefEqProofs := false) only [go_sem, reduceCtorEq, Nat.reduceAdd, Nat.reduceMul, Nat.reduceLeDiff, Nat.reduceLT, Nat.reduceEqDiff, Int.reduceNegSucc, ↓gs_tt, ↓gs_ff, ↓gs_tf, ↓gs_ft]
    refine wLoop_dr (fun n s => ∃ i m : Nat, i + n = l.length ∧ At s [(p1, .int .i64 v), (p5, .var [.int .i64 d, .fz b.length none 2 (encM b)]), (p8, .ow 0 (l.take i).length 3), (p22, .fz l.length none 3 (encC l)), (p23, .int .i64 l.length), (p24, .int .i64 i)] (m + 1) 0 [(0, .row (encC (swapL (l.take i) v d b)))] ∧
      (l.take i).any (fun x => decide ((swapX v d b x).2.2 ≠ 0)) = false) l.length ?_ ?_
    · exact ⟨0, 0, by simp, by simp (implicitDefEqProofs := false) only [go_sem, reduceCtorEq, Nat.reduceAdd, Nat.reduceMul, Nat.reduceLeDiff, Nat.reduceLT, Nat.reduceEqDiff, Int.reduceNegSucc, ↓gs_tt, ↓gs_ff, ↓gs_tf, ↓gs_ft]; simp [encC, swapL], by simp⟩
    · rintro n ⟨e, nx, w, h⟩ ⟨i, m, hi, ⟨⟨s1, s2, s3, s4, s5, s6, -⟩, rfl, rfl, rfl⟩, hk⟩
      rcases Nat.lt_or_ge i l.length with hlt | hge
      · obtain ⟨x, hx⟩ := has hlt
        have hxm := List.mem_of_getElem? hx
        obtain ⟨_, hx40, _⟩ := okC_parts (hall x hxm)
        have hb2 : (l.take i).length ≤ i := List.length_take_le _ _
        have hb3 : (l.take i).length = (swapL (l.take i) v d b).length := by unfold swapL; rw [List.length_map]
        have ht := take_snoc hx
        obtain ⟨A, hA⟩ : ∃ A, A = swapX v d b x := ⟨_, rfl⟩
        have PA := Put_ok x.t.c x.t.l v d b (by omega) hb
        have lA : A.2.1.length ≤ 400040 := by rw [hA]; have := putR_len x.t.c x.t.l v d b; unfold swapX; omega
        have hPA : putR x.t.c x.t.l v d b = A := by rw [hA]; rfl
        rw [hPA] at PA
        rw [hb3] at s3
        simp (implicitDefEqProofs := false) only [s1, s2, s3, s4, s5, s6, ltT hlt, encC_cut hx, encC_len, inc64 hlt (by omega : l.length ≤ 4611686018427387904), go_sem, reduceCtorEq, Nat.reduceAdd, Nat.reduceMul, Nat.reduceLeDiff, Nat.reduceLT, Nat.reduceEqDiff, Int.reduceNegSucc, ↓gs_tt, ↓gs_ff, ↓gs_tf, ↓gs_ft]
        by_cases eA : A.2.2 = 0
        · have dA : decide (A.2.2 = 0) = true := by simpa using eA
          repeat' (first | (with_reducible refine And.intro ?_ ?_) | (with_reducible refine gs_t ?_ ?_) | (with_reducible refine gs_f ?_ ?_) | (intro _) | ((with_reducible apply wCall_any); (· (simp (implicitDefEqProofs := false) only [go_sem, reduceCtorEq, Nat.reduceAdd, Nat.reduceMul, Nat.reduceLeDiff, Nat.reduceLT, Nat.reduceEqDiff, Int.reduceNegSucc, ↓gs_tt, ↓gs_ff, ↓gs_tf, ↓gs_ft] <;> rfl)); (· (exact PA)); (· rfl); (· rfl); (· (first | exact Eq.refl true | exact Eq.refl false)); (simp (implicitDefEqProofs := false) only [vTE, dA, Bool.not_true, encC_len, inc64 hlt (by omega : l.length ≤ 4611686018427387904), go_sem, reduceCtorEq, Nat.reduceAdd, Nat.reduceMul, Nat.reduceLeDiff, Nat.reduceLT, Nat.reduceEqDiff, Int.reduceNegSucc, ↓gs_tt, ↓gs_ff, ↓gs_tf, ↓gs_ft])) | fail)
          all_goals (clear s1 s2 s3 s4 s5 s6; try omega)
          refine ⟨n - 1, by omega, _, subH_tail (by simp [hget]), i + 1, m + 1, by omega, ⟨⟨?_, rfl⟩, rfl, ?_⟩, ?_⟩
          · rw [ht]; simp [swapL]
          · rw [ht]; simp [swapL, encC_app, encC, vMs, swapC, ← hA]
          · rw [ht]; simp only [List.any_append, hk, List.any_cons, List.any_nil, ← hA, eA]; rfl
        · have dA : decide (A.2.2 = 0) = false := by simpa using eA
          have e : swapV l v d b = .tup [vCs [], .int .i64 12] := by
            have : swapE l v d b = 12 := by
              unfold swapE; rw [if_neg hno, if_pos (List.any_eq_true.2 ⟨x, hxm, by rw [← hA]; simpa using eA⟩)]
            unfold swapV; rw [this]; rfl
          simp only [e, vCs, encC]
          repeat' (first | (with_reducible refine And.intro ?_ ?_) | (with_reducible refine gs_t ?_ ?_) | (with_reducible refine gs_f ?_ ?_) | (intro _) | ((with_reducible apply wCall_any); (· (simp (implicitDefEqProofs := false) only [go_sem, reduceCtorEq, Nat.reduceAdd, Nat.reduceMul, Nat.reduceLeDiff, Nat.reduceLT, Nat.reduceEqDiff, Int.reduceNegSucc, ↓gs_tt, ↓gs_ff, ↓gs_tf, ↓gs_ft] <;> rfl)); (· (exact PA)); (· rfl); (· rfl); (· (first | exact Eq.refl true | exact Eq.refl false)); (simp (implicitDefEqProofs := false) only [vTE, dA, Bool.not_false, encC_len, encC, go_sem, reduceCtorEq, Nat.reduceAdd, Nat.reduceMul, Nat.reduceLeDiff, Nat.reduceLT, Nat.reduceEqDiff, Int.reduceNegSucc, ↓gs_tt, ↓gs_ff, ↓gs_tf, ↓gs_ft])) | fail)
          all_goals (clear s1 s2 s3 s4 s5 s6; try omega)
      · rw [List.take_of_length_le hge] at s3 hk
        have e : swapV l v d b = .tup [vCs (swapL l v d b), .int .i64 0] := by
          have : swapE l v d b = 0 := by unfold swapE; rw [if_neg hno, hk]; rfl
          unfold swapV; rw [this]; rfl
        have hlL : (swapL l v d b).length = l.length := by simp [swapL]
        simp (implicitDefEqProofs := false) only [s1, s2, s3, s4, s5, s6, ltF hge, List.take_of_length_le hge, e, vCs, encC_len, hlL, go_sem, reduceCtorEq, Nat.reduceAdd, Nat.reduceMul, Nat.reduceLeDiff, Nat.reduceLT, Nat.reduceEqDiff, Int.reduceNegSucc, ↓gs_tt, ↓gs_ff, ↓gs_tf, ↓gs_ft]
end Go.Proofs.Ythdlkpmhjbaplaa.Dx
