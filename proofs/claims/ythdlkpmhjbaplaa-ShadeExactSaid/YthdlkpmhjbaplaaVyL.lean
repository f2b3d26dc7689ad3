/- What pair, Drop come to. No statement of this seat is proved here. -/
import Derived.Test.YthdlkpmhjbaplaaVyJ
set_option autoImplicit false
set_option linter.unusedSimpArgs false
set_option linter.unusedVariables false
set_option maxRecDepth 10000
namespace Go.Proofs.Ythdlkpmhjbaplaa.Dx
open Go
attribute [local irreducible] wCall wLoop
attribute [local go_sem] decide_true decide_false Bool.and_true Bool.true_and Bool.and_self Bool.false_and Bool.and_false vMs vCs vIs Slots At Tr.get_z Tr.get_l Tr.get_r Tr.get_e Tr.set_z_e Tr.set_z_n Tr.set_l_e Tr.set_l_n Tr.set_r_e Tr.set_r_n eOs_n eOs_c eDs_n eDs_c ekOs ekDs ekPut ekBack ekSeq_n ekSeq_x ekSeq_r ekBlk_n ekBlk_x ekBlk_r eO_mk eO_gd eO_loc eO_locb eD_mk eD_loc eD_locb eD_gd eDr eC_skip eC_reg eC_drw eC_seq eC_cond eC_block eC_loop eC_exit eC_ret eRetW_n eRetW_r wk wkL eRet_n eRet_r ekLd_n ekLd_x ekLd_r ekLp_n ekLp_x ekLp_r wI wBin wBd vev vov vovs vplace vouter ofDV ofDVs vcells spl vfills vput vuse vuseP vback vbackP wOf vbare isVarV vkeep hget hset hdels hdel hkeys live vw vwL keysV keysL pureV pureL vsrc veqs vmx vmn vT cT vC cC VOb.cells vres vrsL vrs1 vone List.length_cons List.length_nil List.getElem?_cons_zero List.getElem?_cons_succ List.take_succ_cons List.take_zero List.drop_succ_cons List.drop_zero List.drop_nil List.take_nil List.nil_append List.cons_append List.append_nil Option.some.injEq Nat.zero_add Nat.add_zero if_true if_false ite_true ite_false true_and and_true false_and and_false true_implies implies_true false_implies Bool.true_eq_false Bool.false_eq_true Bool.not_true Bool.not_false eq_self_iff_true Int.toNat_natCast Int.ofNat_eq_natCast Int.ofNat_zero Int.ofNat_one Int.cast_ofNat_Int VV.int.injEq VV.bool.injEq cond_true cond_false

def pairR (low high : Cons) (v : Int) : Int × List Mono × Int :=
  if (scaleR high.t.c high.t.l (-(kOf low.t.l v))).2.2 ≠ 0 ∨ (scaleR low.t.c low.t.l (kOf high.t.l v)).2.2 ≠ 0 then (0, [], 12)
  else addR (scaleR high.t.c high.t.l (-(kOf low.t.l v))).1 (scaleR high.t.c high.t.l (-(kOf low.t.l v))).2.1 (scaleR low.t.c low.t.l (kOf high.t.l v)).1 (scaleR low.t.c low.t.l (kOf high.t.l v)).2.1
theorem scaleR_len (c : Int) (l : List Mono) (k : Int) : (scaleR c l k).2.1.length ≤ l.length := by
  unfold scaleR
  split
  · simp
  · split
    · exact scaleL_len k l
    · simp
def vCE (r : Int × List Mono × Int) : VV := .tup [.agg [.int .i64 r.1, .fz r.2.1.length none 2 (encM r.2.1), .bool false], .int .i64 r.2.2]
set_option maxHeartbeats 1000000 in
theorem pair_ok (low high : Cons) (v : Int) (h1 : okC low = true) (h2 : okC high = true) : VPure FT p55 [.agg (cC low), .agg (cC high), .int .i64 v] (vCE (pairR low high v)) := by
  refine vpure_of_body' (f := p55) rfl rfl ?_
  obtain ⟨_, l40, lok⟩ := okC_parts h1
  obtain ⟨_, h40, hok⟩ := okC_parts h2
  have kb := kOf_bound v lok
  have w1 : IntKind.i64.wrap (-(kOf low.t.l v)) = -(kOf low.t.l v) := i64 (by omega)
  obtain ⟨A, hA⟩ : ∃ A, A = scaleR high.t.c high.t.l (-(kOf low.t.l v)) := ⟨_, rfl⟩
  obtain ⟨B, hB⟩ : ∃ B, B = scaleR low.t.c low.t.l (kOf high.t.l v) := ⟨_, rfl⟩
  have lA : A.2.1.length ≤ 40 := by rw [hA]; exact Nat.le_trans (scaleR_len _ _ _) h40
  have lB : B.2.1.length ≤ 40 := by rw [hB]; exact Nat.le_trans (scaleR_len _ _ _) l40
  have SA := Scale_ok high.t.c high.t.l (-(kOf low.t.l v)) (by omega)
  have SB := Scale_ok low.t.c low.t.l (kOf high.t.l v) (by omega)
  have hP : pairR low high v = if A.2.2 ≠ 0 ∨ B.2.2 ≠ 0 then (0, [], 12) else addR A.1 A.2.1 B.1 B.2.1 := by unfold pairR; rw [hA, hB]
  rw [← hA] at SA
  rw [← hB] at SB
  by_cases ea : A.2.2 = 0
  · have da : decide (A.2.2 = 0) = true := by simpa using ea
    by_cases eb : B.2.2 = 0
    · have db : decide (B.2.2 = 0) = true := by simpa using eb
      have hP' : pairR low high v = addR A.1 A.2.1 B.1 B.2.1 := by rw [hP, if_neg (by omega)]
      rw [hP']
      simp (implicitDefEqProofs := false) only [vCE, go_sem, reduceCtorEq, Nat.reduceAdd, Nat.reduceMul, Nat.reduceLeDiff, Nat.reduceLT, Nat.reduceEqDiff, Int.reduceNegSucc, ↓gs_tt, ↓gs_ff, ↓gs_tf, ↓gs_ft]
      repeat' (first | (with_reducible refine And.intro ?_ ?_) | (with_reducible refine gs_t ?_ ?_) | (with_reducible refine gs_f ?_ ?_) | (intro _) | ((with_reducible apply wCall_any); (· (simp (implicitDefEqProofs := false) only [go_sem, reduceCtorEq, Nat.reduceAdd, Nat.reduceMul, Nat.reduceLeDiff, Nat.reduceLT, Nat.reduceEqDiff, Int.reduceNegSucc, ↓gs_tt, ↓gs_ff, ↓gs_tf, ↓gs_ft] <;> rfl)); (· (first | exact K_ok _ _ _ (by omega) | exact SA | exact SB | exact Add_ok A.1 A.2.1 B.1 B.2.1 (by omega) (by omega))); (· rfl); (· rfl); (· (first | exact Eq.refl true | exact Eq.refl false)); (simp (implicitDefEqProofs := false) only [vTE, w1, da, db, go_sem, reduceCtorEq, Nat.reduceAdd, Nat.reduceMul, Nat.reduceLeDiff, Nat.reduceLT, Nat.reduceEqDiff, Int.reduceNegSucc, ↓gs_tt, ↓gs_ff, ↓gs_tf, ↓gs_ft])) | fail)
    · have db : decide (B.2.2 = 0) = false := by simpa using eb
      have hP' : pairR low high v = (0, [], 12) := by rw [hP, if_pos (.inr eb)]
      rw [hP']
      simp (implicitDefEqProofs := false) only [vCE, encM, go_sem, reduceCtorEq, Nat.reduceAdd, Nat.reduceMul, Nat.reduceLeDiff, Nat.reduceLT, Nat.reduceEqDiff, Int.reduceNegSucc, ↓gs_tt, ↓gs_ff, ↓gs_tf, ↓gs_ft]
      repeat' (first | (with_reducible refine And.intro ?_ ?_) | (with_reducible refine gs_t ?_ ?_) | (with_reducible refine gs_f ?_ ?_) | (intro _) | ((with_reducible apply wCall_any); (· (simp (implicitDefEqProofs := false) only [go_sem, reduceCtorEq, Nat.reduceAdd, Nat.reduceMul, Nat.reduceLeDiff, Nat.reduceLT, Nat.reduceEqDiff, Int.reduceNegSucc, ↓gs_tt, ↓gs_ff, ↓gs_tf, ↓gs_ft] <;> rfl)); (· (first | exact K_ok _ _ _ (by omega) | exact SA | exact SB)); (· rfl); (· rfl); (· (first | exact Eq.refl true | exact Eq.refl false)); (simp (implicitDefEqProofs := false) only [vTE, w1, da, db, encM, go_sem, reduceCtorEq, Nat.reduceAdd, Nat.reduceMul, Nat.reduceLeDiff, Nat.reduceLT, Nat.reduceEqDiff, Int.reduceNegSucc, ↓gs_tt, ↓gs_ff, ↓gs_tf, ↓gs_ft])) | fail)
  · have da : decide (A.2.2 = 0) = false := by simpa using ea
    have hP' : pairR low high v = (0, [], 12) := by rw [hP, if_pos (.inl ea)]
    rw [hP']
    simp (implicitDefEqProofs := false) only [vCE, encM, go_sem, reduceCtorEq, Nat.reduceAdd, Nat.reduceMul, Nat.reduceLeDiff, Nat.reduceLT, Nat.reduceEqDiff, Int.reduceNegSucc, ↓gs_tt, ↓gs_ff, ↓gs_tf, ↓gs_ft]
    repeat' (first | (with_reducible refine And.intro ?_ ?_) | (with_reducible refine gs_t ?_ ?_) | (with_reducible refine gs_f ?_ ?_) | (intro _) | ((with_reducible apply wCall_any); (· (simp (implicitDefEqProofs := false) only [go_sem, reduceCtorEq, Nat.reduceAdd, Nat.reduceMul, Nat.reduceLeDiff, Nat.reduceLT, Nat.reduceEqDiff, Int.reduceNegSucc, ↓gs_tt, ↓gs_ff, ↓gs_tf, ↓gs_ft] <;> rfl)); (· (first | exact K_ok _ _ _ (by omega) | exact SA | exact SB)); (· rfl); (· rfl); (· (first | exact Eq.refl true | exact Eq.refl false)); (simp (implicitDefEqProofs := false) only [vTE, w1, da, encM, go_sem, reduceCtorEq, Nat.reduceAdd, Nat.reduceMul, Nat.reduceLeDiff, Nat.reduceLT, Nat.reduceEqDiff, Int.reduceNegSucc, ↓gs_tt, ↓gs_ff, ↓gs_tf, ↓gs_ft])) | fail)
def mkC (r : Int × List Mono × Int) : Cons := ⟨⟨r.1, r.2.1⟩, false⟩
def firstErr : List Int → Int
  | [] => 0
  | e :: l => if e ≠ 0 then e else firstErr l
theorem firstErr_app : ∀ a b : List Int, firstErr (a ++ b) = if firstErr a ≠ 0 then firstErr a else firstErr b
  | [], b => by simp [firstErr]
  | e :: a, b => by
    simp only [List.cons_append, firstErr, firstErr_app a b]
    by_cases h : e = 0 <;> simp [h]
def errRow (highs : List Cons) (v : Int) (low : Cons) : List Int := highs.map fun h => (pairR low h v).2.2
def conRow (highs : List Cons) (v : Int) (low : Cons) : List Cons := highs.map fun h => mkC (pairR low h v)
def dropErr (l : List Cons) (v : Int) : Int := firstErr ((lowsOf l v).flatMap (errRow (highsOf l v) v))
def dropList (l : List Cons) (v : Int) : List Cons := othersOf l v ++ (lowsOf l v).flatMap (conRow (highsOf l v) v)
def dropV (l : List Cons) (v : Int) : VV :=
  if mayE l v ≠ 0 then .tup [vCs [], .int .i64 (mayE l v)] else if dropErr l v ≠ 0 then .tup [vCs [], .int .i64 (dropErr l v)] else .tup [vCs (dropList l v), .int .i64 0]
theorem flat_len {α β : Type} (f : α → List β) (n : Nat) (h : ∀ a, (f a).length ≤ n) : ∀ l : List α, (l.flatMap f).length ≤ l.length * n
  | [] => by simp
  | a :: l => by
    rw [List.flatMap_cons, List.length_append, List.length_cons, Nat.succ_mul]
    have := flat_len f n h l; have := h a; omega
set_option maxHeartbeats 1000000 in
theorem Drop_ok (l : List Cons) (v : Int) (hl : smallC l) : VPure FT p21 [.fz l.length none 3 (encC l), .int .i64 v] (dropV l v) := by
  refine vpure_of_body' (f := p21) rfl rfl ?_
  by_cases h0 : mayE l v = 0
  case neg =>
    have d0 : decide (mayE l v = 0) = false := by simpa using h0
    have e : dropV l v = .tup [vCs [], .int .i64 (mayE l v)] := by unfold dropV; rw [if_pos h0]
    simp (implicitDefEqProofs := false) only [e, vCs, encC, go_sem, reduceCtorEq, Nat.reduceAdd, Nat.reduceMul, Nat.reduceLeDiff, Nat.reduceLT, Nat.reduceEqDiff, Int.reduceNegSucc, ↓gs_tt, ↓gs_ff, ↓gs_tf, ↓gs_ft]
    repeat' (first | (with_reducible refine And.intro ?_ ?_) | (with_reducible refine gs_t ?_ ?_) | (with_reducible refine gs_f ?_ ?_) | (intro _) | ((with_reducible apply wCall_any); (· (simp (implicitDefEqProofs := false) only [go_sem, reduceCtorEq, Nat.reduceAdd, Nat.reduceMul, Nat.reduceLeDiff, Nat.reduceLT, Nat.reduceEqDiff, Int.reduceNegSucc, ↓gs_tt, ↓gs_ff, ↓gs_tf, ↓gs_ft] <;> rfl)); (· (exact may_ok l v hl)); (· rfl); (· rfl); (· (first | exact Eq.refl true | exact Eq.refl false)); (simp (implicitDefEqProofs := false) only [d0, encC, go_sem, reduceCtorEq, Nat.reduceAdd, Nat.reduceMul, Nat.reduceLeDiff, Nat.reduceLT, Nat.reduceEqDiff, Int.reduceNegSucc, ↓gs_tt, ↓gs_ff, ↓gs_tf, ↓gs_ft])) | fail)
  case pos =>
    have d0 : decide ((0 : Int) = 0) = true := rfl
    have hall : l.all okC = true := by
      have := h0
      unfold mayE at this
      by_cases hr : rightB l v = false
      · rw [if_pos hr] at this; omega
      · have : rightB l v = true := by simpa using hr
        simp only [rightB, Bool.and_eq_true] at this; exact this.2
    have okm : ∀ x ∈ l, okC x = true := fun x hx => List.all_eq_true.1 hall x hx
    obtain ⟨L, hL⟩ : ∃ L, L = lowsOf l v := ⟨_, rfl⟩
    obtain ⟨H, hH⟩ : ∃ H, H = highsOf l v := ⟨_, rfl⟩
    obtain ⟨T, hT⟩ : ∃ T, T = othersOf l v := ⟨_, rfl⟩
    have sL := hl.lows v; have sH := hl.highs v; have sT := hl.others v
    have oL : ∀ x ∈ L, okC x = true := fun x hx => okm x (by rw [hL] at hx; exact (List.mem_filter.1 hx).1)
    have oH : ∀ x ∈ H, okC x = true := fun x hx => okm x (by rw [hH] at hx; exact (List.mem_filter.1 hx).1)
    have P := parts_ok l v hl
    have hE : dropErr l v = firstErr (L.flatMap (errRow H v)) := by unfold dropErr; rw [hL, hH]
    have hD : dropList l v = T ++ L.flatMap (conRow H v) := by unfold dropList; rw [hL, hH, hT]
    rw [← hL] at P sL; rw [← hH] at P sH; rw [← hT] at P sT
    have bL := sL.len; have bH := sH.len; have bT := sT.len
    simp (implicitDefEqProofs := false) only [go_sem, reduceCtorEq, Nat.reduceAdd, Nat.reduceMul, Nat.reduceLeDiff, Nat.reduceLT, Nat.reduceEqDiff, Int.reduceNegSucc, ↓gs_tt, ↓gs_ff, ↓gs_tf, ↓gs_ft]
    repeat' (first | (with_reducible refine And.intro ?_ ?_) | (with_reducible refine gs_t ?_ ?_) | (with_reducible refine gs_f ?_ ?_) | (intro _) | ((with_reducible apply wCall_any); (· (simp (implicitDefEqProofs := false) only [go_sem, reduceCtorEq, Nat.reduceAdd, Nat.reduceMul, Nat.reduceLeDiff, Nat.reduceLT, Nat.reduceEqDiff, Int.reduceNegSucc, ↓gs_tt, ↓gs_ff, ↓gs_tf, ↓gs_ft] <;> rfl)); (· (first | exact may_ok l v hl | exact P)); (· rfl); (· rfl); (· (first | exact Eq.refl true | exact Eq.refl false)); (simp (implicitDefEqProofs := false) only [h0, d0, vCs, go_sem, reduceCtorEq, Nat.reduceAdd, Nat.reduceMul, Nat.reduceLeDiff, Nat.reduceLT, Nat.reduceEqDiff, Int.reduceNegSucc, ↓gs_tt, ↓gs_ff, ↓gs_tf, ↓gs_ft])) | fail)
    refine wLoop_own p10 3 (by simp (implicitDefEqProofs := false) only [go_sem, reduceCtorEq, Nat.reduceAdd, Nat.reduceMul, Nat.reduceLeDiff, Nat.reduceLT, Nat.reduceEqDiff, Int.reduceNegSucc, ↓gs_tt, ↓gs_ff, ↓gs_tf, ↓gs_ft]) ?_
    simp (implicitDefEqProofs := false) only [go_sem, reduceCtorEq, Nat.reduceAdd, Nat.reduceMul, Nat.reduceLeDiff, Nat.reduceLT, Nat.reduceEqDiff, Int.reduceNegSucc, ↓gs_tt, ↓gs_ff, ↓gs_tf, ↓gs_ft]
    refine wLoop_dr (fun n s => ∃ i m : Nat, i + n = T.length ∧ At s [(p1, .int .i64 v), (p7, .fz L.length none 3 (encC L)), (p8, .fz H.length none 3 (encC H)), (p10, .ow 0 (T.take i).length 3), (p32, .fz T.length none 3 (encC T)), (p33, .int .i64 T.length), (p34, .int .i64 i)] (m + 1) 0 [(0, .row (encC (T.take i)))]) T.length ?_ ?_
    · exact ⟨0, 0, by simp, by simp (implicitDefEqProofs := false) only [go_sem, reduceCtorEq, Nat.reduceAdd, Nat.reduceMul, Nat.reduceLeDiff, Nat.reduceLT, Nat.reduceEqDiff, Int.reduceNegSucc, ↓gs_tt, ↓gs_ff, ↓gs_tf, ↓gs_ft]; simp [encC]⟩
    · rintro n ⟨e, nx, w, h⟩ ⟨i, m, hi, ⟨s1, s2, s3, s4, s5, s6, s7, -⟩, rfl, rfl, rfl⟩
      rcases Nat.lt_or_ge i T.length with hlt | hge
      · obtain ⟨x, hx⟩ := has hlt
        have hxl := sT.all x (List.mem_of_getElem? hx)
        have hb2 : (T.take i).length ≤ i := List.length_take_le _ _
        have ht := take_snoc hx
        simp (implicitDefEqProofs := false) only [s1, s2, s3, s4, s5, s6, s7, ltT hlt, encC_cut hx, encC_len, inc64 hlt (by omega : T.length ≤ 4611686018427387904), go_sem, reduceCtorEq, Nat.reduceAdd, Nat.reduceMul, Nat.reduceLeDiff, Nat.reduceLT, Nat.reduceEqDiff, Int.reduceNegSucc, ↓gs_tt, ↓gs_ff, ↓gs_tf, ↓gs_ft]
        repeat' (first | (with_reducible refine And.intro ?_ ?_) | (with_reducible refine gs_t ?_ ?_) | (with_reducible refine gs_f ?_ ?_) | (intro _) | ((with_reducible apply wCall_any); (· (simp (implicitDefEqProofs := false) only [go_sem, reduceCtorEq, Nat.reduceAdd, Nat.reduceMul, Nat.reduceLeDiff, Nat.reduceLT, Nat.reduceEqDiff, Int.reduceNegSucc, ↓gs_tt, ↓gs_ff, ↓gs_tf, ↓gs_ft] <;> rfl)); (· (exact twin_ok x hxl)); (· rfl); (· rfl); (· (first | exact Eq.refl true | exact Eq.refl false)); (simp (implicitDefEqProofs := false) only [encC_len, inc64 hlt (by omega : T.length ≤ 4611686018427387904), go_sem, reduceCtorEq, Nat.reduceAdd, Nat.reduceMul, Nat.reduceLeDiff, Nat.reduceLT, Nat.reduceEqDiff, Int.reduceNegSucc, ↓gs_tt, ↓gs_ff, ↓gs_tf, ↓gs_ft])) | fail)
        all_goals (clear s1 s2 s3 s4 s5 s6 s7; try omega)
        refine ⟨n - 1, by omega, _, subH_tail (by simp [hget]), i + 1, m + 1, by omega, ⟨?_, rfl⟩, rfl, ?_⟩ <;> rw [ht] <;> simp [encC_app, encC, vMs]
      · rw [List.take_of_length_le hge] at s4
        simp (implicitDefEqProofs := false) only [s1, s2, s3, s4, s5, s6, s7, ltF hge, List.take_of_length_le hge, go_sem, reduceCtorEq, Nat.reduceAdd, Nat.reduceMul, Nat.reduceLeDiff, Nat.reduceLT, Nat.reduceEqDiff, Int.reduceNegSucc, ↓gs_tt, ↓gs_ff, ↓gs_tf, ↓gs_ft]
        clear s1 s2 s3 s4 s5 s6 s7
        refine wLoop_dr (fun n s => ∃ i m : Nat, i + n = L.length ∧ At s [(p1, .int .i64 v), (p8, .fz H.length none 3 (encC H)), (p10, .ow 0 (T ++ (L.take i).flatMap (conRow H v)).length 3), (p44, .fz L.length none 3 (encC L)), (p45, .int .i64 L.length), (p46, .int .i64 i)] (m + 1) 0 [(0, .row (encC (T ++ (L.take i).flatMap (conRow H v))))] ∧ firstErr ((L.take i).flatMap (errRow H v)) = 0) L.length ?_ ?_
        · exact ⟨0, m, by simp, by simp (implicitDefEqProofs := false) only [go_sem, reduceCtorEq, Nat.reduceAdd, Nat.reduceMul, Nat.reduceLeDiff, Nat.reduceLT, Nat.reduceEqDiff, Int.reduceNegSucc, ↓gs_tt, ↓gs_ff, ↓gs_tf, ↓gs_ft]; simp, rfl⟩
        · rintro n ⟨e, nx, w, h⟩ ⟨i, m, hi, ⟨⟨s1, s2, s3, s4, s5, s6, -⟩, rfl, rfl, rfl⟩, hk⟩
          rcases Nat.lt_or_ge i L.length with hlt | hge
          · obtain ⟨x, hx⟩ := has hlt
            have hxm := List.mem_of_getElem? hx
            have ht := take_snoc hx
            simp (implicitDefEqProofs := false) only [s1, s2, s3, s4, s5, s6, ltT hlt, encC_cut hx, encC_len, go_sem, reduceCtorEq, Nat.reduceAdd, Nat.reduceMul, Nat.reduceLeDiff, Nat.reduceLT, Nat.reduceEqDiff, Int.reduceNegSucc, ↓gs_tt, ↓gs_ff, ↓gs_tf, ↓gs_ft]
            repeat' (first | (with_reducible refine And.intro ?_ ?_) | (with_reducible refine gs_t ?_ ?_) | (with_reducible refine gs_f ?_ ?_) | (intro _) | fail)
            all_goals (try omega)
            obtain ⟨Q, hQ⟩ : ∃ Q, Q = T ++ (L.take i).flatMap (conRow H v) := ⟨_, rfl⟩
            have hQl : Q.length ≤ 100000 + 100000 * 100000 := by
              rw [hQ, List.length_append]
              have h1 := flat_len (conRow H v) H.length (fun a => by unfold conRow; simp) (L.take i)
              have h2 : (L.take i).length * H.length ≤ 100000 * 100000 := Nat.mul_le_mul (Nat.le_trans (List.length_take_le _ _) (by omega)) bH
              omega
            rw [← hQ]
            refine wLoop_dr (fun n' s => ∃ j m' : Nat, j + n' = H.length ∧ At s [(p1, .int .i64 v), (p8, .fz H.length none 3 (encC H)), (p10, .ow 0 (Q ++ (conRow (H.take j) v x)).length 3), (p14, .var (cC x)), (p44, .fz L.length none 3 (encC L)), (p45, .int .i64 L.length), (p46, .int .i64 i), (p50, .fz H.length none 3 (encC H)), (p51, .int .i64 H.length), (p52, .int .i64 j)] (m' + 1) 0 [(0, .row (encC (Q ++ conRow (H.take j) v x)))] ∧ firstErr (errRow (H.take j) v x) = 0) H.length ?_ ?_
            · exact ⟨0, m, by simp, by simp (implicitDefEqProofs := false) only [go_sem, reduceCtorEq, Nat.reduceAdd, Nat.reduceMul, Nat.reduceLeDiff, Nat.reduceLT, Nat.reduceEqDiff, Int.reduceNegSucc, ↓gs_tt, ↓gs_ff, ↓gs_tf, ↓gs_ft]; simp [conRow], rfl⟩
            · rintro n' ⟨e', nx, w, h⟩ ⟨j, m', hj, ⟨⟨a1, a2, a3, a4, a5, a6, a7, a8, a9, a10, -⟩, rfl, rfl, rfl⟩, hkj⟩
              rcases Nat.lt_or_ge j H.length with hjlt | hjge
              · obtain ⟨y, hy⟩ := has hjlt
                have hym := List.mem_of_getElem? hy
                have hty := take_snoc hy
                have hcr : (conRow (H.take j) v x).length ≤ j := by unfold conRow; rw [List.length_map]; exact List.length_take_le _ _
                have hrow : conRow (H.take (j + 1)) v x = conRow (H.take j) v x ++ [mkC (pairR x y v)] := by unfold conRow; rw [hty, List.map_append]; rfl
                have herr : errRow (H.take (j + 1)) v x = errRow (H.take j) v x ++ [(pairR x y v).2.2] := by unfold errRow; rw [hty, List.map_append]; rfl
                obtain ⟨R, hR⟩ : ∃ R, R = pairR x y v := ⟨_, rfl⟩
                have PR := pair_ok x y v (oL x hxm) (oH y hym)
                rw [← hR] at PR hrow herr
                by_cases eR : R.2.2 = 0
                · have dR : decide (R.2.2 = 0) = true := by simpa using eR
                  simp (implicitDefEqProofs := false) only [a1, a2, a3, a4, a5, a6, a7, a8, a9, a10, ltT hjlt, encC_cut hy, encC_len, inc64 hjlt (by omega : H.length ≤ 4611686018427387904), go_sem, reduceCtorEq, Nat.reduceAdd, Nat.reduceMul, Nat.reduceLeDiff, Nat.reduceLT, Nat.reduceEqDiff, Int.reduceNegSucc, ↓gs_tt, ↓gs_ff, ↓gs_tf, ↓gs_ft]
                  repeat' (first | (with_reducible refine And.intro ?_ ?_) | (with_reducible refine gs_t ?_ ?_) | (with_reducible refine gs_f ?_ ?_) | (intro _) | ((with_reducible apply wCall_any); (· (simp (implicitDefEqProofs := false) only [go_sem, reduceCtorEq, Nat.reduceAdd, Nat.reduceMul, Nat.reduceLeDiff, Nat.reduceLT, Nat.reduceEqDiff, Int.reduceNegSucc, ↓gs_tt, ↓gs_ff, ↓gs_tf, ↓gs_ft] <;> rfl)); (· (exact PR)); (· rfl); (· rfl); (· (first | exact Eq.refl true | exact Eq.refl false)); (simp (implicitDefEqProofs := false) only [vCE, dR, encC_len, inc64 hjlt (by omega : H.length ≤ 4611686018427387904), go_sem, reduceCtorEq, Nat.reduceAdd, Nat.reduceMul, Nat.reduceLeDiff, Nat.reduceLT, Nat.reduceEqDiff, Int.reduceNegSucc, ↓gs_tt, ↓gs_ff, ↓gs_tf, ↓gs_ft])) | fail)
                  all_goals (clear a1 a2 a3 a4 a5 a6 a7 a8 a9 a10 s1 s2 s3 s4 s5 s6)
                  all_goals first | omega | (rw [List.length_append]; omega) | skip
                  refine ⟨n' - 1, by omega, _, subH_tail (by simp [hget]), j + 1, m' + 1, by omega, ⟨⟨?_, rfl⟩, rfl, ?_⟩, ?_⟩
                  · rw [hrow]; simp; omega
                  · rw [hrow]; simp [encC_app, encC, mkC, vMs]
                  · rw [herr, firstErr_app, hkj]; simp [firstErr, eR]
                · have dR : decide (R.2.2 = 0) = false := by simpa using eR
                  have hrowE : errRow H v x = errRow (H.take j) v x ++ R.2.2 :: errRow (H.drop (j + 1)) v x := by
                    have : H = H.take j ++ y :: H.drop (j + 1) := by rw [← drop_cons hy, List.take_append_drop]
                    conv => lhs; rw [this]
                    unfold errRow; rw [List.map_append, List.map_cons, ← hR]
                  have hLE : L.flatMap (errRow H v) = (L.take i).flatMap (errRow H v) ++ (errRow (H.take j) v x ++ R.2.2 :: (errRow (H.drop (j + 1)) v x ++ (L.drop (i + 1)).flatMap (errRow H v))) := by
                    have : L = L.take i ++ x :: L.drop (i + 1) := by rw [← drop_cons hx, List.take_append_drop]
                    conv => lhs; rw [this]
                    rw [List.flatMap_append, List.flatMap_cons, hrowE]; simp
                  have hde : dropErr l v = R.2.2 := by
                    rw [hE, hLE, firstErr_app, hk, firstErr_app, hkj]; simp [firstErr, eR]
                  have e : dropV l v = .tup [vCs [], .int .i64 R.2.2] := by unfold dropV; rw [if_neg (by omega), hde, if_pos eR]
                  rw [e]
                  simp (implicitDefEqProofs := false) only [a1, a2, a3, a4, a5, a6, a7, a8, a9, a10, ltT hjlt, encC_cut hy, encC_len, inc64 hjlt (by omega : H.length ≤ 4611686018427387904), go_sem, reduceCtorEq, Nat.reduceAdd, Nat.reduceMul, Nat.reduceLeDiff, Nat.reduceLT, Nat.reduceEqDiff, Int.reduceNegSucc, ↓gs_tt, ↓gs_ff, ↓gs_tf, ↓gs_ft]
                  repeat' (first | (with_reducible refine And.intro ?_ ?_) | (with_reducible refine gs_t ?_ ?_) | (with_reducible refine gs_f ?_ ?_) | (intro _) | ((with_reducible apply wCall_any); (· (simp (implicitDefEqProofs := false) only [go_sem, reduceCtorEq, Nat.reduceAdd, Nat.reduceMul, Nat.reduceLeDiff, Nat.reduceLT, Nat.reduceEqDiff, Int.reduceNegSucc, ↓gs_tt, ↓gs_ff, ↓gs_tf, ↓gs_ft] <;> rfl)); (· (exact PR)); (· rfl); (· rfl); (· (first | exact Eq.refl true | exact Eq.refl false)); (simp (implicitDefEqProofs := false) only [vCE, dR, encC, encC_len, inc64 hjlt (by omega : H.length ≤ 4611686018427387904), go_sem, reduceCtorEq, Nat.reduceAdd, Nat.reduceMul, Nat.reduceLeDiff, Nat.reduceLT, Nat.reduceEqDiff, Int.reduceNegSucc, ↓gs_tt, ↓gs_ff, ↓gs_tf, ↓gs_ft])) | fail)
                  all_goals first | omega | trivial | simp
              · rw [List.take_of_length_le hjge] at a3 hkj
                have hQ2 : T ++ (L.take (i + 1)).flatMap (conRow H v) = Q ++ conRow H v x := by rw [ht, hQ]; simp
                simp (implicitDefEqProofs := false) only [a1, a2, a3, a4, a5, a6, a7, a8, a9, a10, ltF hjge, List.take_of_length_le hjge, inc64 hlt (by omega : L.length ≤ 4611686018427387904), go_sem, reduceCtorEq, Nat.reduceAdd, Nat.reduceMul, Nat.reduceLeDiff, Nat.reduceLT, Nat.reduceEqDiff, Int.reduceNegSucc, ↓gs_tt, ↓gs_ff, ↓gs_tf, ↓gs_ft]
                clear a1 a2 a3 a4 a5 a6 a7 a8 a9 a10 s1 s2 s3 s4 s5 s6
                refine ⟨n - 1, by omega, _, subH_refl _, i + 1, m', by omega, ⟨⟨?_, rfl⟩, rfl, ?_⟩, ?_⟩
                · rw [hQ2]
                · rw [hQ2]
                · rw [ht, List.flatMap_append, firstErr_app, hk]; simp [hkj]
          · rw [List.take_of_length_le hge] at s3 hk
            have e : dropV l v = .tup [vCs (dropList l v), .int .i64 0] := by unfold dropV; rw [if_neg (by omega), if_neg (by rw [hE, hk]; simp)]
            rw [e, hD]
            simp (implicitDefEqProofs := false) only [s1, s2, s3, s4, s5, s6, ltF hge, List.take_of_length_le hge, encC_len, go_sem, reduceCtorEq, Nat.reduceAdd, Nat.reduceMul, Nat.reduceLeDiff, Nat.reduceLT, Nat.reduceEqDiff, Int.reduceNegSucc, ↓gs_tt, ↓gs_ff, ↓gs_tf, ↓gs_ft]
end Go.Proofs.Ythdlkpmhjbaplaa.Dx

/- What wakes of chapter 15 comes to. No statement of this seat is proved here. -/
set_option autoImplicit false
set_option linter.unusedSimpArgs false
set_option linter.unusedVariables false
set_option maxRecDepth 10000
namespace Go.Proofs.Ythdlkpmhjbaplaa.Dx
open Go
attribute [local irreducible] wCall wLoop
attribute [local go_sem] decide_true decide_false Bool.and_true Bool.true_and Bool.and_self Bool.false_and Bool.and_false vMs vCs vIs Slots At Tr.get_z Tr.get_l Tr.get_r Tr.get_e Tr.set_z_e Tr.set_z_n Tr.set_l_e Tr.set_l_n Tr.set_r_e Tr.set_r_n eOs_n eOs_c eDs_n eDs_c ekOs ekDs ekPut ekBack ekSeq_n ekSeq_x ekSeq_r ekBlk_n ekBlk_x ekBlk_r eO_mk eO_gd eO_loc eO_locb eD_mk eD_loc eD_locb eD_gd eDr eC_skip eC_reg eC_drw eC_seq eC_cond eC_block eC_loop eC_exit eC_ret eRetW_n eRetW_r wk wkL eRet_n eRet_r ekLd_n ekLd_x ekLd_r ekLp_n ekLp_x ekLp_r wI wBin wBd vev vov vovs vplace vouter ofDV ofDVs vcells spl vfills vput vuse vuseP vback vbackP wOf vbare isVarV vkeep hget hset hdels hdel hkeys live vw vwL keysV keysL pureV pureL vsrc veqs vmx vmn vT cT vC cC VOb.cells vres vrsL vrs1 vone List.length_cons List.length_nil List.getElem?_cons_zero List.getElem?_cons_succ List.take_succ_cons List.take_zero List.drop_succ_cons List.drop_zero List.drop_nil List.take_nil List.nil_append List.cons_append List.append_nil Option.some.injEq Nat.zero_add Nat.add_zero if_true if_false ite_true ite_false true_and and_true false_and and_false true_implies implies_true false_implies Bool.true_eq_false Bool.false_eq_true Bool.not_true Bool.not_false eq_self_iff_true Int.toNat_natCast Int.ofNat_eq_natCast Int.ofNat_zero Int.ofNat_one Int.cast_ofNat_Int VV.int.injEq VV.bool.injEq cond_true cond_false

def lw : List Cons := [⟨⟨3, [⟨0, -1⟩]⟩, false⟩, ⟨⟨-7, [⟨0, 1⟩]⟩, false⟩]
theorem lw_small : smallC lw := ⟨by simp [lw], by intro x hx; simp [lw] at hx; rcases hx with rfl | rfl <;> simp⟩
theorem w_span : spanV lw 0 [] = .tup [.int .i64 3, .int .i64 7, .int .i64 0] := by rfl
theorem w_sum : sumM [⟨0, 1⟩] [⟨0, -1⟩] = [] := by
  rw [sumM, if_neg (by decide), if_neg (by decide), show IntKind.i64.wrap (1 + -1) = 0 from rfl]
  simp [sumM, keepM]
theorem w_pair : pairR ⟨⟨3, [⟨0, -1⟩]⟩, false⟩ ⟨⟨-7, [⟨0, 1⟩]⟩, false⟩ 0 = (-4, [], 0) := by
  have h1 : scaleR (-7) [⟨0, 1⟩] (-(kOf [⟨0, -1⟩] 0)) = (-7, [⟨0, 1⟩], 0) := by rfl
  have h2 : scaleR 3 [⟨0, -1⟩] (kOf [⟨0, 1⟩] 0) = (3, [⟨0, -1⟩], 0) := by rfl
  unfold pairR
  simp only [h1, h2]
  rw [if_neg (by simp)]
  unfold addR
  rw [w_sum]; rfl
theorem w_drop : dropV lw 0 = .tup [.fz 1 none 3 [.int .i64 (-4), .fz 0 none 2 [], .bool false], .int .i64 0] := by
  have e1 : lowsOf lw 0 = [⟨⟨3, [⟨0, -1⟩]⟩, false⟩] := by rfl
  have e2 : highsOf lw 0 = [⟨⟨-7, [⟨0, 1⟩]⟩, false⟩] := by rfl
  have e3 : othersOf lw 0 = [] := by rfl
  have e4 : mayE lw 0 = 0 := by rfl
  unfold dropV dropErr dropList
  rw [e1, e2, e3, e4]
  simp only [List.flatMap_cons, List.flatMap_nil, errRow, conRow, List.map_cons, List.map_nil, w_pair, mkC]
  rfl
theorem w_may : mayE lw 0 = 0 := by rfl
theorem w_exact : exactB lw 0 = true := by rfl
theorem w_unit : unitV lw = .tup [.int .i64 0, .int .i64 0, .int .i64 5] := by rfl
set_option maxHeartbeats 1000000 in
theorem wakes_ok : VPure FT p18 [] (.bool true) := by
  refine vpure_of_body (f := p18) rfl rfl ?_
  have S := Span_ok lw 0 [] lw_small (by simp)
  have D := Drop_ok lw 0 lw_small
  have E := Exact_ok lw 0 lw_small
  have U := Unit_ok lw lw_small
  have Pk : VPure FT p35 [.int .i64 3, .int .i64 7] (.tup [.int .i64 3, .bool true]) := by
    have := Pick_ok 3 7
    rw [if_neg (by decide), show (min (max 0 3) 7 : Int) = 3 from by decide, show decide ((3 : Int) ≤ 7) = true from by decide] at this; exact this
  rw [w_span] at S; rw [w_drop] at D; rw [w_may, w_exact] at E; rw [w_unit] at U
  simp only [lw, encC, vMs, encM, encI, List.length_cons, List.length_nil, Nat.zero_add, Nat.reduceAdd] at S D E U
  simp (implicitDefEqProofs := false) only [go_sem, reduceCtorEq, Nat.reduceAdd, Nat.reduceMul, Nat.reduceLeDiff, Nat.reduceLT, Nat.reduceEqDiff, Int.reduceNegSucc, ↓gs_tt, ↓gs_ff, ↓gs_tf, ↓gs_ft]
  repeat' (first | (with_reducible refine And.intro ?_ ?_) | (with_reducible refine gs_t ?_ ?_) | (with_reducible refine gs_f ?_ ?_) | (intro _) | ((with_reducible apply wCall_any); (· (simp (implicitDefEqProofs := false) only [go_sem, reduceCtorEq, Nat.reduceAdd, Nat.reduceMul, Nat.reduceLeDiff, Nat.reduceLT, Nat.reduceEqDiff, Int.reduceNegSucc, ↓gs_tt, ↓gs_ff, ↓gs_tf, ↓gs_ft] <;> rfl)); (· (exact Line_ok _ _ _)); (· rfl); (· rfl); (· (first | exact Eq.refl true | exact Eq.refl false)); (simp (implicitDefEqProofs := false) only [encM, go_sem, reduceCtorEq, Nat.reduceAdd, Nat.reduceMul, Nat.reduceLeDiff, Nat.reduceLT, Nat.reduceEqDiff, Int.reduceNegSucc, ↓gs_tt, ↓gs_ff, ↓gs_tf, ↓gs_ft])) | fail)
  refine wCall_frz p1 (by simp (implicitDefEqProofs := false) only [go_sem, reduceCtorEq, Nat.reduceAdd, Nat.reduceMul, Nat.reduceLeDiff, Nat.reduceLT, Nat.reduceEqDiff, Int.reduceNegSucc, ↓gs_tt, ↓gs_ff, ↓gs_tf, ↓gs_ft]; rfl) (by simp (implicitDefEqProofs := false) only [go_sem, reduceCtorEq, Nat.reduceAdd, Nat.reduceMul, Nat.reduceLeDiff, Nat.reduceLT, Nat.reduceEqDiff, Int.reduceNegSucc, ↓gs_tt, ↓gs_ff, ↓gs_tf, ↓gs_ft]; rfl) (by simp (implicitDefEqProofs := false) only [go_sem, reduceCtorEq, Nat.reduceAdd, Nat.reduceMul, Nat.reduceLeDiff, Nat.reduceLT, Nat.reduceEqDiff, Int.reduceNegSucc, ↓gs_tt, ↓gs_ff, ↓gs_tf, ↓gs_ft]; rfl) ?_
  simp (implicitDefEqProofs := false) only [go_sem, reduceCtorEq, Nat.reduceAdd, Nat.reduceMul, Nat.reduceLeDiff, Nat.reduceLT, Nat.reduceEqDiff, Int.reduceNegSucc, ↓gs_tt, ↓gs_ff, ↓gs_tf, ↓gs_ft]
  refine wCall_wk (args' := [.fz 2 none 3 [.int .i64 3, .fz 1 none 2 [.int .i64 0, .int .i64 (-1)], .bool false, .int .i64 (-7), .fz 1 none 2 [.int .i64 0, .int .i64 1], .bool false], .int .i64 0, .fz 0 none 1 []]) (by simp (implicitDefEqProofs := false) only [go_sem, reduceCtorEq, Nat.reduceAdd, Nat.reduceMul, Nat.reduceLeDiff, Nat.reduceLT, Nat.reduceEqDiff, Int.reduceNegSucc, ↓gs_tt, ↓gs_ff, ↓gs_tf, ↓gs_ft]) ?_
  simp only [ite_true] at E
  repeat' (first | (with_reducible refine And.intro ?_ ?_) | (with_reducible refine gs_t ?_ ?_) | (with_reducible refine gs_f ?_ ?_) | (intro _) | ((with_reducible apply wCall_any); (· (simp (implicitDefEqProofs := false) only [go_sem, reduceCtorEq, Nat.reduceAdd, Nat.reduceMul, Nat.reduceLeDiff, Nat.reduceLT, Nat.reduceEqDiff, Int.reduceNegSucc, ↓gs_tt, ↓gs_ff, ↓gs_tf, ↓gs_ft] <;> rfl)); (· (first | exact S | exact D | exact Pk | exact E | exact U)); (· rfl); (· rfl); (· (first | exact Eq.refl true | exact Eq.refl false)); (simp (implicitDefEqProofs := false) only [encM, show (0 : Int) ≤ 0 from by decide, show Int.toNat 0 = 0 from rfl, go_sem, reduceCtorEq, Nat.reduceAdd, Nat.reduceMul, Nat.reduceLeDiff, Nat.reduceLT, Nat.reduceEqDiff, Int.reduceNegSucc, ↓gs_tt, ↓gs_ff, ↓gs_tf, ↓gs_ft])) | fail)
  all_goals first | omega | (simp [gSplit])
end Go.Proofs.Ythdlkpmhjbaplaa.Dx
