/- What the references Add, Put come to. No statement of this seat is proved here. -/
import Derived.Test.YthdlkpmhjbaplaaVwA
set_option autoImplicit false
set_option linter.unusedSimpArgs false
set_option linter.unusedVariables false
set_option maxRecDepth 10000
namespace Go.Proofs.Ythdlkpmhjbaplaa.Dx
open Go
attribute [local irreducible] wCall wLoop
attribute [local go_sem] decide_true decide_false Bool.and_true Bool.true_and Bool.and_self Bool.false_and Bool.and_false vMs vCs vIs Slots At Tr.get_z Tr.get_l Tr.get_r Tr.get_e Tr.set_z_e Tr.set_z_n Tr.set_l_e Tr.set_l_n Tr.set_r_e Tr.set_r_n eOs_n eOs_c eDs_n eDs_c ekOs ekDs ekPut ekBack ekSeq_n ekSeq_x ekSeq_r ekBlk_n ekBlk_x ekBlk_r eO_mk eO_gd eO_loc eO_locb eD_mk eD_loc eD_locb eD_gd eDr eC_skip eC_reg eC_drw eC_seq eC_cond eC_block eC_loop eC_exit eC_ret eRetW_n eRetW_r wk wkL eRet_n eRet_r ekLd_n ekLd_x ekLd_r ekLp_n ekLp_x ekLp_r wI wBin wBd vev vov vovs vplace vouter ofDV ofDVs vcells spl vfills vput vuse vuseP vback vbackP wOf vbare isVarV vkeep hget hset hdels hdel hkeys live vw vwL keysV keysL pureV pureL vsrc veqs vmx vmn vT cT vC cC VOb.cells vres vrsL vrs1 vone List.length_cons List.length_nil List.getElem?_cons_zero List.getElem?_cons_succ List.take_succ_cons List.take_zero List.drop_succ_cons List.drop_zero List.drop_nil List.take_nil List.nil_append List.cons_append List.append_nil Option.some.injEq Nat.zero_add Nat.add_zero if_true if_false ite_true ite_false true_and and_true false_and and_false true_implies implies_true false_implies Bool.true_eq_false Bool.false_eq_true Bool.not_true Bool.not_false eq_self_iff_true Int.toNat_natCast Int.ofNat_eq_natCast Int.ofNat_zero Int.ofNat_one Int.cast_ofNat_Int VV.int.injEq VV.bool.injEq cond_true cond_false

theorem leT {i n : Nat} (h : n ≤ i) : decide ((n : Int) ≤ (i : Int)) = true := by simpa using h
theorem leF {i n : Nat} (h : i < n) : decide ((n : Int) ≤ (i : Int)) = false := by simpa using h
theorem kne {c : Int} {l : List Mono} (h : okT c l = true) {i : Nat} {m : Mono} (hm : l[i]? = some m) : m.k ≠ 0 := (okM_spec.1 (okFrom_ok (okT_spec.1 h).2.2.2 _ (List.mem_of_getElem? hm))).2.2.1
theorem sum_xn (x : Mono) (X : List Mono) (h : x.k ≠ 0) : sumM (x :: X) [] = x :: sumM X [] := by rw [sumM, keepM, if_neg h]
theorem sum_ny (x : Mono) (X : List Mono) (h : x.k ≠ 0) : sumM [] (x :: X) = x :: sumM [] X := by rw [sumM, keepM, if_neg h]
theorem sum_xy1 {x y : Mono} (X Y : List Mono) (h : x.k ≠ 0) (hl : x.v < y.v) : sumM (x :: X) (y :: Y) = x :: sumM X (y :: Y) := by rw [sumM, if_pos hl, keepM, if_neg h]
theorem sum_xy2 {x y : Mono} (X Y : List Mono) (h : y.k ≠ 0) (hl : y.v < x.v) : sumM (x :: X) (y :: Y) = y :: sumM (x :: X) Y := by rw [sumM, if_neg (by omega), if_pos hl, keepM, if_neg h]
theorem sum_xy3 {x y : Mono} (X Y : List Mono) (h1 : ¬ x.v < y.v) (h2 : ¬ y.v < x.v) : sumM (x :: X) (y :: Y) = keepM ⟨x.v, IntKind.i64.wrap (x.k + y.k)⟩ (sumM X Y) := by rw [sumM, if_neg h1, if_neg h2]
theorem d12 : decide ((12 : Int) = 0) = false := rfl
set_option maxHeartbeats 2000000 in
theorem rAdd_ok (c : Int) (a : List Mono) (d : Int) (b : List Mono) (ha : okT c a = true) (hb : okT d b = true) :
    VPure FT p73 [.agg [.int .i64 c, .fz a.length none 2 (encM a)], .agg [.int .i64 d, .fz b.length none 2 (encM b)]] (vTB (addR c a d b)) := by
  refine vpure_of_body' (f := p73) rfl rfl ?_
  have hal := (okT_spec.1 ha).2.2.1
  have hbl := (okT_spec.1 hb).2.2.1
  have hA : addR c a d b = if okT (IntKind.i64.wrap (c + d)) (sumM a b) = true then (IntKind.i64.wrap (c + d), sumM a b, 0) else (0, [], 12) := by unfold addR; rw [if_neg (by rw [ha, hb]; simp)]
  rw [hA]
  simp (implicitDefEqProofs := false) only [go_sem, reduceCtorEq, Nat.reduceAdd, Nat.reduceMul, Nat.reduceLeDiff, Nat.reduceLT, Nat.reduceEqDiff, Int.reduceNegSucc, ↓gs_tt, ↓gs_ff, ↓gs_tf, ↓gs_ft]
  refine wLoop_ownV p6 1 2 (by simp (implicitDefEqProofs := false) only [go_sem, reduceCtorEq, Nat.reduceAdd, Nat.reduceMul, Nat.reduceLeDiff, Nat.reduceLT, Nat.reduceEqDiff, Int.reduceNegSucc, ↓gs_tt, ↓gs_ff, ↓gs_tf, ↓gs_ft]; rfl) (by rfl) ?_
  simp (implicitDefEqProofs := false) only [go_sem, reduceCtorEq, Nat.reduceAdd, Nat.reduceMul, Nat.reduceLeDiff, Nat.reduceLT, Nat.reduceEqDiff, Int.reduceNegSucc, ↓gs_tt, ↓gs_ff, ↓gs_tf, ↓gs_ft]
  refine wLoop_dr (fun n s => ∃ (i k mm : Nat) (O : List Mono), i ≤ a.length ∧ k ≤ b.length ∧ (a.length - i) + (b.length - k) = n ∧ O.length + n ≤ a.length + b.length ∧ At s [(p2, .var [.int .i64 c, .fz a.length none 2 (encM a)]), (p3, .var [.int .i64 d, .fz b.length none 2 (encM b)]), (p4, .var [.int .i64 0, .nils]), (p6, .var [.int .i64 (IntKind.i64.wrap (c + d)), .ow 0 O.length 2]), (p7, .int .i64 i), (p8, .int .i64 k)] (mm + 1) 0 [(0, .row (encM O))] ∧ sumM a b = O ++ sumM (a.drop i) (b.drop k)) (a.length + b.length) ?_ ?_
  · exact ⟨0, 0, 0, [], by omega, by omega, by omega, by simp, by simp (implicitDefEqProofs := false) only [go_sem, reduceCtorEq, Nat.reduceAdd, Nat.reduceMul, Nat.reduceLeDiff, Nat.reduceLT, Nat.reduceEqDiff, Int.reduceNegSucc, ↓gs_tt, ↓gs_ff, ↓gs_tf, ↓gs_ft]; simp [encM], by simp⟩
  · rintro n ⟨e, nx, w, h⟩ ⟨i, k, mm, O, hi, hk, hn, hO, ⟨⟨s1, s2, s3, s4, s5, s6, -⟩, rfl, rfl, rfl⟩, hs⟩
    have hd0 : a.drop a.length = [] := by simp
    have hd1 : b.drop b.length = [] := by simp
    rcases Nat.lt_or_ge i a.length with hia | hia
    · obtain ⟨x, hx⟩ := has hia
      have hxk := kne ha hx
      have wi := inc64 hia (by omega : a.length ≤ 4611686018427387904)
      rw [drop_cons hx] at hs
      rcases Nat.lt_or_ge k b.length with hkb | hkb
      · obtain ⟨y, hy⟩ := has hkb
        have hyk := kne hb hy
        have wk := inc64 hkb (by omega : b.length ≤ 4611686018427387904)
        rw [drop_cons hy] at hs
        by_cases h1 : x.v < y.v
        · have d1 : decide (x.v < y.v) = true := by simpa using h1
          rw [sum_xy1 _ _ hxk h1, ← drop_cons hy] at hs
          simp (implicitDefEqProofs := false) only [s1, s2, s3, s4, s5, s6, ltT hia, ltT hkb, leF hia, leF hkb, d1, wi, wk, encM_g0 hx, encM_cut hx, encM_g1 hx, encM_g0 hy, encM_cut hy, encM_g1 hy, encM_len, go_sem, reduceCtorEq, Nat.reduceAdd, Nat.reduceMul, Nat.reduceLeDiff, Nat.reduceLT, Nat.reduceEqDiff, Int.reduceNegSucc, ↓gs_tt, ↓gs_ff, ↓gs_tf, ↓gs_ft]
          repeat' (first | (with_reducible refine And.intro ?_ ?_) | (with_reducible refine gs_t ?_ ?_) | (with_reducible refine gs_f ?_ ?_) | (intro _) | fail)
          all_goals first | omega | skip
          exact ⟨n - 1, by omega, _, subH_tail (by simp [hget]), i + 1, k, mm + 1, O ++ [x], by omega, by omega, by omega, by simp; omega, ⟨⟨by simp, rfl, rfl⟩, rfl, by simp [encM_app, encM]⟩, by rw [hs]; simp⟩
        · have d1 : decide (x.v < y.v) = false := by simpa using h1
          by_cases h2 : y.v < x.v
          · have d2 : decide (y.v < x.v) = true := by simpa using h2
            rw [sum_xy2 _ _ hyk h2, ← drop_cons hx] at hs
            simp (implicitDefEqProofs := false) only [s1, s2, s3, s4, s5, s6, ltT hia, ltT hkb, leF hia, leF hkb, d1, d2, wi, wk, encM_g0 hx, encM_cut hx, encM_g1 hx, encM_g0 hy, encM_cut hy, encM_g1 hy, encM_len, go_sem, reduceCtorEq, Nat.reduceAdd, Nat.reduceMul, Nat.reduceLeDiff, Nat.reduceLT, Nat.reduceEqDiff, Int.reduceNegSucc, ↓gs_tt, ↓gs_ff, ↓gs_tf, ↓gs_ft]
            repeat' (first | (with_reducible refine And.intro ?_ ?_) | (with_reducible refine gs_t ?_ ?_) | (with_reducible refine gs_f ?_ ?_) | (intro _) | fail)
            all_goals first | omega | skip
            exact ⟨n - 1, by omega, _, subH_tail (by simp [hget]), i, k + 1, mm + 1, O ++ [y], by omega, by omega, by omega, by simp; omega, ⟨⟨by simp, rfl, rfl⟩, rfl, by simp [encM_app, encM]⟩, by rw [hs]; simp⟩
          · have d2 : decide (y.v < x.v) = false := by simpa using h2
            rw [sum_xy3 _ _ h1 h2] at hs
            by_cases h3 : IntKind.i64.wrap (x.k + y.k) = 0
            · have d3 : decide (IntKind.i64.wrap (x.k + y.k) = 0) = true := by simpa using h3
              rw [keepM, if_pos h3] at hs
              simp (implicitDefEqProofs := false) only [s1, s2, s3, s4, s5, s6, ltT hia, ltT hkb, leF hia, leF hkb, d1, d2, d3, wi, wk, encM_g0 hx, encM_cut hx, encM_g1 hx, encM_g0 hy, encM_cut hy, encM_g1 hy, encM_len, go_sem, reduceCtorEq, Nat.reduceAdd, Nat.reduceMul, Nat.reduceLeDiff, Nat.reduceLT, Nat.reduceEqDiff, Int.reduceNegSucc, ↓gs_tt, ↓gs_ff, ↓gs_tf, ↓gs_ft]
              repeat' (first | (with_reducible refine And.intro ?_ ?_) | (with_reducible refine gs_t ?_ ?_) | (with_reducible refine gs_f ?_ ?_) | (intro _) | fail)
              all_goals first | omega | skip
              exact ⟨n - 2, by omega, _, subH_refl _, i + 1, k + 1, mm, O, by omega, by omega, by omega, by omega, ⟨⟨rfl, rfl, rfl⟩, rfl, rfl⟩, hs⟩
            · have d3 : decide (IntKind.i64.wrap (x.k + y.k) = 0) = false := by simpa using h3
              rw [keepM, if_neg h3] at hs
              simp (implicitDefEqProofs := false) only [s1, s2, s3, s4, s5, s6, ltT hia, ltT hkb, leF hia, leF hkb, d1, d2, d3, wi, wk, encM_g0 hx, encM_cut hx, encM_g1 hx, encM_g0 hy, encM_cut hy, encM_g1 hy, encM_len, go_sem, reduceCtorEq, Nat.reduceAdd, Nat.reduceMul, Nat.reduceLeDiff, Nat.reduceLT, Nat.reduceEqDiff, Int.reduceNegSucc, ↓gs_tt, ↓gs_ff, ↓gs_tf, ↓gs_ft]
              repeat' (first | (with_reducible refine And.intro ?_ ?_) | (with_reducible refine gs_t ?_ ?_) | (with_reducible refine gs_f ?_ ?_) | (intro _) | fail)
              all_goals first | omega | skip
              exact ⟨n - 2, by omega, _, subH_tail (by simp [hget]), i + 1, k + 1, mm + 1, O ++ [⟨x.v, IntKind.i64.wrap (x.k + y.k)⟩], by omega, by omega, by omega, by simp; omega, ⟨⟨by simp, rfl, rfl⟩, rfl, by simp [encM_app, encM]⟩, by rw [hs]; simp⟩
      · have hk' : k = b.length := by omega
        subst hk'
        rw [hd1, sum_xn _ _ hxk] at hs
        simp (implicitDefEqProofs := false) only [s1, s2, s3, s4, s5, s6, ltT hia, leF hia, ltF (Nat.le_refl b.length), leT (Nat.le_refl b.length), wi, encM_g0 hx, encM_cut hx, encM_g1 hx, encM_len, go_sem, reduceCtorEq, Nat.reduceAdd, Nat.reduceMul, Nat.reduceLeDiff, Nat.reduceLT, Nat.reduceEqDiff, Int.reduceNegSucc, ↓gs_tt, ↓gs_ff, ↓gs_tf, ↓gs_ft]
        repeat' (first | (with_reducible refine And.intro ?_ ?_) | (with_reducible refine gs_t ?_ ?_) | (with_reducible refine gs_f ?_ ?_) | (intro _) | fail)
        all_goals first | omega | skip
        exact ⟨n - 1, by omega, _, subH_tail (by simp [hget]), i + 1, b.length, mm + 1, O ++ [x], by omega, by omega, by omega, by simp; omega, ⟨⟨by simp, rfl, rfl⟩, rfl, by simp [encM_app, encM]⟩, by rw [hs]; simp⟩
    · have hi' : i = a.length := by omega
      subst hi'
      rcases Nat.lt_or_ge k b.length with hkb | hkb
      · obtain ⟨y, hy⟩ := has hkb
        have hyk := kne hb hy
        have wk := inc64 hkb (by omega : b.length ≤ 4611686018427387904)
        rw [drop_cons hy, hd0, sum_ny _ _ hyk] at hs
        simp (implicitDefEqProofs := false) only [s1, s2, s3, s4, s5, s6, ltT hkb, leF hkb, ltF (Nat.le_refl a.length), leT (Nat.le_refl a.length), wk, encM_g0 hy, encM_cut hy, encM_g1 hy, encM_len, go_sem, reduceCtorEq, Nat.reduceAdd, Nat.reduceMul, Nat.reduceLeDiff, Nat.reduceLT, Nat.reduceEqDiff, Int.reduceNegSucc, ↓gs_tt, ↓gs_ff, ↓gs_tf, ↓gs_ft]
        repeat' (first | (with_reducible refine And.intro ?_ ?_) | (with_reducible refine gs_t ?_ ?_) | (with_reducible refine gs_f ?_ ?_) | (intro _) | fail)
        all_goals first | omega | skip
        exact ⟨n - 1, by omega, _, subH_tail (by simp [hget]), a.length, k + 1, mm + 1, O ++ [y], by omega, by omega, by omega, by simp; omega, ⟨⟨by simp, rfl, rfl⟩, rfl, by simp [encM_app, encM]⟩, by rw [hs]; simp⟩
      · have hk' : k = b.length := by omega
        subst hk'
        have hnil : sumM [] [] = [] := by simp [sumM]
        rw [hd0, hd1, hnil, List.append_nil] at hs
        subst hs
        have hlen := sumM_len a b
        simp (implicitDefEqProofs := false) only [s1, s2, s3, s4, s5, s6, ltF (Nat.le_refl a.length), ltF (Nat.le_refl b.length), encM_len, go_sem, reduceCtorEq, Nat.reduceAdd, Nat.reduceMul, Nat.reduceLeDiff, Nat.reduceLT, Nat.reduceEqDiff, Int.reduceNegSucc, ↓gs_tt, ↓gs_ff, ↓gs_tf, ↓gs_ft]
        cases hok : okT (IntKind.i64.wrap (c + d)) (sumM a b) with
        | true => 
          simp only [if_true, vTB]
          refine wCall_pure (args' := [.agg [.int .i64 (IntKind.i64.wrap (c + d)), .fz (sumM a b).length none 2 (encM (sumM a b))]]) (by simp (implicitDefEqProofs := false) only [encM_len, go_sem, reduceCtorEq, Nat.reduceAdd, Nat.reduceMul, Nat.reduceLeDiff, Nat.reduceLT, Nat.reduceEqDiff, Int.reduceNegSucc, ↓gs_tt, ↓gs_ff, ↓gs_tf, ↓gs_ft]) (Right_ok _ _ (by omega)) rfl (.inl rfl) ?_
          simp (implicitDefEqProofs := false) only [hok, Bool.not_true, s0eq, encM_len, go_sem, reduceCtorEq, Nat.reduceAdd, Nat.reduceMul, Nat.reduceLeDiff, Nat.reduceLT, Nat.reduceEqDiff, Int.reduceNegSucc, ↓gs_tt, ↓gs_ff, ↓gs_tf, ↓gs_ft]
        | false =>
          simp only [Bool.false_eq_true, if_false, vTB, encM, List.length_nil]
          refine wCall_pure (args' := [.agg [.int .i64 (IntKind.i64.wrap (c + d)), .fz (sumM a b).length none 2 (encM (sumM a b))]]) (by simp (implicitDefEqProofs := false) only [encM_len, go_sem, reduceCtorEq, Nat.reduceAdd, Nat.reduceMul, Nat.reduceLeDiff, Nat.reduceLT, Nat.reduceEqDiff, Int.reduceNegSucc, ↓gs_tt, ↓gs_ff, ↓gs_tf, ↓gs_ft]) (Right_ok _ _ (by omega)) rfl (.inl rfl) ?_
          simp (implicitDefEqProofs := false) only [hok, Bool.not_false, d12, encM_len, go_sem, reduceCtorEq, Nat.reduceAdd, Nat.reduceMul, Nat.reduceLeDiff, Nat.reduceLT, Nat.reduceEqDiff, Int.reduceNegSucc, ↓gs_tt, ↓gs_ff, ↓gs_tf, ↓gs_ft]
theorem scaleR_err {c : Int} {l : List Mono} {k : Int} (h : okT c l = true) (he : (scaleR c l k).2.2 ≠ 0) : scaleR c l k = (0, [], 12) := by
  unfold scaleR at he ⊢
  rw [if_neg (by simp [h])] at he ⊢
  split at he
  · exact absurd rfl he
  · rename_i h1; rw [if_neg h1]
/-- What the reference's Put tells of right ones: what Put tells. -/
theorem rPut_ok (c : Int) (a : List Mono) (v d : Int) (b : List Mono) (ha : okT c a = true) (hb : okT d b = true) :
    VPure FT p70 [.agg [.int .i64 c, .fz a.length none 2 (encM a)], .int .i64 v, .agg [.int .i64 d, .fz b.length none 2 (encM b)]] (vTB (putR c a v d b)) := by
  refine vpure_of_body' (f := p70) rfl rfl ?_
  have hal := (okT_spec.1 ha).2.2.1
  have hS := rScale_ok d b (kOf a v) hb
  unfold putR
  rw [if_neg (by rw [ha, hb]; simp)]
  by_cases he : (scaleR d b (kOf a v)).2.2 = 0
  · rw [if_neg (by omega)]
    rcases scaleR_spec (k := kOf a v) hb with ⟨s1, s2, s3, s4⟩ | s1
    · have hA := rAdd_ok c (delM v a) (scaleR d b (kOf a v)).1 (scaleR d b (kOf a v)).2.1 (okT_del v ha) s2
      have da : decide ((scaleR d b (kOf a v)).2.2 = 0) = true := by simpa using he
      simp (implicitDefEqProofs := false) only [vTB, go_sem, reduceCtorEq, Nat.reduceAdd, Nat.reduceMul, Nat.reduceLeDiff, Nat.reduceLT, Nat.reduceEqDiff, Int.reduceNegSucc, ↓gs_tt, ↓gs_ff, ↓gs_tf, ↓gs_ft]
      repeat' (first | (with_reducible refine And.intro ?_ ?_) | (with_reducible refine gs_t ?_ ?_) | (with_reducible refine gs_f ?_ ?_) | (intro _) | ((with_reducible apply wCall_any); (· (simp (implicitDefEqProofs := false) only [go_sem, reduceCtorEq, Nat.reduceAdd, Nat.reduceMul, Nat.reduceLeDiff, Nat.reduceLT, Nat.reduceEqDiff, Int.reduceNegSucc, ↓gs_tt, ↓gs_ff, ↓gs_tf, ↓gs_ft] <;> rfl)); (· (first | exact Kr_ok _ _ _ (by omega) | exact hS | exact without_ok _ _ _ (by omega) | exact hA)); (· rfl); (· rfl); (· (first | exact Eq.refl true | exact Eq.refl false)); (simp (implicitDefEqProofs := false) only [vTB, da, Bool.not_true, go_sem, reduceCtorEq, Nat.reduceAdd, Nat.reduceMul, Nat.reduceLeDiff, Nat.reduceLT, Nat.reduceEqDiff, Int.reduceNegSucc, ↓gs_tt, ↓gs_ff, ↓gs_tf, ↓gs_ft])) | fail)
    · omega
  · rw [if_pos he, scaleR_err hb he]
    rw [scaleR_err hb he] at hS
    simp (implicitDefEqProofs := false) only [vTB, encM, List.length_nil, go_sem, reduceCtorEq, Nat.reduceAdd, Nat.reduceMul, Nat.reduceLeDiff, Nat.reduceLT, Nat.reduceEqDiff, Int.reduceNegSucc, ↓gs_tt, ↓gs_ff, ↓gs_tf, ↓gs_ft]
    repeat' (first | (with_reducible refine And.intro ?_ ?_) | (with_reducible refine gs_t ?_ ?_) | (with_reducible refine gs_f ?_ ?_) | (intro _) | ((with_reducible apply wCall_any); (· (simp (implicitDefEqProofs := false) only [go_sem, reduceCtorEq, Nat.reduceAdd, Nat.reduceMul, Nat.reduceLeDiff, Nat.reduceLT, Nat.reduceEqDiff, Int.reduceNegSucc, ↓gs_tt, ↓gs_ff, ↓gs_tf, ↓gs_ft] <;> rfl)); (· (first | exact Kr_ok _ _ _ (by omega) | exact hS)); (· rfl); (· rfl); (· (first | exact Eq.refl true | exact Eq.refl false)); (simp (implicitDefEqProofs := false) only [vTB, d12, Bool.not_false, encM, List.length_nil, go_sem, reduceCtorEq, Nat.reduceAdd, Nat.reduceMul, Nat.reduceLeDiff, Nat.reduceLT, Nat.reduceEqDiff, Int.reduceNegSucc, ↓gs_tt, ↓gs_ff, ↓gs_tf, ↓gs_ft])) | fail)
def rSwapV (l : List Cons) (v d : Int) (b : List Mono) : VV := .tup [vCs (if swapE l v d b = 0 then swapL l v d b else []), .bool (decide (swapE l v d b = 0))]
theorem putR_code {c : Int} {a : List Mono} {v d : Int} {b : List Mono} (ha : okT c a = true) (hb : okT d b = true) : (putR c a v d b).2.2 = 0 ∨ (putR c a v d b).2.2 = 12 := by
  rcases putR_spec (v := v) ha hb with ⟨h, _⟩ | h
  · exact .inl h
  · exact .inr h
theorem rSwap_ok (l : List Cons) (v d : Int) (b : List Mono) (hr : rightB l v = true) (hl : smallC l) (hb : okT d b = true) :
    VPure FT p29 [.fz l.length none 3 (encC l), .int .i64 v, .agg [.int .i64 d, .fz b.length none 2 (encM b)]] (rSwapV l v d b) := by
  refine vpure_of_body' (f := p29) rfl rfl ?_
  have hok : ∀ x ∈ l, okC x = true := by
    have := hr; simp only [rightB, Bool.and_eq_true, List.all_eq_true] at this; exact this.2
  have hE : swapE l v d b = if l.any (fun x => decide ((swapX v d b x).2.2 ≠ 0)) = true then 12 else 0 := by
    unfold swapE; rw [if_neg (by rw [hr, hb]; simp)]
  simp (implicitDefEqProofs := false) only [go_sem, reduceCtorEq, Nat.reduceAdd, Nat.reduceMul, Nat.reduceLeDiff, Nat.reduceLT, Nat.reduceEqDiff, Int.reduceNegSucc, ↓gs_tt, ↓gs_ff, ↓gs_tf, ↓gs_ft]
  refine wLoop_own p8 3 (by simp (implicitDefEqProofs := false) only [go_sem, reduceCtorEq, Nat.reduceAdd, Nat.reduceMul, Nat.reduceLeDiff, Nat.reduceLT, Nat.reduceEqDiff, Int.reduceNegSucc, ↓gs_tt, ↓gs_ff, ↓gs_tf, ↓gs_ft]) ?_
  simp (implicitDefEqProofs := false) only [go_sem, reduceCtorEq, Nat.reduceAdd, Nat.reduceMul, Nat.reduceLeDiff, Nat.reduceLT, Nat.reduceEqDiff, Int.reduceNegSucc, ↓gs_tt, ↓gs_ff, ↓gs_tf, ↓gs_ft]
  have hll := hl.len
  refine wLoop_dr (fun n s => ∃ i m : Nat, i + n = l.length ∧ At s [(p0, .fz l.length none 3 (encC l)), (p1, .int .i64 v), (p5, .var [.int .i64 d, .fz b.length none 2 (encM b)]), (p8, .ow 0 (l.take i).length 3), (p9, .int .i64 i)] (m + 1) 0 [(0, .row (encC (swapL (l.take i) v d b)))] ∧
    (l.take i).any (fun x => decide ((swapX v d b x).2.2 ≠ 0)) = false) l.length ?_ ?_
  · exact ⟨0, 0, by simp, by simp (implicitDefEqProofs := false) only [go_sem, reduceCtorEq, Nat.reduceAdd, Nat.reduceMul, Nat.reduceLeDiff, Nat.reduceLT, Nat.reduceEqDiff, Int.reduceNegSucc, ↓gs_tt, ↓gs_ff, ↓gs_tf, ↓gs_ft]; simp [encC, swapL], by simp⟩
  · rintro n ⟨e, nx, w, h⟩ ⟨i, m, hi, ⟨⟨s1, s2, s3, s4, s5, -⟩, rfl, rfl, rfl⟩, hk⟩
    rcases Nat.lt_or_ge i l.length with hlt | hge
    · obtain ⟨x, hx⟩ := has hlt
      have hxm := List.mem_of_getElem? hx
      have hb2 : (l.take i).length ≤ i := List.length_take_le _ _
      have hb3 : (l.take i).length = (swapL (l.take i) v d b).length := by unfold swapL; rw [List.length_map]
      have ht := take_snoc hx
      have hP : VPure FT p70 [.agg (cT x.t), .int .i64 v, .agg [.int .i64 d, .fz b.length none 2 (encM b)]] (vTB (swapX v d b x)) := rPut_ok x.t.c x.t.l v d b (hok x hxm) hb
      obtain ⟨A, hA⟩ : ∃ A, A = swapX v d b x := ⟨_, rfl⟩
      rw [← hA] at hP
      rw [hb3] at s4
      simp (implicitDefEqProofs := false) only [s1, s2, s3, s4, s5, ltT hlt, encC_cut hx, encC_t hx, encC_g2 hx, encC_len, inc64 hlt (by omega : l.length ≤ 4611686018427387904), go_sem, reduceCtorEq, Nat.reduceAdd, Nat.reduceMul, Nat.reduceLeDiff, Nat.reduceLT, Nat.reduceEqDiff, Int.reduceNegSucc, ↓gs_tt, ↓gs_ff, ↓gs_tf, ↓gs_ft]
      by_cases eA : A.2.2 = 0
      · have dA : decide (A.2.2 = 0) = true := by simpa using eA
        repeat' (first | (with_reducible refine And.intro ?_ ?_) | (with_reducible refine gs_t ?_ ?_) | (with_reducible refine gs_f ?_ ?_) | (intro _) | ((with_reducible apply wCall_any); (· (simp (implicitDefEqProofs := false) only [go_sem, reduceCtorEq, Nat.reduceAdd, Nat.reduceMul, Nat.reduceLeDiff, Nat.reduceLT, Nat.reduceEqDiff, Int.reduceNegSucc, ↓gs_tt, ↓gs_ff, ↓gs_tf, ↓gs_ft] <;> rfl)); (· (exact hP)); (· rfl); (· rfl); (· (first | exact Eq.refl true | exact Eq.refl false)); (simp (implicitDefEqProofs := false) only [vTB, dA, Bool.not_true, encC_len, encC_cut hx, encC_t hx, encC_g2 hx, inc64 hlt (by omega : l.length ≤ 4611686018427387904), go_sem, reduceCtorEq, Nat.reduceAdd, Nat.reduceMul, Nat.reduceLeDiff, Nat.reduceLT, Nat.reduceEqDiff, Int.reduceNegSucc, ↓gs_tt, ↓gs_ff, ↓gs_tf, ↓gs_ft])) | fail)
        all_goals (clear s1 s2 s3 s4 s5; try omega)
        refine ⟨n - 1, by omega, _, subH_tail (by simp [hget]), i + 1, m + 1, by omega, ⟨⟨?_, rfl⟩, rfl, ?_⟩, ?_⟩
        · rw [ht]; simp [swapL]
        · rw [ht]; simp [swapL, encC_app, encC, vMs, swapC, ← hA]
        · rw [ht]; simp only [List.any_append, hk, List.any_cons, List.any_nil, ← hA, eA]; rfl
      · have dA : decide (A.2.2 = 0) = false := by simpa using eA
        have e : rSwapV l v d b = .tup [vCs [], .bool false] := by
          have : swapE l v d b = 12 := by
            rw [hE, if_pos (List.any_eq_true.2 ⟨x, hxm, by rw [← hA]; simpa using eA⟩)]
          unfold rSwapV; rw [this]; rfl
        simp only [e, vCs, encC]
        repeat' (first | (with_reducible refine And.intro ?_ ?_) | (with_reducible refine gs_t ?_ ?_) | (with_reducible refine gs_f ?_ ?_) | (intro _) | ((with_reducible apply wCall_any); (· (simp (implicitDefEqProofs := false) only [go_sem, reduceCtorEq, Nat.reduceAdd, Nat.reduceMul, Nat.reduceLeDiff, Nat.reduceLT, Nat.reduceEqDiff, Int.reduceNegSucc, ↓gs_tt, ↓gs_ff, ↓gs_tf, ↓gs_ft] <;> rfl)); (· (exact hP)); (· rfl); (· rfl); (· (first | exact Eq.refl true | exact Eq.refl false)); (simp (implicitDefEqProofs := false) only [vTB, dA, Bool.not_false, encC_len, encC, go_sem, reduceCtorEq, Nat.reduceAdd, Nat.reduceMul, Nat.reduceLeDiff, Nat.reduceLT, Nat.reduceEqDiff, Int.reduceNegSucc, ↓gs_tt, ↓gs_ff, ↓gs_tf, ↓gs_ft])) | fail)
        all_goals (clear s1 s2 s3 s4 s5; try omega)
    · rw [List.take_of_length_le hge] at s4 hk
      have e : rSwapV l v d b = .tup [vCs (swapL l v d b), .bool true] := by
        have : swapE l v d b = 0 := by rw [hE, hk]; rfl
        unfold rSwapV; rw [this]; rfl
      have hlL : (swapL l v d b).length = l.length := by simp [swapL]
      simp (implicitDefEqProofs := false) only [s1, s2, s3, s4, s5, ltF hge, List.take_of_length_le hge, e, vCs, encC_len, hlL, go_sem, reduceCtorEq, Nat.reduceAdd, Nat.reduceMul, Nat.reduceLeDiff, Nat.reduceLT, Nat.reduceEqDiff, Int.reduceNegSucc, ↓gs_tt, ↓gs_ff, ↓gs_tf, ↓gs_ft]
end Go.Proofs.Ythdlkpmhjbaplaa.Dx
