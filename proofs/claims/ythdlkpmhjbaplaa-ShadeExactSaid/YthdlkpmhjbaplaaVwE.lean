/- What TwinCons and the reference Drop come to. No statement of this seat is proved here. -/
import Derived.Test.YthdlkpmhjbaplaaVwD
set_option autoImplicit false
set_option linter.unusedSimpArgs false
set_option linter.unusedVariables false
set_option maxRecDepth 10000
namespace Go.Proofs.Ythdlkpmhjbaplaa.Dx
open Go
attribute [local irreducible] wCall wLoop
attribute [local go_sem] decide_true decide_false Bool.and_true Bool.true_and Bool.and_self Bool.false_and Bool.and_false vMs vCs vIs Slots At Tr.get_z Tr.get_l Tr.get_r Tr.get_e Tr.set_z_e Tr.set_z_n Tr.set_l_e Tr.set_l_n Tr.set_r_e Tr.set_r_n eOs_n eOs_c eDs_n eDs_c ekOs ekDs ekPut ekBack ekSeq_n ekSeq_x ekSeq_r ekBlk_n ekBlk_x ekBlk_r eO_mk eO_gd eO_loc eO_locb eD_mk eD_loc eD_locb eD_gd eDr eC_skip eC_reg eC_drw eC_seq eC_cond eC_block eC_loop eC_exit eC_ret eRetW_n eRetW_r wk wkL eRet_n eRet_r ekLd_n ekLd_x ekLd_r ekLp_n ekLp_x ekLp_r wI wBin wBd vev vov vovs vplace vouter ofDV ofDVs vcells spl vfills vput vuse vuseP vback vbackP wOf vbare isVarV vkeep hget hset hdels hdel hkeys live vw vwL keysV keysL pureV pureL vsrc veqs vmx vmn vT cT vC cC VOb.cells vres vrsL vrs1 vone List.length_cons List.length_nil List.getElem?_cons_zero List.getElem?_cons_succ List.take_succ_cons List.take_zero List.drop_succ_cons List.drop_zero List.drop_nil List.take_nil List.nil_append List.cons_append List.append_nil Option.some.injEq Nat.zero_add Nat.add_zero if_true if_false ite_true ite_false true_and and_true false_and and_false true_implies implies_true false_implies Bool.true_eq_false Bool.false_eq_true Bool.not_true Bool.not_false eq_self_iff_true Int.toNat_natCast Int.ofNat_eq_natCast Int.ofNat_zero Int.ofNat_one Int.cast_ofNat_Int VV.int.injEq VV.bool.injEq cond_true cond_false

theorem TwinK_ok (c : Int) (l : List Mono) (hl : l.length ≤ 1000000) : VPure FT p57 [.agg [.int .i64 c, .fz l.length none 2 (encM l)]] (.agg [.int .i64 c, .fz l.length none 2 (encM l)]) := by
  refine vpure_of_body' (f := p57) rfl rfl ?_
  simp (implicitDefEqProofs := false) only [encM_len, go_sem, reduceCtorEq, Nat.reduceAdd, Nat.reduceMul, Nat.reduceLeDiff, Nat.reduceLT, Nat.reduceEqDiff, Int.reduceNegSucc, ↓gs_tt, ↓gs_ff, ↓gs_tf, ↓gs_ft]
  omega
theorem TwinC_ok (l : List Cons) (hs : smallC l) : VPure FT p23 [.fz l.length none 3 (encC l)] (.fz l.length none 3 (encC l)) := by
  have hll := hs.len
  refine vpure_of_body' (f := p23) rfl rfl ?_
  simp (implicitDefEqProofs := false) only [go_sem, reduceCtorEq, Nat.reduceAdd, Nat.reduceMul, Nat.reduceLeDiff, Nat.reduceLT, Nat.reduceEqDiff, Int.reduceNegSucc, ↓gs_tt, ↓gs_ff, ↓gs_tf, ↓gs_ft]
  refine wLoop_own p3 3 (by simp (implicitDefEqProofs := false) only [go_sem, reduceCtorEq, Nat.reduceAdd, Nat.reduceMul, Nat.reduceLeDiff, Nat.reduceLT, Nat.reduceEqDiff, Int.reduceNegSucc, ↓gs_tt, ↓gs_ff, ↓gs_tf, ↓gs_ft]) ?_
  simp (implicitDefEqProofs := false) only [go_sem, reduceCtorEq, Nat.reduceAdd, Nat.reduceMul, Nat.reduceLeDiff, Nat.reduceLT, Nat.reduceEqDiff, Int.reduceNegSucc, ↓gs_tt, ↓gs_ff, ↓gs_tf, ↓gs_ft]
  refine wLoop_dr (fun n s => ∃ i m : Nat, i + n = l.length ∧ At s [(p0, .fz l.length none 3 (encC l)), (p3, .ow 0 (l.take i).length 3), (p4, .int .i64 i)] (m + 1) 0 [(0, .row (encC (l.take i)))]) l.length ?_ ?_
  · exact ⟨0, 0, by simp, by simp (implicitDefEqProofs := false) only [go_sem, reduceCtorEq, Nat.reduceAdd, Nat.reduceMul, Nat.reduceLeDiff, Nat.reduceLT, Nat.reduceEqDiff, Int.reduceNegSucc, ↓gs_tt, ↓gs_ff, ↓gs_tf, ↓gs_ft]; simp [encC]⟩
  · rintro n ⟨e, nx, w, h⟩ ⟨i, m, hi, ⟨s1, s2, s3, -⟩, rfl, rfl, rfl⟩
    rcases Nat.lt_or_ge i l.length with hlt | hge
    · obtain ⟨x, hx⟩ := has hlt
      have hxl := hs.all x (List.mem_of_getElem? hx)
      have hb2 : (l.take i).length ≤ i := List.length_take_le _ _
      have ht := take_snoc hx
      simp (implicitDefEqProofs := false) only [s1, s2, s3, ltT hlt, encC_t hx, encC_g2 hx, encC_len, inc64 hlt (by omega : l.length ≤ 4611686018427387904), go_sem, reduceCtorEq, Nat.reduceAdd, Nat.reduceMul, Nat.reduceLeDiff, Nat.reduceLT, Nat.reduceEqDiff, Int.reduceNegSucc, ↓gs_tt, ↓gs_ff, ↓gs_tf, ↓gs_ft]
      repeat' (first | (with_reducible refine And.intro ?_ ?_) | (with_reducible refine gs_t ?_ ?_) | (with_reducible refine gs_f ?_ ?_) | (intro _) | ((with_reducible apply wCall_any); (· (simp (implicitDefEqProofs := false) only [go_sem, reduceCtorEq, Nat.reduceAdd, Nat.reduceMul, Nat.reduceLeDiff, Nat.reduceLT, Nat.reduceEqDiff, Int.reduceNegSucc, ↓gs_tt, ↓gs_ff, ↓gs_tf, ↓gs_ft] <;> rfl)); (· (exact TwinK_ok _ _ hxl)); (· rfl); (· rfl); (· (first | exact Eq.refl true | exact Eq.refl false)); (simp (implicitDefEqProofs := false) only [encC_len, encC_g2 hx, inc64 hlt (by omega : l.length ≤ 4611686018427387904), go_sem, reduceCtorEq, Nat.reduceAdd, Nat.reduceMul, Nat.reduceLeDiff, Nat.reduceLT, Nat.reduceEqDiff, Int.reduceNegSucc, ↓gs_tt, ↓gs_ff, ↓gs_tf, ↓gs_ft])) | fail)
      all_goals (clear s1 s2 s3; try omega)
      refine ⟨n - 1, by omega, _, subH_tail (by simp [hget]), i + 1, m + 1, by omega, ⟨?_, rfl⟩, rfl, ?_⟩ <;> rw [ht] <;> simp [encC_app, encC, vMs]
    · rw [List.take_of_length_le hge] at s2
      simp (implicitDefEqProofs := false) only [s1, s2, s3, ltF hge, List.take_of_length_le hge, encC_len, go_sem, reduceCtorEq, Nat.reduceAdd, Nat.reduceMul, Nat.reduceLeDiff, Nat.reduceLT, Nat.reduceEqDiff, Int.reduceNegSucc, ↓gs_tt, ↓gs_ff, ↓gs_tf, ↓gs_ft]

theorem lows_snoc {l : List Cons} {i : Nat} {x : Cons} (v : Int) (h : l[i]? = some x) : lowsOf (l.take (i + 1)) v = if kOf x.t.l v < 0 then lowsOf (l.take i) v ++ [x] else lowsOf (l.take i) v := by
  unfold lowsOf; rw [take_snoc h, List.filter_append]
  by_cases hk : kOf x.t.l v < 0 <;> simp [hk]
theorem highs_snoc {l : List Cons} {i : Nat} {x : Cons} (v : Int) (h : l[i]? = some x) : highsOf (l.take (i + 1)) v = if 0 < kOf x.t.l v then highsOf (l.take i) v ++ [x] else highsOf (l.take i) v := by
  unfold highsOf; rw [take_snoc h, List.filter_append]
  by_cases hk : 0 < kOf x.t.l v <;> simp [hk]
theorem others_snoc {l : List Cons} {i : Nat} {x : Cons} (v : Int) (h : l[i]? = some x) : othersOf (l.take (i + 1)) v = if kOf x.t.l v = 0 then othersOf (l.take i) v ++ [x] else othersOf (l.take i) v := by
  unfold othersOf; rw [take_snoc h, List.filter_append]
  by_cases hk : kOf x.t.l v = 0 <;> simp [hk]
theorem firstErr_zero : ∀ {l : List Int}, firstErr l = 0 ↔ ∀ e ∈ l, e = 0
  | [] => by simp [firstErr]
  | e :: l => by
    rw [firstErr]
    by_cases h : e = 0
    · rw [if_neg (by omega), firstErr_zero]; simp [h]
    · rw [if_pos h]; simp [h]
theorem dropErr_zero {l : List Cons} {v : Int} : dropErr l v = 0 ↔ ∀ a ∈ lowsOf l v, ∀ b ∈ highsOf l v, (pairR a b v).2.2 = 0 := by
  unfold dropErr
  rw [firstErr_zero]
  constructor
  · intro h a ha b hb
    exact h _ (List.mem_flatMap.2 ⟨a, ha, List.mem_map.2 ⟨b, hb, rfl⟩⟩)
  · intro h e he
    obtain ⟨a, ha, he⟩ := List.mem_flatMap.1 he
    obtain ⟨b, hb, rfl⟩ := List.mem_map.1 he
    exact h a ha b hb
theorem take1 {l : List Cons} {i : Nat} {x : Cons} (h : l[i]? = some x) : vsub (encC l) 3 i (i + 1) = cC x := by
  have := encC_cut h
  unfold vsub
  rw [show (i + 1 - i) * 3 = 3 by omega]
  exact this
def rDropV (l : List Cons) (v : Int) : VV := .tup [vCs (if dropErr l v = 0 then dropList l v else []), .bool (decide (dropErr l v = 0))]
set_option maxHeartbeats 1000000 in
theorem rDrop_ok (l : List Cons) (v : Int) (hs : smallC l) (hok : l.all okC = true) : VPure FT p32 [.fz l.length none 3 (encC l), .int .i64 v] (rDropV l v) := by
  have hll := hs.len
  have okm : ∀ x ∈ l, okC x = true := fun x hx => List.all_eq_true.1 hok x hx
  refine vpure_of_body' (f := p32) rfl rfl ?_
  simp (implicitDefEqProofs := false) only [go_sem, reduceCtorEq, Nat.reduceAdd, Nat.reduceMul, Nat.reduceLeDiff, Nat.reduceLT, Nat.reduceEqDiff, Int.reduceNegSucc, ↓gs_tt, ↓gs_ff, ↓gs_tf, ↓gs_ft]
  refine wLoop_own p6 3 (by simp (implicitDefEqProofs := false) only [go_sem, reduceCtorEq, Nat.reduceAdd, Nat.reduceMul, Nat.reduceLeDiff, Nat.reduceLT, Nat.reduceEqDiff, Int.reduceNegSucc, ↓gs_tt, ↓gs_ff, ↓gs_tf, ↓gs_ft]) ?_
  simp (implicitDefEqProofs := false) only [go_sem, reduceCtorEq, Nat.reduceAdd, Nat.reduceMul, Nat.reduceLeDiff, Nat.reduceLT, Nat.reduceEqDiff, Int.reduceNegSucc, ↓gs_tt, ↓gs_ff, ↓gs_tf, ↓gs_ft]
  refine wLoop_dr (fun n s => ∃ i m : Nat, i + n = l.length ∧ At s [(p0, .fz l.length none 3 (encC l)), (p1, .int .i64 v), (p6, .ow 0 (othersOf (l.take i) v).length 3), (p7, .int .i64 i)] (m + 1) 0 [(0, .row (encC (othersOf (l.take i) v)))]) l.length ?_ ?_
  · exact ⟨0, 0, by simp, by simp (implicitDefEqProofs := false) only [go_sem, reduceCtorEq, Nat.reduceAdd, Nat.reduceMul, Nat.reduceLeDiff, Nat.reduceLT, Nat.reduceEqDiff, Int.reduceNegSucc, ↓gs_tt, ↓gs_ff, ↓gs_tf, ↓gs_ft]; simp [encC, othersOf]⟩
  · rintro n ⟨e, nx, w, h⟩ ⟨i, m, hi, ⟨s1, s2, s3, s4, -⟩, rfl, rfl, rfl⟩
    rcases Nat.lt_or_ge i l.length with hlt | hge
    · obtain ⟨x, hx⟩ := has hlt
      have hxl := hs.all x (List.mem_of_getElem? hx)
      have hb2 : (othersOf (l.take i) v).length ≤ i := Nat.le_trans (List.length_filter_le _ _) (List.length_take_le _ _)
      have hsn := others_snoc v hx
      simp (implicitDefEqProofs := false) only [s1, s2, s3, s4, ltT hlt, encC_t hx, encC_len, inc64 hlt (by omega : l.length ≤ 4611686018427387904), go_sem, reduceCtorEq, Nat.reduceAdd, Nat.reduceMul, Nat.reduceLeDiff, Nat.reduceLT, Nat.reduceEqDiff, Int.reduceNegSucc, ↓gs_tt, ↓gs_ff, ↓gs_tf, ↓gs_ft]
      refine ⟨⟨by omega, by omega⟩, by omega, ?_⟩
      refine wCall_pp (r := .int .i64 (kOf x.t.l v)) (by simp [pureL, pureV]) (Kr_ok _ _ _ (by omega)) rfl ?_
      by_cases hk0 : kOf x.t.l v = 0
      · have d0 : decide (kOf x.t.l v = 0) = true := by simpa using hk0
        rw [if_pos hk0] at hsn
        have hT : VPure FT p23 [.fz 1 none 3 [.int .i64 x.t.c, .fz x.t.l.length none 2 (encM x.t.l), .bool x.eq]] (.fz 1 none 3 [.int .i64 x.t.c, .fz x.t.l.length none 2 (encM x.t.l), .bool x.eq]) := TwinC_ok [x] ⟨by simp, by simpa using hxl⟩
        have hsub : i + 1 - i = 1 := by omega
        simp (implicitDefEqProofs := false) only [d0, inc64 hlt (by omega : l.length ≤ 4611686018427387904), take1 hx, hsub, go_sem, reduceCtorEq, Nat.reduceAdd, Nat.reduceMul, Nat.reduceLeDiff, Nat.reduceLT, Nat.reduceEqDiff, Int.reduceNegSucc, ↓gs_tt, ↓gs_ff, ↓gs_tf, ↓gs_ft]
        repeat' (first | (with_reducible refine And.intro ?_ ?_) | (with_reducible refine gs_t ?_ ?_) | (with_reducible refine gs_f ?_ ?_) | (intro _) | ((with_reducible apply wCall_any); (· (simp (implicitDefEqProofs := false) only [go_sem, reduceCtorEq, Nat.reduceAdd, Nat.reduceMul, Nat.reduceLeDiff, Nat.reduceLT, Nat.reduceEqDiff, Int.reduceNegSucc, ↓gs_tt, ↓gs_ff, ↓gs_tf, ↓gs_ft] <;> rfl)); (· (exact hT)); (· rfl); (· rfl); (· (first | exact Eq.refl true | exact Eq.refl false)); (simp (implicitDefEqProofs := false) only [encC_len, inc64 hlt (by omega : l.length ≤ 4611686018427387904), go_sem, reduceCtorEq, Nat.reduceAdd, Nat.reduceMul, Nat.reduceLeDiff, Nat.reduceLT, Nat.reduceEqDiff, Int.reduceNegSucc, ↓gs_tt, ↓gs_ff, ↓gs_tf, ↓gs_ft])) | fail)
        all_goals (clear s1 s2 s3 s4; try omega)
        refine ⟨n - 1, by omega, _, subH_refl _, i + 1, m, by omega, ⟨?_, rfl⟩, rfl, ?_⟩ <;> rw [hsn] <;> simp [encC_app, encC, vMs]
      · have d0 : decide (kOf x.t.l v = 0) = false := by simpa using hk0
        rw [if_neg hk0] at hsn
        simp (implicitDefEqProofs := false) only [d0, inc64 hlt (by omega : l.length ≤ 4611686018427387904), go_sem, reduceCtorEq, Nat.reduceAdd, Nat.reduceMul, Nat.reduceLeDiff, Nat.reduceLT, Nat.reduceEqDiff, Int.reduceNegSucc, ↓gs_tt, ↓gs_ff, ↓gs_tf, ↓gs_ft]
        refine ⟨n - 1, by omega, _, subH_refl _, i + 1, m, by omega, ⟨?_, rfl⟩, rfl, ?_⟩ <;> rw [hsn]
    · rw [List.take_of_length_le hge] at s3
      simp (implicitDefEqProofs := false) only [s1, s2, s3, s4, ltF hge, List.take_of_length_le hge, encC_len, go_sem, reduceCtorEq, Nat.reduceAdd, Nat.reduceMul, Nat.reduceLeDiff, Nat.reduceLT, Nat.reduceEqDiff, Int.reduceNegSucc, ↓gs_tt, ↓gs_ff, ↓gs_tf, ↓gs_ft]
      clear s1 s2 s3 s4
      obtain ⟨H, hH⟩ : ∃ H, H = highsOf l v := ⟨_, rfl⟩
      obtain ⟨T, hT⟩ : ∃ T, T = othersOf l v := ⟨_, rfl⟩
      have bH : H.length ≤ 100000 := by rw [hH]; exact Nat.le_trans (List.length_filter_le _ _) hll
      have bT : T.length ≤ 100000 := by rw [hT]; exact Nat.le_trans (List.length_filter_le _ _) hll
      have hD : dropList l v = T ++ (lowsOf l v).flatMap (conRow H v) := by unfold dropList; rw [hH, hT]
      rw [← hT]
      refine wLoop_dr (fun n s => ∃ i m : Nat, i + n = l.length ∧ At s [(p0, .fz l.length none 3 (encC l)), (p1, .int .i64 v), (p6, .ow 0 (T ++ (lowsOf (l.take i) v).flatMap (conRow H v)).length 3), (p8, .int .i64 i)] (m + 1) 0 [(0, .row (encC (T ++ (lowsOf (l.take i) v).flatMap (conRow H v))))] ∧ ∀ a ∈ lowsOf (l.take i) v, ∀ b ∈ H, (pairR a b v).2.2 = 0) l.length ?_ ?_
      · exact ⟨0, m, by simp, by simp (implicitDefEqProofs := false) only [go_sem, reduceCtorEq, Nat.reduceAdd, Nat.reduceMul, Nat.reduceLeDiff, Nat.reduceLT, Nat.reduceEqDiff, Int.reduceNegSucc, ↓gs_tt, ↓gs_ff, ↓gs_tf, ↓gs_ft]; simp [lowsOf], by simp [lowsOf]⟩
      · rintro n ⟨e, nx, w, h⟩ ⟨i, m, hi, ⟨⟨s1, s2, s3, s4, -⟩, rfl, rfl, rfl⟩, hz⟩
        rcases Nat.lt_or_ge i l.length with hlt | hge
        · obtain ⟨x, hx⟩ := has hlt
          have hxm := List.mem_of_getElem? hx
          have hxl := hs.all x hxm
          have hxo := okm x hxm
          obtain ⟨_, x40, xok⟩ := okC_parts hxo
          have kb := kOf_bound v xok
          have hsn := lows_snoc v hx
          simp (implicitDefEqProofs := false) only [s1, s2, s3, s4, ltT hlt, encC_t hx, encC_len, inc64 hlt (by omega : l.length ≤ 4611686018427387904), go_sem, reduceCtorEq, Nat.reduceAdd, Nat.reduceMul, Nat.reduceLeDiff, Nat.reduceLT, Nat.reduceEqDiff, Int.reduceNegSucc, ↓gs_tt, ↓gs_ff, ↓gs_tf, ↓gs_ft]
          refine ⟨⟨by omega, by omega⟩, by omega, ?_⟩
          refine wCall_pp (r := .int .i64 (kOf x.t.l v)) (by simp [pureL, pureV]) (Kr_ok _ _ _ (by omega)) rfl ?_
          by_cases hk0 : kOf x.t.l v < 0
          · have d0 : decide (0 ≤ kOf x.t.l v) = false := by simp; omega
            have w1 : IntKind.i64.wrap (0 - kOf x.t.l v) = -(kOf x.t.l v) := by rw [i64 (by omega)]; omega
            rw [if_pos hk0] at hsn
            obtain ⟨Q, hQ⟩ : ∃ Q, Q = T ++ (lowsOf (l.take i) v).flatMap (conRow H v) := ⟨_, rfl⟩
            have hQl : Q.length ≤ 100000 + 100000 * 100000 := by
              rw [hQ, List.length_append]
              have h1 := flat_len (conRow H v) H.length (fun a => by unfold conRow; simp) (lowsOf (l.take i) v)
              have h3 : (lowsOf (l.take i) v).length ≤ 100000 := Nat.le_trans (List.length_filter_le _ _) (Nat.le_trans (List.length_take_le _ _) (by omega))
              have h2 : (lowsOf (l.take i) v).length * H.length ≤ 100000 * 100000 := Nat.mul_le_mul h3 bH
              omega
            rw [← hQ]
            simp (implicitDefEqProofs := false) only [d0, inc64 hlt (by omega : l.length ≤ 4611686018427387904), go_sem, reduceCtorEq, Nat.reduceAdd, Nat.reduceMul, Nat.reduceLeDiff, Nat.reduceLT, Nat.reduceEqDiff, Int.reduceNegSucc, ↓gs_tt, ↓gs_ff, ↓gs_tf, ↓gs_ft]
            refine wLoop_dr (fun n' s => ∃ j m' : Nat, j + n' = l.length ∧ At s [(p0, .fz l.length none 3 (encC l)), (p1, .int .i64 v), (p6, .ow 0 (Q ++ conRow (highsOf (l.take j) v) v x).length 3), (p8, .int .i64 i), (p9, .int .i64 (kOf x.t.l v)), (p10, .int .i64 j)] (m' + 1) 0 [(0, .row (encC (Q ++ conRow (highsOf (l.take j) v) v x)))] ∧ ∀ b ∈ highsOf (l.take j) v, (pairR x b v).2.2 = 0) l.length ?_ ?_
            · exact ⟨0, m, by simp, by simp (implicitDefEqProofs := false) only [go_sem, reduceCtorEq, Nat.reduceAdd, Nat.reduceMul, Nat.reduceLeDiff, Nat.reduceLT, Nat.reduceEqDiff, Int.reduceNegSucc, ↓gs_tt, ↓gs_ff, ↓gs_tf, ↓gs_ft]; simp [conRow, highsOf], by simp [highsOf]⟩
            · rintro n' ⟨e', nx, w, h⟩ ⟨j, m', hj, ⟨⟨a1, a2, a3, a4, a5, a6, -⟩, rfl, rfl, rfl⟩, hzj⟩
              rcases Nat.lt_or_ge j l.length with hjlt | hjge
              · obtain ⟨y, hy⟩ := has hjlt
                have hym := List.mem_of_getElem? hy
                have hyl := hs.all y hym
                have hyo := okm y hym
                have hsnj := highs_snoc v hy
                simp (implicitDefEqProofs := false) only [a1, a2, a3, a4, a5, a6, ltT hjlt, encC_t hy, encC_len, inc64 hjlt (by omega : l.length ≤ 4611686018427387904), go_sem, reduceCtorEq, Nat.reduceAdd, Nat.reduceMul, Nat.reduceLeDiff, Nat.reduceLT, Nat.reduceEqDiff, Int.reduceNegSucc, ↓gs_tt, ↓gs_ff, ↓gs_tf, ↓gs_ft]
                refine ⟨⟨by omega, by omega⟩, by omega, ?_⟩
                refine wCall_pp (r := .int .i64 (kOf y.t.l v)) (by simp [pureL, pureV]) (Kr_ok _ _ _ (by omega)) rfl ?_
                by_cases hky : 0 < kOf y.t.l v
                · have dy : decide (kOf y.t.l v ≤ 0) = false := by simp; omega
                  rw [if_pos hky] at hsnj
                  have hcr : (conRow (highsOf (l.take j) v) v x).length ≤ j := by unfold conRow; rw [List.length_map]; exact Nat.le_trans (List.length_filter_le _ _) (List.length_take_le _ _)
                  have hrow : conRow (highsOf (l.take (j + 1)) v) v x = conRow (highsOf (l.take j) v) v x ++ [mkC (pairR x y v)] := by unfold conRow; rw [hsnj, List.map_append]; rfl
                  obtain ⟨A, hA⟩ : ∃ A, A = scaleR y.t.c y.t.l (-(kOf x.t.l v)) := ⟨_, rfl⟩
                  obtain ⟨B, hB⟩ : ∃ B, B = scaleR x.t.c x.t.l (kOf y.t.l v) := ⟨_, rfl⟩
                  have SA := rScale_ok y.t.c y.t.l (-(kOf x.t.l v)) hyo
                  have SB := rScale_ok x.t.c x.t.l (kOf y.t.l v) hxo
                  have cA := scaleR_spec (k := -(kOf x.t.l v)) hyo
                  have cB := scaleR_spec (k := kOf y.t.l v) hxo
                  have hP : pairR x y v = if A.2.2 ≠ 0 ∨ B.2.2 ≠ 0 then (0, [], 12) else addR A.1 A.2.1 B.1 B.2.1 := by unfold pairR; rw [hA, hB]
                  have hbad : (pairR x y v).2.2 ≠ 0 → rDropV l v = .tup [.fz 0 none 3 [], .bool false] := fun hne => by
                    have : dropErr l v ≠ 0 := fun h0 => hne (dropErr_zero.1 h0 x (by unfold lowsOf; simp [hxm, hk0]) y (by unfold highsOf; simp [hym, hky]))
                    unfold rDropV; rw [if_neg this, decide_eq_false this]; rfl
                  rw [← hA] at SA cA
                  rw [← hB] at SB cB
                  simp (implicitDefEqProofs := false) only [dy, w1, encC_t hy, encC_t hx, encC_len, inc64 hjlt (by omega : l.length ≤ 4611686018427387904), go_sem, reduceCtorEq, Nat.reduceAdd, Nat.reduceMul, Nat.reduceLeDiff, Nat.reduceLT, Nat.reduceEqDiff, Int.reduceNegSucc, ↓gs_tt, ↓gs_ff, ↓gs_tf, ↓gs_ft]
                  clear a1 a2 a3 a4 a5 a6 s1 s2 s3 s4
                  by_cases eA : A.2.2 = 0
                  · have dA : decide (A.2.2 = 0) = true := by simpa using eA
                    by_cases eB : B.2.2 = 0
                    · have dB : decide (B.2.2 = 0) = true := by simpa using eB
                      rw [if_neg (by omega)] at hP
                      obtain ⟨R, hR⟩ : ∃ R, R = pairR x y v := ⟨_, rfl⟩
                      have PR := rAdd_ok A.1 A.2.1 B.1 B.2.1 (cA.resolve_right (by omega)).2.1 (cB.resolve_right (by omega)).2.1
                      rw [← hP, ← hR] at PR
                      rw [← hR] at hrow hbad
                      by_cases eR : R.2.2 = 0
                      · have dR : decide (R.2.2 = 0) = true := by simpa using eR
                        repeat' (first | (with_reducible refine And.intro ?_ ?_) | (with_reducible refine gs_t ?_ ?_) | (with_reducible refine gs_f ?_ ?_) | (intro _) | ((with_reducible apply wCall_any); (· (simp (implicitDefEqProofs := false) only [go_sem, reduceCtorEq, Nat.reduceAdd, Nat.reduceMul, Nat.reduceLeDiff, Nat.reduceLT, Nat.reduceEqDiff, Int.reduceNegSucc, ↓gs_tt, ↓gs_ff, ↓gs_tf, ↓gs_ft] <;> rfl)); (· (first | exact SA | exact SB | exact PR)); (· rfl); (· rfl); (· (first | exact Eq.refl true | exact Eq.refl false)); (simp (implicitDefEqProofs := false) only [vTB, dA, dB, dR, Bool.not_true, encC_t hx, encC_len, inc64 hjlt (by omega : l.length ≤ 4611686018427387904), go_sem, reduceCtorEq, Nat.reduceAdd, Nat.reduceMul, Nat.reduceLeDiff, Nat.reduceLT, Nat.reduceEqDiff, Int.reduceNegSucc, ↓gs_tt, ↓gs_ff, ↓gs_tf, ↓gs_ft])) | fail)
                        all_goals first | omega | (rw [List.length_append]; omega) | skip
                        refine ⟨n' - 1, by omega, _, subH_tail (by simp [hget]), j + 1, m' + 1, by omega, ⟨⟨?_, rfl⟩, rfl, ?_⟩, ?_⟩
                        · rw [hrow]; simp; omega
                        · rw [hrow]; simp [encC_app, encC, mkC, vMs]
                        · rw [hsnj]; intro b hb
                          rcases List.mem_append.1 hb with hb | hb
                          · exact hzj b hb
                          · rw [List.mem_singleton.1 hb, ← hR]; exact eR
                      · have dR : decide (R.2.2 = 0) = false := by simpa using eR
                        rw [hbad eR]
                        repeat' (first | (with_reducible refine And.intro ?_ ?_) | (with_reducible refine gs_t ?_ ?_) | (with_reducible refine gs_f ?_ ?_) | (intro _) | ((with_reducible apply wCall_any); (· (simp (implicitDefEqProofs := false) only [go_sem, reduceCtorEq, Nat.reduceAdd, Nat.reduceMul, Nat.reduceLeDiff, Nat.reduceLT, Nat.reduceEqDiff, Int.reduceNegSucc, ↓gs_tt, ↓gs_ff, ↓gs_tf, ↓gs_ft] <;> rfl)); (· (first | exact SA | exact SB | exact PR)); (· rfl); (· rfl); (· (first | exact Eq.refl true | exact Eq.refl false)); (simp (implicitDefEqProofs := false) only [vTB, dA, dB, dR, Bool.not_true, Bool.not_false, encC_t hx, encC_len, encC, go_sem, reduceCtorEq, Nat.reduceAdd, Nat.reduceMul, Nat.reduceLeDiff, Nat.reduceLT, Nat.reduceEqDiff, Int.reduceNegSucc, ↓gs_tt, ↓gs_ff, ↓gs_tf, ↓gs_ft])) | fail)
                        all_goals first | omega | trivial | simp
                    · have dB : decide (B.2.2 = 0) = false := by simpa using eB
                      rw [if_pos (.inr eB)] at hP
                      rw [hbad (by rw [hP]; decide)]
                      repeat' (first | (with_reducible refine And.intro ?_ ?_) | (with_reducible refine gs_t ?_ ?_) | (with_reducible refine gs_f ?_ ?_) | (intro _) | ((with_reducible apply wCall_any); (· (simp (implicitDefEqProofs := false) only [go_sem, reduceCtorEq, Nat.reduceAdd, Nat.reduceMul, Nat.reduceLeDiff, Nat.reduceLT, Nat.reduceEqDiff, Int.reduceNegSucc, ↓gs_tt, ↓gs_ff, ↓gs_tf, ↓gs_ft] <;> rfl)); (· (first | exact SA | exact SB)); (· rfl); (· rfl); (· (first | exact Eq.refl true | exact Eq.refl false)); (simp (implicitDefEqProofs := false) only [vTB, dA, dB, Bool.not_true, Bool.not_false, encC_t hx, encC_len, encC, go_sem, reduceCtorEq, Nat.reduceAdd, Nat.reduceMul, Nat.reduceLeDiff, Nat.reduceLT, Nat.reduceEqDiff, Int.reduceNegSucc, ↓gs_tt, ↓gs_ff, ↓gs_tf, ↓gs_ft])) | fail)
                      all_goals first | omega | trivial | simp
                  · have dA : decide (A.2.2 = 0) = false := by simpa using eA
                    rw [if_pos (.inl eA)] at hP
                    rw [hbad (by rw [hP]; decide)]
                    repeat' (first | (with_reducible refine And.intro ?_ ?_) | (with_reducible refine gs_t ?_ ?_) | (with_reducible refine gs_f ?_ ?_) | (intro _) | ((with_reducible apply wCall_any); (· (simp (implicitDefEqProofs := false) only [go_sem, reduceCtorEq, Nat.reduceAdd, Nat.reduceMul, Nat.reduceLeDiff, Nat.reduceLT, Nat.reduceEqDiff, Int.reduceNegSucc, ↓gs_tt, ↓gs_ff, ↓gs_tf, ↓gs_ft] <;> rfl)); (· (first | exact SA | exact SB)); (· rfl); (· rfl); (· (first | exact Eq.refl true | exact Eq.refl false)); (simp (implicitDefEqProofs := false) only [vTB, dA, Bool.not_true, Bool.not_false, encC_t hx, encC_len, encC, go_sem, reduceCtorEq, Nat.reduceAdd, Nat.reduceMul, Nat.reduceLeDiff, Nat.reduceLT, Nat.reduceEqDiff, Int.reduceNegSucc, ↓gs_tt, ↓gs_ff, ↓gs_tf, ↓gs_ft])) | fail)
                    all_goals first | omega | trivial | simp
                · have dy : decide (kOf y.t.l v ≤ 0) = true := by simp; omega
                  rw [if_neg hky] at hsnj
                  simp (implicitDefEqProofs := false) only [dy, inc64 hjlt (by omega : l.length ≤ 4611686018427387904), go_sem, reduceCtorEq, Nat.reduceAdd, Nat.reduceMul, Nat.reduceLeDiff, Nat.reduceLT, Nat.reduceEqDiff, Int.reduceNegSucc, ↓gs_tt, ↓gs_ff, ↓gs_tf, ↓gs_ft]
                  refine ⟨n' - 1, by omega, _, subH_refl _, j + 1, m', by omega, ⟨⟨?_, rfl⟩, rfl, ?_⟩, ?_⟩ <;> rw [hsnj]
                  exact hzj
              · rw [List.take_of_length_le hjge, ← hH] at a3 hzj
                simp (implicitDefEqProofs := false) only [a1, a2, a3, a4, a5, a6, ltF hjge, List.take_of_length_le hjge, ← hH, inc64 hlt (by omega : l.length ≤ 4611686018427387904), go_sem, reduceCtorEq, Nat.reduceAdd, Nat.reduceMul, Nat.reduceLeDiff, Nat.reduceLT, Nat.reduceEqDiff, Int.reduceNegSucc, ↓gs_tt, ↓gs_ff, ↓gs_tf, ↓gs_ft]
                clear a1 a2 a3 a4 a5 a6 s1 s2 s3 s4
                have hQ2 : T ++ (lowsOf (l.take (i + 1)) v).flatMap (conRow H v) = Q ++ conRow H v x := by rw [hsn, hQ]; simp
                refine ⟨n - 1, by omega, _, subH_refl _, i + 1, m', by omega, ⟨⟨?_, rfl⟩, rfl, ?_⟩, ?_⟩
                · rw [hQ2]
                · rw [hQ2]
                · rw [hsn]; intro a ha b hb
                  rcases List.mem_append.1 ha with ha | ha
                  · exact hz a ha b hb
                  · rw [List.mem_singleton.1 ha]; exact hzj b hb
          · have d0 : decide (0 ≤ kOf x.t.l v) = true := by simp; omega
            rw [if_neg hk0] at hsn
            simp (implicitDefEqProofs := false) only [d0, inc64 hlt (by omega : l.length ≤ 4611686018427387904), go_sem, reduceCtorEq, Nat.reduceAdd, Nat.reduceMul, Nat.reduceLeDiff, Nat.reduceLT, Nat.reduceEqDiff, Int.reduceNegSucc, ↓gs_tt, ↓gs_ff, ↓gs_tf, ↓gs_ft]
            refine ⟨n - 1, by omega, _, subH_refl _, i + 1, m, by omega, ⟨⟨?_, rfl⟩, rfl, ?_⟩, ?_⟩ <;> rw [hsn]
            exact hz
        · rw [List.take_of_length_le hge] at s3 hz
          have hde : dropErr l v = 0 := dropErr_zero.2 (by rw [← hH]; exact hz)
          have e : rDropV l v = .tup [vCs (dropList l v), .bool true] := by unfold rDropV; rw [if_pos hde, hde]; rfl
          rw [e, hD]
          simp (implicitDefEqProofs := false) only [s1, s2, s3, s4, ltF hge, List.take_of_length_le hge, encC_len, go_sem, reduceCtorEq, Nat.reduceAdd, Nat.reduceMul, Nat.reduceLeDiff, Nat.reduceLT, Nat.reduceEqDiff, Int.reduceNegSucc, ↓gs_tt, ↓gs_ff, ↓gs_tf, ↓gs_ft]
end Go.Proofs.Ythdlkpmhjbaplaa.Dx

/- What the reference Span comes to. No statement of this seat is proved here. -/
set_option autoImplicit false
set_option linter.unusedSimpArgs false
set_option linter.unusedVariables false
set_option maxRecDepth 10000
namespace Go.Proofs.Ythdlkpmhjbaplaa.Dx
open Go
attribute [local irreducible] wCall wLoop
attribute [local go_sem] decide_true decide_false Bool.and_true Bool.true_and Bool.and_self Bool.false_and Bool.and_false vMs vCs vIs Slots At Tr.get_z Tr.get_l Tr.get_r Tr.get_e Tr.set_z_e Tr.set_z_n Tr.set_l_e Tr.set_l_n Tr.set_r_e Tr.set_r_n eOs_n eOs_c eDs_n eDs_c ekOs ekDs ekPut ekBack ekSeq_n ekSeq_x ekSeq_r ekBlk_n ekBlk_x ekBlk_r eO_mk eO_gd eO_loc eO_locb eD_mk eD_loc eD_locb eD_gd eDr eC_skip eC_reg eC_drw eC_seq eC_cond eC_block eC_loop eC_exit eC_ret eRetW_n eRetW_r wk wkL eRet_n eRet_r ekLd_n ekLd_x ekLd_r ekLp_n ekLp_x ekLp_r wI wBin wBd vev vov vovs vplace vouter ofDV ofDVs vcells spl vfills vput vuse vuseP vback vbackP wOf vbare isVarV vkeep hget hset hdels hdel hkeys live vw vwL keysV keysL pureV pureL vsrc veqs vmx vmn vT cT vC cC VOb.cells vres vrsL vrs1 vone List.length_cons List.length_nil List.getElem?_cons_zero List.getElem?_cons_succ List.take_succ_cons List.take_zero List.drop_succ_cons List.drop_zero List.drop_nil List.take_nil List.nil_append List.cons_append List.append_nil Option.some.injEq Nat.zero_add Nat.add_zero if_true if_false ite_true ite_false true_and and_true false_and and_false true_implies implies_true false_implies Bool.true_eq_false Bool.false_eq_true Bool.not_true Bool.not_false eq_self_iff_true Int.toNat_natCast Int.ofNat_eq_natCast Int.ofNat_zero Int.ofNat_one Int.cast_ofNat_Int VV.int.injEq VV.bool.injEq cond_true cond_false

theorem up_ok (a b : Int) (hb : 0 < b) (ha : -1152921504606846976 ≤ a ∧ a ≤ 1152921504606846976) : VPure FT p76 [.int .i64 a, .int .i64 b] (.int .i64 (-(-a / b))) := by
  refine vpure_of_body (f := p76) rfl rfl ?_
  have hq := tdiv_bound a b hb ha
  have hfix := tdiv_fix (-a) b hb
  rw [Int.neg_tmod, Int.neg_tdiv] at hfix
  have w1 : IntKind.i64.wrap (a.tdiv b) = a.tdiv b := i64 (by omega)
  have w2 : IntKind.i64.wrap (a.tdiv b + 1) = a.tdiv b + 1 := i64 (by omega)
  have hb0 : decide (b = 0) = false := by simp; omega
  by_cases h : 0 < a.tmod b
  · rw [if_pos (by omega)] at hfix
    have d : decide (0 < a.tmod b) = true := by simpa using h
    simp (implicitDefEqProofs := false) only [w1, w2, d, hb0, go_sem, reduceCtorEq, Nat.reduceAdd, Nat.reduceMul, Nat.reduceLeDiff, Nat.reduceLT, Nat.reduceEqDiff, Int.reduceNegSucc, ↓gs_tt, ↓gs_ff, ↓gs_tf, ↓gs_ft]
    exact ⟨by omega, by omega, by omega⟩
  · rw [if_neg (by omega)] at hfix
    have d : decide (0 < a.tmod b) = false := by simpa using h
    simp (implicitDefEqProofs := false) only [w1, w2, d, hb0, go_sem, reduceCtorEq, Nat.reduceAdd, Nat.reduceMul, Nat.reduceLeDiff, Nat.reduceLT, Nat.reduceEqDiff, Int.reduceNegSucc, ↓gs_tt, ↓gs_ff, ↓gs_tf, ↓gs_ft]
    exact ⟨by omega, by omega, by omega⟩
theorem rdown_ok (a b : Int) (hb : 0 < b) (ha : -1152921504606846976 ≤ a ∧ a ≤ 1152921504606846976) : VPure FT p75 [.int .i64 a, .int .i64 b] (.int .i64 (a / b)) := by
  refine vpure_of_body (f := p75) rfl rfl ?_
  have hU := up_ok (-a) b hb (by omega)
  rw [Int.neg_neg] at hU
  have hq := ediv_bound hb ha (by omega)
  have w1 : IntKind.i64.wrap (0 - a) = -a := by rw [i64 (by omega)]; omega
  have w2 : IntKind.i64.wrap (0 - -(a / b)) = a / b := by rw [i64 (by omega)]; omega
  simp (implicitDefEqProofs := false) only [w1, go_sem, reduceCtorEq, Nat.reduceAdd, Nat.reduceMul, Nat.reduceLeDiff, Nat.reduceLT, Nat.reduceEqDiff, Int.reduceNegSucc, ↓gs_tt, ↓gs_ff, ↓gs_tf, ↓gs_ft]
  repeat' (first | (with_reducible refine And.intro ?_ ?_) | (with_reducible refine gs_t ?_ ?_) | (with_reducible refine gs_f ?_ ?_) | (intro _) | ((with_reducible apply wCall_any); (· (simp (implicitDefEqProofs := false) only [go_sem, reduceCtorEq, Nat.reduceAdd, Nat.reduceMul, Nat.reduceLeDiff, Nat.reduceLT, Nat.reduceEqDiff, Int.reduceNegSucc, ↓gs_tt, ↓gs_ff, ↓gs_tf, ↓gs_ft] <;> rfl)); (· (exact hU)); (· rfl); (· rfl); (· (first | exact Eq.refl true | exact Eq.refl false)); (simp (implicitDefEqProofs := false) only [w2, go_sem, reduceCtorEq, Nat.reduceAdd, Nat.reduceMul, Nat.reduceLeDiff, Nat.reduceLT, Nat.reduceEqDiff, Int.reduceNegSucc, ↓gs_tt, ↓gs_ff, ↓gs_tf, ↓gs_ft])) | fail)

theorem rest_eq (v : Int) (vals : List Int) : ∀ l : List Mono, linV vals (delM v l) = restOf v vals l
  | [] => rfl
  | m :: l => by
    have ih := rest_eq v vals l
    unfold delM at ih ⊢
    by_cases h : m.v = v
    · rw [List.filter_cons_of_neg (by simp [h]), ih, restOf, if_pos h]; omega
    · rw [List.filter_cons_of_pos (by simp [h]), linV, ih, restOf, if_neg h]
def loF (l : List Cons) (v : Int) (vals : List Int) : Int := (lowsOf l v).foldl (fun a x => max a (-(-(x.t.c + restOf v vals x.t.l) / -(kOf x.t.l v)))) (-2147483648)
def hiF (l : List Cons) (v : Int) (vals : List Int) : Int := (highsOf l v).foldl (fun a x => min a (-(x.t.c + restOf v vals x.t.l) / kOf x.t.l v)) 2147483647
theorem span_lo (v : Int) (vals : List Int) : ∀ (l : List Cons) (a b : Int), (∀ x ∈ l, kOf x.t.l v < 0) → l.foldl (spanStep v vals) (a, b) = (l.foldl (fun a x => max a (-(-(x.t.c + restOf v vals x.t.l) / -(kOf x.t.l v)))) a, b)
  | [], _, _, _ => rfl
  | x :: l, a, b, h => by
    have hx := h x List.mem_cons_self
    rw [List.foldl_cons, List.foldl_cons, spanStep, if_pos hx, span_lo v vals l _ _ fun y hy => h y (List.mem_cons_of_mem _ hy)]
theorem span_hi (v : Int) (vals : List Int) : ∀ (l : List Cons) (a b : Int), (∀ x ∈ l, 0 < kOf x.t.l v) → l.foldl (spanStep v vals) (a, b) = (a, l.foldl (fun a x => min a (-(x.t.c + restOf v vals x.t.l) / kOf x.t.l v)) b)
  | [], _, _, _ => rfl
  | x :: l, a, b, h => by
    have hx := h x List.mem_cons_self
    rw [List.foldl_cons, List.foldl_cons, spanStep, if_neg (by omega), span_hi v vals l _ _ fun y hy => h y (List.mem_cons_of_mem _ hy)]
theorem span_split (l : List Cons) (v : Int) (vals : List Int) : spanFold l v vals = (loF l v vals, hiF l v vals) := by
  unfold spanFold spanC
  rw [List.foldl_append, span_lo v vals (lowsOf l v) _ _ (by intro x hx; simpa using (List.mem_filter.1 hx).2), span_hi v vals (highsOf l v) _ _ (by intro x hx; simpa using (List.mem_filter.1 hx).2)]
  rfl
theorem loF_snoc {l : List Cons} {i : Nat} {x : Cons} (v : Int) (vals : List Int) (h : l[i]? = some x) : loF (l.take (i + 1)) v vals = if kOf x.t.l v < 0 then max (loF (l.take i) v vals) (-(-(x.t.c + restOf v vals x.t.l) / -(kOf x.t.l v))) else loF (l.take i) v vals := by
  unfold loF; rw [lows_snoc v h]
  by_cases hk : kOf x.t.l v < 0
  · rw [if_pos hk, if_pos hk, List.foldl_append]; rfl
  · rw [if_neg hk, if_neg hk]
theorem hiF_snoc {l : List Cons} {i : Nat} {x : Cons} (v : Int) (vals : List Int) (h : l[i]? = some x) : hiF (l.take (i + 1)) v vals = if 0 < kOf x.t.l v then min (hiF (l.take i) v vals) (-(x.t.c + restOf v vals x.t.l) / kOf x.t.l v) else hiF (l.take i) v vals := by
  unfold hiF; rw [highs_snoc v h]
  by_cases hk : 0 < kOf x.t.l v
  · rw [if_pos hk, if_pos hk, List.foldl_append]; rfl
  · rw [if_neg hk, if_neg hk]
theorem far_told {l : List Cons} {x : Cons} {v : Int} {vals : List Int} (hf : mayFar l v vals.length = false) (hx : x ∈ l) (hk : kOf x.t.l v ≠ 0) (ho : okC x = true) (hv : vals.any outB = false) : toldE x.t.c (delM v x.t.l) vals = 0 := by
  unfold mayFar at hf
  rw [List.any_eq_false] at hf
  have h1 := hf x hx
  simp only [hk, Bool.and_eq_true, decide_eq_true_eq, ne_eq, not_false_eq_true, true_and, Bool.not_eq_true] at h1
  rw [List.any_eq_false] at h1
  have hd : okT x.t.c (delM v x.t.l) = true := okT_del v ho
  have ha : (delM v x.t.l).any (fun m => decide ((vals.length : Int) ≤ m.v)) = false := by
    rw [List.any_eq_false]
    intro m hm
    have h2 := List.mem_filter.1 hm
    have h3 := h1 m h2.1
    simp only [farB] at h3
    have h4 := h2.2
    simp at h3 h4 ⊢
    exact h3 h4
  unfold toldE
  rw [if_neg (by simp [hd]), if_neg (by simp [ha]), if_neg (by simp [hv])]
def rSpanV (l : List Cons) (v : Int) (vals : List Int) : VV := .tup [.int .i64 (min (loF l v vals) 2147483647), .int .i64 (max (hiF l v vals) (-2147483648))]
set_option maxHeartbeats 1000000 in
theorem rSpan_ok (l : List Cons) (v : Int) (vals : List Int) (hs : smallC l) (hok : l.all okC = true) (hvl : vals.length ≤ 1000000) (hf : mayFar l v vals.length = false) (hv : vals.any outB = false) :
    VPure FT p34 [.fz l.length none 3 (encC l), .int .i64 v, .fz vals.length none 1 (encI vals)] (rSpanV l v vals) := by
  have hll := hs.len
  refine vpure_of_body' (f := p34) rfl rfl ?_
  simp (implicitDefEqProofs := false) only [go_sem, reduceCtorEq, Nat.reduceAdd, Nat.reduceMul, Nat.reduceLeDiff, Nat.reduceLT, Nat.reduceEqDiff, Int.reduceNegSucc, ↓gs_tt, ↓gs_ff, ↓gs_tf, ↓gs_ft]
  refine wLoop_by (fun n s => ∃ i : Nat, i + n = l.length ∧ At s [(p0, .fz l.length none 3 (encC l)), (p1, .int .i64 v), (p2, .fz vals.length none 1 (encI vals)), (p8, .int .i64 (min (loF (l.take i) v vals) 2147483647)), (p9, .int .i64 (max (hiF (l.take i) v vals) (-2147483648))), (p10, .int .i64 i)] 0 0 []) l.length ?_ ?_
  · refine ⟨0, by simp, ?_⟩
    have h1 : min (loF (l.take 0) v vals) 2147483647 = -2147483648 := rfl
    have h2 : max (hiF (l.take 0) v vals) (-2147483648) = 2147483647 := rfl
    rw [h1, h2]
    simp (implicitDefEqProofs := false) only [go_sem, reduceCtorEq, Nat.reduceAdd, Nat.reduceMul, Nat.reduceLeDiff, Nat.reduceLT, Nat.reduceEqDiff, Int.reduceNegSucc, ↓gs_tt, ↓gs_ff, ↓gs_tf, ↓gs_ft]
  · rintro n ⟨e, nx, w, h⟩ ⟨i, hi, ⟨s1, s2, s3, s4, s5, s6, -⟩, rfl, rfl, rfl⟩
    rcases Nat.lt_or_ge i l.length with hlt | hge
    · obtain ⟨x, hx⟩ := has hlt
      have hxm := List.mem_of_getElem? hx
      have hxl := hs.all x hxm
      have hxo := List.all_eq_true.1 hok x hxm
      obtain ⟨hc, x40, xok⟩ := okC_parts hxo
      have kb := kOf_bound v xok
      have rb := restOf_bound v hv xok
      have hlo := loF_snoc v vals hx
      have hhi := hiF_snoc v vals hx
      simp (implicitDefEqProofs := false) only [s1, s2, s3, s4, s5, s6, ltT hlt, encC_t hx, encC_len, inc64 hlt (by omega : l.length ≤ 4611686018427387904), go_sem, reduceCtorEq, Nat.reduceAdd, Nat.reduceMul, Nat.reduceLeDiff, Nat.reduceLT, Nat.reduceEqDiff, Int.reduceNegSucc, ↓gs_tt, ↓gs_ff, ↓gs_tf, ↓gs_ft]
      refine ⟨⟨by omega, by omega⟩, by omega, ?_⟩
      refine wCall_pp (r := .int .i64 (kOf x.t.l v)) (by simp [pureL, pureV]) (Kr_ok _ _ _ (by omega)) rfl ?_
      by_cases hk0 : kOf x.t.l v = 0
      · have d0 : decide (kOf x.t.l v = 0) = true := by simpa using hk0
        rw [if_neg (by omega)] at hlo hhi
        simp (implicitDefEqProofs := false) only [d0, inc64 hlt (by omega : l.length ≤ 4611686018427387904), go_sem, reduceCtorEq, Nat.reduceAdd, Nat.reduceMul, Nat.reduceLeDiff, Nat.reduceLT, Nat.reduceEqDiff, Int.reduceNegSucc, ↓gs_tt, ↓gs_ff, ↓gs_tf, ↓gs_ft]
        exact ⟨n - 1, by omega, i + 1, by omega, by rw [hlo], by rw [hhi], rfl⟩
      · have d0 : decide (kOf x.t.l v = 0) = false := by simpa using hk0
        have hT := far_told hf hxm hk0 hxo hv
        have hVal := rValue_ok x.t.c (delM v x.t.l) vals hT hvl
        rw [rest_eq] at hVal
        obtain ⟨N, hN⟩ : ∃ N, N = x.t.c + restOf v vals x.t.l := ⟨_, rfl⟩
        have hNb : -1152921504606846976 ≤ N ∧ N ≤ 1152921504606846976 := by omega
        rw [← hN] at hVal hlo hhi
        have hW := without_ok x.t.c x.t.l v (by omega)
        simp (implicitDefEqProofs := false) only [d0, encC_t hx, encC_len, inc64 hlt (by omega : l.length ≤ 4611686018427387904), go_sem, reduceCtorEq, Nat.reduceAdd, Nat.reduceMul, Nat.reduceLeDiff, Nat.reduceLT, Nat.reduceEqDiff, Int.reduceNegSucc, ↓gs_tt, ↓gs_ff, ↓gs_tf, ↓gs_ft]
        refine ⟨⟨by omega, by omega⟩, by omega, ?_⟩
        refine wCall_pp (r := .agg [.int .i64 x.t.c, .fz (delM v x.t.l).length none 2 (encM (delM v x.t.l))]) (by simp [pureL, pureV]) hW (by simp [pureV, pureL]) ?_
        simp (implicitDefEqProofs := false) only [go_sem, reduceCtorEq, Nat.reduceAdd, Nat.reduceMul, Nat.reduceLeDiff, Nat.reduceLT, Nat.reduceEqDiff, Int.reduceNegSucc, ↓gs_tt, ↓gs_ff, ↓gs_tf, ↓gs_ft]
        refine wCall_pp (r := .int .i64 N) (by simp [pureL, pureV]) hVal rfl ?_
        by_cases hkp : 0 < kOf x.t.l v
        · have dp : decide (0 < kOf x.t.l v) = true := by simpa using hkp
          rw [if_neg (by omega)] at hlo
          rw [if_pos hkp] at hhi
          have w1 : IntKind.i64.wrap (0 - N) = -N := by rw [i64 (by omega)]; omega
          have hD := rdown_ok (-N) (kOf x.t.l v) hkp (by omega)
          simp (implicitDefEqProofs := false) only [dp, w1, go_sem, reduceCtorEq, Nat.reduceAdd, Nat.reduceMul, Nat.reduceLeDiff, Nat.reduceLT, Nat.reduceEqDiff, Int.reduceNegSucc, ↓gs_tt, ↓gs_ff, ↓gs_tf, ↓gs_ft]
          refine wCall_pp (r := .int .i64 (-N / kOf x.t.l v)) rfl hD rfl ?_
          simp (implicitDefEqProofs := false) only [inc64 hlt (by omega : l.length ≤ 4611686018427387904), go_sem, reduceCtorEq, Nat.reduceAdd, Nat.reduceMul, Nat.reduceLeDiff, Nat.reduceLT, Nat.reduceEqDiff, Int.reduceNegSucc, ↓gs_tt, ↓gs_ff, ↓gs_tf, ↓gs_ft]
          exact ⟨n - 1, by omega, i + 1, by omega, by rw [hlo], by rw [hhi]; omega, rfl⟩
        · have dp : decide (0 < kOf x.t.l v) = false := by simpa using hkp
          rw [if_pos (by omega)] at hlo
          rw [if_neg hkp] at hhi
          have w1 : IntKind.i64.wrap (0 - kOf x.t.l v) = -(kOf x.t.l v) := by rw [i64 (by omega)]; omega
          have hU := up_ok N (-(kOf x.t.l v)) (by omega) (by omega)
          simp (implicitDefEqProofs := false) only [dp, w1, go_sem, reduceCtorEq, Nat.reduceAdd, Nat.reduceMul, Nat.reduceLeDiff, Nat.reduceLT, Nat.reduceEqDiff, Int.reduceNegSucc, ↓gs_tt, ↓gs_ff, ↓gs_tf, ↓gs_ft]
          refine wCall_pp (r := .int .i64 (-(-N / -(kOf x.t.l v)))) rfl hU rfl ?_
          simp (implicitDefEqProofs := false) only [inc64 hlt (by omega : l.length ≤ 4611686018427387904), go_sem, reduceCtorEq, Nat.reduceAdd, Nat.reduceMul, Nat.reduceLeDiff, Nat.reduceLT, Nat.reduceEqDiff, Int.reduceNegSucc, ↓gs_tt, ↓gs_ff, ↓gs_tf, ↓gs_ft]
          exact ⟨n - 1, by omega, i + 1, by omega, by rw [hlo]; omega, by rw [hhi], rfl⟩
    · rw [List.take_of_length_le hge] at s4 s5
      simp (implicitDefEqProofs := false) only [s1, s2, s3, s4, s5, s6, ltF hge, rSpanV, go_sem, reduceCtorEq, Nat.reduceAdd, Nat.reduceMul, Nat.reduceLeDiff, Nat.reduceLT, Nat.reduceEqDiff, Int.reduceNegSucc, ↓gs_tt, ↓gs_ff, ↓gs_tf, ↓gs_ft]
end Go.Proofs.Ythdlkpmhjbaplaa.Dx

/- What the reference Equal and equal come to. No statement of this seat is proved here. -/
set_option autoImplicit false
set_option linter.unusedSimpArgs false
set_option linter.unusedVariables false
set_option maxRecDepth 10000
namespace Go.Proofs.Ythdlkpmhjbaplaa.Dx
open Go
attribute [local irreducible] wCall wLoop
attribute [local go_sem] decide_true decide_false Bool.and_true Bool.true_and Bool.and_self Bool.false_and Bool.and_false vMs vCs vIs Slots At Tr.get_z Tr.get_l Tr.get_r Tr.get_e Tr.set_z_e Tr.set_z_n Tr.set_l_e Tr.set_l_n Tr.set_r_e Tr.set_r_n eOs_n eOs_c eDs_n eDs_c ekOs ekDs ekPut ekBack ekSeq_n ekSeq_x ekSeq_r ekBlk_n ekBlk_x ekBlk_r eO_mk eO_gd eO_loc eO_locb eD_mk eD_loc eD_locb eD_gd eDr eC_skip eC_reg eC_drw eC_seq eC_cond eC_block eC_loop eC_exit eC_ret eRetW_n eRetW_r wk wkL eRet_n eRet_r ekLd_n ekLd_x ekLd_r ekLp_n ekLp_x ekLp_r wI wBin wBd vev vov vovs vplace vouter ofDV ofDVs vcells spl vfills vput vuse vuseP vback vbackP wOf vbare isVarV vkeep hget hset hdels hdel hkeys live vw vwL keysV keysL pureV pureL vsrc veqs vmx vmn vT cT vC cC VOb.cells vres vrsL vrs1 vone List.length_cons List.length_nil List.getElem?_cons_zero List.getElem?_cons_succ List.take_succ_cons List.take_zero List.drop_succ_cons List.drop_zero List.drop_nil List.take_nil List.nil_append List.cons_append List.append_nil Option.some.injEq Nat.zero_add Nat.add_zero if_true if_false ite_true ite_false true_and and_true false_and and_false true_implies implies_true false_implies Bool.true_eq_false Bool.false_eq_true Bool.not_true Bool.not_false eq_self_iff_true Int.toNat_natCast Int.ofNat_eq_natCast Int.ofNat_zero Int.ofNat_one Int.cast_ofNat_Int VV.int.injEq VV.bool.injEq cond_true cond_false

theorem right_parts {l : List Cons} {v : Int} (h : rightB l v = true) : (0 ≤ v ∧ v < 40) ∧ ∀ x ∈ l, okC x = true := by
  simp only [rightB, Bool.and_eq_true, decide_eq_true_eq, List.all_eq_true] at h
  exact ⟨h.1, h.2⟩
theorem right_one {l : List Cons} {v : Int} (h : rightB l v = true) {x : Cons} (hx : x ∈ l) : rightB [x] v = true := by
  obtain ⟨h1, h2⟩ := right_parts h
  simp [rightB, h1.1, h1.2, h2 x hx]
theorem equalR_eq {x : Cons} {v : Int} (hr : rightB [x] v = true) (he : x.eq = true) (hk : oneB (kOf x.t.l v) = true) : equalR x v = scaleR x.t.c (delM v x.t.l) (-(kOf x.t.l v)) := by
  have ho : okT x.t.c x.t.l = true := (right_parts hr).2 x (by simp)
  unfold equalR
  rw [if_neg (by simp [hr]), if_neg (by simp [he, hk]), putR_nil ho]
theorem rEqual_ok (x : Cons) (v : Int) (hr : rightB [x] v = true) (he : x.eq = true) (hk : oneB (kOf x.t.l v) = true) :
    VPure FT p71 [.agg (cC x), .int .i64 v] (.agg [.int .i64 (equalR x v).1, .fz (equalR x v).2.1.length none 2 (encM (equalR x v).2.1)]) := by
  have ho : okT x.t.c x.t.l = true := (right_parts hr).2 x (by simp)
  have hxo : okC x = true := ho
  obtain ⟨hc, x40, xok⟩ := okC_parts hxo
  have kb := kOf_bound v xok
  have w1 : IntKind.i64.wrap (0 - kOf x.t.l v) = -(kOf x.t.l v) := by rw [i64 (by omega)]; omega
  rw [equalR_eq hr he hk]
  have hS := rScale_ok x.t.c (delM v x.t.l) (-(kOf x.t.l v)) (okT_del v ho)
  refine vpure_of_body' (f := p71) rfl rfl ?_
  simp (implicitDefEqProofs := false) only [go_sem, reduceCtorEq, Nat.reduceAdd, Nat.reduceMul, Nat.reduceLeDiff, Nat.reduceLT, Nat.reduceEqDiff, Int.reduceNegSucc, ↓gs_tt, ↓gs_ff, ↓gs_tf, ↓gs_ft]
  repeat' (first | (with_reducible refine And.intro ?_ ?_) | (with_reducible refine gs_t ?_ ?_) | (with_reducible refine gs_f ?_ ?_) | (intro _) | ((with_reducible apply wCall_any); (· (simp (implicitDefEqProofs := false) only [go_sem, reduceCtorEq, Nat.reduceAdd, Nat.reduceMul, Nat.reduceLeDiff, Nat.reduceLT, Nat.reduceEqDiff, Int.reduceNegSucc, ↓gs_tt, ↓gs_ff, ↓gs_tf, ↓gs_ft] <;> rfl)); (· (first | exact without_ok _ _ _ (by omega) | exact Kr_ok _ _ _ (by omega) | exact hS)); (· rfl); (· rfl); (· (first | exact Eq.refl true | exact Eq.refl false)); (simp (implicitDefEqProofs := false) only [w1, vTB, go_sem, reduceCtorEq, Nat.reduceAdd, Nat.reduceMul, Nat.reduceLeDiff, Nat.reduceLT, Nat.reduceEqDiff, Int.reduceNegSucc, ↓gs_tt, ↓gs_ff, ↓gs_tf, ↓gs_ft])) | fail)
theorem u64w (n : Int) : IntKind.u64.wrap n = n % 18446744073709551616 := rfl
theorem at_ok {n : Nat} (i : Int) (hn : 0 < n) (hm : n ≤ 100000) : ∃ j : Nat, j < n ∧ IntKind.i64.wrap ((IntKind.u64.wrap i).tmod (IntKind.u64.wrap n)) = (j : Int) := by
  rw [u64w, u64w]
  have h1 : ((n : Int) % 18446744073709551616) = n := by omega
  rw [h1]
  have h2 : 0 ≤ i % 18446744073709551616 := Int.emod_nonneg _ (by omega)
  rw [Int.tmod_eq_emod_of_nonneg h2]
  have h3 := Int.emod_nonneg (i % 18446744073709551616) (b := (n : Int)) (by omega)
  have h4 := Int.emod_lt_of_pos (i % 18446744073709551616) (b := (n : Int)) (by omega)
  exact ⟨((i % 18446744073709551616) % (n : Int)).toNat, by omega, by rw [i64 (by omega)]; omega⟩
theorem dE1 : decide ((1 : Int) = 11) = false := rfl
theorem dE11' : decide ((11 : Int) = 11) = true := rfl
theorem oneB_cases {k : Int} : (oneB k = true ∧ decide (k = 1) = true ∧ k = 1) ∨ (oneB k = true ∧ decide (k = 1) = false ∧ decide (k = -1) = true) ∨ (oneB k = false ∧ decide (k = 1) = false ∧ decide (k = -1) = false) := by
  unfold oneB
  by_cases h1 : k = 1
  · left; simp [h1]
  · by_cases h2 : k = -1
    · right; left; simp [h2]
    · right; right; simp [h1, h2]
theorem equal_ok (l : List Cons) (v i : Int) (hs : smallC l) (hr : rightB l v = true) : VPure FT p30 [.fz l.length none 3 (encC l), .int .i64 v, .int .i64 i] (.bool true) := by
  have hll := hs.len
  refine vpure_of_body' (f := p30) rfl rfl ?_
  simp (implicitDefEqProofs := false) only [go_sem, reduceCtorEq, Nat.reduceAdd, Nat.reduceMul, Nat.reduceLeDiff, Nat.reduceLT, Nat.reduceEqDiff, Int.reduceNegSucc, ↓gs_tt, ↓gs_ff, ↓gs_tf, ↓gs_ft]
  refine gs_t (fun h => ?_) (fun h => ?_)
  · trivial
  · have h0 : l.length ≠ 0 := by simpa using h
    obtain ⟨j, hj, hw⟩ := at_ok (n := l.length) i (by omega) hll
    obtain ⟨x, hx⟩ := has hj
    have hxm := List.mem_of_getElem? hx
    have hxl := hs.all x hxm
    have hr1 := right_one hr hxm
    have hxo := (right_parts hr).2 x hxm
    obtain ⟨hc, x40, xok⟩ := okC_parts hxo
    have hu : IntKind.u64.wrap (l.length : Int) ≠ 0 := by rw [u64w]; omega
    have hE := Equal_ok x v (by omega)
    have hK := Kr_ok x.t.c x.t.l v (by omega)
    simp (implicitDefEqProofs := false) only [hw, encC_cut hx, encC_len, go_sem, reduceCtorEq, Nat.reduceAdd, Nat.reduceMul, Nat.reduceLeDiff, Nat.reduceLT, Nat.reduceEqDiff, Int.reduceNegSucc, ↓gs_tt, ↓gs_ff, ↓gs_tf, ↓gs_ft]
    refine ⟨hu, ⟨by omega, by omega⟩, by omega, ?_⟩
    cases he : x.eq with
    | false =>
      have e : equalR x v = (0, [], 11) := by unfold equalR; rw [if_neg (by simp [hr1]), if_pos (by simp [he])]
      rw [e] at hE
      have hT := keepT_ok 0 [] (by simp)
      simp only [encM, List.length_nil] at hT
      simp (implicitDefEqProofs := false) only [he, vTE, encM, List.length_nil, go_sem, reduceCtorEq, Nat.reduceAdd, Nat.reduceMul, Nat.reduceLeDiff, Nat.reduceLT, Nat.reduceEqDiff, Int.reduceNegSucc, ↓gs_tt, ↓gs_ff, ↓gs_tf, ↓gs_ft] at hE
      repeat' (first | (with_reducible refine And.intro ?_ ?_) | (with_reducible refine gs_t ?_ ?_) | (with_reducible refine gs_f ?_ ?_) | (intro _) | ((with_reducible apply wCall_any); (· (simp (implicitDefEqProofs := false) only [go_sem, reduceCtorEq, Nat.reduceAdd, Nat.reduceMul, Nat.reduceLeDiff, Nat.reduceLT, Nat.reduceEqDiff, Int.reduceNegSucc, ↓gs_tt, ↓gs_ff, ↓gs_tf, ↓gs_ft] <;> rfl)); (· (first | exact hE | exact hK)); (· rfl); (· rfl); (· (first | exact Eq.refl true | exact Eq.refl false)); (simp (implicitDefEqProofs := false) only [Bool.not_false, dE11', go_sem, reduceCtorEq, Nat.reduceAdd, Nat.reduceMul, Nat.reduceLeDiff, Nat.reduceLT, Nat.reduceEqDiff, Int.reduceNegSucc, ↓gs_tt, ↓gs_ff, ↓gs_tf, ↓gs_ft])) | fail)
      refine wCall_wk (args' := [.agg [.int .i64 0, .fz 0 none 2 []], .agg [.int .i64 0, .fz 0 none 2 []]]) (by simp [wkL, wk]) ?_
      repeat' (first | (with_reducible refine And.intro ?_ ?_) | (with_reducible refine gs_t ?_ ?_) | (with_reducible refine gs_f ?_ ?_) | (intro _) | ((with_reducible apply wCall_any); (· (simp (implicitDefEqProofs := false) only [go_sem, reduceCtorEq, Nat.reduceAdd, Nat.reduceMul, Nat.reduceLeDiff, Nat.reduceLT, Nat.reduceEqDiff, Int.reduceNegSucc, ↓gs_tt, ↓gs_ff, ↓gs_tf, ↓gs_ft] <;> rfl)); (· (exact hT)); (· rfl); (· rfl); (· (first | exact Eq.refl true | exact Eq.refl false)); (simp (implicitDefEqProofs := false) only [go_sem, reduceCtorEq, Nat.reduceAdd, Nat.reduceMul, Nat.reduceLeDiff, Nat.reduceLT, Nat.reduceEqDiff, Int.reduceNegSucc, ↓gs_tt, ↓gs_ff, ↓gs_tf, ↓gs_ft])) | fail)
    | true =>
      simp (implicitDefEqProofs := false) only [he, go_sem, reduceCtorEq, Nat.reduceAdd, Nat.reduceMul, Nat.reduceLeDiff, Nat.reduceLT, Nat.reduceEqDiff, Int.reduceNegSucc, ↓gs_tt, ↓gs_ff, ↓gs_tf, ↓gs_ft] at hE
      rcases oneB_cases (k := kOf x.t.l v) with ⟨o1, o2, o3⟩ | ⟨o1, o2, o3⟩ | ⟨o1, o2, o3⟩
      · have hQ := rEqual_ok x v hr1 he o1
        obtain ⟨e0, e1, _⟩ := equalR_spec hxo (right_parts hr).1 he o1
        simp (implicitDefEqProofs := false) only [he, go_sem, reduceCtorEq, Nat.reduceAdd, Nat.reduceMul, Nat.reduceLeDiff, Nat.reduceLT, Nat.reduceEqDiff, Int.reduceNegSucc, ↓gs_tt, ↓gs_ff, ↓gs_tf, ↓gs_ft] at hQ
        have hT := keepT_ok (equalR x v).1 (equalR x v).2.1 (by have := (okT_spec.1 e1).2.2.1; omega)
        rw [vTE, e0] at hE
        repeat' (first | (with_reducible refine And.intro ?_ ?_) | (with_reducible refine gs_t ?_ ?_) | (with_reducible refine gs_f ?_ ?_) | (intro _) | ((with_reducible apply wCall_any); (· (simp (implicitDefEqProofs := false) only [go_sem, reduceCtorEq, Nat.reduceAdd, Nat.reduceMul, Nat.reduceLeDiff, Nat.reduceLT, Nat.reduceEqDiff, Int.reduceNegSucc, ↓gs_tt, ↓gs_ff, ↓gs_tf, ↓gs_ft] <;> rfl)); (· (first | exact hE | exact hK | exact hQ | exact hT)); (· rfl); (· rfl); (· (first | exact Eq.refl true | exact Eq.refl false)); (simp (implicitDefEqProofs := false) only [Bool.not_true, o2, s0eq, go_sem, reduceCtorEq, Nat.reduceAdd, Nat.reduceMul, Nat.reduceLeDiff, Nat.reduceLT, Nat.reduceEqDiff, Int.reduceNegSucc, ↓gs_tt, ↓gs_ff, ↓gs_tf, ↓gs_ft])) | fail)
      · have hQ := rEqual_ok x v hr1 he o1
        obtain ⟨e0, e1, _⟩ := equalR_spec hxo (right_parts hr).1 he o1
        simp (implicitDefEqProofs := false) only [he, go_sem, reduceCtorEq, Nat.reduceAdd, Nat.reduceMul, Nat.reduceLeDiff, Nat.reduceLT, Nat.reduceEqDiff, Int.reduceNegSucc, ↓gs_tt, ↓gs_ff, ↓gs_tf, ↓gs_ft] at hQ
        have hT := keepT_ok (equalR x v).1 (equalR x v).2.1 (by have := (okT_spec.1 e1).2.2.1; omega)
        rw [vTE, e0] at hE
        repeat' (first | (with_reducible refine And.intro ?_ ?_) | (with_reducible refine gs_t ?_ ?_) | (with_reducible refine gs_f ?_ ?_) | (intro _) | ((with_reducible apply wCall_any); (· (simp (implicitDefEqProofs := false) only [go_sem, reduceCtorEq, Nat.reduceAdd, Nat.reduceMul, Nat.reduceLeDiff, Nat.reduceLT, Nat.reduceEqDiff, Int.reduceNegSucc, ↓gs_tt, ↓gs_ff, ↓gs_tf, ↓gs_ft] <;> rfl)); (· (first | exact hE | exact hK | exact hQ | exact hT)); (· rfl); (· rfl); (· (first | exact Eq.refl true | exact Eq.refl false)); (simp (implicitDefEqProofs := false) only [Bool.not_true, Bool.not_false, o2, o3, s0eq, go_sem, reduceCtorEq, Nat.reduceAdd, Nat.reduceMul, Nat.reduceLeDiff, Nat.reduceLT, Nat.reduceEqDiff, Int.reduceNegSucc, ↓gs_tt, ↓gs_ff, ↓gs_tf, ↓gs_ft])) | fail)
      · have e : equalR x v = (0, [], 11) := by unfold equalR; rw [if_neg (by simp [hr1]), if_pos (by simp [o1])]
        rw [e] at hE
        have hT := keepT_ok 0 [] (by simp)
        simp only [encM, List.length_nil] at hT
        simp (implicitDefEqProofs := false) only [vTE, encM, List.length_nil, go_sem, reduceCtorEq, Nat.reduceAdd, Nat.reduceMul, Nat.reduceLeDiff, Nat.reduceLT, Nat.reduceEqDiff, Int.reduceNegSucc, ↓gs_tt, ↓gs_ff, ↓gs_tf, ↓gs_ft] at hE
        repeat' (first | (with_reducible refine And.intro ?_ ?_) | (with_reducible refine gs_t ?_ ?_) | (with_reducible refine gs_f ?_ ?_) | (intro _) | ((with_reducible apply wCall_any); (· (simp (implicitDefEqProofs := false) only [go_sem, reduceCtorEq, Nat.reduceAdd, Nat.reduceMul, Nat.reduceLeDiff, Nat.reduceLT, Nat.reduceEqDiff, Int.reduceNegSucc, ↓gs_tt, ↓gs_ff, ↓gs_tf, ↓gs_ft] <;> rfl)); (· (first | exact hE | exact hK)); (· rfl); (· rfl); (· (first | exact Eq.refl true | exact Eq.refl false)); (simp (implicitDefEqProofs := false) only [Bool.not_true, Bool.not_false, o2, o3, dE11', go_sem, reduceCtorEq, Nat.reduceAdd, Nat.reduceMul, Nat.reduceLeDiff, Nat.reduceLT, Nat.reduceEqDiff, Int.reduceNegSucc, ↓gs_tt, ↓gs_ff, ↓gs_tf, ↓gs_ft])) | fail)
        refine wCall_wk (args' := [.agg [.int .i64 0, .fz 0 none 2 []], .agg [.int .i64 0, .fz 0 none 2 []]]) (by simp [wkL, wk]) ?_
        repeat' (first | (with_reducible refine And.intro ?_ ?_) | (with_reducible refine gs_t ?_ ?_) | (with_reducible refine gs_f ?_ ?_) | (intro _) | ((with_reducible apply wCall_any); (· (simp (implicitDefEqProofs := false) only [go_sem, reduceCtorEq, Nat.reduceAdd, Nat.reduceMul, Nat.reduceLeDiff, Nat.reduceLT, Nat.reduceEqDiff, Int.reduceNegSucc, ↓gs_tt, ↓gs_ff, ↓gs_tf, ↓gs_ft] <;> rfl)); (· (exact hT)); (· rfl); (· rfl); (· (first | exact Eq.refl true | exact Eq.refl false)); (simp (implicitDefEqProofs := false) only [go_sem, reduceCtorEq, Nat.reduceAdd, Nat.reduceMul, Nat.reduceLeDiff, Nat.reduceLT, Nat.reduceEqDiff, Int.reduceNegSucc, ↓gs_tt, ↓gs_ff, ↓gs_tf, ↓gs_ft])) | fail)
end Go.Proofs.Ythdlkpmhjbaplaa.Dx
