/- What the references of chapter 13 and the laws' guards come to: in, Right, Terms, EqHas, K, Heavy. No statement of this seat is proved here. -/
import Derived.Test.YthdlkpmhjbaplaaVyL
set_option autoImplicit false
set_option linter.unusedSimpArgs false
set_option linter.unusedVariables false
set_option maxRecDepth 10000
namespace Go.Proofs.Ythdlkpmhjbaplaa.Dx
open Go
attribute [local irreducible] wCall wLoop
attribute [local go_sem] decide_true decide_false Bool.and_true Bool.true_and Bool.and_self Bool.false_and Bool.and_false vMs vCs vIs Slots At Tr.get_z Tr.get_l Tr.get_r Tr.get_e Tr.set_z_e Tr.set_z_n Tr.set_l_e Tr.set_l_n Tr.set_r_e Tr.set_r_n eOs_n eOs_c eDs_n eDs_c ekOs ekDs ekPut ekBack ekSeq_n ekSeq_x ekSeq_r ekBlk_n ekBlk_x ekBlk_r eO_mk eO_gd eO_loc eO_locb eD_mk eD_loc eD_locb eD_gd eDr eC_skip eC_reg eC_drw eC_seq eC_cond eC_block eC_loop eC_exit eC_ret eRetW_n eRetW_r wk wkL eRet_n eRet_r ekLd_n ekLd_x ekLd_r ekLp_n ekLp_x ekLp_r wI wBin wBd vev vov vovs vplace vouter ofDV ofDVs vcells spl vfills vput vuse vuseP vback vbackP wOf vbare isVarV vkeep hget hset hdels hdel hkeys live vw vwL keysV keysL pureV pureL vsrc veqs vmx vmn vT cT vC cC VOb.cells vres vrsL vrs1 vone List.length_cons List.length_nil List.getElem?_cons_zero List.getElem?_cons_succ List.take_succ_cons List.take_zero List.drop_succ_cons List.drop_zero List.drop_nil List.take_nil List.nil_append List.cons_append List.append_nil Option.some.injEq Nat.zero_add Nat.add_zero if_true if_false ite_true ite_false true_and and_true false_and and_false true_implies implies_true false_implies Bool.true_eq_false Bool.false_eq_true Bool.not_true Bool.not_false eq_self_iff_true Int.toNat_natCast Int.ofNat_eq_natCast Int.ofNat_zero Int.ofNat_one Int.cast_ofNat_Int VV.int.injEq VV.bool.injEq cond_true cond_false

def inB (n a b : Int) : Bool := decide (a ≤ n) && decide (n ≤ b)
def heavyB (l : List Cons) : Bool := decide (60 < l.length) || l.any fun x => decide (60 < x.t.l.length)
def smallL (l : List Cons) : Prop := l.length ≤ 4611686018427387904 ∧ ∀ x ∈ l, x.t.l.length ≤ 4611686018427387904
theorem smallC_of_light {l : List Cons} (h : heavyB l = false) : smallC l := by
  simp [heavyB] at h
  exact ⟨by omega, fun x hx => by have := h.2 x hx; omega⟩
theorem encC_t {l : List Cons} {i : Nat} {x : Cons} (h : l[i]? = some x) : ((encC l).drop (i * 3)).take 2 = cT x.t := by
  have e : ((encC l).drop (i * 3)).take 2 = (((encC l).drop (i * 3)).take 3).take 2 := by rw [List.take_take]; rfl
  rw [e, encC_cut h]; rfl
theorem in_ok (n a b : Int) : VPure FT p69 [.int .i64 n, .int .i64 a, .int .i64 b] (.bool (inB n a b)) := by
  refine vpure_of_body (f := p69) rfl rfl ?_
  simp (implicitDefEqProofs := false) only [go_sem, reduceCtorEq, Nat.reduceAdd, Nat.reduceMul, Nat.reduceLeDiff, Nat.reduceLT, Nat.reduceEqDiff, Int.reduceNegSucc, ↓gs_tt, ↓gs_ff, ↓gs_tf, ↓gs_ft]
  unfold inB
  refine ⟨fun h => ?_, fun h => ?_⟩ <;> simp_all
  all_goals (intros; omega)
theorem Kr_ok (c : Int) (l : List Mono) (v : Int) (hl : l.length ≤ 4611686018427387904) : VPure FT p20 [.agg [.int .i64 c, .fz l.length none 2 (encM l)], .int .i64 v] (.int .i64 (kOf l v)) := by
  refine vpure_of_body (f := p20) rfl rfl ?_
  simp (implicitDefEqProofs := false) only [go_sem, reduceCtorEq, Nat.reduceAdd, Nat.reduceMul, Nat.reduceLeDiff, Nat.reduceLT, Nat.reduceEqDiff, Int.reduceNegSucc, ↓gs_tt, ↓gs_ff, ↓gs_tf, ↓gs_ft]
  refine wLoop_by (fun n s => ∃ i : Nat, i + n = l.length ∧ At s [(p1, .int .i64 v), (p2, .var [.int .i64 c, vMs l]), (p5, .int .i64 i)] 0 0 [] ∧ kOf l v = kOf (l.drop i) v) l.length ?_ ?_
  · exact ⟨0, by simp, by simp (implicitDefEqProofs := false) only [go_sem, reduceCtorEq, Nat.reduceAdd, Nat.reduceMul, Nat.reduceLeDiff, Nat.reduceLT, Nat.reduceEqDiff, Int.reduceNegSucc, ↓gs_tt, ↓gs_ff, ↓gs_tf, ↓gs_ft], by simp⟩
  · rintro n ⟨e, nx, w, h⟩ ⟨i, hi, ⟨⟨h1, h2, h3, -⟩, rfl, rfl, rfl⟩, hk⟩
    rcases Nat.lt_or_ge i l.length with hlt | hge
    · obtain ⟨m, hm⟩ := has hlt
      rw [drop_cons hm] at hk
      simp (implicitDefEqProofs := false) only [h1, h2, h3, ltT hlt, encM_g0 hm, encM_g1 hm, encM_len, inc64 hlt hl, go_sem, reduceCtorEq, Nat.reduceAdd, Nat.reduceMul, Nat.reduceLeDiff, Nat.reduceLT, Nat.reduceEqDiff, Int.reduceNegSucc, ↓gs_tt, ↓gs_ff, ↓gs_tf, ↓gs_ft]
      refine ⟨by omega, fun h => ⟨by omega, ?_⟩, fun h => ⟨n - 1, by omega, i + 1, by omega, rfl, ?_⟩⟩
      · rw [hk]; simp at h; simp [kOf, h]
      · rw [hk]; simp at h; simp [kOf, h]
    · simp (implicitDefEqProofs := false) only [h1, h2, h3, ltF hge, go_sem, reduceCtorEq, Nat.reduceAdd, Nat.reduceMul, Nat.reduceLeDiff, Nat.reduceLT, Nat.reduceEqDiff, Int.reduceNegSucc, ↓gs_tt, ↓gs_ff, ↓gs_tf, ↓gs_ft]
      rw [hk, List.drop_eq_nil_of_le hge]; rfl
theorem Heavy13_ok (c : Int) (l : List Mono) : VPure FT p49 [.agg [.int .i64 c, .fz l.length none 2 (encM l)]] (.bool (decide (60 < l.length))) := by
  refine vpure_of_body (f := p49) rfl rfl ?_
  simp (implicitDefEqProofs := false) only [go_sem, reduceCtorEq, Nat.reduceAdd, Nat.reduceMul, Nat.reduceLeDiff, Nat.reduceLT, Nat.reduceEqDiff, Int.reduceNegSucc, ↓gs_tt, ↓gs_ff, ↓gs_tf, ↓gs_ft]
  all_goals simp
  all_goals omega
theorem Heavy14_ok (l : List Cons) : VPure FT p15 [.fz l.length none 3 (encC l)] (.bool (heavyB l)) := by
  refine vpure_of_body (f := p15) rfl rfl ?_
  simp (implicitDefEqProofs := false) only [go_sem, reduceCtorEq, Nat.reduceAdd, Nat.reduceMul, Nat.reduceLeDiff, Nat.reduceLT, Nat.reduceEqDiff, Int.reduceNegSucc, ↓gs_tt, ↓gs_ff, ↓gs_tf, ↓gs_ft]
  refine gs_t (fun h => ?_) (fun h => ?_)
  · simp at h; simp [heavyB]; left; omega
  · have h60 : l.length ≤ 60 := by simp at h; omega
    have hl : l.length ≤ 4611686018427387904 := by omega
    refine wLoop_by (fun n s => ∃ i : Nat, i + n = l.length ∧ At s [(p0, .fz l.length none 3 (encC l)), (p3, .int .i64 i)] 0 0 [] ∧ heavyB l = (l.drop i).any fun x => decide (60 < x.t.l.length)) l.length ?_ ?_
    · exact ⟨0, by simp, by simp (implicitDefEqProofs := false) only [go_sem, reduceCtorEq, Nat.reduceAdd, Nat.reduceMul, Nat.reduceLeDiff, Nat.reduceLT, Nat.reduceEqDiff, Int.reduceNegSucc, ↓gs_tt, ↓gs_ff, ↓gs_tf, ↓gs_ft], by simp [heavyB]; omega⟩
    · rintro n ⟨e, nx, w, h⟩ ⟨i, hi, ⟨⟨s1, s2, -⟩, rfl, rfl, rfl⟩, hk⟩
      rcases Nat.lt_or_ge i l.length with hlt | hge
      · obtain ⟨x, hx⟩ := has hlt
        rw [drop_cons hx] at hk
        simp (implicitDefEqProofs := false) only [s1, s2, ltT hlt, encC_cut hx, encC_g0 hx, encC_g1 hx, encC_len, inc64 hlt hl, go_sem, reduceCtorEq, Nat.reduceAdd, Nat.reduceMul, Nat.reduceLeDiff, Nat.reduceLT, Nat.reduceEqDiff, Int.reduceNegSucc, ↓gs_tt, ↓gs_ff, ↓gs_tf, ↓gs_ft]
        refine ⟨⟨by omega, by omega⟩, by omega, ?_⟩
        rw [show List.take 2 (List.drop (i * 3) (encC l)) = cT x.t from encC_t hx]
        simp only [cT, vMs]
        refine wCall_pp (r := .bool (decide (60 < x.t.l.length))) (by simp [pureL, pureV]) (Heavy13_ok _ _) rfl ?_
        simp (implicitDefEqProofs := false) only [inc64 hlt hl, go_sem, reduceCtorEq, Nat.reduceAdd, Nat.reduceMul, Nat.reduceLeDiff, Nat.reduceLT, Nat.reduceEqDiff, Int.reduceNegSucc, ↓gs_tt, ↓gs_ff, ↓gs_tf, ↓gs_ft]
        refine gs_t (fun h => ?_) (fun h => ?_)
        · rw [hk]; simp at h; simp [h]
        · refine ⟨n - 1, by omega, i + 1, by omega, rfl, ?_⟩
          rw [hk]; simp at h; simp; intro h'; omega
      · simp (implicitDefEqProofs := false) only [s1, s2, ltF hge, go_sem, reduceCtorEq, Nat.reduceAdd, Nat.reduceMul, Nat.reduceLeDiff, Nat.reduceLT, Nat.reduceEqDiff, Int.reduceNegSucc, ↓gs_tt, ↓gs_ff, ↓gs_tf, ↓gs_ft]
        rw [hk, List.drop_eq_nil_of_le hge]; rfl
theorem Right_ok (c : Int) (l : List Mono) (hl : l.length ≤ 4611686018427387904) : VPure FT p28 [.agg [.int .i64 c, .fz l.length none 2 (encM l)]] (.bool (okT c l)) := by
  refine vpure_of_body (f := p28) rfl rfl ?_
  simp (implicitDefEqProofs := false) only [go_sem, reduceCtorEq, Nat.reduceAdd, Nat.reduceMul, Nat.reduceLeDiff, Nat.reduceLT, Nat.reduceEqDiff, Int.reduceNegSucc, ↓gs_tt, ↓gs_ff, ↓gs_tf, ↓gs_ft]
  repeat' (first | (with_reducible refine And.intro ?_ ?_) | (with_reducible refine gs_t ?_ ?_) | (with_reducible refine gs_f ?_ ?_) | (intro _) | ((with_reducible apply wCall_any); (· (simp (implicitDefEqProofs := false) only [go_sem, reduceCtorEq, Nat.reduceAdd, Nat.reduceMul, Nat.reduceLeDiff, Nat.reduceLT, Nat.reduceEqDiff, Int.reduceNegSucc, ↓gs_tt, ↓gs_ff, ↓gs_tf, ↓gs_ft] <;> rfl)); (· (exact in_ok _ _ _)); (· rfl); (· rfl); (· (first | exact Eq.refl true | exact Eq.refl false)); (simp (implicitDefEqProofs := false) only [go_sem, reduceCtorEq, Nat.reduceAdd, Nat.reduceMul, Nat.reduceLeDiff, Nat.reduceLT, Nat.reduceEqDiff, Int.reduceNegSucc, ↓gs_tt, ↓gs_ff, ↓gs_tf, ↓gs_ft])) | fail)
  · rename_i h1 h2; simp at h1 h2; unfold okT; rw [show decide (l.length ≤ 40) = false by simp; omega]; simp
  · rename_i h1 h2
    have h1' : roomB c 1099511627776 = true := by simpa [inB, roomB] using h1
    have h2' : l.length ≤ 40 := by simp at h2; omega
    refine wLoop_by (fun n s => ∃ i : Nat, i + n = l.length ∧ At s [(p1, .var [.int .i64 c, .fz l.length none 2 (encM l)]), (p3, .int .i64 i)] 0 0 [] ∧ okFrom none l = okFrom (prevOf l i) (l.drop i)) l.length ?_ ?_
    · exact ⟨0, by simp, by simp (implicitDefEqProofs := false) only [go_sem, reduceCtorEq, Nat.reduceAdd, Nat.reduceMul, Nat.reduceLeDiff, Nat.reduceLT, Nat.reduceEqDiff, Int.reduceNegSucc, ↓gs_tt, ↓gs_ff, ↓gs_tf, ↓gs_ft], by simp [prevOf]⟩
    · rintro n ⟨e, nx, w, h⟩ ⟨i, hi, ⟨⟨s1, s2, -⟩, rfl, rfl, rfl⟩, hk⟩
      rcases Nat.lt_or_ge i l.length with hlt | hge
      · obtain ⟨m, hm⟩ := has hlt
        rw [drop_cons hm] at hk
        have key : ∀ q, prevOf l i = q → okFrom q (m :: l.drop (i + 1)) = (okM m && (match q with | none => true | some q => decide (q < m.v)) && okFrom (some m.v) (l.drop (i + 1))) := fun q _ => rfl
        rw [key _ rfl] at hk
        have hp1 : prevOf l (i + 1) = some m.v := by simp [prevOf, hm]
        have fin : okM m = true → (match prevOf l i with | none => true | some q => decide (q < m.v)) = true → ∃ m0, m0 < n ∧ ∃ i_1, i_1 + m0 = l.length ∧ ((i + 1 : Nat) : Int) = (i_1 : Int) ∧ okFrom none l = okFrom (prevOf l i_1) (List.drop i_1 l) := by
          intro a b
          refine ⟨n - 1, by omega, i + 1, by omega, rfl, ?_⟩
          rw [hk, a, b, hp1]; rfl
        have bad : (okM m = false ∨ (match prevOf l i with | none => true | some q => decide (q < m.v)) = false) → false = okT c l := by
          intro h
          unfold okT; rw [hk]
          rcases h with h | h <;> rw [h] <;> simp
        by_cases hi0 : i = 0
        · have hz : decide ((0 : Int) < (i : Int)) = false := by simp [hi0]
          have hpz : prevOf l i = none := by simp [prevOf, hi0]
          rw [hpz] at fin bad
          simp (implicitDefEqProofs := false) only [s1, s2, ltT hlt, encM_cut hm, encM_len, inc64 hlt hl, hz, go_sem, reduceCtorEq, Nat.reduceAdd, Nat.reduceMul, Nat.reduceLeDiff, Nat.reduceLT, Nat.reduceEqDiff, Int.reduceNegSucc, ↓gs_tt, ↓gs_ff, ↓gs_tf, ↓gs_ft]
          clear hk key s1 s2
          repeat' (first | (with_reducible refine And.intro ?_ ?_) | (with_reducible refine gs_t ?_ ?_) | (with_reducible refine gs_f ?_ ?_) | (intro _) | ((with_reducible apply wCall_any); (· (simp (implicitDefEqProofs := false) only [go_sem, reduceCtorEq, Nat.reduceAdd, Nat.reduceMul, Nat.reduceLeDiff, Nat.reduceLT, Nat.reduceEqDiff, Int.reduceNegSucc, ↓gs_tt, ↓gs_ff, ↓gs_tf, ↓gs_ft] <;> rfl)); (· (exact in_ok _ _ _)); (· rfl); (· rfl); (· (first | exact Eq.refl true | exact Eq.refl false)); (simp (implicitDefEqProofs := false) only [inc64 hlt hl, hz, go_sem, reduceCtorEq, Nat.reduceAdd, Nat.reduceMul, Nat.reduceLeDiff, Nat.reduceLT, Nat.reduceEqDiff, Int.reduceNegSucc, ↓gs_tt, ↓gs_ff, ↓gs_tf, ↓gs_ft])) | fail)
          all_goals first
            | omega
            | (refine bad (.inl ?_); clear fin bad; first | (simp_all [okM, inB, roomB]; done) | (simp_all [okM, inB, roomB]; intros; omega))
            | (refine bad (.inr ?_); clear fin bad; first | (simp_all [inB]; done) | (simp_all [inB]; omega))
            | (refine fin ?_ ?_ <;> clear fin bad <;> first | rfl | (simp_all [okM, inB, roomB]; done) | (simp_all [okM, inB, roomB]; omega) | (simp_all; omega))
        · obtain ⟨j, hj⟩ : ∃ j, j + 1 = i := ⟨i - 1, by omega⟩
          obtain ⟨m', hm'⟩ : ∃ m', l[j]? = some m' := has (by omega)
          have hz : decide ((0 : Int) < (i : Int)) = true := by simp; omega
          have hw : IntKind.i64.wrap ((i : Int) - 1) = (j : Int) := by rw [i64 (by omega)]; omega
          have hpz : prevOf l i = some m'.v := by
            have : i - 1 = j := by omega
            simp [prevOf, hi0, this, hm']
          rw [hpz] at fin bad
          simp (implicitDefEqProofs := false) only [s1, s2, ltT hlt, encM_cut hm, encM_g0 hm', encM_len, inc64 hlt hl, hw, hz, go_sem, reduceCtorEq, Nat.reduceAdd, Nat.reduceMul, Nat.reduceLeDiff, Nat.reduceLT, Nat.reduceEqDiff, Int.reduceNegSucc, ↓gs_tt, ↓gs_ff, ↓gs_tf, ↓gs_ft]
          clear hk key s1 s2
          repeat' (first | (with_reducible refine And.intro ?_ ?_) | (with_reducible refine gs_t ?_ ?_) | (with_reducible refine gs_f ?_ ?_) | (intro _) | ((with_reducible apply wCall_any); (· (simp (implicitDefEqProofs := false) only [go_sem, reduceCtorEq, Nat.reduceAdd, Nat.reduceMul, Nat.reduceLeDiff, Nat.reduceLT, Nat.reduceEqDiff, Int.reduceNegSucc, ↓gs_tt, ↓gs_ff, ↓gs_tf, ↓gs_ft] <;> rfl)); (· (exact in_ok _ _ _)); (· rfl); (· rfl); (· (first | exact Eq.refl true | exact Eq.refl false)); (simp (implicitDefEqProofs := false) only [inc64 hlt hl, hz, hw, encM_g0 hm', go_sem, reduceCtorEq, Nat.reduceAdd, Nat.reduceMul, Nat.reduceLeDiff, Nat.reduceLT, Nat.reduceEqDiff, Int.reduceNegSucc, ↓gs_tt, ↓gs_ff, ↓gs_tf, ↓gs_ft])) | fail)
          all_goals first
            | omega
            | (refine bad (.inl ?_); clear fin bad; first | (simp_all [okM, inB, roomB]; done) | (simp_all [okM, inB, roomB]; intros; omega))
            | (refine bad (.inr ?_); clear fin bad; first | (simp_all [inB]; done) | (simp_all [inB]; omega))
            | (refine fin ?_ ?_ <;> clear fin bad <;> first | rfl | (simp_all [okM, inB, roomB]; done) | (simp_all [okM, inB, roomB]; omega) | (simp_all; omega))
      · simp (implicitDefEqProofs := false) only [s1, s2, ltF hge, go_sem, reduceCtorEq, Nat.reduceAdd, Nat.reduceMul, Nat.reduceLeDiff, Nat.reduceLT, Nat.reduceEqDiff, Int.reduceNegSucc, ↓gs_tt, ↓gs_ff, ↓gs_tf, ↓gs_ft]
        unfold okT
        rw [hk, List.drop_eq_nil_of_le hge, h1', show decide (l.length ≤ 40) = true by simpa using h2']; simp [okFrom]
  · rename_i h1; unfold okT; rw [show roomB c 1099511627776 = false by simp [inB] at h1; simp [roomB]; omega]; simp
end Go.Proofs.Ythdlkpmhjbaplaa.Dx

/- What Terms and EqHas come to, and the law of units. No statement of this seat is proved here. -/
set_option autoImplicit false
set_option linter.unusedSimpArgs false
set_option linter.unusedVariables false
set_option maxRecDepth 10000
namespace Go.Proofs.Ythdlkpmhjbaplaa.Dx
open Go
attribute [local irreducible] wCall wLoop
attribute [local go_sem] decide_true decide_false Bool.and_true Bool.true_and Bool.and_self Bool.false_and Bool.and_false vMs vCs vIs Slots At Tr.get_z Tr.get_l Tr.get_r Tr.get_e Tr.set_z_e Tr.set_z_n Tr.set_l_e Tr.set_l_n Tr.set_r_e Tr.set_r_n eOs_n eOs_c eDs_n eDs_c ekOs ekDs ekPut ekBack ekSeq_n ekSeq_x ekSeq_r ekBlk_n ekBlk_x ekBlk_r eO_mk eO_gd eO_loc eO_locb eD_mk eD_loc eD_locb eD_gd eDr eC_skip eC_reg eC_drw eC_seq eC_cond eC_block eC_loop eC_exit eC_ret eRetW_n eRetW_r wk wkL eRet_n eRet_r ekLd_n ekLd_x ekLd_r ekLp_n ekLp_x ekLp_r wI wBin wBd vev vov vovs vplace vouter ofDV ofDVs vcells spl vfills vput vuse vuseP vback vbackP wOf vbare isVarV vkeep hget hset hdels hdel hkeys live vw vwL keysV keysL pureV pureL vsrc veqs vmx vmn vT cT vC cC VOb.cells vres vrsL vrs1 vone List.length_cons List.length_nil List.getElem?_cons_zero List.getElem?_cons_succ List.take_succ_cons List.take_zero List.drop_succ_cons List.drop_zero List.drop_nil List.take_nil List.nil_append List.cons_append List.append_nil Option.some.injEq Nat.zero_add Nat.add_zero if_true if_false ite_true ite_false true_and and_true false_and and_false true_implies implies_true false_implies Bool.true_eq_false Bool.false_eq_true Bool.not_true Bool.not_false eq_self_iff_true Int.toNat_natCast Int.ofNat_eq_natCast Int.ofNat_zero Int.ofNat_one Int.cast_ofNat_Int VV.int.injEq VV.bool.injEq cond_true cond_false

theorem Terms_ok (l : List Cons) (hs : smallC l) : VPure FT p16 [.fz l.length none 3 (encC l)] (.bool (l.all okC)) := by
  have hl : l.length ≤ 4611686018427387904 := by have := hs.len; omega
  refine vpure_of_body (f := p16) rfl rfl ?_
  simp (implicitDefEqProofs := false) only [go_sem, reduceCtorEq, Nat.reduceAdd, Nat.reduceMul, Nat.reduceLeDiff, Nat.reduceLT, Nat.reduceEqDiff, Int.reduceNegSucc, ↓gs_tt, ↓gs_ff, ↓gs_tf, ↓gs_ft]
  refine wLoop_by (fun n s => ∃ i : Nat, i + n = l.length ∧ At s [(p0, .fz l.length none 3 (encC l)), (p3, .int .i64 i)] 0 0 [] ∧ l.all okC = (l.drop i).all okC) l.length ?_ ?_
  · exact ⟨0, by simp, by simp (implicitDefEqProofs := false) only [go_sem, reduceCtorEq, Nat.reduceAdd, Nat.reduceMul, Nat.reduceLeDiff, Nat.reduceLT, Nat.reduceEqDiff, Int.reduceNegSucc, ↓gs_tt, ↓gs_ff, ↓gs_tf, ↓gs_ft], by simp⟩
  · rintro n ⟨e, nx, w, h⟩ ⟨i, hi, ⟨⟨s1, s2, -⟩, rfl, rfl, rfl⟩, hk⟩
    rcases Nat.lt_or_ge i l.length with hlt | hge
    · obtain ⟨x, hx⟩ := has hlt
      have hxl := hs.all x (List.mem_of_getElem? hx)
      rw [drop_cons hx] at hk
      simp (implicitDefEqProofs := false) only [s1, s2, ltT hlt, encC_t hx, encC_len, inc64 hlt hl, go_sem, reduceCtorEq, Nat.reduceAdd, Nat.reduceMul, Nat.reduceLeDiff, Nat.reduceLT, Nat.reduceEqDiff, Int.reduceNegSucc, ↓gs_tt, ↓gs_ff, ↓gs_tf, ↓gs_ft]
      refine ⟨⟨by omega, by omega⟩, by omega, ?_⟩
      refine wCall_pp (r := .bool (okT x.t.c x.t.l)) (by simp [pureL, pureV]) (Right_ok _ _ (by omega)) rfl ?_
      simp (implicitDefEqProofs := false) only [inc64 hlt hl, go_sem, reduceCtorEq, Nat.reduceAdd, Nat.reduceMul, Nat.reduceLeDiff, Nat.reduceLT, Nat.reduceEqDiff, Int.reduceNegSucc, ↓gs_tt, ↓gs_ff, ↓gs_tf, ↓gs_ft]
      refine gs_t (fun h => ?_) (fun h => ?_)
      · rw [hk]; simp at h; simp [okC, h]
      · refine ⟨n - 1, by omega, i + 1, by omega, rfl, ?_⟩
        rw [hk]; simp at h; simp [okC, h]
    · simp (implicitDefEqProofs := false) only [s1, s2, ltF hge, go_sem, reduceCtorEq, Nat.reduceAdd, Nat.reduceMul, Nat.reduceLeDiff, Nat.reduceLT, Nat.reduceEqDiff, Int.reduceNegSucc, ↓gs_tt, ↓gs_ff, ↓gs_tf, ↓gs_ft]
      rw [hk, List.drop_eq_nil_of_le hge]; rfl
theorem EqHas_ok (l : List Cons) (v : Int) (hs : smallC l) : VPure FT p19 [.fz l.length none 3 (encC l), .int .i64 v] (.bool (hasB l v)) := by
  have hl : l.length ≤ 4611686018427387904 := by have := hs.len; omega
  refine vpure_of_body (f := p19) rfl rfl ?_
  simp (implicitDefEqProofs := false) only [go_sem, reduceCtorEq, Nat.reduceAdd, Nat.reduceMul, Nat.reduceLeDiff, Nat.reduceLT, Nat.reduceEqDiff, Int.reduceNegSucc, ↓gs_tt, ↓gs_ff, ↓gs_tf, ↓gs_ft]
  refine wLoop_by (fun n s => ∃ i : Nat, i + n = l.length ∧ At s [(p0, .fz l.length none 3 (encC l)), (p1, .int .i64 v), (p5, .int .i64 i)] 0 0 [] ∧ hasB l v = hasB (l.drop i) v) l.length ?_ ?_
  · exact ⟨0, by simp, by simp (implicitDefEqProofs := false) only [go_sem, reduceCtorEq, Nat.reduceAdd, Nat.reduceMul, Nat.reduceLeDiff, Nat.reduceLT, Nat.reduceEqDiff, Int.reduceNegSucc, ↓gs_tt, ↓gs_ff, ↓gs_tf, ↓gs_ft], by simp⟩
  · rintro n ⟨e, nx, w, h⟩ ⟨i, hi, ⟨⟨s1, s2, s3, -⟩, rfl, rfl, rfl⟩, hk⟩
    rcases Nat.lt_or_ge i l.length with hlt | hge
    · obtain ⟨x, hx⟩ := has hlt
      have hxl := hs.all x (List.mem_of_getElem? hx)
      rw [drop_cons hx] at hk
      have hk2 : hasB l v = ((x.eq && decide (kOf x.t.l v ≠ 0)) || hasB (l.drop (i + 1)) v) := hk
      simp (implicitDefEqProofs := false) only [s1, s2, s3, ltT hlt, encC_t hx, encC_g2 hx, encC_len, inc64 hlt hl, go_sem, reduceCtorEq, Nat.reduceAdd, Nat.reduceMul, Nat.reduceLeDiff, Nat.reduceLT, Nat.reduceEqDiff, Int.reduceNegSucc, ↓gs_tt, ↓gs_ff, ↓gs_tf, ↓gs_ft]
      refine ⟨⟨by omega, by omega⟩, ?_⟩
      refine gs_t (fun h => ⟨⟨by omega, by omega⟩, by omega, ?_⟩) (fun h => ?_)
      · refine wCall_pp (r := .int .i64 (kOf x.t.l v)) (by simp [pureL, pureV]) (Kr_ok _ _ _ (by omega)) rfl ?_
        simp (implicitDefEqProofs := false) only [h, inc64 hlt hl, go_sem, reduceCtorEq, Nat.reduceAdd, Nat.reduceMul, Nat.reduceLeDiff, Nat.reduceLT, Nat.reduceEqDiff, Int.reduceNegSucc, ↓gs_tt, ↓gs_ff, ↓gs_tf, ↓gs_ft]
        refine gs_t (fun h' => ?_) (fun h' => ?_)
        · rw [hk2]; simp at h'; simp [h, h']
        · refine ⟨n - 1, by omega, i + 1, by omega, rfl, ?_⟩
          rw [hk2]; simp at h'; simp [h, h']
      · refine ⟨n - 1, by omega, i + 1, by omega, rfl, ?_⟩
        rw [hk2, h]; rfl
    · simp (implicitDefEqProofs := false) only [s1, s2, s3, ltF hge, go_sem, reduceCtorEq, Nat.reduceAdd, Nat.reduceMul, Nat.reduceLeDiff, Nat.reduceLT, Nat.reduceEqDiff, Int.reduceNegSucc, ↓gs_tt, ↓gs_ff, ↓gs_tf, ↓gs_ft]
      rw [hk, List.drop_eq_nil_of_le hge]; rfl
theorem rightB_zero {l : List Cons} (h : l.all okC = true) : rightB l 0 = true := by unfold rightB; rw [h]; rfl
theorem unitOf_cases : ∀ (l : List Cons) (i : Nat), (unitOf l i = none ∧ ∀ (j : Nat) (x : Cons), l[j]? = some x → unitX x = none) ∨
    ∃ (j : Nat) (x : Cons) (v : Int), unitOf l i = some (((i + j : Nat) : Int), v) ∧ l[j]? = some x ∧ unitX x = some v ∧ ∀ (q : Nat) (y : Cons), q < j → l[q]? = some y → unitX y = none
  | [], i => .inl ⟨rfl, fun j x h => by simp at h⟩
  | y :: l, i => by
    cases hy : unitX y with
    | some v => exact .inr ⟨0, y, v, by simp [unitOf, hy], rfl, hy, fun q z h => absurd h (by omega)⟩
    | none =>
      have e : unitOf (y :: l) i = unitOf l ((i + 1 : Nat) : Int) := by simp [unitOf, hy]
      rcases unitOf_cases l (i + 1) with ⟨h1, h2⟩ | ⟨j, x, v, h1, h2, h3, h4⟩
      · refine .inl ⟨by rw [e, h1], fun j x h => ?_⟩
        cases j with
        | zero => simp at h; subst h; exact hy
        | succ j => exact h2 j x (by simpa using h)
      · refine .inr ⟨j + 1, x, v, by rw [e, h1]; congr 2; omega, by simpa using h2, h3, fun q z hq hz => ?_⟩
        cases q with
        | zero => simp at hz; subst hz; exact hy
        | succ q => exact h4 q z (by omega) (by simpa using hz)
theorem unitM_none : ∀ (l : List Mono), unitM l = none → ∀ m ∈ l, oneB m.k = false
  | [], _, m, h => by simp at h
  | x :: l, hn, m, h => by
    cases hx : oneB x.k with
    | true => simp [unitM, hx] at hn
    | false =>
      rcases List.mem_cons.1 h with rfl | h
      · exact hx
      · exact unitM_none l (by simpa [unitM, hx] using hn) m h
end Go.Proofs.Ythdlkpmhjbaplaa.Dx
