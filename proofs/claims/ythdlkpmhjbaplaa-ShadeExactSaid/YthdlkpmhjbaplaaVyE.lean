/- What the functions of shade come to: parts, all, Exact, down, Pick, Unit. No statement of this seat is proved here. -/
import Derived.Test.YthdlkpmhjbaplaaVyC
set_option autoImplicit false
set_option linter.unusedSimpArgs false
set_option linter.unusedVariables false
set_option maxRecDepth 10000
namespace Go.Proofs.Ythdlkpmhjbaplaa.Dx
open Go
attribute [local irreducible] wCall wLoop
attribute [local go_sem] decide_true decide_false Bool.and_true Bool.true_and Bool.and_self Bool.false_and Bool.and_false vMs vCs vIs Slots At Tr.get_z Tr.get_l Tr.get_r Tr.get_e Tr.set_z_e Tr.set_z_n Tr.set_l_e Tr.set_l_n Tr.set_r_e Tr.set_r_n eOs_n eOs_c eDs_n eDs_c ekOs ekDs ekPut ekBack ekSeq_n ekSeq_x ekSeq_r ekBlk_n ekBlk_x ekBlk_r eO_mk eO_gd eO_loc eO_locb eD_mk eD_loc eD_locb eD_gd eDr eC_skip eC_reg eC_drw eC_seq eC_cond eC_block eC_loop eC_exit eC_ret eRetW_n eRetW_r wk wkL eRet_n eRet_r ekLd_n ekLd_x ekLd_r ekLp_n ekLp_x ekLp_r wI wBin wBd vev vov vovs vplace vouter ofDV ofDVs vcells spl vfills vput vuse vuseP vback vbackP wOf vbare isVarV vkeep hget hset hdels hdel hkeys live vw vwL keysV keysL pureV pureL vsrc veqs vmx vmn vT cT vC cC VOb.cells vres vrsL vrs1 vone List.length_cons List.length_nil List.getElem?_cons_zero List.getElem?_cons_succ List.take_succ_cons List.take_zero List.drop_succ_cons List.drop_zero List.drop_nil List.take_nil List.nil_append List.cons_append List.append_nil Option.some.injEq Nat.zero_add Nat.add_zero if_true if_false ite_true ite_false true_and and_true false_and and_false true_implies implies_true false_implies Bool.true_eq_false Bool.false_eq_true Bool.not_true Bool.not_false eq_self_iff_true Int.toNat_natCast Int.ofNat_eq_natCast Int.ofNat_zero Int.ofNat_one Int.cast_ofNat_Int VV.int.injEq VV.bool.injEq cond_true cond_false

def lowsOf (l : List Cons) (v : Int) : List Cons := l.filter fun x => decide (kOf x.t.l v < 0)
def highsOf (l : List Cons) (v : Int) : List Cons := l.filter fun x => decide (0 < kOf x.t.l v)
def othersOf (l : List Cons) (v : Int) : List Cons := l.filter fun x => decide (kOf x.t.l v = 0)
theorem parts_ok (l : List Cons) (v : Int) (hl : smallC l) : VPure FT p53 [.fz l.length none 3 (encC l), .int .i64 v] (.tup [vCs (lowsOf l v), vCs (highsOf l v), vCs (othersOf l v)]) := by
  refine vpure_of_body (f := p53) rfl rfl ?_
  simp (implicitDefEqProofs := false) only [go_sem, reduceCtorEq, Nat.reduceAdd, Nat.reduceMul, Nat.reduceLeDiff, Nat.reduceLT, Nat.reduceEqDiff, Int.reduceNegSucc, ↓gs_tt, ↓gs_ff, ↓gs_tf, ↓gs_ft]
  refine wLoop_own p4 3 (by simp (implicitDefEqProofs := false) only [go_sem, reduceCtorEq, Nat.reduceAdd, Nat.reduceMul, Nat.reduceLeDiff, Nat.reduceLT, Nat.reduceEqDiff, Int.reduceNegSucc, ↓gs_tt, ↓gs_ff, ↓gs_tf, ↓gs_ft]) ?_
  refine wLoop_own p5 3 (by simp (implicitDefEqProofs := false) only [go_sem, reduceCtorEq, Nat.reduceAdd, Nat.reduceMul, Nat.reduceLeDiff, Nat.reduceLT, Nat.reduceEqDiff, Int.reduceNegSucc, ↓gs_tt, ↓gs_ff, ↓gs_tf, ↓gs_ft]) ?_
  refine wLoop_own p6 3 (by simp (implicitDefEqProofs := false) only [go_sem, reduceCtorEq, Nat.reduceAdd, Nat.reduceMul, Nat.reduceLeDiff, Nat.reduceLT, Nat.reduceEqDiff, Int.reduceNegSucc, ↓gs_tt, ↓gs_ff, ↓gs_tf, ↓gs_ft]) ?_
  refine wLoop_dr (fun n s => ∃ i m : Nat, i + n = l.length ∧ At s [(p1, .int .i64 v), (p4, .ow 0 (lowsOf (l.take i) v).length 3), (p5, .ow 1 (highsOf (l.take i) v).length 3), (p6, .ow 2 (othersOf (l.take i) v).length 3), (p10, .fz l.length none 3 (encC l)), (p11, .int .i64 l.length), (p12, .int .i64 i)] (m + 3) 0
    [(2, .row (encC (othersOf (l.take i) v))), (1, .row (encC (highsOf (l.take i) v))), (0, .row (encC (lowsOf (l.take i) v)))]) l.length ?_ ?_
  · exact ⟨0, 0, by simp, by simp (implicitDefEqProofs := false) only [go_sem, reduceCtorEq, Nat.reduceAdd, Nat.reduceMul, Nat.reduceLeDiff, Nat.reduceLT, Nat.reduceEqDiff, Int.reduceNegSucc, ↓gs_tt, ↓gs_ff, ↓gs_tf, ↓gs_ft]; simp [lowsOf, highsOf, othersOf, encC]⟩
  · rintro n ⟨e, nx, w, h⟩ ⟨i, m, hi, ⟨s1, s2, s3, s4, s5, s6, s7, -⟩, rfl, rfl, rfl⟩
    rcases Nat.lt_or_ge i l.length with hlt | hge
    · obtain ⟨x, hx⟩ := has hlt
      have hll := hl.len
      have hxl := hl.all x (List.mem_of_getElem? hx)
      have b1 : (lowsOf (l.take i) v).length ≤ i := Nat.le_trans (List.length_filter_le _ _) (List.length_take_le _ _)
      have b2 : (highsOf (l.take i) v).length ≤ i := Nat.le_trans (List.length_filter_le _ _) (List.length_take_le _ _)
      have b3 : (othersOf (l.take i) v).length ≤ i := Nat.le_trans (List.length_filter_le _ _) (List.length_take_le _ _)
      simp (implicitDefEqProofs := false) only [s1, s2, s3, s4, s5, s6, s7, ltT hlt, encC_cut hx, encC_len, inc64 hlt (by omega : l.length ≤ 4611686018427387904), go_sem, reduceCtorEq, Nat.reduceAdd, Nat.reduceMul, Nat.reduceLeDiff, Nat.reduceLT, Nat.reduceEqDiff, Int.reduceNegSucc, ↓gs_tt, ↓gs_ff, ↓gs_tf, ↓gs_ft]
      repeat' (first | (with_reducible refine And.intro ?_ ?_) | (with_reducible refine gs_t ?_ ?_) | (with_reducible refine gs_f ?_ ?_) | (intro _) | ((with_reducible apply wCall_any); (· (simp (implicitDefEqProofs := false) only [go_sem, reduceCtorEq, Nat.reduceAdd, Nat.reduceMul, Nat.reduceLeDiff, Nat.reduceLT, Nat.reduceEqDiff, Int.reduceNegSucc, ↓gs_tt, ↓gs_ff, ↓gs_tf, ↓gs_ft] <;> rfl)); (· (exact K_ok _ _ _ (by omega : x.t.l.length ≤ 4611686018427387904))); (· rfl); (· rfl); (· (first | exact Eq.refl true | exact Eq.refl false)); (simp (implicitDefEqProofs := false) only [encC_len, inc64 hlt (by omega : l.length ≤ 4611686018427387904), go_sem, reduceCtorEq, Nat.reduceAdd, Nat.reduceMul, Nat.reduceLeDiff, Nat.reduceLT, Nat.reduceEqDiff, Int.reduceNegSucc, ↓gs_tt, ↓gs_ff, ↓gs_tf, ↓gs_ft])) | fail)
      all_goals (clear s1 s2 s3 s4 s5 s6 s7; try omega)
      all_goals
        have ht := take_snoc hx
        have hk : (decide (kOf x.t.l v < 0) = true ∧ decide (0 < kOf x.t.l v) = false ∧ decide (kOf x.t.l v = 0) = false) ∨ (decide (kOf x.t.l v < 0) = false ∧ decide (0 < kOf x.t.l v) = true ∧ decide (kOf x.t.l v = 0) = false) ∨
            (decide (kOf x.t.l v < 0) = false ∧ decide (0 < kOf x.t.l v) = false ∧ decide (kOf x.t.l v = 0) = true) := by
          simp only [decide_eq_true_eq, decide_eq_false_iff_not]; omega
        refine ⟨n - 1, by omega, _, subH_tail (by simp [hget]), i + 1, m + 1, by omega, ?_, rfl, ?_⟩
        · rcases hk with ⟨e1, e2, e3⟩ | ⟨e1, e2, e3⟩ | ⟨e1, e2, e3⟩ <;> simp_all [lowsOf, highsOf, othersOf, List.filter_append]
        · rcases hk with ⟨e1, e2, e3⟩ | ⟨e1, e2, e3⟩ | ⟨e1, e2, e3⟩ <;> simp_all [lowsOf, highsOf, othersOf, List.filter_append, encC_app, encC, vMs]
    · simp (implicitDefEqProofs := false) only [s1, s2, s3, s4, s5, s6, s7, ltF hge, encC_len, go_sem, reduceCtorEq, Nat.reduceAdd, Nat.reduceMul, Nat.reduceLeDiff, Nat.reduceLT, Nat.reduceEqDiff, Int.reduceNegSucc, ↓gs_tt, ↓gs_ff, ↓gs_tf, ↓gs_ft]
      rw [List.take_of_length_le hge]
theorem all1_ok (x : Cons) (v k : Int) (hx : x.t.l.length ≤ 1000000) : VPure FT p87 [.agg (cC x), .fp [.int .i64 v] 0, .fp [.int .i64 k] 0] (.bool (decide (kOf x.t.l v ≠ k))) := by
  refine vpure_of_body (f := p87) rfl rfl ?_
  simp (implicitDefEqProofs := false) only [go_sem, reduceCtorEq, Nat.reduceAdd, Nat.reduceMul, Nat.reduceLeDiff, Nat.reduceLT, Nat.reduceEqDiff, Int.reduceNegSucc, ↓gs_tt, ↓gs_ff, ↓gs_tf, ↓gs_ft]
  repeat' (first | (with_reducible refine And.intro ?_ ?_) | (with_reducible refine gs_t ?_ ?_) | (with_reducible refine gs_f ?_ ?_) | (intro _) | ((with_reducible apply wCall_any); (· (simp (implicitDefEqProofs := false) only [go_sem, reduceCtorEq, Nat.reduceAdd, Nat.reduceMul, Nat.reduceLeDiff, Nat.reduceLT, Nat.reduceEqDiff, Int.reduceNegSucc, ↓gs_tt, ↓gs_ff, ↓gs_tf, ↓gs_ft] <;> rfl)); (· (exact K_ok _ _ _ (by omega))); (· rfl); (· rfl); (· (first | exact Eq.refl true | exact Eq.refl false)); (simp (implicitDefEqProofs := false) only [go_sem, reduceCtorEq, Nat.reduceAdd, Nat.reduceMul, Nat.reduceLeDiff, Nat.reduceLT, Nat.reduceEqDiff, Int.reduceNegSucc, ↓gs_tt, ↓gs_ff, ↓gs_tf, ↓gs_ft])) | fail)
  all_goals simp_all
theorem all_ok (l : List Cons) (v k : Int) (hl : smallC l) : VPure FT p58 [.fz l.length none 3 (encC l), .int .i64 v, .int .i64 k] (.bool (l.all fun x => decide (kOf x.t.l v = k))) := by
  refine vpure_of_body (f := p58) rfl rfl ?_
  simp (implicitDefEqProofs := false) only [go_sem, reduceCtorEq, Nat.reduceAdd, Nat.reduceMul, Nat.reduceLeDiff, Nat.reduceLT, Nat.reduceEqDiff, Int.reduceNegSucc, ↓gs_tt, ↓gs_ff, ↓gs_tf, ↓gs_ft]
  repeat' (first | (with_reducible refine And.intro ?_ ?_) | (with_reducible refine gs_t ?_ ?_) | (with_reducible refine gs_f ?_ ?_) | (intro _) | ((with_reducible apply wCall_any); (· (simp (implicitDefEqProofs := false) only [go_sem, reduceCtorEq, Nat.reduceAdd, Nat.reduceMul, Nat.reduceLeDiff, Nat.reduceLT, Nat.reduceEqDiff, Int.reduceNegSucc, ↓gs_tt, ↓gs_ff, ↓gs_tf, ↓gs_ft] <;> rfl)); (· (exact ContainsC_ok p87 [.fp [.int .i64 v] 0, .fp [.int .i64 k] 0] (fun x => decide (kOf x.t.l v ≠ k)) l (by have := hl.len; omega) rfl (fun x hx => all1_ok x v k (hl.all x hx)))); (· rfl); (· rfl); (· (first | exact Eq.refl true | exact Eq.refl false)); (simp (implicitDefEqProofs := false) only [go_sem, reduceCtorEq, Nat.reduceAdd, Nat.reduceMul, Nat.reduceLeDiff, Nat.reduceLT, Nat.reduceEqDiff, Int.reduceNegSucc, ↓gs_tt, ↓gs_ff, ↓gs_tf, ↓gs_ft])) | fail)
  simp [List.any_eq_not_all_not]
def exactB (l : List Cons) (v : Int) : Bool := (lowsOf l v).all (fun x => decide (kOf x.t.l v = -1)) || (highsOf l v).all (fun x => decide (kOf x.t.l v = 1))
theorem smallC.filter {l : List Cons} (h : smallC l) (p : Cons → Bool) : smallC (l.filter p) :=
  ⟨Nat.le_trans (List.length_filter_le _ _) h.len, fun x hx => h.all x (List.mem_filter.1 hx).1⟩
theorem smallC.lows {l : List Cons} (h : smallC l) (v : Int) : smallC (lowsOf l v) := h.filter _
theorem smallC.highs {l : List Cons} (h : smallC l) (v : Int) : smallC (highsOf l v) := h.filter _
theorem smallC.others {l : List Cons} (h : smallC l) (v : Int) : smallC (othersOf l v) := h.filter _
theorem Exact_ok (l : List Cons) (v : Int) (hl : smallC l) : VPure FT p24 [.fz l.length none 3 (encC l), .int .i64 v] (.tup [.bool (if mayE l v = 0 then exactB l v else false), .int .i64 (mayE l v)]) := by
  refine vpure_of_body (f := p24) rfl rfl ?_
  simp (implicitDefEqProofs := false) only [go_sem, reduceCtorEq, Nat.reduceAdd, Nat.reduceMul, Nat.reduceLeDiff, Nat.reduceLT, Nat.reduceEqDiff, Int.reduceNegSucc, ↓gs_tt, ↓gs_ff, ↓gs_tf, ↓gs_ft]
  repeat' (first | (with_reducible refine And.intro ?_ ?_) | (with_reducible refine gs_t ?_ ?_) | (with_reducible refine gs_f ?_ ?_) | (intro _) | ((with_reducible apply wCall_any); (· (simp (implicitDefEqProofs := false) only [go_sem, reduceCtorEq, Nat.reduceAdd, Nat.reduceMul, Nat.reduceLeDiff, Nat.reduceLT, Nat.reduceEqDiff, Int.reduceNegSucc, ↓gs_tt, ↓gs_ff, ↓gs_tf, ↓gs_ft] <;> rfl)); (· (first | exact may_ok l v hl | exact parts_ok l v hl | exact all_ok (lowsOf l v) v (-1) (hl.lows v) | exact all_ok (highsOf l v) v 1 (hl.highs v))); (· rfl); (· rfl); (· (first | exact Eq.refl true | exact Eq.refl false)); (simp (implicitDefEqProofs := false) only [go_sem, reduceCtorEq, Nat.reduceAdd, Nat.reduceMul, Nat.reduceLeDiff, Nat.reduceLT, Nat.reduceEqDiff, Int.reduceNegSucc, ↓gs_tt, ↓gs_ff, ↓gs_tf, ↓gs_ft])) | fail)
  all_goals
    rename_i h1
    first
      | (simp_all [exactB]; done)
      | (rename_i h0; have h0' : mayE l v = 0 := by simpa using h0
         unfold exactB; rw [if_pos h0', h1, h0']; rfl)
theorem Pick_ok (lo hi : Int) : VPure FT p35 [.int .i64 lo, .int .i64 hi] (.tup [.int .i64 (if hi < lo then 0 else min (max 0 lo) hi), .bool (decide (lo ≤ hi))]) := by
  refine vpure_of_body (f := p35) rfl rfl ?_
  simp (implicitDefEqProofs := false) only [go_sem, reduceCtorEq, Nat.reduceAdd, Nat.reduceMul, Nat.reduceLeDiff, Nat.reduceLT, Nat.reduceEqDiff, Int.reduceNegSucc, ↓gs_tt, ↓gs_ff, ↓gs_tf, ↓gs_ft]
  repeat' (first | (with_reducible refine And.intro ?_ ?_) | (with_reducible refine gs_t ?_ ?_) | (with_reducible refine gs_f ?_ ?_) | (intro _) | ((with_reducible apply wCall_any); (· (simp (implicitDefEqProofs := false) only [go_sem, reduceCtorEq, Nat.reduceAdd, Nat.reduceMul, Nat.reduceLeDiff, Nat.reduceLT, Nat.reduceEqDiff, Int.reduceNegSucc, ↓gs_tt, ↓gs_ff, ↓gs_tf, ↓gs_ft] <;> rfl)); (· (exact may_ok [] 0 ⟨by simp, by simp⟩)); (· rfl); (· rfl); (· (first | exact Eq.refl true | exact Eq.refl false)); (simp (implicitDefEqProofs := false) only [go_sem, reduceCtorEq, Nat.reduceAdd, Nat.reduceMul, Nat.reduceLeDiff, Nat.reduceLT, Nat.reduceEqDiff, Int.reduceNegSucc, ↓gs_tt, ↓gs_ff, ↓gs_tf, ↓gs_ft])) | fail)
  all_goals simp_all
  all_goals omega
theorem Line_ok (v k c : Int) : VPure FT p48 [.int .i64 v, .int .i64 k, .int .i64 c] (.agg (cT ⟨c, [⟨v, k⟩]⟩)) := by
  refine vpure_of_body (f := p48) rfl rfl ?_
  simp (implicitDefEqProofs := false) only [go_sem, reduceCtorEq, Nat.reduceAdd, Nat.reduceMul, Nat.reduceLeDiff, Nat.reduceLT, Nat.reduceEqDiff, Int.reduceNegSucc, ↓gs_tt, ↓gs_ff, ↓gs_tf, ↓gs_ft]
  all_goals first | rfl
end Go.Proofs.Ythdlkpmhjbaplaa.Dx

/- What Unit comes to. No statement of this seat is proved here. -/
set_option autoImplicit false
set_option linter.unusedSimpArgs false
set_option linter.unusedVariables false
set_option maxRecDepth 10000
namespace Go.Proofs.Ythdlkpmhjbaplaa.Dx
open Go
attribute [local irreducible] wCall wLoop
attribute [local go_sem] decide_true decide_false Bool.and_true Bool.true_and Bool.and_self Bool.false_and Bool.and_false vMs vCs vIs Slots At Tr.get_z Tr.get_l Tr.get_r Tr.get_e Tr.set_z_e Tr.set_z_n Tr.set_l_e Tr.set_l_n Tr.set_r_e Tr.set_r_n eOs_n eOs_c eDs_n eDs_c ekOs ekDs ekPut ekBack ekSeq_n ekSeq_x ekSeq_r ekBlk_n ekBlk_x ekBlk_r eO_mk eO_gd eO_loc eO_locb eD_mk eD_loc eD_locb eD_gd eDr eC_skip eC_reg eC_drw eC_seq eC_cond eC_block eC_loop eC_exit eC_ret eRetW_n eRetW_r wk wkL eRet_n eRet_r ekLd_n ekLd_x ekLd_r ekLp_n ekLp_x ekLp_r wI wBin wBd vev vov vovs vplace vouter ofDV ofDVs vcells spl vfills vput vuse vuseP vback vbackP wOf vbare isVarV vkeep hget hset hdels hdel hkeys live vw vwL keysV keysL pureV pureL vsrc veqs vmx vmn vT cT vC cC VOb.cells vres vrsL vrs1 vone List.length_cons List.length_nil List.getElem?_cons_zero List.getElem?_cons_succ List.take_succ_cons List.take_zero List.drop_succ_cons List.drop_zero List.drop_nil List.take_nil List.nil_append List.cons_append List.append_nil Option.some.injEq Nat.zero_add Nat.add_zero if_true if_false ite_true ite_false true_and and_true false_and and_false true_implies implies_true false_implies Bool.true_eq_false Bool.false_eq_true Bool.not_true Bool.not_false eq_self_iff_true Int.toNat_natCast Int.ofNat_eq_natCast Int.ofNat_zero Int.ofNat_one Int.cast_ofNat_Int VV.int.injEq VV.bool.injEq cond_true cond_false

def unitM : List Mono → Option Int
  | [] => none
  | m :: l => if oneB m.k = true then some m.v else unitM l
def unitX (x : Cons) : Option Int := if x.eq = true then unitM x.t.l else none
def unitOf : List Cons → Int → Option (Int × Int)
  | [], _ => none
  | x :: l, i => match unitX x with | some v => some (i, v) | none => unitOf l (i + 1)
def unitV (l : List Cons) : VV := if rightB l 0 = true then (match unitOf l 0 with | some (i, v) => .tup [.int .i64 i, .int .i64 v, .int .i64 0] | none => .tup [.int .i64 0, .int .i64 0, .int .i64 5]) else .tup [.int .i64 0, .int .i64 0, .int .i64 1]
theorem Unit_ok (l : List Cons) (hl : smallC l) : VPure FT p17 [.fz l.length none 3 (encC l)] (unitV l) := by
  refine vpure_of_body (f := p17) rfl rfl ?_
  simp (implicitDefEqProofs := false) only [go_sem, reduceCtorEq, Nat.reduceAdd, Nat.reduceMul, Nat.reduceLeDiff, Nat.reduceLT, Nat.reduceEqDiff, Int.reduceNegSucc, ↓gs_tt, ↓gs_ff, ↓gs_tf, ↓gs_ft]
  repeat' (first | (with_reducible refine And.intro ?_ ?_) | (with_reducible refine gs_t ?_ ?_) | (with_reducible refine gs_f ?_ ?_) | (intro _) | ((with_reducible apply wCall_any); (· (simp (implicitDefEqProofs := false) only [go_sem, reduceCtorEq, Nat.reduceAdd, Nat.reduceMul, Nat.reduceLeDiff, Nat.reduceLT, Nat.reduceEqDiff, Int.reduceNegSucc, ↓gs_tt, ↓gs_ff, ↓gs_tf, ↓gs_ft] <;> rfl)); (· (exact right_ok l 0 hl)); (· rfl); (· rfl); (· (first | exact Eq.refl true | exact Eq.refl false)); (simp (implicitDefEqProofs := false) only [go_sem, reduceCtorEq, Nat.reduceAdd, Nat.reduceMul, Nat.reduceLeDiff, Nat.reduceLT, Nat.reduceEqDiff, Int.reduceNegSucc, ↓gs_tt, ↓gs_ff, ↓gs_tf, ↓gs_ft])) | fail)
  · rename_i hr
    have hr' : rightB l 0 = false := by simpa using hr
    unfold unitV; rw [hr']; rfl
  · rename_i hr
    have hr' : rightB l 0 = true := by simpa using hr
    have hll := hl.len
    refine wLoop_by (fun n s => ∃ i : Nat, i + n = l.length ∧ At s [(p12, .fz l.length none 3 (encC l)), (p13, .int .i64 l.length), (p14, .int .i64 i)] 0 0 [] ∧ unitOf l 0 = unitOf (l.drop i) i) l.length ?_ ?_
    · exact ⟨0, by simp, by simp (implicitDefEqProofs := false) only [go_sem, reduceCtorEq, Nat.reduceAdd, Nat.reduceMul, Nat.reduceLeDiff, Nat.reduceLT, Nat.reduceEqDiff, Int.reduceNegSucc, ↓gs_tt, ↓gs_ff, ↓gs_tf, ↓gs_ft], by simp⟩
    · rintro n ⟨e, nx, w, h⟩ ⟨i, hi, ⟨⟨s1, s2, s3, -⟩, rfl, rfl, rfl⟩, hk⟩
      rcases Nat.lt_or_ge i l.length with hlt | hge
      · obtain ⟨x, hx⟩ := has hlt
        have hxl := hl.all x (List.mem_of_getElem? hx)
        rw [drop_cons hx] at hk
        simp (implicitDefEqProofs := false) only [s1, s2, s3, ltT hlt, encC_cut hx, encC_len, inc64 hlt (by omega : l.length ≤ 4611686018427387904), go_sem, reduceCtorEq, Nat.reduceAdd, Nat.reduceMul, Nat.reduceLeDiff, Nat.reduceLT, Nat.reduceEqDiff, Int.reduceNegSucc, ↓gs_tt, ↓gs_ff, ↓gs_tf, ↓gs_ft]
        refine ⟨⟨by omega, by omega⟩, by omega, ?_⟩
        refine wLoop_by (fun n s => ∃ j : Nat, j + n = x.t.l.length ∧ At s [(p5, .int .i64 i), (p6, .var (cC x)), (p12, .fz l.length none 3 (encC l)), (p13, .int .i64 l.length), (p14, .int .i64 i), (p21, .fz x.t.l.length none 2 (encM x.t.l)), (p22, .int .i64 x.t.l.length), (p23, .int .i64 j)] 0 0 [] ∧
          unitX x = if x.eq = true then unitM (x.t.l.drop j) else none) x.t.l.length ?_ ?_
        · exact ⟨0, by simp, by simp (implicitDefEqProofs := false) only [go_sem, reduceCtorEq, Nat.reduceAdd, Nat.reduceMul, Nat.reduceLeDiff, Nat.reduceLT, Nat.reduceEqDiff, Int.reduceNegSucc, ↓gs_tt, ↓gs_ff, ↓gs_tf, ↓gs_ft], by simp [unitX]⟩
        · rintro n' ⟨e', nx, w, h⟩ ⟨j, hj, ⟨⟨a1, a2, a3, a4, a5, a6, a7, a8, -⟩, rfl, rfl, rfl⟩, hkj⟩
          rcases Nat.lt_or_ge j x.t.l.length with hjlt | hjge
          · obtain ⟨m, hm⟩ := has hjlt
            rw [drop_cons hm] at hkj
            simp (implicitDefEqProofs := false) only [a1, a2, a3, a4, a5, a6, a7, a8, ltT hjlt, encM_cut hm, encM_len, inc64 hjlt (by omega : x.t.l.length ≤ 4611686018427387904), go_sem, reduceCtorEq, Nat.reduceAdd, Nat.reduceMul, Nat.reduceLeDiff, Nat.reduceLT, Nat.reduceEqDiff, Int.reduceNegSucc, ↓gs_tt, ↓gs_ff, ↓gs_tf, ↓gs_ft]
            repeat' (first | (with_reducible refine And.intro ?_ ?_) | (with_reducible refine gs_t ?_ ?_) | (with_reducible refine gs_f ?_ ?_) | (intro _) | ((with_reducible apply wCall_any); (· (simp (implicitDefEqProofs := false) only [go_sem, reduceCtorEq, Nat.reduceAdd, Nat.reduceMul, Nat.reduceLeDiff, Nat.reduceLT, Nat.reduceEqDiff, Int.reduceNegSucc, ↓gs_tt, ↓gs_ff, ↓gs_tf, ↓gs_ft] <;> rfl)); (· (exact one_ok _)); (· rfl); (· rfl); (· (first | exact Eq.refl true | exact Eq.refl false)); (simp (implicitDefEqProofs := false) only [inc64 hjlt (by omega : x.t.l.length ≤ 4611686018427387904), go_sem, reduceCtorEq, Nat.reduceAdd, Nat.reduceMul, Nat.reduceLeDiff, Nat.reduceLT, Nat.reduceEqDiff, Int.reduceNegSucc, ↓gs_tt, ↓gs_ff, ↓gs_tf, ↓gs_ft])) | fail)
            all_goals (clear s1 s2 s3 a1 a2 a3 a4 a5 a6 a7 a8; try omega)
            · rename_i h1 h2
              have hu : unitOf l 0 = some ((i : Int), m.v) := by rw [hk]; simp [unitOf, hkj, h1, unitM, h2]
              unfold unitV; rw [if_pos hr', hu]
            · rename_i h1 h2
              refine ⟨n' - 1, by omega, j + 1, by omega, rfl, ?_⟩
              rw [hkj, h1]; simp [unitM, h2]
            · rename_i h1
              refine ⟨n' - 1, by omega, j + 1, by omega, rfl, ?_⟩
              rw [hkj, h1]; simp
          · simp (implicitDefEqProofs := false) only [a1, a2, a3, a4, a5, a6, a7, a8, ltF hjge, inc64 hlt (by omega : l.length ≤ 4611686018427387904), go_sem, reduceCtorEq, Nat.reduceAdd, Nat.reduceMul, Nat.reduceLeDiff, Nat.reduceLT, Nat.reduceEqDiff, Int.reduceNegSucc, ↓gs_tt, ↓gs_ff, ↓gs_tf, ↓gs_ft]
            refine ⟨n - 1, by omega, i + 1, by omega, rfl, ?_⟩
            rw [hk]
            have : unitX x = none := by rw [hkj, List.drop_eq_nil_of_le hjge]; simp [unitM]
            simp [unitOf, this]
      · simp (implicitDefEqProofs := false) only [s1, s2, s3, ltF hge, go_sem, reduceCtorEq, Nat.reduceAdd, Nat.reduceMul, Nat.reduceLeDiff, Nat.reduceLT, Nat.reduceEqDiff, Int.reduceNegSucc, ↓gs_tt, ↓gs_ff, ↓gs_tf, ↓gs_ft]
        unfold unitV
        rw [if_pos hr', hk, List.drop_eq_nil_of_le hge]; rfl
end Go.Proofs.Ythdlkpmhjbaplaa.Dx
