/- What Grow, Concat, the searches of Span come to. No statement of this seat is proved here. -/
import Derived.Test.YthdlkpmhjbaplaaVyE
set_option autoImplicit false
set_option linter.unusedSimpArgs false
set_option linter.unusedVariables false
set_option maxRecDepth 10000
namespace Go.Proofs.Ythdlkpmhjbaplaa.Dx
open Go
attribute [local irreducible] wCall wLoop
attribute [local go_sem] decide_true decide_false Bool.and_true Bool.true_and Bool.and_self Bool.false_and Bool.and_false vMs vCs vIs Slots At Tr.get_z Tr.get_l Tr.get_r Tr.get_e Tr.set_z_e Tr.set_z_n Tr.set_l_e Tr.set_l_n Tr.set_r_e Tr.set_r_n eOs_n eOs_c eDs_n eDs_c ekOs ekDs ekPut ekBack ekSeq_n ekSeq_x ekSeq_r ekBlk_n ekBlk_x ekBlk_r eO_mk eO_gd eO_loc eO_locb eD_mk eD_loc eD_locb eD_gd eDr eC_skip eC_reg eC_drw eC_seq eC_cond eC_block eC_loop eC_exit eC_ret eRetW_n eRetW_r wk wkL eRet_n eRet_r ekLd_n ekLd_x ekLd_r ekLp_n ekLp_x ekLp_r wI wBin wBd vev vov vovs vplace vouter ofDV ofDVs vcells spl vfills vput vuse vuseP vback vbackP wOf vbare isVarV vkeep hget hset hdels hdel hkeys live vw vwL keysV keysL pureV pureL vsrc veqs vmx vmn vT cT vC cC VOb.cells vres vrsL vrs1 vone List.length_cons List.length_nil List.getElem?_cons_zero List.getElem?_cons_succ List.take_succ_cons List.take_zero List.drop_succ_cons List.drop_zero List.drop_nil List.take_nil List.nil_append List.cons_append List.append_nil Option.some.injEq Nat.zero_add Nat.add_zero if_true if_false ite_true ite_false true_and and_true false_and and_false true_implies implies_true false_implies Bool.true_eq_false Bool.false_eq_true Bool.not_true Bool.not_false eq_self_iff_true Int.toNat_natCast Int.ofNat_eq_natCast Int.ofNat_zero Int.ofNat_one Int.cast_ofNat_Int VV.int.injEq VV.bool.injEq cond_true cond_false

theorem eRetK_n (rs : List Rs) (R : VV → Nat → VHp → Prop) (s : VSt) : retK rs R .norm s = match vres rs s with | some r => R r s.nx s.h | none => False := rfl
theorem eRetK_r (rs : List Rs) (R : VV → Nat → VHp → Prop) (s : VSt) : retK rs R .ret s = match vres rs s with | some r => R r s.nx s.h | none => False := rfl
/-- A nil row, or an empty one of one's own. -/
def growR (b : Nat) (r : VV) (nx : Nat) (h : VHp) : Prop := (r = .nils ∧ h = []) ∨ (r = .ow (b + 1) 0 3 ∧ h = [(b + 1, .row [])] ∧ nx = b + 2)
theorem Grow_ok (b : Nat) (n : Int) (hn : 0 ≤ n ∧ n ≤ 2000000) : FSem FT p88 [.nils, .int .i64 n] b [] (growR b) := by
  refine fsem_of_body (f := p88) rfl rfl ?_
  have h1 : IntKind.i64.wrap (n - 0) = n := by rw [Int.sub_zero, i64 (by omega)]
  have h2 : IntKind.i64.wrap ((0 : Int) - 0) = 0 := rfl
  have h3 : decide (n < 0) = false := by simp; omega
  have h4 : (reps' [.int .i64 0, .nils, .bool false] n.toNat).length = n.toNat * 3 := by unfold reps'; rw [reps_len]; rfl
  have h5 : b ≠ b + 1 := by omega
  have h6 : vsub (reps' [.int .i64 0, .nils, .bool false] n.toNat) 3 0 0 = [] := by simp [vsub]
  simp (implicitDefEqProofs := false) only [h1, h2, h3, h4, h6, eRetK_n, eRetK_r, Int.toNat_zero, Nat.sub_self, go_sem, reduceCtorEq, Nat.reduceAdd, Nat.reduceMul, Nat.reduceLeDiff, Nat.reduceLT, Nat.reduceEqDiff, Int.reduceNegSucc, ↓gs_tt, ↓gs_ff, ↓gs_tf, ↓gs_ft]
  refine gs_t (fun h => ?_) (fun h => ?_)
  · refine ⟨by omega, by omega, by omega, .inr ⟨rfl, ?_, rfl⟩⟩
    simp
  · exact .inl ⟨rfl, rfl⟩
def sizeAt (a b : List Cons) (i : Nat) : Nat := match i with | 0 => 0 | 1 => a.length | _ => a.length + b.length
def catAt (a b : List Cons) (i : Nat) : List Cons := match i with | 0 => [] | 1 => a | _ => a ++ b
theorem Concat_ok (a b : List Cons) (ha : a.length ≤ 1000000) (hb : b.length ≤ 1000000) : VPure FT p59 [.fz 2 none 1 [.fz a.length none 3 (encC a), .fz b.length none 3 (encC b)]] (.fz (a ++ b).length none 3 (encC (a ++ b))) := by
  refine vpure_of_body (f := p59) rfl rfl ?_
  simp (implicitDefEqProofs := false) only [go_sem, reduceCtorEq, Nat.reduceAdd, Nat.reduceMul, Nat.reduceLeDiff, Nat.reduceLT, Nat.reduceEqDiff, Int.reduceNegSucc, ↓gs_tt, ↓gs_ff, ↓gs_tf, ↓gs_ft]
  refine wLoop_by (fun n s => ∃ i : Nat, i + n = 2 ∧ At s [(p0, .fz 2 none 1 [.fz a.length none 3 (encC a), .fz b.length none 3 (encC b)]), (p3, .int .i64 (sizeAt a b i)), (p9, .fz 2 none 1 [.fz a.length none 3 (encC a), .fz b.length none 3 (encC b)]), (p10, .int .i64 2), (p11, .int .i64 i)] 0 0 []) 2 ?_ ?_
  · exact ⟨0, by simp, by simp (implicitDefEqProofs := false) only [go_sem, reduceCtorEq, Nat.reduceAdd, Nat.reduceMul, Nat.reduceLeDiff, Nat.reduceLT, Nat.reduceEqDiff, Int.reduceNegSucc, ↓gs_tt, ↓gs_ff, ↓gs_tf, ↓gs_ft]; simp [sizeAt]⟩
  · rintro n ⟨e, nx, w, h⟩ ⟨i, hi, ⟨s1, s2, s3, s4, s5, -⟩, rfl, rfl, rfl⟩
    have hi3 : i = 0 ∨ i = 1 ∨ i = 2 := by omega
    rcases hi3 with rfl | rfl | rfl
    · have h1 : decide (((0 : Nat) : Int) < 2) = true := rfl
      have h1' : decide ((0 : Int) < 2) = true := rfl
      have h2 : IntKind.i64.wrap ((sizeAt a b 0 : Int) + (a.length : Int)) = (sizeAt a b 1 : Nat) := by simp only [sizeAt]; rw [i64 (by omega)]; omega
      have h3 : decide (((sizeAt a b 1 : Nat) : Int) < 0) = false := by simp
      have h4 : IntKind.i64.wrap ((0 : Int) + 1) = 1 := rfl
      have h5 : (0 : Int).toNat = 0 := rfl
      simp (implicitDefEqProofs := false) only [s1, s2, s3, s4, s5, h1, h1', h2, h3, h4, h5, go_sem, reduceCtorEq, Nat.reduceAdd, Nat.reduceMul, Nat.reduceLeDiff, Nat.reduceLT, Nat.reduceEqDiff, Int.reduceNegSucc, ↓gs_tt, ↓gs_ff, ↓gs_tf, ↓gs_ft]
      exact ⟨⟨by omega, by omega⟩, 1, by omega, 1, by omega, rfl, rfl⟩
    · have h1 : decide ((1 : Int) < 2) = true := rfl
      have h2 : IntKind.i64.wrap ((sizeAt a b 1 : Int) + (b.length : Int)) = (sizeAt a b 2 : Nat) := by simp only [sizeAt]; rw [i64 (by omega)]; omega
      have h3 : decide (((sizeAt a b 2 : Nat) : Int) < 0) = false := by simp
      have h4 : IntKind.i64.wrap ((1 : Int) + 1) = 2 := rfl
      have h5 : (1 : Int).toNat = 1 := rfl
      simp (implicitDefEqProofs := false) only [s1, s2, s3, s4, s5, h1, h2, h3, h4, h5, go_sem, reduceCtorEq, Nat.reduceAdd, Nat.reduceMul, Nat.reduceLeDiff, Nat.reduceLT, Nat.reduceEqDiff, Int.reduceNegSucc, ↓gs_tt, ↓gs_ff, ↓gs_tf, ↓gs_ft]
      exact ⟨⟨by omega, by omega⟩, 0, by omega, 2, by omega, rfl, rfl⟩
    · have h1 : decide ((2 : Int) < 2) = false := rfl
      have hs2 : (sizeAt a b 2 : Int) = a.length + b.length := by simp [sizeAt]
      simp (implicitDefEqProofs := false) only [s1, s2, s3, s4, s5, h1, go_sem, reduceCtorEq, Nat.reduceAdd, Nat.reduceMul, Nat.reduceLeDiff, Nat.reduceLT, Nat.reduceEqDiff, Int.reduceNegSucc, ↓gs_tt, ↓gs_ff, ↓gs_tf, ↓gs_ft]
      refine wCall_heap (Grow_ok 0 _ ⟨by omega, by omega⟩) (fun k o h => (by cases h)) (fun r nx' h' hr => ?_) (fun r nx' h' hr hnx => ?_)
      · rcases hr with ⟨rfl, rfl⟩ | ⟨rfl, rfl, rfl⟩
        · exact ⟨fun k hk => (by cases hk), fun k o h => (by cases h)⟩
        · refine ⟨fun k hk => by simpa [keysV, hkeys] using hk, fun k o h => ?_⟩
          simp only [hget] at h
          split at h
          · cases h; intro k hk; cases hk
          · cases h
      · rcases hr with ⟨rfl, rfl⟩ | ⟨rfl, rfl, rfl⟩
        · simp (implicitDefEqProofs := false) only [go_sem, reduceCtorEq, Nat.reduceAdd, Nat.reduceMul, Nat.reduceLeDiff, Nat.reduceLT, Nat.reduceEqDiff, Int.reduceNegSucc, ↓gs_tt, ↓gs_ff, ↓gs_tf, ↓gs_ft]
          refine wLoop_own p6 3 (by simp (implicitDefEqProofs := false) only [go_sem, reduceCtorEq, Nat.reduceAdd, Nat.reduceMul, Nat.reduceLeDiff, Nat.reduceLT, Nat.reduceEqDiff, Int.reduceNegSucc, ↓gs_tt, ↓gs_ff, ↓gs_tf, ↓gs_ft]) ?_
          simp (implicitDefEqProofs := false) only [go_sem, reduceCtorEq, Nat.reduceAdd, Nat.reduceMul, Nat.reduceLeDiff, Nat.reduceLT, Nat.reduceEqDiff, Int.reduceNegSucc, ↓gs_tt, ↓gs_ff, ↓gs_tf, ↓gs_ft]
          refine wLoop_by (fun n s => ∃ i : Nat, i + n = 2 ∧ At s [(p6, .ow nx' (catAt a b i).length 3), (p25, .fz 2 none 1 [.fz a.length none 3 (encC a), .fz b.length none 3 (encC b)]), (p26, .int .i64 2), (p27, .int .i64 i)] (nx' + 1) 0 [(nx', .row (encC (catAt a b i)))]) 2 ?_ ?_
          · exact ⟨0, by simp, by simp (implicitDefEqProofs := false) only [go_sem, reduceCtorEq, Nat.reduceAdd, Nat.reduceMul, Nat.reduceLeDiff, Nat.reduceLT, Nat.reduceEqDiff, Int.reduceNegSucc, ↓gs_tt, ↓gs_ff, ↓gs_tf, ↓gs_ft]; simp [catAt, encC]⟩
          · rintro n ⟨e, nx, w, h⟩ ⟨i, hi, ⟨s1, s2, s3, s4, -⟩, rfl, rfl, rfl⟩
            have hi3 : i = 0 ∨ i = 1 ∨ i = 2 := by omega
            rcases hi3 with rfl | rfl | rfl
            · have h1 : decide ((0 : Int) < 2) = true := rfl
              have h4 : IntKind.i64.wrap ((0 : Int) + 1) = 1 := rfl
              have h5 : (0 : Int).toNat = 0 := rfl
              simp (implicitDefEqProofs := false) only [s1, s2, s3, s4, h1, h4, h5, encC_len, catAt, encC, go_sem, reduceCtorEq, Nat.reduceAdd, Nat.reduceMul, Nat.reduceLeDiff, Nat.reduceLT, Nat.reduceEqDiff, Int.reduceNegSucc, ↓gs_tt, ↓gs_ff, ↓gs_tf, ↓gs_ft]
              repeat' (first | (with_reducible refine And.intro ?_ ?_) | (with_reducible refine gs_t ?_ ?_) | (with_reducible refine gs_f ?_ ?_) | (intro _) | fail)
              all_goals first | omega | (refine ⟨1, by omega, 1, by omega, ?_⟩; simp [catAt]) | (simp; done)
            · have h1 : decide ((1 : Int) < 2) = true := rfl
              have h4 : IntKind.i64.wrap ((1 : Int) + 1) = 2 := rfl
              have h5 : (1 : Int).toNat = 1 := rfl
              simp (implicitDefEqProofs := false) only [s1, s2, s3, s4, h1, h4, h5, encC_len, catAt, go_sem, reduceCtorEq, Nat.reduceAdd, Nat.reduceMul, Nat.reduceLeDiff, Nat.reduceLT, Nat.reduceEqDiff, Int.reduceNegSucc, ↓gs_tt, ↓gs_ff, ↓gs_tf, ↓gs_ft]
              repeat' (first | (with_reducible refine And.intro ?_ ?_) | (with_reducible refine gs_t ?_ ?_) | (with_reducible refine gs_f ?_ ?_) | (intro _) | fail)
              all_goals first | omega | (refine ⟨0, by omega, 2, by omega, ?_⟩; simp [catAt, encC_app]) | (simp; done)
            · have h1 : decide ((2 : Int) < 2) = false := rfl
              simp (implicitDefEqProofs := false) only [s1, s2, s3, s4, h1, encC_len, catAt, go_sem, reduceCtorEq, Nat.reduceAdd, Nat.reduceMul, Nat.reduceLeDiff, Nat.reduceLT, Nat.reduceEqDiff, Int.reduceNegSucc, ↓gs_tt, ↓gs_ff, ↓gs_tf, ↓gs_ft]
        · simp (implicitDefEqProofs := false) only [go_sem, reduceCtorEq, Nat.reduceAdd, Nat.reduceMul, Nat.reduceLeDiff, Nat.reduceLT, Nat.reduceEqDiff, Int.reduceNegSucc, ↓gs_tt, ↓gs_ff, ↓gs_tf, ↓gs_ft]
          refine wLoop_by (fun n s => ∃ i : Nat, i + n = 2 ∧ At s [(p6, .ow 1 (catAt a b i).length 3), (p25, .fz 2 none 1 [.fz a.length none 3 (encC a), .fz b.length none 3 (encC b)]), (p26, .int .i64 2), (p27, .int .i64 i)] 2 0 [(1, .row (encC (catAt a b i)))]) 2 ?_ ?_
          · exact ⟨0, by simp, by simp (implicitDefEqProofs := false) only [go_sem, reduceCtorEq, Nat.reduceAdd, Nat.reduceMul, Nat.reduceLeDiff, Nat.reduceLT, Nat.reduceEqDiff, Int.reduceNegSucc, ↓gs_tt, ↓gs_ff, ↓gs_tf, ↓gs_ft]; simp [catAt, encC]⟩
          · rintro n ⟨e, nx, w, h⟩ ⟨i, hi, ⟨s1, s2, s3, s4, -⟩, rfl, rfl, rfl⟩
            have hi3 : i = 0 ∨ i = 1 ∨ i = 2 := by omega
            rcases hi3 with rfl | rfl | rfl
            · have h1 : decide ((0 : Int) < 2) = true := rfl
              have h4 : IntKind.i64.wrap ((0 : Int) + 1) = 1 := rfl
              have h5 : (0 : Int).toNat = 0 := rfl
              simp (implicitDefEqProofs := false) only [s1, s2, s3, s4, h1, h4, h5, encC_len, catAt, encC, go_sem, reduceCtorEq, Nat.reduceAdd, Nat.reduceMul, Nat.reduceLeDiff, Nat.reduceLT, Nat.reduceEqDiff, Int.reduceNegSucc, ↓gs_tt, ↓gs_ff, ↓gs_tf, ↓gs_ft]
              repeat' (first | (with_reducible refine And.intro ?_ ?_) | (with_reducible refine gs_t ?_ ?_) | (with_reducible refine gs_f ?_ ?_) | (intro _) | fail)
              all_goals first | omega | (refine ⟨1, by omega, 1, by omega, ?_⟩; simp [catAt]) | (simp; done)
            · have h1 : decide ((1 : Int) < 2) = true := rfl
              have h4 : IntKind.i64.wrap ((1 : Int) + 1) = 2 := rfl
              have h5 : (1 : Int).toNat = 1 := rfl
              simp (implicitDefEqProofs := false) only [s1, s2, s3, s4, h1, h4, h5, encC_len, catAt, go_sem, reduceCtorEq, Nat.reduceAdd, Nat.reduceMul, Nat.reduceLeDiff, Nat.reduceLT, Nat.reduceEqDiff, Int.reduceNegSucc, ↓gs_tt, ↓gs_ff, ↓gs_tf, ↓gs_ft]
              repeat' (first | (with_reducible refine And.intro ?_ ?_) | (with_reducible refine gs_t ?_ ?_) | (with_reducible refine gs_f ?_ ?_) | (intro _) | fail)
              all_goals first | omega | (refine ⟨0, by omega, 2, by omega, ?_⟩; simp [catAt, encC_app]) | (simp; done)
            · have h1 : decide ((2 : Int) < 2) = false := rfl
              simp (implicitDefEqProofs := false) only [s1, s2, s3, s4, h1, encC_len, catAt, go_sem, reduceCtorEq, Nat.reduceAdd, Nat.reduceMul, Nat.reduceLeDiff, Nat.reduceLT, Nat.reduceEqDiff, Int.reduceNegSucc, ↓gs_tt, ↓gs_ff, ↓gs_tf, ↓gs_ft]
end Go.Proofs.Ythdlkpmhjbaplaa.Dx

/- What the searches of terms and numbers, down, come to. No statement of this seat is proved here. -/
set_option autoImplicit false
set_option linter.unusedSimpArgs false
set_option linter.unusedVariables false
set_option maxRecDepth 10000
namespace Go.Proofs.Ythdlkpmhjbaplaa.Dx
open Go
attribute [local irreducible] wCall wLoop
attribute [local go_sem] decide_true decide_false Bool.and_true Bool.true_and Bool.and_self Bool.false_and Bool.and_false vMs vCs vIs Slots At Tr.get_z Tr.get_l Tr.get_r Tr.get_e Tr.set_z_e Tr.set_z_n Tr.set_l_e Tr.set_l_n Tr.set_r_e Tr.set_r_n eOs_n eOs_c eDs_n eDs_c ekOs ekDs ekPut ekBack ekSeq_n ekSeq_x ekSeq_r ekBlk_n ekBlk_x ekBlk_r eO_mk eO_gd eO_loc eO_locb eD_mk eD_loc eD_locb eD_gd eDr eC_skip eC_reg eC_drw eC_seq eC_cond eC_block eC_loop eC_exit eC_ret eRetW_n eRetW_r wk wkL eRet_n eRet_r ekLd_n ekLd_x ekLd_r ekLp_n ekLp_x ekLp_r wI wBin wBd vev vov vovs vplace vouter ofDV ofDVs vcells spl vfills vput vuse vuseP vback vbackP wOf vbare isVarV vkeep hget hset hdels hdel hkeys live vw vwL keysV keysL pureV pureL vsrc veqs vmx vmn vT cT vC cC VOb.cells vres vrsL vrs1 vone List.length_cons List.length_nil List.getElem?_cons_zero List.getElem?_cons_succ List.take_succ_cons List.take_zero List.drop_succ_cons List.drop_zero List.drop_nil List.take_nil List.nil_append List.cons_append List.append_nil Option.some.injEq Nat.zero_add Nat.add_zero if_true if_false ite_true ite_false true_and and_true false_and and_false true_implies implies_true false_implies Bool.true_eq_false Bool.false_eq_true Bool.not_true Bool.not_false eq_self_iff_true Int.toNat_natCast Int.ofNat_eq_natCast Int.ofNat_zero Int.ofNat_one Int.cast_ofNat_Int VV.int.injEq VV.bool.injEq cond_true cond_false

def vM (m : Mono) : VV := .agg [.int .i64 m.v, .int .i64 m.k]
theorem IndexM_ok (f : P) (cs : List VV) (p : Mono → Bool) (l : List Mono) (hl : l.length ≤ 4611686018427387904) (hcs : pureL cs = true) (hp : ∀ x ∈ l, VPure FT f (vM x :: cs) (.bool (p x))) :
    VPure FT p89 [.fz l.length none 2 (encM l), .fn f cs] (.int .i64 (idxOf p l 0)) := by
  refine vpure_of_body (f := p89) rfl rfl ?_
  simp (implicitDefEqProofs := false) only [go_sem, reduceCtorEq, Nat.reduceAdd, Nat.reduceMul, Nat.reduceLeDiff, Nat.reduceLT, Nat.reduceEqDiff, Int.reduceNegSucc, ↓gs_tt, ↓gs_ff, ↓gs_tf, ↓gs_ft]
  refine wLoop_by (fun n s => ∃ i : Nat, i + n = l.length ∧ At s [(p0, .fz l.length none 2 (encM l)), (p1, .fn f cs), (p7, .int .i64 l.length), (p8, .int .i64 i)] 0 0 [] ∧ idxOf p l 0 = idxOf p (l.drop i) i) l.length ?_ ?_
  · exact ⟨0, by simp, by simp (implicitDefEqProofs := false) only [go_sem, reduceCtorEq, Nat.reduceAdd, Nat.reduceMul, Nat.reduceLeDiff, Nat.reduceLT, Nat.reduceEqDiff, Int.reduceNegSucc, ↓gs_tt, ↓gs_ff, ↓gs_tf, ↓gs_ft], by simp⟩
  · rintro n ⟨e, nx, w, h⟩ ⟨i, hi, ⟨⟨s1, s2, s3, s4, -⟩, rfl, rfl, rfl⟩, hk⟩
    rcases Nat.lt_or_ge i l.length with hlt | hge
    · obtain ⟨x, hx⟩ := has hlt
      rw [drop_cons hx] at hk
      simp (implicitDefEqProofs := false) only [s1, s2, s3, s4, ltT hlt, encM_cut hx, encM_len, inc64 hlt hl, go_sem, reduceCtorEq, Nat.reduceAdd, Nat.reduceMul, Nat.reduceLeDiff, Nat.reduceLT, Nat.reduceEqDiff, Int.reduceNegSucc, ↓gs_tt, ↓gs_ff, ↓gs_tf, ↓gs_ft]
      refine ⟨⟨by omega, by omega⟩, by omega, ?_⟩
      refine wCall_pp (r := .bool (p x)) (by simp [pureL, pureV, hcs]) (hp x (List.mem_of_getElem? hx)) rfl ?_
      simp (implicitDefEqProofs := false) only [inc64 hlt hl, go_sem, reduceCtorEq, Nat.reduceAdd, Nat.reduceMul, Nat.reduceLeDiff, Nat.reduceLT, Nat.reduceEqDiff, Int.reduceNegSucc, ↓gs_tt, ↓gs_ff, ↓gs_tf, ↓gs_ft]
      refine gs_t (fun h => ?_) (fun h => ?_)
      · rw [hk]; simp [idxOf, h]
      · refine ⟨n - 1, by omega, i + 1, by omega, rfl, ?_⟩
        rw [hk]; simp [idxOf, h]
    · simp (implicitDefEqProofs := false) only [s1, s2, s3, s4, ltF hge, go_sem, reduceCtorEq, Nat.reduceAdd, Nat.reduceMul, Nat.reduceLeDiff, Nat.reduceLT, Nat.reduceEqDiff, Int.reduceNegSucc, ↓gs_tt, ↓gs_ff, ↓gs_tf, ↓gs_ft]
      rw [hk, List.drop_eq_nil_of_le hge]; rfl
theorem ContainsM_ok (f : P) (cs : List VV) (p : Mono → Bool) (l : List Mono) (hl : l.length ≤ 4611686018427387904) (hcs : pureL cs = true) (hp : ∀ x ∈ l, VPure FT f (vM x :: cs) (.bool (p x))) :
    VPure FT p60 [.fz l.length none 2 (encM l), .fn f cs] (.bool (l.any p)) := by
  refine vpure_of_body (f := p60) rfl rfl ?_
  simp (implicitDefEqProofs := false) only [go_sem, reduceCtorEq, Nat.reduceAdd, Nat.reduceMul, Nat.reduceLeDiff, Nat.reduceLT, Nat.reduceEqDiff, Int.reduceNegSucc, ↓gs_tt, ↓gs_ff, ↓gs_tf, ↓gs_ft]
  refine wCall_pp (r := .int .i64 (idxOf p l 0)) (by simp [pureL, pureV, hcs]) (IndexM_ok f cs p l hl hcs hp) rfl ?_
  simp (implicitDefEqProofs := false) only [go_sem, reduceCtorEq, Nat.reduceAdd, Nat.reduceMul, Nat.reduceLeDiff, Nat.reduceLT, Nat.reduceEqDiff, Int.reduceNegSucc, ↓gs_tt, ↓gs_ff, ↓gs_tf, ↓gs_ft]
  exact idxOf_nonneg p l 0 (by omega)
theorem IndexI_ok (f : P) (cs : List VV) (p : Int → Bool) (l : List Int) (hl : l.length ≤ 4611686018427387904) (hcs : pureL cs = true) (hp : ∀ x ∈ l, VPure FT f (.int .i64 x :: cs) (.bool (p x))) :
    VPure FT p90 [.fz l.length none 1 (encI l), .fn f cs] (.int .i64 (idxOf p l 0)) := by
  refine vpure_of_body (f := p90) rfl rfl ?_
  simp (implicitDefEqProofs := false) only [go_sem, reduceCtorEq, Nat.reduceAdd, Nat.reduceMul, Nat.reduceLeDiff, Nat.reduceLT, Nat.reduceEqDiff, Int.reduceNegSucc, ↓gs_tt, ↓gs_ff, ↓gs_tf, ↓gs_ft]
  refine wLoop_by (fun n s => ∃ i : Nat, i + n = l.length ∧ At s [(p0, .fz l.length none 1 (encI l)), (p1, .fn f cs), (p7, .int .i64 l.length), (p8, .int .i64 i)] 0 0 [] ∧ idxOf p l 0 = idxOf p (l.drop i) i) l.length ?_ ?_
  · exact ⟨0, by simp, by simp (implicitDefEqProofs := false) only [go_sem, reduceCtorEq, Nat.reduceAdd, Nat.reduceMul, Nat.reduceLeDiff, Nat.reduceLT, Nat.reduceEqDiff, Int.reduceNegSucc, ↓gs_tt, ↓gs_ff, ↓gs_tf, ↓gs_ft], by simp⟩
  · rintro n ⟨e, nx, w, h⟩ ⟨i, hi, ⟨⟨s1, s2, s3, s4, -⟩, rfl, rfl, rfl⟩, hk⟩
    rcases Nat.lt_or_ge i l.length with hlt | hge
    · obtain ⟨x, hx⟩ := has hlt
      rw [drop_cons hx] at hk
      simp (implicitDefEqProofs := false) only [s1, s2, s3, s4, ltT hlt, Nat.mul_one, encI_g hx, encI_len, inc64 hlt hl, go_sem, reduceCtorEq, Nat.reduceAdd, Nat.reduceMul, Nat.reduceLeDiff, Nat.reduceLT, Nat.reduceEqDiff, Int.reduceNegSucc, ↓gs_tt, ↓gs_ff, ↓gs_tf, ↓gs_ft]
      refine ⟨⟨by omega, by omega⟩, ?_⟩
      refine wCall_pp (r := .bool (p x)) (by simp [pureL, pureV, hcs]) (hp x (List.mem_of_getElem? hx)) rfl ?_
      simp (implicitDefEqProofs := false) only [inc64 hlt hl, go_sem, reduceCtorEq, Nat.reduceAdd, Nat.reduceMul, Nat.reduceLeDiff, Nat.reduceLT, Nat.reduceEqDiff, Int.reduceNegSucc, ↓gs_tt, ↓gs_ff, ↓gs_tf, ↓gs_ft]
      refine gs_t (fun h => ?_) (fun h => ?_)
      · rw [hk]; simp [idxOf, h]
      · refine ⟨n - 1, by omega, i + 1, by omega, rfl, ?_⟩
        rw [hk]; simp [idxOf, h]
    · simp (implicitDefEqProofs := false) only [s1, s2, s3, s4, ltF hge, go_sem, reduceCtorEq, Nat.reduceAdd, Nat.reduceMul, Nat.reduceLeDiff, Nat.reduceLT, Nat.reduceEqDiff, Int.reduceNegSucc, ↓gs_tt, ↓gs_ff, ↓gs_tf, ↓gs_ft]
      rw [hk, List.drop_eq_nil_of_le hge]; rfl
theorem ContainsI_ok (f : P) (cs : List VV) (p : Int → Bool) (l : List Int) (hl : l.length ≤ 4611686018427387904) (hcs : pureL cs = true) (hp : ∀ x ∈ l, VPure FT f (.int .i64 x :: cs) (.bool (p x))) :
    VPure FT p62 [.fz l.length none 1 (encI l), .fn f cs] (.bool (l.any p)) := by
  refine vpure_of_body (f := p62) rfl rfl ?_
  simp (implicitDefEqProofs := false) only [go_sem, reduceCtorEq, Nat.reduceAdd, Nat.reduceMul, Nat.reduceLeDiff, Nat.reduceLT, Nat.reduceEqDiff, Int.reduceNegSucc, ↓gs_tt, ↓gs_ff, ↓gs_tf, ↓gs_ft]
  refine wCall_pp (r := .int .i64 (idxOf p l 0)) (by simp [pureL, pureV, hcs]) (IndexI_ok f cs p l hl hcs hp) rfl ?_
  simp (implicitDefEqProofs := false) only [go_sem, reduceCtorEq, Nat.reduceAdd, Nat.reduceMul, Nat.reduceLeDiff, Nat.reduceLT, Nat.reduceEqDiff, Int.reduceNegSucc, ↓gs_tt, ↓gs_ff, ↓gs_tf, ↓gs_ft]
  exact idxOf_nonneg p l 0 (by omega)
def farB (v n : Int) (m : Mono) : Bool := decide (m.v ≠ v) && decide (n ≤ m.v)
theorem Span1_ok (m : Mono) (v : Int) (vals : List Int) : VPure FT p61 [vM m, .fp [.int .i64 v] 0, .fp [.fz vals.length none 1 (encI vals)] 0] (.bool (farB v vals.length m)) := by
  refine vpure_of_body (f := p61) rfl rfl ?_
  simp (implicitDefEqProofs := false) only [vM, go_sem, reduceCtorEq, Nat.reduceAdd, Nat.reduceMul, Nat.reduceLeDiff, Nat.reduceLT, Nat.reduceEqDiff, Int.reduceNegSucc, ↓gs_tt, ↓gs_ff, ↓gs_tf, ↓gs_ft]
  unfold farB
  refine gs_t (fun h => ?_) (fun h => ?_) <;> simp_all
def outB (n : Int) : Bool := decide (n < -2147483648) || decide (2147483647 < n)
theorem Span2_ok (n : Int) : VPure FT p63 [.int .i64 n] (.bool (outB n)) := by
  refine vpure_of_body (f := p63) rfl rfl ?_
  simp (implicitDefEqProofs := false) only [go_sem, reduceCtorEq, Nat.reduceAdd, Nat.reduceMul, Nat.reduceLeDiff, Nat.reduceLT, Nat.reduceEqDiff, Int.reduceNegSucc, ↓gs_tt, ↓gs_ff, ↓gs_tf, ↓gs_ft]
  unfold outB
  refine gs_f (fun h => ?_) (fun h => ?_) <;> first | (simp_all; done) | (simp_all; omega)
theorem tdiv_fix (a b : Int) (hb : 0 < b) : (if a.tmod b < 0 then a.tdiv b - 1 else a.tdiv b) = a / b := by
  have h1 := Int.mul_ediv_add_emod a b
  have h2 := Int.emod_nonneg a (show b ≠ 0 by omega)
  have h3 := Int.emod_lt_of_pos a hb
  have h4 := Int.mul_tdiv_add_tmod a b
  have hq : ∀ q r : Int, b * q + r = a → -b < r → r < b → (0 ≤ r → q = a / b) ∧ (r < 0 → q - 1 = a / b) := by
    intro q r hqr hr1 hr2
    have key : b * (q - a / b) = a % b - r := by rw [Int.mul_sub]; omega
    constructor
    · intro hr
      rcases Int.lt_trichotomy (q - a / b) 0 with h | h | h
      · have : b * (q - a / b) ≤ b * (-1) := Int.mul_le_mul_of_nonneg_left (by omega) (by omega); omega
      · omega
      · have : b * 1 ≤ b * (q - a / b) := Int.mul_le_mul_of_nonneg_left (by omega) (by omega); omega
    · intro hr
      rcases Int.lt_trichotomy (q - a / b) 1 with h | h | h
      · have : b * (q - a / b) ≤ b * 0 := Int.mul_le_mul_of_nonneg_left (by omega) (by omega); omega
      · omega
      · have : b * 2 ≤ b * (q - a / b) := Int.mul_le_mul_of_nonneg_left (by omega) (by omega); omega
  have hr2 : a.tmod b < b := Int.tmod_lt_of_pos a hb
  have hr1 : -b < a.tmod b := Int.lt_tmod_of_pos a hb
  obtain ⟨e1, e2⟩ := hq (a.tdiv b) (a.tmod b) h4 hr1 hr2
  by_cases h : a.tmod b < 0
  · rw [if_pos h]; exact e2 h
  · rw [if_neg h]; exact e1 (by omega)
theorem tdiv_bound (a b : Int) (hb : 0 < b) (ha : -1152921504606846976 ≤ a ∧ a ≤ 1152921504606846976) : -1152921504606846976 ≤ a.tdiv b ∧ a.tdiv b ≤ 1152921504606846976 := by
  have h : (a.tdiv b).natAbs ≤ a.natAbs := by
    rw [Int.natAbs_tdiv]; exact Nat.div_le_self _ _
  omega
theorem ediv_bound {a b B : Int} (hb : 0 < b) (ha : -B ≤ a ∧ a ≤ B) (hB : 0 ≤ B) : -B ≤ a / b ∧ a / b ≤ B := by
  have h1 := Int.mul_ediv_add_emod a b
  have h2 := Int.emod_nonneg a (show b ≠ 0 by omega)
  have h3 := Int.emod_lt_of_pos a hb
  constructor
  · rcases Int.lt_or_le (a / b) (-B) with h | h
    · have h5 : b * (a / b) ≤ b * (-B - 1) := Int.mul_le_mul_of_nonneg_left (by omega) (by omega)
      have h6 : b * (-B - 1) = -(b * B) - b := by rw [Int.mul_sub, Int.mul_neg, Int.mul_one]
      have h7 : B * 1 ≤ B * b := Int.mul_le_mul_of_nonneg_left (by omega) hB
      rw [Int.mul_comm B b] at h7
      omega
    · exact h
  · rcases Int.lt_or_le B (a / b) with h | h
    · have h5 : 1 * (a / b) ≤ b * (a / b) := Int.mul_le_mul_of_nonneg_right (by omega) (by omega)
      omega
    · exact h
theorem down_ok (a b : Int) (hb : 0 < b) (ha : -1152921504606846976 ≤ a ∧ a ≤ 1152921504606846976) : VPure FT p65 [.int .i64 a, .int .i64 b] (.int .i64 (a / b)) := by
  refine vpure_of_body (f := p65) rfl rfl ?_
  have h1 := tdiv_bound a b hb ha
  have h2 : IntKind.i64.wrap (a.tdiv b) = a.tdiv b := i64 (by omega)
  have h3 : IntKind.i64.wrap (a.tdiv b - 1) = a.tdiv b - 1 := i64 (by omega)
  have h4 := tdiv_fix a b hb
  simp (implicitDefEqProofs := false) only [h2, h3, go_sem, reduceCtorEq, Nat.reduceAdd, Nat.reduceMul, Nat.reduceLeDiff, Nat.reduceLT, Nat.reduceEqDiff, Int.reduceNegSucc, ↓gs_tt, ↓gs_ff, ↓gs_tf, ↓gs_ft]
  refine ⟨by omega, by omega, gs_t (fun h => ?_) (fun h => ?_)⟩
  · rw [← h4, if_pos (by simpa using h)]
  · rw [← h4, if_neg (by simpa using h)]
end Go.Proofs.Ythdlkpmhjbaplaa.Dx
