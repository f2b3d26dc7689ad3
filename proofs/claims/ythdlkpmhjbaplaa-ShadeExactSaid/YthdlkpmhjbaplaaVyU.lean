/- What slices.DeleteFunc comes to, on a row of one's own; Clone, Twin with a row of one's own. No statement of this seat is proved here. -/
import Derived.Test.YthdlkpmhjbaplaaVyQ
set_option autoImplicit false
set_option linter.unusedSimpArgs false
set_option linter.unusedVariables false
set_option maxRecDepth 10000
namespace Go.Proofs.Ythdlkpmhjbaplaa.Dx
open Go
attribute [local irreducible] wCall wLoop
attribute [local go_sem] decide_true decide_false Bool.and_true Bool.true_and Bool.and_self Bool.false_and Bool.and_false vMs vCs vIs Slots At Tr.get_z Tr.get_l Tr.get_r Tr.get_e Tr.set_z_e Tr.set_z_n Tr.set_l_e Tr.set_l_n Tr.set_r_e Tr.set_r_n eOs_n eOs_c eDs_n eDs_c ekOs ekDs ekPut ekBack ekSeq_n ekSeq_x ekSeq_r ekBlk_n ekBlk_x ekBlk_r eO_mk eO_gd eO_loc eO_locb eD_mk eD_loc eD_locb eD_gd eDr eC_skip eC_reg eC_drw eC_seq eC_cond eC_block eC_loop eC_exit eC_ret eRetW_n eRetW_r wk wkL eRet_n eRet_r ekLd_n ekLd_x ekLd_r ekLp_n ekLp_x ekLp_r wI wBin wBd vev vov vovs vplace vouter ofDV ofDVs vcells spl vfills vput vuse vuseP vback vbackP wOf vbare isVarV vkeep hget hset hdels hdel hkeys live vw vwL keysV keysL pureV pureL vsrc veqs vmx vmn vT cT vC cC VOb.cells vres vrsL vrs1 vone List.length_cons List.length_nil List.getElem?_cons_zero List.getElem?_cons_succ List.take_succ_cons List.take_zero List.drop_succ_cons List.drop_zero List.drop_nil List.take_nil List.nil_append List.cons_append List.append_nil Option.some.injEq Nat.zero_add Nat.add_zero if_true if_false ite_true ite_false true_and and_true false_and and_false true_implies implies_true false_implies Bool.true_eq_false Bool.false_eq_true Bool.not_true Bool.not_false eq_self_iff_true Int.toNat_natCast Int.ofNat_eq_natCast Int.ofNat_zero Int.ofNat_one Int.cast_ofNat_Int VV.int.injEq VV.bool.injEq cond_true cond_false

theorem bff : (false != false) = false := rfl
theorem CloneM_own (l : List Mono) (hl : l.length ≤ 1000000) (hne : l ≠ []) (nx : Nat) :
    FSem FT p108 [.fz l.length none 2 (encM l)] nx [] (fun r nx' h' => r = .ow nx l.length 2 ∧ nx' = nx + 1 ∧ h' = [(nx, .row (encM l))]) := by
  refine fsem_of_body (f := p108) rfl rfl ?_
  have hpos : 0 < l.length := List.length_pos_iff.2 hne
  simp (implicitDefEqProofs := false) only [go_sem, reduceCtorEq, Nat.reduceAdd, Nat.reduceMul, Nat.reduceLeDiff, Nat.reduceLT, Nat.reduceEqDiff, Int.reduceNegSucc, ↓gs_tt, ↓gs_ff, ↓gs_tf, ↓gs_ft]
  intro b hb
  have hbf : b = false := by cases b with
    | false => rfl
    | true => exact absurd (hb rfl) (by omega)
  subst hbf
  simp (implicitDefEqProofs := false) only [eRetK_r, bff, encM_len, go_sem, reduceCtorEq, Nat.reduceAdd, Nat.reduceMul, Nat.reduceLeDiff, Nat.reduceLT, Nat.reduceEqDiff, Int.reduceNegSucc, ↓gs_tt, ↓gs_ff, ↓gs_tf, ↓gs_ft]
  omega
theorem TwinT_own (c : Int) (l : List Mono) (hl : l.length ≤ 1000000) (hne : l ≠ []) (nx : Nat) :
    FSem FT p85 [.agg [.int .i64 c, .fz l.length none 2 (encM l)]] nx [] (fun r nx' h' => r = .agg [.int .i64 c, .ow nx l.length 2] ∧ nx' = nx + 1 ∧ h' = [(nx, .row (encM l))]) := by
  refine fsem_of_body (f := p85) rfl rfl ?_
  simp (implicitDefEqProofs := false) only [go_sem, reduceCtorEq, Nat.reduceAdd, Nat.reduceMul, Nat.reduceLeDiff, Nat.reduceLT, Nat.reduceEqDiff, Int.reduceNegSucc, ↓gs_tt, ↓gs_ff, ↓gs_tf, ↓gs_ft]
  refine wCall_heap (hin := []) (CloneM_own l hl hne nx) (fun k o h => by cases h) ?_ ?_
  · rintro r nx' h' ⟨rfl, rfl, rfl⟩
    refine ⟨by simp [closed, keysV, hkeys], ?_⟩
    intro k o ho
    simp only [hget] at ho
    split at ho
    · cases ho; simp [closed, okeys]
    · cases ho
  · rintro r nx' h' ⟨rfl, rfl, rfl⟩ _
    simp (implicitDefEqProofs := false) only [eRetK_r, hkeys, hdels, List.append_nil, go_sem, reduceCtorEq, Nat.reduceAdd, Nat.reduceMul, Nat.reduceLeDiff, Nat.reduceLT, Nat.reduceEqDiff, Int.reduceNegSucc, ↓gs_tt, ↓gs_ff, ↓gs_tf, ↓gs_ft]
def delM (v : Int) (l : List Mono) : List Mono := l.filter fun m => !decide (m.v = v)
theorem Put1_ok (m : Mono) (v : Int) : VPure FT p93 [.agg [.int .i64 m.v, .int .i64 m.k], .fp [.int .i64 v] 0] (.bool (decide (m.v = v))) := by
  refine vpure_of_body (f := p93) rfl rfl ?_
  simp (implicitDefEqProofs := false) only [go_sem, reduceCtorEq, Nat.reduceAdd, Nat.reduceMul, Nat.reduceLeDiff, Nat.reduceLT, Nat.reduceEqDiff, Int.reduceNegSucc, ↓gs_tt, ↓gs_ff, ↓gs_tf, ↓gs_ft]
theorem encM_set (l : List Mono) (m : Mono) : ∀ i : Nat, i < l.length → spl (encM l) (i * 2) [.int .i64 m.v, .int .i64 m.k] = encM (l.set i m) := by
  induction l with
  | nil => intro i h; simp at h
  | cons a l ih =>
    intro i h
    cases i with
    | zero => simp [spl, encM]
    | succ i =>
      have := ih i (by simpa using h)
      rw [List.set_cons_succ]
      simp only [encM]
      rw [← this]
      simp only [spl, List.length_cons, List.length_nil]
      rw [show (i + 1) * 2 = i * 2 + 1 + 1 by omega, show i * 2 + 1 + 1 + (0 + 1 + 1) = (i * 2 + (0 + 1 + 1)) + 1 + 1 by omega]
      simp
theorem encM_cutset (l : List Mono) (z : List VV) (i : Nat) (hi : i ≤ l.length) : vsub (spl (encM l) (i * 2) z) 2 0 i = encM (l.take i) := by
  have h1 : ((encM l).take (i * 2)).length = i * 2 := by rw [encM_take, encM_len, List.length_take]; omega
  unfold vsub spl
  rw [Nat.zero_mul, List.drop_zero, Nat.sub_zero, List.append_assoc, List.take_append_of_le_length (by omega), List.take_take, Nat.min_self, encM_take]
theorem delM_app (v : Int) (a b : List Mono) : delM v (a ++ b) = delM v a ++ delM v b := by simp [delM]
theorem idxOf_none {α : Type} (p : α → Bool) : ∀ (l : List α) (i : Int), 0 ≤ i → idxOf p l i = -1 → ∀ x ∈ l, p x = false
  | [], _, _, _, x, hx => by cases hx
  | a :: l, i, h0, h, x, hx => by
    unfold idxOf at h
    by_cases hp : p a = true
    · rw [if_pos hp] at h; omega
    · rw [if_neg hp] at h
      rcases List.mem_cons.1 hx with rfl | hx
      · simpa using hp
      · exact idxOf_none p l (i + 1) (by omega) h x hx
theorem idxOf_some {α : Type} (p : α → Bool) : ∀ (l : List α) (i : Int), 0 ≤ i → idxOf p l i ≠ -1 → ∃ k : Nat, idxOf p l i = i + k ∧ k < l.length ∧ (∀ x ∈ l.take k, p x = false) ∧ ∃ x, l[k]? = some x ∧ p x = true
  | [], _, _, h => absurd rfl h
  | a :: l, i, h0, h => by
    unfold idxOf at h ⊢
    by_cases hp : p a = true
    · rw [if_pos hp]; exact ⟨0, by simp, by simp, by simp, a, rfl, hp⟩
    · rw [if_neg hp] at h ⊢
      obtain ⟨k, h1, h2, h3, x, h4, h5⟩ := idxOf_some p l (i + 1) (by omega) h
      refine ⟨k + 1, by rw [h1]; omega, by simp; omega, ?_, x, by simpa using h4, h5⟩
      intro y hy
      rw [List.take_succ_cons] at hy
      rcases List.mem_cons.1 hy with rfl | hy
      · simpa using hp
      · exact h3 y hy
theorem delM_none {v : Int} {l : List Mono} (h : ∀ m ∈ l, decide (m.v = v) = false) : delM v l = l := by
  unfold delM; rw [List.filter_eq_self]; intro m hm; rw [h m hm]; rfl
theorem DelM_nil (v : Int) : VPure FT p92 [.fz 0 none 2 [], .fn p93 [.fp [.int .i64 v] 0]] (.fz 0 none 2 []) := by
  refine vpure_of_body (f := p92) rfl rfl ?_
  have hI : VPure FT p89 [.fz 0 none 2 [], .fn p93 [.fp [.int .i64 v] 0]] (.int .i64 (-1)) := IndexM_ok p93 [.fp [.int .i64 v] 0] (fun m => decide (m.v = v)) [] (by simp) rfl (fun m hm => Put1_ok m v)
  simp (implicitDefEqProofs := false) only [go_sem, reduceCtorEq, Nat.reduceAdd, Nat.reduceMul, Nat.reduceLeDiff, Nat.reduceLT, Nat.reduceEqDiff, Int.reduceNegSucc, ↓gs_tt, ↓gs_ff, ↓gs_tf, ↓gs_ft]
  repeat' (first | (with_reducible refine And.intro ?_ ?_) | (with_reducible refine gs_t ?_ ?_) | (with_reducible refine gs_f ?_ ?_) | (intro _) | ((with_reducible apply wCall_any); (· (simp (implicitDefEqProofs := false) only [go_sem, reduceCtorEq, Nat.reduceAdd, Nat.reduceMul, Nat.reduceLeDiff, Nat.reduceLT, Nat.reduceEqDiff, Int.reduceNegSucc, ↓gs_tt, ↓gs_ff, ↓gs_tf, ↓gs_ft] <;> rfl)); (· (exact hI)); (· rfl); (· rfl); (· (first | exact Eq.refl true | exact Eq.refl false)); (simp (implicitDefEqProofs := false) only [show decide ((-1 : Int) = -1) = true from rfl, go_sem, reduceCtorEq, Nat.reduceAdd, Nat.reduceMul, Nat.reduceLeDiff, Nat.reduceLT, Nat.reduceEqDiff, Int.reduceNegSucc, ↓gs_tt, ↓gs_ff, ↓gs_tf, ↓gs_ft])) | fail)
set_option maxHeartbeats 1000000 in
theorem DelM_ok (l : List Mono) (v : Int) (hl : l.length ≤ 1000000) :
    FSem FT p92 [.ow 1 l.length 2, .fn p93 [.pt 0 1 0]] 2 [(1, .row (encM l)), (0, .obj [.int .i64 v])] (fun r nx' h' => ∃ k', r = .ow k' (delM v l).length 2 ∧ (k' = 1 ∨ k' = 2) ∧ k' < nx' ∧ h' = [(k', .row (encM (delM v l))), (0, .obj [.int .i64 v])]) := by
  refine fsem_of_body (f := p92) rfl rfl ?_
  have hI := IndexM_ok p93 [.fp [.int .i64 v] 0] (fun m => decide (m.v = v)) l (by omega) rfl (fun m hm => Put1_ok m v)
  simp (implicitDefEqProofs := false) only [go_sem, reduceCtorEq, Nat.reduceAdd, Nat.reduceMul, Nat.reduceLeDiff, Nat.reduceLT, Nat.reduceEqDiff, Int.reduceNegSucc, ↓gs_tt, ↓gs_ff, ↓gs_tf, ↓gs_ft]
  refine wCall_pure (args' := [.fz l.length none 2 (encM l), .fn p93 [.fp [.int .i64 v] 0]]) (by simp (implicitDefEqProofs := false) only [encM_len, go_sem, reduceCtorEq, Nat.reduceAdd, Nat.reduceMul, Nat.reduceLeDiff, Nat.reduceLT, Nat.reduceEqDiff, Int.reduceNegSucc, ↓gs_tt, ↓gs_ff, ↓gs_tf, ↓gs_ft]) hI rfl (.inl rfl) ?_
  simp (implicitDefEqProofs := false) only [go_sem, reduceCtorEq, Nat.reduceAdd, Nat.reduceMul, Nat.reduceLeDiff, Nat.reduceLT, Nat.reduceEqDiff, Int.reduceNegSucc, ↓gs_tt, ↓gs_ff, ↓gs_tf, ↓gs_ft]
  refine gs_t (fun h1 => ?_) (fun h1 => ?_)
  · have h0 : idxOf (fun m => decide (m.v = v)) l 0 = -1 := by simpa using h1
    simp (implicitDefEqProofs := false) only [eRetK_r, go_sem, reduceCtorEq, Nat.reduceAdd, Nat.reduceMul, Nat.reduceLeDiff, Nat.reduceLT, Nat.reduceEqDiff, Int.reduceNegSucc, ↓gs_tt, ↓gs_ff, ↓gs_tf, ↓gs_ft]
    rw [delM_none (idxOf_none _ l 0 (by omega) h0)]
    exact ⟨1, rfl, .inl rfl, by omega, rfl⟩
  · have h0 : idxOf (fun m => decide (m.v = v)) l 0 ≠ -1 := by simpa using h1
    obtain ⟨i0, e0, hi0, hbef, m0, hm0, hp0⟩ := idxOf_some _ l 0 (by omega) h0
    simp (implicitDefEqProofs := false) only [e0, Int.zero_add, inc64 hi0 (by omega : l.length ≤ 4611686018427387904), go_sem, reduceCtorEq, Nat.reduceAdd, Nat.reduceMul, Nat.reduceLeDiff, Nat.reduceLT, Nat.reduceEqDiff, Int.reduceNegSucc, ↓gs_tt, ↓gs_ff, ↓gs_tf, ↓gs_ft]
    have hstart : delM v (l.take (i0 + 1)) = l.take i0 := by
      rw [take_snoc hm0, delM_app, delM_none hbef]; simp [delM, hp0]
    refine wLoop_by (fun n s => ∃ (i j : Nat) (A : List Mono), j + n = l.length ∧ i < j ∧ A.length = l.length ∧ A.take i = delM v (l.take j) ∧ A.drop j = l.drop j ∧ At s [(p0, .ow 1 l.length 2), (p1, .fn p93 [.pt 0 1 0]), (p5, .int .i64 i), (p6, .int .i64 j)] 2 0 [(1, .row (encM A)), (0, .obj [.int .i64 v])]) (l.length - (i0 + 1)) ?_ ?_
    · refine ⟨i0, i0 + 1, l, by omega, by omega, rfl, hstart.symm, rfl, ?_⟩
      simp (implicitDefEqProofs := false) only [go_sem, reduceCtorEq, Nat.reduceAdd, Nat.reduceMul, Nat.reduceLeDiff, Nat.reduceLT, Nat.reduceEqDiff, Int.reduceNegSucc, ↓gs_tt, ↓gs_ff, ↓gs_tf, ↓gs_ft]
    · rintro n ⟨e, nx, w, h⟩ ⟨i, j, A, hn, hij, hA, hA1, hA2, ⟨s1, s2, s3, s4, -⟩, rfl, rfl, rfl⟩
      rcases Nat.lt_or_ge j l.length with hlt | hge
      · obtain ⟨m, hm⟩ := has hlt
        have hmA : A[j]? = some m := by
          have := congrArg (·[0]?) hA2
          simpa [hm] using this
        simp (implicitDefEqProofs := false) only [s1, s2, s3, s4, ltT hlt, encM_len, hA, encM_cut hmA, inc64 hlt (by omega : l.length ≤ 4611686018427387904), go_sem, reduceCtorEq, Nat.reduceAdd, Nat.reduceMul, Nat.reduceLeDiff, Nat.reduceLT, Nat.reduceEqDiff, Int.reduceNegSucc, ↓gs_tt, ↓gs_ff, ↓gs_tf, ↓gs_ft]
        refine ⟨⟨by omega, by omega⟩, by omega, ?_⟩
        refine wCall_pure (args' := [.agg [.int .i64 m.v, .int .i64 m.k], .fp [.int .i64 v] 0]) (by simp (implicitDefEqProofs := false) only [go_sem, reduceCtorEq, Nat.reduceAdd, Nat.reduceMul, Nat.reduceLeDiff, Nat.reduceLT, Nat.reduceEqDiff, Int.reduceNegSucc, ↓gs_tt, ↓gs_ff, ↓gs_tf, ↓gs_ft]) (Put1_ok m v) rfl (.inl rfl) ?_
        have hiA : i < A.length := by omega
        have hset : List.take (i * 2) (encM A) ++ [VV.int .i64 m.v, VV.int .i64 m.k] ++ List.drop (i * 2 + 2) (encM A) = encM (A.set i m) := encM_set A m i hiA
        simp (implicitDefEqProofs := false) only [encM_len, hA, hset, List.length_set, inc64 hlt (by omega : l.length ≤ 4611686018427387904), inc64 (by omega : i < l.length) (by omega : l.length ≤ 4611686018427387904), go_sem, reduceCtorEq, Nat.reduceAdd, Nat.reduceMul, Nat.reduceLeDiff, Nat.reduceLT, Nat.reduceEqDiff, Int.reduceNegSucc, ↓gs_tt, ↓gs_ff, ↓gs_tf, ↓gs_ft]
        refine gs_t (fun h2 => ?_) (fun h2 => ?_)
        · have hmv : decide (m.v = v) = false := by simpa using h2
          refine ⟨⟨by omega, by omega⟩, by omega, n - 1, by omega, i + 1, j + 1, A.set i m, by omega, by omega, by rw [List.length_set]; exact hA, ?_, ?_, ⟨rfl, rfl⟩, rfl⟩
          · rw [take_snoc hm, delM_app, ← hA1, List.take_add_one, List.take_set_of_le (by omega), List.getElem?_set_self hiA]
            simp [delM, hmv]
          · rw [List.drop_set_of_lt (by omega)]
            have := congrArg (·.drop 1) hA2
            simpa [List.drop_drop, Nat.add_comm] using this
        · have hmv : decide (m.v = v) = true := by simpa using h2
          refine ⟨n - 1, by omega, i, j + 1, A, by omega, by omega, hA, ?_, ?_, ⟨rfl, rfl⟩, rfl⟩
          · rw [take_snoc hm, delM_app, ← hA1]; simp [delM, hmv]
          · have := congrArg (·.drop 1) hA2
            simpa [List.drop_drop, Nat.add_comm] using this
      · have hj : j = l.length := by omega
        obtain ⟨Z, hZ⟩ : ∃ Z, Z = reps' [VV.int .i64 0, VV.int .i64 0] (l.length - i) := ⟨_, rfl⟩
        have hZl : Z.length = (l.length - i) * 2 := by rw [hZ]; unfold reps'; rw [reps_len]; rfl
        have hlen : (List.take (i * 2) (encM A) ++ Z ++ List.drop (i * 2 + Z.length) (encM A)).length = l.length * 2 := by
          rw [List.length_append, List.length_append, List.length_take, List.length_drop, encM_len, hA, hZl]; omega
        have hcut := encM_cutset A Z i (by omega)
        rw [List.take_of_length_le hge] at hA1
        have hil : i = (delM v l).length := by rw [← hA1, List.length_take]; omega
        simp only [spl] at hcut
        simp (implicitDefEqProofs := false) only [s1, s2, s3, s4, ltF hge, encM_len, hA, ← hZ, hlen, go_sem, reduceCtorEq, Nat.reduceAdd, Nat.reduceMul, Nat.reduceLeDiff, Nat.reduceLT, Nat.reduceEqDiff, Int.reduceNegSucc, ↓gs_tt, ↓gs_ff, ↓gs_tf, ↓gs_ft]
        refine ⟨⟨by omega, by omega⟩, by omega, ⟨by omega, by omega, by omega⟩, ?_⟩
        simp (implicitDefEqProofs := false) only [eRetK_r, Int.toNat_zero, Nat.sub_zero, Nat.zero_mul, List.drop_zero, hcut, hA1, go_sem, reduceCtorEq, Nat.reduceAdd, Nat.reduceMul, Nat.reduceLeDiff, Nat.reduceLT, Nat.reduceEqDiff, Int.reduceNegSucc, ↓gs_tt, ↓gs_ff, ↓gs_tf, ↓gs_ft]
        exact ⟨2, by rw [← hil], .inr rfl, by omega, rfl⟩
end Go.Proofs.Ythdlkpmhjbaplaa.Dx
