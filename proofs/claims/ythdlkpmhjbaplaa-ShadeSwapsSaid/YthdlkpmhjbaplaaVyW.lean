/- What Equal, Value, Holds, and the references Told, Value come to. No statement of this seat is proved here. -/
import Derived.Test.YthdlkpmhjbaplaaVyV
set_option autoImplicit false
set_option linter.unusedSimpArgs false
set_option linter.unusedVariables false
set_option maxRecDepth 10000
namespace Go.Proofs.Ythdlkpmhjbaplaa.Dx
open Go
attribute [local irreducible] wCall wLoop
attribute [local go_sem] decide_true decide_false Bool.and_true Bool.true_and Bool.and_self Bool.false_and Bool.and_false vMs vCs vIs Slots At Tr.get_z Tr.get_l Tr.get_r Tr.get_e Tr.set_z_e Tr.set_z_n Tr.set_l_e Tr.set_l_n Tr.set_r_e Tr.set_r_n eOs_n eOs_c eDs_n eDs_c ekOs ekDs ekPut ekBack ekSeq_n ekSeq_x ekSeq_r ekBlk_n ekBlk_x ekBlk_r eO_mk eO_gd eO_loc eO_locb eD_mk eD_loc eD_locb eD_gd eDr eC_skip eC_reg eC_drw eC_seq eC_cond eC_block eC_loop eC_exit eC_ret eRetW_n eRetW_r wk wkL eRet_n eRet_r ekLd_n ekLd_x ekLd_r ekLp_n ekLp_x ekLp_r wI wBin wBd vev vov vovs vplace vouter ofDV ofDVs vcells spl vfills vput vuse vuseP vback vbackP wOf vbare isVarV vkeep hget hset hdels hdel hkeys live vw vwL keysV keysL pureV pureL vsrc veqs vmx vmn vT cT vC cC VOb.cells vres vrsL vrs1 vone List.length_cons List.length_nil List.getElem?_cons_zero List.getElem?_cons_succ List.take_succ_cons List.take_zero List.drop_succ_cons List.drop_zero List.drop_nil List.take_nil List.nil_append List.cons_append List.append_nil Option.some.injEq Nat.zero_add Nat.add_zero if_true if_false ite_true ite_false true_and and_true false_and and_false true_implies implies_true false_implies Bool.true_eq_false Bool.false_eq_true Bool.not_true Bool.not_false eq_self_iff_true Int.toNat_natCast Int.ofNat_eq_natCast Int.ofNat_zero Int.ofNat_one Int.cast_ofNat_Int VV.int.injEq VV.bool.injEq

theorem nb10 : decide ((1 : Int) = 0) = false := rfl
/-- What a term's monos come to. -/
def linV (vals : List Int) : List Mono → Int
  | [] => 0
  | m :: l => m.k * valOf vals m.v + linV vals l
theorem linV_app (vals : List Int) : ∀ a b : List Mono, linV vals (a ++ b) = linV vals a + linV vals b
  | [], b => by simp [linV]
  | m :: a, b => by simp only [List.cons_append, linV, linV_app vals a b]; omega
theorem linV_bound {vals : List Int} (h : vals.any outB = false) : ∀ {l : List Mono}, (∀ m ∈ l, okM m = true) → -(l.length * 2251799813685248 : Int) ≤ linV vals l ∧ linV vals l ≤ l.length * 2251799813685248
  | [], _ => by simp [linV]
  | m :: l, hm => by
    have h1 := linV_bound h (l := l) fun x hx => hm x (List.mem_cons_of_mem _ hx)
    have h2 := term_bound h (hm m List.mem_cons_self)
    simp only [linV, List.length_cons]
    omega
def toldE (c : Int) (l : List Mono) (vals : List Int) : Int :=
  if okT c l = false then 1 else if l.any (fun m => decide ((vals.length : Int) ≤ m.v)) = true then 5 else if vals.any outB = true then 1 else 0
theorem Val1_ok (m : Mono) (vals : List Int) : VPure FT p96 [.agg [.int .i64 m.v, .int .i64 m.k], .fp [.fz vals.length none 1 (encI vals)] 0] (.bool (decide ((vals.length : Int) ≤ m.v))) := by
  refine vpure_of_body (f := p96) rfl rfl ?_
  simp (implicitDefEqProofs := false) only [go_sem, reduceCtorEq, Nat.reduceAdd, Nat.reduceMul, Nat.reduceLeDiff, Nat.reduceLT, Nat.reduceEqDiff, Int.reduceNegSucc, ↓gs_tt, ↓gs_ff, ↓gs_tf, ↓gs_ft]
theorem Val2_ok (n : Int) : VPure FT p97 [.int .i64 n] (.bool (outB n)) := by
  refine vpure_of_body (f := p97) rfl rfl ?_
  simp (implicitDefEqProofs := false) only [go_sem, reduceCtorEq, Nat.reduceAdd, Nat.reduceMul, Nat.reduceLeDiff, Nat.reduceLT, Nat.reduceEqDiff, Int.reduceNegSucc, ↓gs_tt, ↓gs_ff, ↓gs_tf, ↓gs_ft]
  unfold outB
  refine gs_f (fun h => ?_) (fun h => ?_) <;> simp only [h] <;> simp
theorem told_parts {c : Int} {l : List Mono} {vals : List Int} (h : toldE c l vals = 0) : okT c l = true ∧ (∀ m ∈ l, 0 ≤ m.v ∧ m.v < vals.length) ∧ vals.any outB = false ∧ ∀ m ∈ l, okM m = true := by
  unfold toldE at h
  split at h
  · omega
  · rename_i h1
    split at h
    · omega
    · rename_i h2
      split at h
      · omega
      · rename_i h3
        have ho : okT c l = true := by simpa using h1
        have hall := (okC_parts (x := ⟨⟨c, l⟩, false⟩) ho).2.2
        refine ⟨ho, fun m hm => ?_, by simpa using h3, hall⟩
        have h4 := (okM_spec.1 (hall m hm)).1
        have h5 := List.any_eq_false.1 (by simpa using h2 : l.any (fun m => decide ((vals.length : Int) ≤ m.v)) = false) m hm
        simp at h5; omega
set_option maxHeartbeats 1000000 in
theorem Value_ok (c : Int) (l : List Mono) (vals : List Int) (hl : l.length ≤ 1000000) (hv : vals.length ≤ 1000000) :
    VPure FT p78 [.agg [.int .i64 c, .fz l.length none 2 (encM l)], .fz vals.length none 1 (encI vals)] (.tup [.int .i64 (if toldE c l vals = 0 then c + linV vals l else 0), .int .i64 (toldE c l vals)]) := by
  refine vpure_of_body (f := p78) rfl rfl ?_
  have hF := ContainsM_ok p96 [.fp [.fz vals.length none 1 (encI vals)] 0] (fun m => decide ((vals.length : Int) ≤ m.v)) l (by omega) rfl (fun m _ => Val1_ok m vals)
  have hO := ContainsI_ok p97 [] outB vals (by omega) rfl (fun x _ => Val2_ok x)
  cases h1 : okT c l with
  | false =>
    have e : toldE c l vals = 1 := by unfold toldE; rw [if_pos h1]
    rw [e]
    simp (implicitDefEqProofs := false) only [go_sem, reduceCtorEq, Nat.reduceAdd, Nat.reduceMul, Nat.reduceLeDiff, Nat.reduceLT, Nat.reduceEqDiff, Int.reduceNegSucc, ↓gs_tt, ↓gs_ff, ↓gs_tf, ↓gs_ft]
    repeat' (first | (with_reducible refine And.intro ?_ ?_) | (with_reducible refine gs_t ?_ ?_) | (with_reducible refine gs_f ?_ ?_) | (intro _) | ((with_reducible apply wCall_pure); (· (simp (implicitDefEqProofs := false) only [go_sem, reduceCtorEq, Nat.reduceAdd, Nat.reduceMul, Nat.reduceLeDiff, Nat.reduceLT, Nat.reduceEqDiff, Int.reduceNegSucc, ↓gs_tt, ↓gs_ff, ↓gs_tf, ↓gs_ft] <;> rfl)); (· (exact Check_ok _ _ (by omega))); (· rfl); (· (first | exact .inl rfl | exact .inr rfl)); (simp (implicitDefEqProofs := false) only [h1, Bool.false_eq_true, if_false, nb10, Bool.not_false, go_sem, reduceCtorEq, Nat.reduceAdd, Nat.reduceMul, Nat.reduceLeDiff, Nat.reduceLT, Nat.reduceEqDiff, Int.reduceNegSucc, ↓gs_tt, ↓gs_ff, ↓gs_tf, ↓gs_ft])) | ((with_reducible apply wCall_freeze); (· (simp (implicitDefEqProofs := false) only [go_sem, reduceCtorEq, Nat.reduceAdd, Nat.reduceMul, Nat.reduceLeDiff, Nat.reduceLT, Nat.reduceEqDiff, Int.reduceNegSucc, ↓gs_tt, ↓gs_ff, ↓gs_tf, ↓gs_ft] <;> rfl)); (simp (implicitDefEqProofs := false) only [go_sem, reduceCtorEq, Nat.reduceAdd, Nat.reduceMul, Nat.reduceLeDiff, Nat.reduceLT, Nat.reduceEqDiff, Int.reduceNegSucc, ↓gs_tt, ↓gs_ff, ↓gs_tf, ↓gs_ft]); (with_reducible apply wCall_pure); (· (simp (implicitDefEqProofs := false) only [go_sem, reduceCtorEq, Nat.reduceAdd, Nat.reduceMul, Nat.reduceLeDiff, Nat.reduceLT, Nat.reduceEqDiff, Int.reduceNegSucc, ↓gs_tt, ↓gs_ff, ↓gs_tf, ↓gs_ft] <;> rfl)); (· (exact Check_ok _ _ (by omega))); (· rfl); (· (exact .inr rfl)); (simp (implicitDefEqProofs := false) only [h1, Bool.false_eq_true, if_false, nb10, Bool.not_false, go_sem, reduceCtorEq, Nat.reduceAdd, Nat.reduceMul, Nat.reduceLeDiff, Nat.reduceLT, Nat.reduceEqDiff, Int.reduceNegSucc, ↓gs_tt, ↓gs_ff, ↓gs_tf, ↓gs_ft])) | fail)
    all_goals rfl
  | true =>
  cases h2 : l.any (fun m => decide ((vals.length : Int) ≤ m.v)) with
  | true =>
    have e : toldE c l vals = 5 := by unfold toldE; rw [if_neg (by simp [h1]), if_pos h2]
    rw [e]
    rw [h2] at hF
    simp (implicitDefEqProofs := false) only [go_sem, reduceCtorEq, Nat.reduceAdd, Nat.reduceMul, Nat.reduceLeDiff, Nat.reduceLT, Nat.reduceEqDiff, Int.reduceNegSucc, ↓gs_tt, ↓gs_ff, ↓gs_tf, ↓gs_ft]
    repeat' (first | (with_reducible refine And.intro ?_ ?_) | (with_reducible refine gs_t ?_ ?_) | (with_reducible refine gs_f ?_ ?_) | (intro _) | ((with_reducible apply wCall_pure); (· (simp (implicitDefEqProofs := false) only [go_sem, reduceCtorEq, Nat.reduceAdd, Nat.reduceMul, Nat.reduceLeDiff, Nat.reduceLT, Nat.reduceEqDiff, Int.reduceNegSucc, ↓gs_tt, ↓gs_ff, ↓gs_tf, ↓gs_ft] <;> rfl)); (· (first | exact Check_ok _ _ (by omega) | exact hF)); (· rfl); (· (first | exact .inl rfl | exact .inr rfl)); (simp (implicitDefEqProofs := false) only [h1, if_true, s0eq, Bool.not_true, go_sem, reduceCtorEq, Nat.reduceAdd, Nat.reduceMul, Nat.reduceLeDiff, Nat.reduceLT, Nat.reduceEqDiff, Int.reduceNegSucc, ↓gs_tt, ↓gs_ff, ↓gs_tf, ↓gs_ft])) | ((with_reducible apply wCall_freeze); (· (simp (implicitDefEqProofs := false) only [go_sem, reduceCtorEq, Nat.reduceAdd, Nat.reduceMul, Nat.reduceLeDiff, Nat.reduceLT, Nat.reduceEqDiff, Int.reduceNegSucc, ↓gs_tt, ↓gs_ff, ↓gs_tf, ↓gs_ft] <;> rfl)); (simp (implicitDefEqProofs := false) only [go_sem, reduceCtorEq, Nat.reduceAdd, Nat.reduceMul, Nat.reduceLeDiff, Nat.reduceLT, Nat.reduceEqDiff, Int.reduceNegSucc, ↓gs_tt, ↓gs_ff, ↓gs_tf, ↓gs_ft]); (with_reducible apply wCall_pure); (· (simp (implicitDefEqProofs := false) only [go_sem, reduceCtorEq, Nat.reduceAdd, Nat.reduceMul, Nat.reduceLeDiff, Nat.reduceLT, Nat.reduceEqDiff, Int.reduceNegSucc, ↓gs_tt, ↓gs_ff, ↓gs_tf, ↓gs_ft] <;> rfl)); (· (first | exact Check_ok _ _ (by omega) | exact hF)); (· rfl); (· (exact .inr rfl)); (simp (implicitDefEqProofs := false) only [h1, if_true, s0eq, Bool.not_true, go_sem, reduceCtorEq, Nat.reduceAdd, Nat.reduceMul, Nat.reduceLeDiff, Nat.reduceLT, Nat.reduceEqDiff, Int.reduceNegSucc, ↓gs_tt, ↓gs_ff, ↓gs_tf, ↓gs_ft])) | fail)
    all_goals rfl
  | false =>
  rw [h2] at hF
  cases h3 : vals.any outB with
  | true =>
    have e : toldE c l vals = 1 := by unfold toldE; rw [if_neg (by simp [h1]), if_neg (by rw [h2]; simp), if_pos h3]
    rw [e]
    rw [h3] at hO
    simp (implicitDefEqProofs := false) only [go_sem, reduceCtorEq, Nat.reduceAdd, Nat.reduceMul, Nat.reduceLeDiff, Nat.reduceLT, Nat.reduceEqDiff, Int.reduceNegSucc, ↓gs_tt, ↓gs_ff, ↓gs_tf, ↓gs_ft]
    repeat' (first | (with_reducible refine And.intro ?_ ?_) | (with_reducible refine gs_t ?_ ?_) | (with_reducible refine gs_f ?_ ?_) | (intro _) | ((with_reducible apply wCall_pure); (· (simp (implicitDefEqProofs := false) only [go_sem, reduceCtorEq, Nat.reduceAdd, Nat.reduceMul, Nat.reduceLeDiff, Nat.reduceLT, Nat.reduceEqDiff, Int.reduceNegSucc, ↓gs_tt, ↓gs_ff, ↓gs_tf, ↓gs_ft] <;> rfl)); (· (first | exact Check_ok _ _ (by omega) | exact hF | exact hO)); (· rfl); (· (first | exact .inl rfl | exact .inr rfl)); (simp (implicitDefEqProofs := false) only [h1, if_true, s0eq, Bool.not_true, go_sem, reduceCtorEq, Nat.reduceAdd, Nat.reduceMul, Nat.reduceLeDiff, Nat.reduceLT, Nat.reduceEqDiff, Int.reduceNegSucc, ↓gs_tt, ↓gs_ff, ↓gs_tf, ↓gs_ft])) | ((with_reducible apply wCall_freeze); (· (simp (implicitDefEqProofs := false) only [go_sem, reduceCtorEq, Nat.reduceAdd, Nat.reduceMul, Nat.reduceLeDiff, Nat.reduceLT, Nat.reduceEqDiff, Int.reduceNegSucc, ↓gs_tt, ↓gs_ff, ↓gs_tf, ↓gs_ft] <;> rfl)); (simp (implicitDefEqProofs := false) only [go_sem, reduceCtorEq, Nat.reduceAdd, Nat.reduceMul, Nat.reduceLeDiff, Nat.reduceLT, Nat.reduceEqDiff, Int.reduceNegSucc, ↓gs_tt, ↓gs_ff, ↓gs_tf, ↓gs_ft]); (with_reducible apply wCall_pure); (· (simp (implicitDefEqProofs := false) only [go_sem, reduceCtorEq, Nat.reduceAdd, Nat.reduceMul, Nat.reduceLeDiff, Nat.reduceLT, Nat.reduceEqDiff, Int.reduceNegSucc, ↓gs_tt, ↓gs_ff, ↓gs_tf, ↓gs_ft] <;> rfl)); (· (first | exact Check_ok _ _ (by omega) | exact hF | exact hO)); (· rfl); (· (exact .inr rfl)); (simp (implicitDefEqProofs := false) only [h1, if_true, s0eq, Bool.not_true, go_sem, reduceCtorEq, Nat.reduceAdd, Nat.reduceMul, Nat.reduceLeDiff, Nat.reduceLT, Nat.reduceEqDiff, Int.reduceNegSucc, ↓gs_tt, ↓gs_ff, ↓gs_tf, ↓gs_ft])) | fail)
    all_goals rfl
  | false =>
  have e : toldE c l vals = 0 := by unfold toldE; rw [if_neg (by simp [h1]), if_neg (by rw [h2]; simp), if_neg (by rw [h3]; simp)]
  rw [e]
  rw [h3] at hO
  simp (implicitDefEqProofs := false) only [go_sem, reduceCtorEq, Nat.reduceAdd, Nat.reduceMul, Nat.reduceLeDiff, Nat.reduceLT, Nat.reduceEqDiff, Int.reduceNegSucc, ↓gs_tt, ↓gs_ff, ↓gs_tf, ↓gs_ft]
  repeat' (first | (with_reducible refine And.intro ?_ ?_) | (with_reducible refine gs_t ?_ ?_) | (with_reducible refine gs_f ?_ ?_) | (intro _) | ((with_reducible apply wCall_pure); (· (simp (implicitDefEqProofs := false) only [go_sem, reduceCtorEq, Nat.reduceAdd, Nat.reduceMul, Nat.reduceLeDiff, Nat.reduceLT, Nat.reduceEqDiff, Int.reduceNegSucc, ↓gs_tt, ↓gs_ff, ↓gs_tf, ↓gs_ft] <;> rfl)); (· (first | exact Check_ok _ _ (by omega) | exact hF | exact hO)); (· rfl); (· (first | exact .inl rfl | exact .inr rfl)); (simp (implicitDefEqProofs := false) only [h1, if_true, s0eq, Bool.not_true, go_sem, reduceCtorEq, Nat.reduceAdd, Nat.reduceMul, Nat.reduceLeDiff, Nat.reduceLT, Nat.reduceEqDiff, Int.reduceNegSucc, ↓gs_tt, ↓gs_ff, ↓gs_tf, ↓gs_ft])) | ((with_reducible apply wCall_freeze); (· (simp (implicitDefEqProofs := false) only [go_sem, reduceCtorEq, Nat.reduceAdd, Nat.reduceMul, Nat.reduceLeDiff, Nat.reduceLT, Nat.reduceEqDiff, Int.reduceNegSucc, ↓gs_tt, ↓gs_ff, ↓gs_tf, ↓gs_ft] <;> rfl)); (simp (implicitDefEqProofs := false) only [go_sem, reduceCtorEq, Nat.reduceAdd, Nat.reduceMul, Nat.reduceLeDiff, Nat.reduceLT, Nat.reduceEqDiff, Int.reduceNegSucc, ↓gs_tt, ↓gs_ff, ↓gs_tf, ↓gs_ft]); (with_reducible apply wCall_pure); (· (simp (implicitDefEqProofs := false) only [go_sem, reduceCtorEq, Nat.reduceAdd, Nat.reduceMul, Nat.reduceLeDiff, Nat.reduceLT, Nat.reduceEqDiff, Int.reduceNegSucc, ↓gs_tt, ↓gs_ff, ↓gs_tf, ↓gs_ft] <;> rfl)); (· (first | exact Check_ok _ _ (by omega) | exact hF | exact hO)); (· rfl); (· (exact .inr rfl)); (simp (implicitDefEqProofs := false) only [h1, if_true, s0eq, Bool.not_true, go_sem, reduceCtorEq, Nat.reduceAdd, Nat.reduceMul, Nat.reduceLeDiff, Nat.reduceLT, Nat.reduceEqDiff, Int.reduceNegSucc, ↓gs_tt, ↓gs_ff, ↓gs_tf, ↓gs_ft])) | fail)
  obtain ⟨hok, hrg, _, hms⟩ := told_parts e
  obtain ⟨⟨hc1, hc2⟩, h40, _⟩ := okC_parts (x := ⟨⟨c, l⟩, false⟩) hok
  refine wLoop_by (fun n s => ∃ i : Nat, i + n = l.length ∧ At s [(p3, .pt 0 1 0), (p6, .int .i64 (c + linV vals (l.take i))), (p24, .fz l.length none 2 (encM l)), (p25, .int .i64 l.length), (p26, .int .i64 i)] 1 0 [(0, .obj [.fz vals.length none 1 (encI vals)])]) l.length ?_ ?_
  · exact ⟨0, by simp, by simp (implicitDefEqProofs := false) only [go_sem, reduceCtorEq, Nat.reduceAdd, Nat.reduceMul, Nat.reduceLeDiff, Nat.reduceLT, Nat.reduceEqDiff, Int.reduceNegSucc, ↓gs_tt, ↓gs_ff, ↓gs_tf, ↓gs_ft]; simp [linV]⟩
  · rintro n ⟨e', nx, w, h⟩ ⟨i, hi, ⟨a1, a2, a3, a4, a5, -⟩, rfl, rfl, rfl⟩
    rcases Nat.lt_or_ge i l.length with hlt | hge
    · obtain ⟨m, hm⟩ := has hlt
      have hmm := List.mem_of_getElem? hm
      obtain ⟨r1, r2⟩ := hrg m hmm
      obtain ⟨y, hy⟩ : ∃ y, vals[m.v.toNat]? = some y := has (by omega)
      have hval : valOf vals m.v = y := by unfold valOf; rw [hy]; rfl
      have hb1 := linV_bound h3 (l := l.take i) fun x hx => hms x (List.mem_of_mem_take hx)
      have hb2 := term_bound h3 (hms m hmm)
      have hlen : (l.take i).length ≤ 40 := by rw [List.length_take]; simp only at h40; omega
      rw [hval] at hb2
      simp only at hc1 hc2
      have hw1 : IntKind.i64.wrap (m.k * y) = m.k * y := i64 (by omega)
      have hw2 : IntKind.i64.wrap (c + linV vals (l.take i) + m.k * y) = c + linV vals (l.take i) + m.k * y := i64 (by omega)
      simp (implicitDefEqProofs := false) only [a1, a2, a3, a4, a5, ltT hlt, encM_cut hm, encM_len, inc64 hlt (by omega : l.length ≤ 4611686018427387904), Nat.mul_one, encI_g hy, hw1, hw2, go_sem, reduceCtorEq, Nat.reduceAdd, Nat.reduceMul, Nat.reduceLeDiff, Nat.reduceLT, Nat.reduceEqDiff, Int.reduceNegSucc, ↓gs_tt, ↓gs_ff, ↓gs_tf, ↓gs_ft]
      refine ⟨⟨by omega, by omega⟩, by omega, ⟨by omega, by omega⟩, n - 1, by omega, i + 1, by omega, ?_, rfl⟩
      rw [take_snoc hm, linV_app]; simp only [linV, hval, Int.add_zero]; rw [Int.add_assoc]
    · simp (implicitDefEqProofs := false) only [a1, a2, a3, a4, a5, ltF hge, List.take_of_length_le hge, go_sem, reduceCtorEq, Nat.reduceAdd, Nat.reduceMul, Nat.reduceLeDiff, Nat.reduceLT, Nat.reduceEqDiff, Int.reduceNegSucc, ↓gs_tt, ↓gs_ff, ↓gs_tf, ↓gs_ft]
def holdsB (x : Cons) (vals : List Int) : Bool := decide (x.t.c + linV vals x.t.l = 0) || (decide (x.t.c + linV vals x.t.l < 0) && !x.eq)
theorem Holds_ok (x : Cons) (vals : List Int) (hl : x.t.l.length ≤ 1000000) (hv : vals.length ≤ 1000000) :
    VPure FT p41 [.agg (cC x), .fz vals.length none 1 (encI vals)] (.tup [.bool (if toldE x.t.c x.t.l vals = 0 then holdsB x vals else false), .int .i64 (toldE x.t.c x.t.l vals)]) := by
  refine vpure_of_body (f := p41) rfl rfl ?_
  have hV := Value_ok x.t.c x.t.l vals hl hv
  obtain ⟨E, hE⟩ : ∃ E, E = toldE x.t.c x.t.l vals := ⟨_, rfl⟩
  rw [← hE] at hV ⊢
  simp (implicitDefEqProofs := false) only [go_sem, reduceCtorEq, Nat.reduceAdd, Nat.reduceMul, Nat.reduceLeDiff, Nat.reduceLT, Nat.reduceEqDiff, Int.reduceNegSucc, ↓gs_tt, ↓gs_ff, ↓gs_tf, ↓gs_ft]
  by_cases he : E = 0
  · have de : decide (E = 0) = true := by simpa using he
    rw [if_pos he] at hV ⊢
    repeat' (first | (with_reducible refine And.intro ?_ ?_) | (with_reducible refine gs_t ?_ ?_) | (with_reducible refine gs_f ?_ ?_) | (intro _) | ((with_reducible apply wCall_pure); (· (simp (implicitDefEqProofs := false) only [go_sem, reduceCtorEq, Nat.reduceAdd, Nat.reduceMul, Nat.reduceLeDiff, Nat.reduceLT, Nat.reduceEqDiff, Int.reduceNegSucc, ↓gs_tt, ↓gs_ff, ↓gs_tf, ↓gs_ft] <;> rfl)); (· (exact hV)); (· rfl); (· (first | exact .inl rfl | exact .inr rfl)); (simp (implicitDefEqProofs := false) only [de, Bool.not_true, go_sem, reduceCtorEq, Nat.reduceAdd, Nat.reduceMul, Nat.reduceLeDiff, Nat.reduceLT, Nat.reduceEqDiff, Int.reduceNegSucc, ↓gs_tt, ↓gs_ff, ↓gs_tf, ↓gs_ft])) | ((with_reducible apply wCall_freeze); (· (simp (implicitDefEqProofs := false) only [go_sem, reduceCtorEq, Nat.reduceAdd, Nat.reduceMul, Nat.reduceLeDiff, Nat.reduceLT, Nat.reduceEqDiff, Int.reduceNegSucc, ↓gs_tt, ↓gs_ff, ↓gs_tf, ↓gs_ft] <;> rfl)); (simp (implicitDefEqProofs := false) only [go_sem, reduceCtorEq, Nat.reduceAdd, Nat.reduceMul, Nat.reduceLeDiff, Nat.reduceLT, Nat.reduceEqDiff, Int.reduceNegSucc, ↓gs_tt, ↓gs_ff, ↓gs_tf, ↓gs_ft]); (with_reducible apply wCall_pure); (· (simp (implicitDefEqProofs := false) only [go_sem, reduceCtorEq, Nat.reduceAdd, Nat.reduceMul, Nat.reduceLeDiff, Nat.reduceLT, Nat.reduceEqDiff, Int.reduceNegSucc, ↓gs_tt, ↓gs_ff, ↓gs_tf, ↓gs_ft] <;> rfl)); (· (exact hV)); (· rfl); (· (exact .inr rfl)); (simp (implicitDefEqProofs := false) only [de, Bool.not_true, go_sem, reduceCtorEq, Nat.reduceAdd, Nat.reduceMul, Nat.reduceLeDiff, Nat.reduceLT, Nat.reduceEqDiff, Int.reduceNegSucc, ↓gs_tt, ↓gs_ff, ↓gs_tf, ↓gs_ft])) | fail)
    all_goals (clear hE hV; rw [he]; unfold holdsB; simp only [*, Bool.false_or, Bool.true_or, Bool.true_and, Bool.false_and])
  · have de : decide (E = 0) = false := by simpa using he
    rw [if_neg he] at hV ⊢
    repeat' (first | (with_reducible refine And.intro ?_ ?_) | (with_reducible refine gs_t ?_ ?_) | (with_reducible refine gs_f ?_ ?_) | (intro _) | ((with_reducible apply wCall_pure); (· (simp (implicitDefEqProofs := false) only [go_sem, reduceCtorEq, Nat.reduceAdd, Nat.reduceMul, Nat.reduceLeDiff, Nat.reduceLT, Nat.reduceEqDiff, Int.reduceNegSucc, ↓gs_tt, ↓gs_ff, ↓gs_tf, ↓gs_ft] <;> rfl)); (· (exact hV)); (· rfl); (· (first | exact .inl rfl | exact .inr rfl)); (simp (implicitDefEqProofs := false) only [de, Bool.not_false, go_sem, reduceCtorEq, Nat.reduceAdd, Nat.reduceMul, Nat.reduceLeDiff, Nat.reduceLT, Nat.reduceEqDiff, Int.reduceNegSucc, ↓gs_tt, ↓gs_ff, ↓gs_tf, ↓gs_ft])) | ((with_reducible apply wCall_freeze); (· (simp (implicitDefEqProofs := false) only [go_sem, reduceCtorEq, Nat.reduceAdd, Nat.reduceMul, Nat.reduceLeDiff, Nat.reduceLT, Nat.reduceEqDiff, Int.reduceNegSucc, ↓gs_tt, ↓gs_ff, ↓gs_tf, ↓gs_ft] <;> rfl)); (simp (implicitDefEqProofs := false) only [go_sem, reduceCtorEq, Nat.reduceAdd, Nat.reduceMul, Nat.reduceLeDiff, Nat.reduceLT, Nat.reduceEqDiff, Int.reduceNegSucc, ↓gs_tt, ↓gs_ff, ↓gs_tf, ↓gs_ft]); (with_reducible apply wCall_pure); (· (simp (implicitDefEqProofs := false) only [go_sem, reduceCtorEq, Nat.reduceAdd, Nat.reduceMul, Nat.reduceLeDiff, Nat.reduceLT, Nat.reduceEqDiff, Int.reduceNegSucc, ↓gs_tt, ↓gs_ff, ↓gs_tf, ↓gs_ft] <;> rfl)); (· (exact hV)); (· rfl); (· (exact .inr rfl)); (simp (implicitDefEqProofs := false) only [de, Bool.not_false, go_sem, reduceCtorEq, Nat.reduceAdd, Nat.reduceMul, Nat.reduceLeDiff, Nat.reduceLT, Nat.reduceEqDiff, Int.reduceNegSucc, ↓gs_tt, ↓gs_ff, ↓gs_tf, ↓gs_ft])) | fail)
def holdB (vals : List Int) (x : Cons) : Bool := decide (toldE x.t.c x.t.l vals = 0) && holdsB x vals
theorem holds_ok (l : List Cons) (vals : List Int) (hl : smallC l) (hv : vals.length ≤ 1000000) : VPure FT p42 [.fz l.length none 3 (encC l), .fz vals.length none 1 (encI vals)] (.bool (l.all (holdB vals))) := by
  refine vpure_of_body (f := p42) rfl rfl ?_
  have hll := hl.len
  simp (implicitDefEqProofs := false) only [go_sem, reduceCtorEq, Nat.reduceAdd, Nat.reduceMul, Nat.reduceLeDiff, Nat.reduceLT, Nat.reduceEqDiff, Int.reduceNegSucc, ↓gs_tt, ↓gs_ff, ↓gs_tf, ↓gs_ft]
  refine wLoop_by (fun n s => ∃ i : Nat, i + n = l.length ∧ At s [(p0, .fz l.length none 3 (encC l)), (p1, .fz vals.length none 1 (encI vals)), (p5, .int .i64 i)] 0 0 [] ∧ l.all (holdB vals) = (l.drop i).all (holdB vals)) l.length ?_ ?_
  · exact ⟨0, by simp, by simp (implicitDefEqProofs := false) only [go_sem, reduceCtorEq, Nat.reduceAdd, Nat.reduceMul, Nat.reduceLeDiff, Nat.reduceLT, Nat.reduceEqDiff, Int.reduceNegSucc, ↓gs_tt, ↓gs_ff, ↓gs_tf, ↓gs_ft], by simp⟩
  · rintro n ⟨e, nx, w, h⟩ ⟨i, hi, ⟨⟨s1, s2, s3, -⟩, rfl, rfl, rfl⟩, hk⟩
    rcases Nat.lt_or_ge i l.length with hlt | hge
    · obtain ⟨x, hx⟩ := has hlt
      have hxl := hl.all x (List.mem_of_getElem? hx)
      rw [drop_cons hx, List.all_cons] at hk
      have hH := Holds_ok x vals hxl hv
      simp (implicitDefEqProofs := false) only [s1, s2, s3, ltT hlt, encC_cut hx, encC_len, inc64 hlt (by omega : l.length ≤ 4611686018427387904), go_sem, reduceCtorEq, Nat.reduceAdd, Nat.reduceMul, Nat.reduceLeDiff, Nat.reduceLT, Nat.reduceEqDiff, Int.reduceNegSucc, ↓gs_tt, ↓gs_ff, ↓gs_tf, ↓gs_ft]
      by_cases he : toldE x.t.c x.t.l vals = 0
      · have de : decide (toldE x.t.c x.t.l vals = 0) = true := by simpa using he
        have hb : holdB vals x = holdsB x vals := by unfold holdB; rw [de, Bool.true_and]
        rw [if_pos he] at hH
        rw [hb] at hk
        repeat' (first | (with_reducible refine And.intro ?_ ?_) | (with_reducible refine gs_t ?_ ?_) | (with_reducible refine gs_f ?_ ?_) | (intro _) | ((with_reducible apply wCall_pure); (· (simp (implicitDefEqProofs := false) only [go_sem, reduceCtorEq, Nat.reduceAdd, Nat.reduceMul, Nat.reduceLeDiff, Nat.reduceLT, Nat.reduceEqDiff, Int.reduceNegSucc, ↓gs_tt, ↓gs_ff, ↓gs_tf, ↓gs_ft] <;> rfl)); (· (exact hH)); (· rfl); (· (first | exact .inl rfl | exact .inr rfl)); (simp (implicitDefEqProofs := false) only [de, Bool.not_true, inc64 hlt (by omega : l.length ≤ 4611686018427387904), go_sem, reduceCtorEq, Nat.reduceAdd, Nat.reduceMul, Nat.reduceLeDiff, Nat.reduceLT, Nat.reduceEqDiff, Int.reduceNegSucc, ↓gs_tt, ↓gs_ff, ↓gs_tf, ↓gs_ft])) | ((with_reducible apply wCall_freeze); (· (simp (implicitDefEqProofs := false) only [go_sem, reduceCtorEq, Nat.reduceAdd, Nat.reduceMul, Nat.reduceLeDiff, Nat.reduceLT, Nat.reduceEqDiff, Int.reduceNegSucc, ↓gs_tt, ↓gs_ff, ↓gs_tf, ↓gs_ft] <;> rfl)); (simp (implicitDefEqProofs := false) only [go_sem, reduceCtorEq, Nat.reduceAdd, Nat.reduceMul, Nat.reduceLeDiff, Nat.reduceLT, Nat.reduceEqDiff, Int.reduceNegSucc, ↓gs_tt, ↓gs_ff, ↓gs_tf, ↓gs_ft]); (with_reducible apply wCall_pure); (· (simp (implicitDefEqProofs := false) only [go_sem, reduceCtorEq, Nat.reduceAdd, Nat.reduceMul, Nat.reduceLeDiff, Nat.reduceLT, Nat.reduceEqDiff, Int.reduceNegSucc, ↓gs_tt, ↓gs_ff, ↓gs_tf, ↓gs_ft] <;> rfl)); (· (exact hH)); (· rfl); (· (exact .inr rfl)); (simp (implicitDefEqProofs := false) only [de, Bool.not_true, inc64 hlt (by omega : l.length ≤ 4611686018427387904), go_sem, reduceCtorEq, Nat.reduceAdd, Nat.reduceMul, Nat.reduceLeDiff, Nat.reduceLT, Nat.reduceEqDiff, Int.reduceNegSucc, ↓gs_tt, ↓gs_ff, ↓gs_tf, ↓gs_ft])) | fail)
        all_goals (try omega)
        · rename_i h; rw [hk]; have : holdsB x vals = false := by simpa using h
          rw [this]; rfl
        · rename_i h
          refine ⟨n - 1, by omega, i + 1, by omega, rfl, ?_⟩
          rw [hk]; have : holdsB x vals = true := by simpa using h
          rw [this]; rfl
      · have de : decide (toldE x.t.c x.t.l vals = 0) = false := by simpa using he
        have hb : holdB vals x = false := by unfold holdB; rw [de, Bool.false_and]
        rw [if_neg he] at hH
        rw [hb] at hk
        repeat' (first | (with_reducible refine And.intro ?_ ?_) | (with_reducible refine gs_t ?_ ?_) | (with_reducible refine gs_f ?_ ?_) | (intro _) | ((with_reducible apply wCall_pure); (· (simp (implicitDefEqProofs := false) only [go_sem, reduceCtorEq, Nat.reduceAdd, Nat.reduceMul, Nat.reduceLeDiff, Nat.reduceLT, Nat.reduceEqDiff, Int.reduceNegSucc, ↓gs_tt, ↓gs_ff, ↓gs_tf, ↓gs_ft] <;> rfl)); (· (exact hH)); (· rfl); (· (first | exact .inl rfl | exact .inr rfl)); (simp (implicitDefEqProofs := false) only [de, Bool.not_false, inc64 hlt (by omega : l.length ≤ 4611686018427387904), go_sem, reduceCtorEq, Nat.reduceAdd, Nat.reduceMul, Nat.reduceLeDiff, Nat.reduceLT, Nat.reduceEqDiff, Int.reduceNegSucc, ↓gs_tt, ↓gs_ff, ↓gs_tf, ↓gs_ft])) | ((with_reducible apply wCall_freeze); (· (simp (implicitDefEqProofs := false) only [go_sem, reduceCtorEq, Nat.reduceAdd, Nat.reduceMul, Nat.reduceLeDiff, Nat.reduceLT, Nat.reduceEqDiff, Int.reduceNegSucc, ↓gs_tt, ↓gs_ff, ↓gs_tf, ↓gs_ft] <;> rfl)); (simp (implicitDefEqProofs := false) only [go_sem, reduceCtorEq, Nat.reduceAdd, Nat.reduceMul, Nat.reduceLeDiff, Nat.reduceLT, Nat.reduceEqDiff, Int.reduceNegSucc, ↓gs_tt, ↓gs_ff, ↓gs_tf, ↓gs_ft]); (with_reducible apply wCall_pure); (· (simp (implicitDefEqProofs := false) only [go_sem, reduceCtorEq, Nat.reduceAdd, Nat.reduceMul, Nat.reduceLeDiff, Nat.reduceLT, Nat.reduceEqDiff, Int.reduceNegSucc, ↓gs_tt, ↓gs_ff, ↓gs_tf, ↓gs_ft] <;> rfl)); (· (exact hH)); (· rfl); (· (exact .inr rfl)); (simp (implicitDefEqProofs := false) only [de, Bool.not_false, inc64 hlt (by omega : l.length ≤ 4611686018427387904), go_sem, reduceCtorEq, Nat.reduceAdd, Nat.reduceMul, Nat.reduceLeDiff, Nat.reduceLT, Nat.reduceEqDiff, Int.reduceNegSucc, ↓gs_tt, ↓gs_ff, ↓gs_tf, ↓gs_ft])) | fail)
        all_goals (try omega)
        rw [hk]; rfl
    · simp (implicitDefEqProofs := false) only [s1, s2, s3, ltF hge, go_sem, reduceCtorEq, Nat.reduceAdd, Nat.reduceMul, Nat.reduceLeDiff, Nat.reduceLT, Nat.reduceEqDiff, Int.reduceNegSucc, ↓gs_tt, ↓gs_ff, ↓gs_tf, ↓gs_ft]
      rw [hk, List.drop_eq_nil_of_le hge]; rfl
theorem TwinI_own (vals : List Int) (hv : vals.length ≤ 1000000) (nx : Nat) :
    FSem FT p39 [.fz vals.length none 1 (encI vals)] nx [] (fun r nx' h' => r = .ow nx vals.length 1 ∧ nx' = nx + 1 ∧ h' = [(nx, .row (encI vals))]) := by
  refine fsem_of_body (f := p39) rfl rfl ?_
  simp (implicitDefEqProofs := false) only [eRetK_r, encI_len, go_sem, reduceCtorEq, Nat.reduceAdd, Nat.reduceMul, Nat.reduceLeDiff, Nat.reduceLT, Nat.reduceEqDiff, Int.reduceNegSucc, ↓gs_tt, ↓gs_ff, ↓gs_tf, ↓gs_ft]
  exact ⟨by omega, by omega⟩
theorem Told_ok (c : Int) (l : List Mono) (vals : List Int) (hl : l.length ≤ 1000000) (hv : vals.length ≤ 1000000) : VPure FT p38 [.agg [.int .i64 c, .fz l.length none 2 (encM l)], .fz vals.length none 1 (encI vals)] (.int .i64 (toldE c l vals)) := by
  refine vpure_of_body (f := p38) rfl rfl ?_
  cases h1 : okT c l with
  | false =>
    have e : toldE c l vals = 1 := by unfold toldE; rw [if_pos h1]
    rw [e]
    simp (implicitDefEqProofs := false) only [go_sem, reduceCtorEq, Nat.reduceAdd, Nat.reduceMul, Nat.reduceLeDiff, Nat.reduceLT, Nat.reduceEqDiff, Int.reduceNegSucc, ↓gs_tt, ↓gs_ff, ↓gs_tf, ↓gs_ft]
    repeat' (first | (with_reducible refine And.intro ?_ ?_) | (with_reducible refine gs_t ?_ ?_) | (with_reducible refine gs_f ?_ ?_) | (intro _) | ((with_reducible apply wCall_pure); (· (simp (implicitDefEqProofs := false) only [go_sem, reduceCtorEq, Nat.reduceAdd, Nat.reduceMul, Nat.reduceLeDiff, Nat.reduceLT, Nat.reduceEqDiff, Int.reduceNegSucc, ↓gs_tt, ↓gs_ff, ↓gs_tf, ↓gs_ft] <;> rfl)); (· (exact Right_ok _ _ (by omega))); (· rfl); (· (first | exact .inl rfl | exact .inr rfl)); (simp (implicitDefEqProofs := false) only [h1, Bool.not_false, go_sem, reduceCtorEq, Nat.reduceAdd, Nat.reduceMul, Nat.reduceLeDiff, Nat.reduceLT, Nat.reduceEqDiff, Int.reduceNegSucc, ↓gs_tt, ↓gs_ff, ↓gs_tf, ↓gs_ft])) | ((with_reducible apply wCall_freeze); (· (simp (implicitDefEqProofs := false) only [go_sem, reduceCtorEq, Nat.reduceAdd, Nat.reduceMul, Nat.reduceLeDiff, Nat.reduceLT, Nat.reduceEqDiff, Int.reduceNegSucc, ↓gs_tt, ↓gs_ff, ↓gs_tf, ↓gs_ft] <;> rfl)); (simp (implicitDefEqProofs := false) only [go_sem, reduceCtorEq, Nat.reduceAdd, Nat.reduceMul, Nat.reduceLeDiff, Nat.reduceLT, Nat.reduceEqDiff, Int.reduceNegSucc, ↓gs_tt, ↓gs_ff, ↓gs_tf, ↓gs_ft]); (with_reducible apply wCall_pure); (· (simp (implicitDefEqProofs := false) only [go_sem, reduceCtorEq, Nat.reduceAdd, Nat.reduceMul, Nat.reduceLeDiff, Nat.reduceLT, Nat.reduceEqDiff, Int.reduceNegSucc, ↓gs_tt, ↓gs_ff, ↓gs_tf, ↓gs_ft] <;> rfl)); (· (exact Right_ok _ _ (by omega))); (· rfl); (· (exact .inr rfl)); (simp (implicitDefEqProofs := false) only [h1, Bool.not_false, go_sem, reduceCtorEq, Nat.reduceAdd, Nat.reduceMul, Nat.reduceLeDiff, Nat.reduceLT, Nat.reduceEqDiff, Int.reduceNegSucc, ↓gs_tt, ↓gs_ff, ↓gs_tf, ↓gs_ft])) | fail)
  | true =>
  have hT : toldE c l vals = if l.any (fun m => decide ((vals.length : Int) ≤ m.v)) = true then 5 else if vals.any outB = true then 1 else 0 := by unfold toldE; rw [if_neg (by simp [h1])]
  simp (implicitDefEqProofs := false) only [go_sem, reduceCtorEq, Nat.reduceAdd, Nat.reduceMul, Nat.reduceLeDiff, Nat.reduceLT, Nat.reduceEqDiff, Int.reduceNegSucc, ↓gs_tt, ↓gs_ff, ↓gs_tf, ↓gs_ft]
  repeat' (first | (with_reducible refine And.intro ?_ ?_) | (with_reducible refine gs_t ?_ ?_) | (with_reducible refine gs_f ?_ ?_) | (intro _) | ((with_reducible apply wCall_pure); (· (simp (implicitDefEqProofs := false) only [go_sem, reduceCtorEq, Nat.reduceAdd, Nat.reduceMul, Nat.reduceLeDiff, Nat.reduceLT, Nat.reduceEqDiff, Int.reduceNegSucc, ↓gs_tt, ↓gs_ff, ↓gs_tf, ↓gs_ft] <;> rfl)); (· (exact Right_ok _ _ (by omega))); (· rfl); (· (first | exact .inl rfl | exact .inr rfl)); (simp (implicitDefEqProofs := false) only [h1, Bool.not_true, go_sem, reduceCtorEq, Nat.reduceAdd, Nat.reduceMul, Nat.reduceLeDiff, Nat.reduceLT, Nat.reduceEqDiff, Int.reduceNegSucc, ↓gs_tt, ↓gs_ff, ↓gs_tf, ↓gs_ft])) | ((with_reducible apply wCall_freeze); (· (simp (implicitDefEqProofs := false) only [go_sem, reduceCtorEq, Nat.reduceAdd, Nat.reduceMul, Nat.reduceLeDiff, Nat.reduceLT, Nat.reduceEqDiff, Int.reduceNegSucc, ↓gs_tt, ↓gs_ff, ↓gs_tf, ↓gs_ft] <;> rfl)); (simp (implicitDefEqProofs := false) only [go_sem, reduceCtorEq, Nat.reduceAdd, Nat.reduceMul, Nat.reduceLeDiff, Nat.reduceLT, Nat.reduceEqDiff, Int.reduceNegSucc, ↓gs_tt, ↓gs_ff, ↓gs_tf, ↓gs_ft]); (with_reducible apply wCall_pure); (· (simp (implicitDefEqProofs := false) only [go_sem, reduceCtorEq, Nat.reduceAdd, Nat.reduceMul, Nat.reduceLeDiff, Nat.reduceLT, Nat.reduceEqDiff, Int.reduceNegSucc, ↓gs_tt, ↓gs_ff, ↓gs_tf, ↓gs_ft] <;> rfl)); (· (exact Right_ok _ _ (by omega))); (· rfl); (· (exact .inr rfl)); (simp (implicitDefEqProofs := false) only [h1, Bool.not_true, go_sem, reduceCtorEq, Nat.reduceAdd, Nat.reduceMul, Nat.reduceLeDiff, Nat.reduceLT, Nat.reduceEqDiff, Int.reduceNegSucc, ↓gs_tt, ↓gs_ff, ↓gs_tf, ↓gs_ft])) | fail)
  refine wLoop_by (fun n s => ∃ i : Nat, i + n = l.length ∧ At s [(p1, .fz vals.length none 1 (encI vals)), (p2, .var [.int .i64 c, .fz l.length none 2 (encM l)]), (p5, .int .i64 i)] 0 0 [] ∧ l.any (fun m => decide ((vals.length : Int) ≤ m.v)) = (l.drop i).any (fun m => decide ((vals.length : Int) ≤ m.v))) l.length ?_ ?_
  · exact ⟨0, by simp, by simp (implicitDefEqProofs := false) only [go_sem, reduceCtorEq, Nat.reduceAdd, Nat.reduceMul, Nat.reduceLeDiff, Nat.reduceLT, Nat.reduceEqDiff, Int.reduceNegSucc, ↓gs_tt, ↓gs_ff, ↓gs_tf, ↓gs_ft], by simp⟩
  · rintro n ⟨e, nx, w, h⟩ ⟨i, hi, ⟨⟨s1, s2, s3, -⟩, rfl, rfl, rfl⟩, hk⟩
    rcases Nat.lt_or_ge i l.length with hlt | hge
    · obtain ⟨m, hm⟩ := has hlt
      rw [drop_cons hm, List.any_cons] at hk
      simp (implicitDefEqProofs := false) only [s1, s2, s3, ltT hlt, encM_g0 hm, encM_len, inc64 hlt (by omega : l.length ≤ 4611686018427387904), go_sem, reduceCtorEq, Nat.reduceAdd, Nat.reduceMul, Nat.reduceLeDiff, Nat.reduceLT, Nat.reduceEqDiff, Int.reduceNegSucc, ↓gs_tt, ↓gs_ff, ↓gs_tf, ↓gs_ft]
      refine ⟨⟨by omega, by omega⟩, gs_t (fun h => ?_) (fun h => ?_)⟩
      · rw [hT, hk, h]; rfl
      · refine ⟨n - 1, by omega, i + 1, by omega, rfl, ?_⟩
        rw [hk, h]; rfl
    · rw [List.drop_eq_nil_of_le hge] at hk
      simp (implicitDefEqProofs := false) only [s1, s2, s3, ltF hge, go_sem, reduceCtorEq, Nat.reduceAdd, Nat.reduceMul, Nat.reduceLeDiff, Nat.reduceLT, Nat.reduceEqDiff, Int.reduceNegSucc, ↓gs_tt, ↓gs_ff, ↓gs_tf, ↓gs_ft]
      clear s1 s2 s3
      refine wLoop_by (fun n s => ∃ i : Nat, i + n = vals.length ∧ At s [(p1, .fz vals.length none 1 (encI vals)), (p6, .int .i64 i)] 0 0 [] ∧ vals.any outB = (vals.drop i).any outB) vals.length ?_ ?_
      · exact ⟨0, by simp, by simp (implicitDefEqProofs := false) only [go_sem, reduceCtorEq, Nat.reduceAdd, Nat.reduceMul, Nat.reduceLeDiff, Nat.reduceLT, Nat.reduceEqDiff, Int.reduceNegSucc, ↓gs_tt, ↓gs_ff, ↓gs_tf, ↓gs_ft], by simp⟩
      · rintro n ⟨e, nx, w, h⟩ ⟨i, hi, ⟨⟨s1, s2, -⟩, rfl, rfl, rfl⟩, hk2⟩
        rcases Nat.lt_or_ge i vals.length with hlt | hge
        · obtain ⟨y, hy⟩ := has hlt
          rw [drop_cons hy, List.any_cons] at hk2
          have hin : outB y = !inB y (-2147483648) 2147483647 := by unfold outB inB; by_cases a : y < -2147483648 <;> by_cases b : 2147483647 < y <;> simp [a, b] <;> omega
          simp (implicitDefEqProofs := false) only [s1, s2, ltT hlt, Nat.mul_one, encI_g hy, encI_len, inc64 hlt (by omega : vals.length ≤ 4611686018427387904), go_sem, reduceCtorEq, Nat.reduceAdd, Nat.reduceMul, Nat.reduceLeDiff, Nat.reduceLT, Nat.reduceEqDiff, Int.reduceNegSucc, ↓gs_tt, ↓gs_ff, ↓gs_tf, ↓gs_ft]
          repeat' (first | (with_reducible refine And.intro ?_ ?_) | (with_reducible refine gs_t ?_ ?_) | (with_reducible refine gs_f ?_ ?_) | (intro _) | ((with_reducible apply wCall_pure); (· (simp (implicitDefEqProofs := false) only [go_sem, reduceCtorEq, Nat.reduceAdd, Nat.reduceMul, Nat.reduceLeDiff, Nat.reduceLT, Nat.reduceEqDiff, Int.reduceNegSucc, ↓gs_tt, ↓gs_ff, ↓gs_tf, ↓gs_ft] <;> rfl)); (· (exact in_ok _ _ _)); (· rfl); (· (first | exact .inl rfl | exact .inr rfl)); (simp (implicitDefEqProofs := false) only [inc64 hlt (by omega : vals.length ≤ 4611686018427387904), go_sem, reduceCtorEq, Nat.reduceAdd, Nat.reduceMul, Nat.reduceLeDiff, Nat.reduceLT, Nat.reduceEqDiff, Int.reduceNegSucc, ↓gs_tt, ↓gs_ff, ↓gs_tf, ↓gs_ft])) | ((with_reducible apply wCall_freeze); (· (simp (implicitDefEqProofs := false) only [go_sem, reduceCtorEq, Nat.reduceAdd, Nat.reduceMul, Nat.reduceLeDiff, Nat.reduceLT, Nat.reduceEqDiff, Int.reduceNegSucc, ↓gs_tt, ↓gs_ff, ↓gs_tf, ↓gs_ft] <;> rfl)); (simp (implicitDefEqProofs := false) only [go_sem, reduceCtorEq, Nat.reduceAdd, Nat.reduceMul, Nat.reduceLeDiff, Nat.reduceLT, Nat.reduceEqDiff, Int.reduceNegSucc, ↓gs_tt, ↓gs_ff, ↓gs_tf, ↓gs_ft]); (with_reducible apply wCall_pure); (· (simp (implicitDefEqProofs := false) only [go_sem, reduceCtorEq, Nat.reduceAdd, Nat.reduceMul, Nat.reduceLeDiff, Nat.reduceLT, Nat.reduceEqDiff, Int.reduceNegSucc, ↓gs_tt, ↓gs_ff, ↓gs_tf, ↓gs_ft] <;> rfl)); (· (exact in_ok _ _ _)); (· rfl); (· (exact .inr rfl)); (simp (implicitDefEqProofs := false) only [inc64 hlt (by omega : vals.length ≤ 4611686018427387904), go_sem, reduceCtorEq, Nat.reduceAdd, Nat.reduceMul, Nat.reduceLeDiff, Nat.reduceLT, Nat.reduceEqDiff, Int.reduceNegSucc, ↓gs_tt, ↓gs_ff, ↓gs_tf, ↓gs_ft])) | fail)
          all_goals (try omega)
          · rename_i h
            rw [hT, hk, hk2, hin, h]; rfl
          · rename_i h
            refine ⟨n - 1, by omega, i + 1, by omega, rfl, ?_⟩
            rw [hk2, hin, h]; rfl
        · rw [List.drop_eq_nil_of_le hge] at hk2
          simp (implicitDefEqProofs := false) only [s1, s2, ltF hge, go_sem, reduceCtorEq, Nat.reduceAdd, Nat.reduceMul, Nat.reduceLeDiff, Nat.reduceLT, Nat.reduceEqDiff, Int.reduceNegSucc, ↓gs_tt, ↓gs_ff, ↓gs_tf, ↓gs_ft]
          rw [hT, hk, hk2]; rfl
theorem rValue_ok (c : Int) (l : List Mono) (vals : List Int) (h0 : toldE c l vals = 0) (hv : vals.length ≤ 1000000) : VPure FT p40 [.agg [.int .i64 c, .fz l.length none 2 (encM l)], .fz vals.length none 1 (encI vals)] (.int .i64 (c + linV vals l)) := by
  refine vpure_of_body (f := p40) rfl rfl ?_
  obtain ⟨hok, hrg, h3, hms⟩ := told_parts h0
  obtain ⟨⟨hc1, hc2⟩, h40, _⟩ := okC_parts (x := ⟨⟨c, l⟩, false⟩) hok
  simp only at hc1 hc2 h40
  simp (implicitDefEqProofs := false) only [go_sem, reduceCtorEq, Nat.reduceAdd, Nat.reduceMul, Nat.reduceLeDiff, Nat.reduceLT, Nat.reduceEqDiff, Int.reduceNegSucc, ↓gs_tt, ↓gs_ff, ↓gs_tf, ↓gs_ft]
  refine wLoop_by (fun n s => ∃ i : Nat, i + n = l.length ∧ At s [(p1, .fz vals.length none 1 (encI vals)), (p2, .var [.int .i64 c, .fz l.length none 2 (encM l)]), (p5, .int .i64 (c + linV vals (l.take i))), (p6, .int .i64 i)] 0 0 []) l.length ?_ ?_
  · exact ⟨0, by simp, by simp (implicitDefEqProofs := false) only [go_sem, reduceCtorEq, Nat.reduceAdd, Nat.reduceMul, Nat.reduceLeDiff, Nat.reduceLT, Nat.reduceEqDiff, Int.reduceNegSucc, ↓gs_tt, ↓gs_ff, ↓gs_tf, ↓gs_ft]; simp [linV]⟩
  · rintro n ⟨e', nx, w, h⟩ ⟨i, hi, ⟨a1, a2, a3, a4, -⟩, rfl, rfl, rfl⟩
    rcases Nat.lt_or_ge i l.length with hlt | hge
    · obtain ⟨m, hm⟩ := has hlt
      have hmm := List.mem_of_getElem? hm
      obtain ⟨r1, r2⟩ := hrg m hmm
      obtain ⟨y, hy⟩ : ∃ y, vals[m.v.toNat]? = some y := has (by omega)
      have hval : valOf vals m.v = y := by unfold valOf; rw [hy]; rfl
      have hb1 := linV_bound h3 (l := l.take i) fun x hx => hms x (List.mem_of_mem_take hx)
      have hb2 := term_bound h3 (hms m hmm)
      have hlen : (l.take i).length ≤ 40 := by rw [List.length_take]; omega
      rw [hval] at hb2
      have hw1 : IntKind.i64.wrap (m.k * y) = m.k * y := i64 (by omega)
      have hw2 : IntKind.i64.wrap (c + linV vals (l.take i) + m.k * y) = c + linV vals (l.take i) + m.k * y := i64 (by omega)
      simp (implicitDefEqProofs := false) only [a1, a2, a3, a4, ltT hlt, encM_g0 hm, encM_g1 hm, encM_len, inc64 hlt (by omega : l.length ≤ 4611686018427387904), Nat.mul_one, encI_g hy, hw1, hw2, go_sem, reduceCtorEq, Nat.reduceAdd, Nat.reduceMul, Nat.reduceLeDiff, Nat.reduceLT, Nat.reduceEqDiff, Int.reduceNegSucc, ↓gs_tt, ↓gs_ff, ↓gs_tf, ↓gs_ft]
      refine ⟨⟨by omega, by omega⟩, ⟨by omega, by omega⟩, ⟨by omega, by omega⟩, n - 1, by omega, i + 1, by omega, ?_, rfl⟩
      rw [take_snoc hm, linV_app]; simp only [linV, hval, Int.add_zero]; rw [Int.add_assoc]
    · simp (implicitDefEqProofs := false) only [a1, a2, a3, a4, ltF hge, List.take_of_length_le hge, go_sem, reduceCtorEq, Nat.reduceAdd, Nat.reduceMul, Nat.reduceLeDiff, Nat.reduceLT, Nat.reduceEqDiff, Int.reduceNegSucc, ↓gs_tt, ↓gs_ff, ↓gs_tf, ↓gs_ft]
/-- What Equal tells. -/
def equalR (x : Cons) (v : Int) : Int × List Mono × Int :=
  if rightB [x] v = false then (0, [], 1) else if (!x.eq || !oneB (kOf x.t.l v)) = true then (0, [], 11)
  else scaleR (putR x.t.c x.t.l v 0 []).1 (putR x.t.c x.t.l v 0 []).2.1 (-(kOf x.t.l v))
theorem Equal_ok (x : Cons) (v : Int) (hx : x.t.l.length ≤ 400000) : VPure FT p37 [.agg (cC x), .int .i64 v] (vTE (equalR x v)) := by
  refine vpure_of_body' (f := p37) rfl rfl ?_
  have hR := right_ok [x] v ⟨by simp, by intro y hy; simp at hy; subst hy; omega⟩
  simp only [encC, List.append_nil, List.length_cons, List.length_nil, Nat.zero_add] at hR
  cases h1 : rightB [x] v with
  | false =>
    have e : equalR x v = (0, [], 1) := by unfold equalR; rw [if_pos h1]
    rw [h1] at hR
    rw [e]
    simp (implicitDefEqProofs := false) only [vTE, encM, go_sem, reduceCtorEq, Nat.reduceAdd, Nat.reduceMul, Nat.reduceLeDiff, Nat.reduceLT, Nat.reduceEqDiff, Int.reduceNegSucc, ↓gs_tt, ↓gs_ff, ↓gs_tf, ↓gs_ft]
    repeat' (first | (with_reducible refine And.intro ?_ ?_) | (with_reducible refine gs_t ?_ ?_) | (with_reducible refine gs_f ?_ ?_) | (intro _) | ((with_reducible apply wCall_pure); (· (simp (implicitDefEqProofs := false) only [go_sem, reduceCtorEq, Nat.reduceAdd, Nat.reduceMul, Nat.reduceLeDiff, Nat.reduceLT, Nat.reduceEqDiff, Int.reduceNegSucc, ↓gs_tt, ↓gs_ff, ↓gs_tf, ↓gs_ft] <;> rfl)); (· (first | exact K_ok _ _ _ (by omega) | exact hR)); (· rfl); (· (first | exact .inl rfl | exact .inr rfl)); (simp (implicitDefEqProofs := false) only [Bool.not_false, encM, go_sem, reduceCtorEq, Nat.reduceAdd, Nat.reduceMul, Nat.reduceLeDiff, Nat.reduceLT, Nat.reduceEqDiff, Int.reduceNegSucc, ↓gs_tt, ↓gs_ff, ↓gs_tf, ↓gs_ft])) | ((with_reducible apply wCall_freeze); (· (simp (implicitDefEqProofs := false) only [go_sem, reduceCtorEq, Nat.reduceAdd, Nat.reduceMul, Nat.reduceLeDiff, Nat.reduceLT, Nat.reduceEqDiff, Int.reduceNegSucc, ↓gs_tt, ↓gs_ff, ↓gs_tf, ↓gs_ft] <;> rfl)); (simp (implicitDefEqProofs := false) only [go_sem, reduceCtorEq, Nat.reduceAdd, Nat.reduceMul, Nat.reduceLeDiff, Nat.reduceLT, Nat.reduceEqDiff, Int.reduceNegSucc, ↓gs_tt, ↓gs_ff, ↓gs_tf, ↓gs_ft]); (with_reducible apply wCall_pure); (· (simp (implicitDefEqProofs := false) only [go_sem, reduceCtorEq, Nat.reduceAdd, Nat.reduceMul, Nat.reduceLeDiff, Nat.reduceLT, Nat.reduceEqDiff, Int.reduceNegSucc, ↓gs_tt, ↓gs_ff, ↓gs_tf, ↓gs_ft] <;> rfl)); (· (first | exact K_ok _ _ _ (by omega) | exact hR)); (· rfl); (· (exact .inr rfl)); (simp (implicitDefEqProofs := false) only [Bool.not_false, encM, go_sem, reduceCtorEq, Nat.reduceAdd, Nat.reduceMul, Nat.reduceLeDiff, Nat.reduceLT, Nat.reduceEqDiff, Int.reduceNegSucc, ↓gs_tt, ↓gs_ff, ↓gs_tf, ↓gs_ft])) | fail)
  | true =>
  rw [h1] at hR
  cases h2 : (!x.eq || !oneB (kOf x.t.l v)) with
  | true =>
    have e : equalR x v = (0, [], 11) := by unfold equalR; rw [if_neg (by rw [h1]; simp), if_pos h2]
    rw [e]
    simp (implicitDefEqProofs := false) only [vTE, encM, go_sem, reduceCtorEq, Nat.reduceAdd, Nat.reduceMul, Nat.reduceLeDiff, Nat.reduceLT, Nat.reduceEqDiff, Int.reduceNegSucc, ↓gs_tt, ↓gs_ff, ↓gs_tf, ↓gs_ft]
    repeat' (first | (with_reducible refine And.intro ?_ ?_) | (with_reducible refine gs_t ?_ ?_) | (with_reducible refine gs_f ?_ ?_) | (intro _) | ((with_reducible apply wCall_pure); (· (simp (implicitDefEqProofs := false) only [go_sem, reduceCtorEq, Nat.reduceAdd, Nat.reduceMul, Nat.reduceLeDiff, Nat.reduceLT, Nat.reduceEqDiff, Int.reduceNegSucc, ↓gs_tt, ↓gs_ff, ↓gs_tf, ↓gs_ft] <;> rfl)); (· (first | exact K_ok _ _ _ (by omega) | exact hR | exact one_ok _)); (· rfl); (· (first | exact .inl rfl | exact .inr rfl)); (simp (implicitDefEqProofs := false) only [Bool.not_true, encM, go_sem, reduceCtorEq, Nat.reduceAdd, Nat.reduceMul, Nat.reduceLeDiff, Nat.reduceLT, Nat.reduceEqDiff, Int.reduceNegSucc, ↓gs_tt, ↓gs_ff, ↓gs_tf, ↓gs_ft])) | ((with_reducible apply wCall_freeze); (· (simp (implicitDefEqProofs := false) only [go_sem, reduceCtorEq, Nat.reduceAdd, Nat.reduceMul, Nat.reduceLeDiff, Nat.reduceLT, Nat.reduceEqDiff, Int.reduceNegSucc, ↓gs_tt, ↓gs_ff, ↓gs_tf, ↓gs_ft] <;> rfl)); (simp (implicitDefEqProofs := false) only [go_sem, reduceCtorEq, Nat.reduceAdd, Nat.reduceMul, Nat.reduceLeDiff, Nat.reduceLT, Nat.reduceEqDiff, Int.reduceNegSucc, ↓gs_tt, ↓gs_ff, ↓gs_tf, ↓gs_ft]); (with_reducible apply wCall_pure); (· (simp (implicitDefEqProofs := false) only [go_sem, reduceCtorEq, Nat.reduceAdd, Nat.reduceMul, Nat.reduceLeDiff, Nat.reduceLT, Nat.reduceEqDiff, Int.reduceNegSucc, ↓gs_tt, ↓gs_ff, ↓gs_tf, ↓gs_ft] <;> rfl)); (· (first | exact K_ok _ _ _ (by omega) | exact hR | exact one_ok _)); (· rfl); (· (exact .inr rfl)); (simp (implicitDefEqProofs := false) only [Bool.not_true, encM, go_sem, reduceCtorEq, Nat.reduceAdd, Nat.reduceMul, Nat.reduceLeDiff, Nat.reduceLT, Nat.reduceEqDiff, Int.reduceNegSucc, ↓gs_tt, ↓gs_ff, ↓gs_tf, ↓gs_ft])) | fail)
    all_goals first | trivial | (rename_i a b; rw [a, b] at h2; cases h2)
  | false =>
    have hok : okC x = true := by
      simp only [rightB, Bool.and_eq_true] at h1
      exact List.all_eq_true.1 h1.2 x (by simp)
    have hkb := kOf_bound v (okC_parts hok).2.2
    have hw : IntKind.i64.wrap (-(kOf x.t.l v)) = -(kOf x.t.l v) := i64 (by omega)
    obtain ⟨P, hP⟩ : ∃ P, P = putR x.t.c x.t.l v 0 [] := ⟨_, rfl⟩
    have e : equalR x v = scaleR P.1 P.2.1 (-(kOf x.t.l v)) := by unfold equalR; rw [if_neg (by rw [h1]; simp), if_neg (by rw [h2]; simp), hP]
    have hPut := Put_ok x.t.c x.t.l v 0 [] hx (by simp)
    have hPl : P.2.1.length ≤ 400000 := by rw [hP]; have := putR_len x.t.c x.t.l v 0 []; simp at this; omega
    rw [← hP] at hPut
    simp only [encM, List.length_nil] at hPut
    have hS := Scale_ok P.1 P.2.1 (-(kOf x.t.l v)) (by omega)
    have e1 : x.eq = true := by simp at h2; exact h2.1
    have e2 : oneB (kOf x.t.l v) = true := by simp at h2; exact h2.2
    rw [e]
    simp (implicitDefEqProofs := false) only [vTE, e1, go_sem, reduceCtorEq, Nat.reduceAdd, Nat.reduceMul, Nat.reduceLeDiff, Nat.reduceLT, Nat.reduceEqDiff, Int.reduceNegSucc, ↓gs_tt, ↓gs_ff, ↓gs_tf, ↓gs_ft]
    simp only [e1] at hR
    repeat' (first | (with_reducible refine And.intro ?_ ?_) | (with_reducible refine gs_t ?_ ?_) | (with_reducible refine gs_f ?_ ?_) | (intro _) | ((with_reducible apply wCall_pure); (· (simp (implicitDefEqProofs := false) only [go_sem, reduceCtorEq, Nat.reduceAdd, Nat.reduceMul, Nat.reduceLeDiff, Nat.reduceLT, Nat.reduceEqDiff, Int.reduceNegSucc, ↓gs_tt, ↓gs_ff, ↓gs_tf, ↓gs_ft] <;> rfl)); (· (first | exact K_ok _ _ _ (by omega) | exact hR | exact one_ok _)); (· rfl); (· (first | exact .inl rfl | exact .inr rfl)); (simp (implicitDefEqProofs := false) only [Bool.not_true, e1, e2, go_sem, reduceCtorEq, Nat.reduceAdd, Nat.reduceMul, Nat.reduceLeDiff, Nat.reduceLT, Nat.reduceEqDiff, Int.reduceNegSucc, ↓gs_tt, ↓gs_ff, ↓gs_tf, ↓gs_ft])) | ((with_reducible apply wCall_freeze); (· (simp (implicitDefEqProofs := false) only [go_sem, reduceCtorEq, Nat.reduceAdd, Nat.reduceMul, Nat.reduceLeDiff, Nat.reduceLT, Nat.reduceEqDiff, Int.reduceNegSucc, ↓gs_tt, ↓gs_ff, ↓gs_tf, ↓gs_ft] <;> rfl)); (simp (implicitDefEqProofs := false) only [go_sem, reduceCtorEq, Nat.reduceAdd, Nat.reduceMul, Nat.reduceLeDiff, Nat.reduceLT, Nat.reduceEqDiff, Int.reduceNegSucc, ↓gs_tt, ↓gs_ff, ↓gs_tf, ↓gs_ft]); (with_reducible apply wCall_pure); (· (simp (implicitDefEqProofs := false) only [go_sem, reduceCtorEq, Nat.reduceAdd, Nat.reduceMul, Nat.reduceLeDiff, Nat.reduceLT, Nat.reduceEqDiff, Int.reduceNegSucc, ↓gs_tt, ↓gs_ff, ↓gs_tf, ↓gs_ft] <;> rfl)); (· (first | exact K_ok _ _ _ (by omega) | exact hR | exact one_ok _)); (· rfl); (· (exact .inr rfl)); (simp (implicitDefEqProofs := false) only [Bool.not_true, e1, e2, go_sem, reduceCtorEq, Nat.reduceAdd, Nat.reduceMul, Nat.reduceLeDiff, Nat.reduceLT, Nat.reduceEqDiff, Int.reduceNegSucc, ↓gs_tt, ↓gs_ff, ↓gs_tf, ↓gs_ft])) | fail)
    refine wCall_wk (args' := [.agg [.int .i64 x.t.c, .fz x.t.l.length none 2 (encM x.t.l)], .int .i64 v, .agg [.int .i64 0, .fz 0 none 2 []]]) (by simp [wkL, wk]) ?_
    repeat' (first | (with_reducible refine And.intro ?_ ?_) | (with_reducible refine gs_t ?_ ?_) | (with_reducible refine gs_f ?_ ?_) | (intro _) | ((with_reducible apply wCall_pure); (· (simp (implicitDefEqProofs := false) only [go_sem, reduceCtorEq, Nat.reduceAdd, Nat.reduceMul, Nat.reduceLeDiff, Nat.reduceLT, Nat.reduceEqDiff, Int.reduceNegSucc, ↓gs_tt, ↓gs_ff, ↓gs_tf, ↓gs_ft] <;> rfl)); (· (first | exact hPut | exact hS)); (· rfl); (· (first | exact .inl rfl | exact .inr rfl)); (simp (implicitDefEqProofs := false) only [vTE, hw, go_sem, reduceCtorEq, Nat.reduceAdd, Nat.reduceMul, Nat.reduceLeDiff, Nat.reduceLT, Nat.reduceEqDiff, Int.reduceNegSucc, ↓gs_tt, ↓gs_ff, ↓gs_tf, ↓gs_ft])) | ((with_reducible apply wCall_freeze); (· (simp (implicitDefEqProofs := false) only [go_sem, reduceCtorEq, Nat.reduceAdd, Nat.reduceMul, Nat.reduceLeDiff, Nat.reduceLT, Nat.reduceEqDiff, Int.reduceNegSucc, ↓gs_tt, ↓gs_ff, ↓gs_tf, ↓gs_ft] <;> rfl)); (simp (implicitDefEqProofs := false) only [go_sem, reduceCtorEq, Nat.reduceAdd, Nat.reduceMul, Nat.reduceLeDiff, Nat.reduceLT, Nat.reduceEqDiff, Int.reduceNegSucc, ↓gs_tt, ↓gs_ff, ↓gs_tf, ↓gs_ft]); (with_reducible apply wCall_pure); (· (simp (implicitDefEqProofs := false) only [go_sem, reduceCtorEq, Nat.reduceAdd, Nat.reduceMul, Nat.reduceLeDiff, Nat.reduceLT, Nat.reduceEqDiff, Int.reduceNegSucc, ↓gs_tt, ↓gs_ff, ↓gs_tf, ↓gs_ft] <;> rfl)); (· (first | exact hPut | exact hS)); (· rfl); (· (exact .inr rfl)); (simp (implicitDefEqProofs := false) only [vTE, hw, go_sem, reduceCtorEq, Nat.reduceAdd, Nat.reduceMul, Nat.reduceLeDiff, Nat.reduceLT, Nat.reduceEqDiff, Int.reduceNegSucc, ↓gs_tt, ↓gs_ff, ↓gs_tf, ↓gs_ft])) | fail)
end Go.Proofs.Ythdlkpmhjbaplaa.Dx
