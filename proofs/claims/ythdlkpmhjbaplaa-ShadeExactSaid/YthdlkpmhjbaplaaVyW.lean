/- What Equal and the references Told, Value come to. No statement of this seat is proved here. -/
import Derived.Test.YthdlkpmhjbaplaaVyV
set_option autoImplicit false
set_option linter.unusedSimpArgs false
set_option linter.unusedVariables false
set_option maxRecDepth 10000
namespace Go.Proofs.Ythdlkpmhjbaplaa.Dx
open Go
attribute [local irreducible] wCall wLoop
attribute [local go_sem] decide_true decide_false Bool.and_true Bool.true_and Bool.and_self Bool.false_and Bool.and_false vMs vCs vIs Slots At Tr.get_z Tr.get_l Tr.get_r Tr.get_e Tr.set_z_e Tr.set_z_n Tr.set_l_e Tr.set_l_n Tr.set_r_e Tr.set_r_n eOs_n eOs_c eDs_n eDs_c ekOs ekDs ekPut ekBack ekSeq_n ekSeq_x ekSeq_r ekBlk_n ekBlk_x ekBlk_r eO_mk eO_gd eO_loc eO_locb eD_mk eD_loc eD_locb eD_gd eDr eC_skip eC_reg eC_drw eC_seq eC_cond eC_block eC_loop eC_exit eC_ret eRetW_n eRetW_r wk wkL eRet_n eRet_r ekLd_n ekLd_x ekLd_r ekLp_n ekLp_x ekLp_r wI wBin wBd vev vov vovs vplace vouter ofDV ofDVs vcells spl vfills vput vuse vuseP vback vbackP wOf vbare isVarV vkeep hget hset hdels hdel hkeys live vw vwL keysV keysL pureV pureL vsrc veqs vmx vmn vT cT vC cC VOb.cells vres vrsL vrs1 vone List.length_cons List.length_nil List.getElem?_cons_zero List.getElem?_cons_succ List.take_succ_cons List.take_zero List.drop_succ_cons List.drop_zero List.drop_nil List.take_nil List.nil_append List.cons_append List.append_nil Option.some.injEq Nat.zero_add Nat.add_zero if_true if_false ite_true ite_false true_and and_true false_and and_false true_implies implies_true false_implies Bool.true_eq_false Bool.false_eq_true Bool.not_true Bool.not_false eq_self_iff_true Int.toNat_natCast Int.ofNat_eq_natCast Int.ofNat_zero Int.ofNat_one Int.cast_ofNat_Int VV.int.injEq VV.bool.injEq cond_true cond_false

theorem nb10 : decide ((1 : Int) = 0) = false := rfl
/-- What a term's monos come to. -/
def linV (vals : List Int) : List Mono → Int
  | [] => 0
  | m :: l => m.k * valOf vals m.v + linV vals l
theorem linV_app (vals : List Int) : ∀ a b : List Mono, linV vals (a ++ b) = linV vals a + linV vals b
  | [], b => by simp [linV]
  | m :: a, b => by simp only [List.cons_append, linV, linV_app vals a b]; omega
theorem linV_bound {vals : List Int} (h : vals.any outB = false) : ∀ {l : List Mono}, (∀ m ∈ l, okM m = true) → -(l.length * 2251799813685248 : Int) ≤ linV vals l ∧ linV vals l ≤ l.length * 2251799813685248
  | [], _ => by simp [linV]
  | m :: l, hm => by
    have h1 := linV_bound h (l := l) fun x hx => hm x (List.mem_cons_of_mem _ hx)
    have h2 := term_bound h (hm m List.mem_cons_self)
    simp only [linV, List.length_cons]
    omega
def toldE (c : Int) (l : List Mono) (vals : List Int) : Int :=
  if okT c l = false then 1 else if l.any (fun m => decide ((vals.length : Int) ≤ m.v)) = true then 5 else if vals.any outB = true then 1 else 0
theorem told_parts {c : Int} {l : List Mono} {vals : List Int} (h : toldE c l vals = 0) : okT c l = true ∧ (∀ m ∈ l, 0 ≤ m.v ∧ m.v < vals.length) ∧ vals.any outB = false ∧ ∀ m ∈ l, okM m = true := by
  unfold toldE at h
  split at h
  · omega
  · rename_i h1
    split at h
    · omega
    · rename_i h2
      split at h
      · omega
      · rename_i h3
        have ho : okT c l = true := by simpa using h1
        have hall := (okC_parts (x := ⟨⟨c, l⟩, false⟩) ho).2.2
        refine ⟨ho, fun m hm => ?_, by simpa using h3, hall⟩
        have h4 := (okM_spec.1 (hall m hm)).1
        have h5 := List.any_eq_false.1 (by simpa using h2 : l.any (fun m => decide ((vals.length : Int) ≤ m.v)) = false) m hm
        simp at h5; omega
theorem Told_ok (c : Int) (l : List Mono) (vals : List Int) (hl : l.length ≤ 1000000) (hv : vals.length ≤ 1000000) : VPure FT p38 [.agg [.int .i64 c, .fz l.length none 2 (encM l)], .fz vals.length none 1 (encI vals)] (.int .i64 (toldE c l vals)) := by
  refine vpure_of_body (f := p38) rfl rfl ?_
  cases h1 : okT c l with
  | false =>
    have e : toldE c l vals = 1 := by unfold toldE; rw [if_pos h1]
    rw [e]
    simp (implicitDefEqProofs := false) only [go_sem, reduceCtorEq, Nat.reduceAdd, Nat.reduceMul, Nat.reduceLeDiff, Nat.reduceLT, Nat.reduceEqDiff, Int.reduceNegSucc, ↓gs_tt, ↓gs_ff, ↓gs_tf, ↓gs_ft]
    repeat' (first | (with_reducible refine And.intro ?_ ?_) | (with_reducible refine gs_t ?_ ?_) | (with_reducible refine gs_f ?_ ?_) | (intro _) | ((with_reducible apply wCall_any); (· (simp (implicitDefEqProofs := false) only [go_sem, reduceCtorEq, Nat.reduceAdd, Nat.reduceMul, Nat.reduceLeDiff, Nat.reduceLT, Nat.reduceEqDiff, Int.reduceNegSucc, ↓gs_tt, ↓gs_ff, ↓gs_tf, ↓gs_ft] <;> rfl)); (· (exact Right_ok _ _ (by omega))); (· rfl); (· rfl); (· (first | exact Eq.refl true | exact Eq.refl false)); (simp (implicitDefEqProofs := false) only [h1, Bool.not_false, go_sem, reduceCtorEq, Nat.reduceAdd, Nat.reduceMul, Nat.reduceLeDiff, Nat.reduceLT, Nat.reduceEqDiff, Int.reduceNegSucc, ↓gs_tt, ↓gs_ff, ↓gs_tf, ↓gs_ft])) | fail)
  | true =>
  have hT : toldE c l vals = if l.any (fun m => decide ((vals.length : Int) ≤ m.v)) = true then 5 else if vals.any outB = true then 1 else 0 := by unfold toldE; rw [if_neg (by simp [h1])]
  simp (implicitDefEqProofs := false) only [go_sem, reduceCtorEq, Nat.reduceAdd, Nat.reduceMul, Nat.reduceLeDiff, Nat.reduceLT, Nat.reduceEqDiff, Int.reduceNegSucc, ↓gs_tt, ↓gs_ff, ↓gs_tf, ↓gs_ft]
  repeat' (first | (with_reducible refine And.intro ?_ ?_) | (with_reducible refine gs_t ?_ ?_) | (with_reducible refine gs_f ?_ ?_) | (intro _) | ((with_reducible apply wCall_any); (· (simp (implicitDefEqProofs := false) only [go_sem, reduceCtorEq, Nat.reduceAdd, Nat.reduceMul, Nat.reduceLeDiff, Nat.reduceLT, Nat.reduceEqDiff, Int.reduceNegSucc, ↓gs_tt, ↓gs_ff, ↓gs_tf, ↓gs_ft] <;> rfl)); (· (exact Right_ok _ _ (by omega))); (· rfl); (· rfl); (· (first | exact Eq.refl true | exact Eq.refl false)); (simp (implicitDefEqProofs := false) only [h1, Bool.not_true, go_sem, reduceCtorEq, Nat.reduceAdd, Nat.reduceMul, Nat.reduceLeDiff, Nat.reduceLT, Nat.reduceEqDiff, Int.reduceNegSucc, ↓gs_tt, ↓gs_ff, ↓gs_tf, ↓gs_ft])) | fail)
  refine wLoop_by (fun n s => ∃ i : Nat, i + n = l.length ∧ At s [(p1, .fz vals.length none 1 (encI vals)), (p2, .var [.int .i64 c, .fz l.length none 2 (encM l)]), (p5, .int .i64 i)] 0 0 [] ∧ l.any (fun m => decide ((vals.length : Int) ≤ m.v)) = (l.drop i).any (fun m => decide ((vals.length : Int) ≤ m.v))) l.length ?_ ?_
  · exact ⟨0, by simp, by simp (implicitDefEqProofs := false) only [go_sem, reduceCtorEq, Nat.reduceAdd, Nat.reduceMul, Nat.reduceLeDiff, Nat.reduceLT, Nat.reduceEqDiff, Int.reduceNegSucc, ↓gs_tt, ↓gs_ff, ↓gs_tf, ↓gs_ft], by simp⟩
  · rintro n ⟨e, nx, w, h⟩ ⟨i, hi, ⟨⟨s1, s2, s3, -⟩, rfl, rfl, rfl⟩, hk⟩
    rcases Nat.lt_or_ge i l.length with hlt | hge
    · obtain ⟨m, hm⟩ := has hlt
      rw [drop_cons hm, List.any_cons] at hk
      simp (implicitDefEqProofs := false) only [s1, s2, s3, ltT hlt, encM_g0 hm, encM_len, inc64 hlt (by omega : l.length ≤ 4611686018427387904), go_sem, reduceCtorEq, Nat.reduceAdd, Nat.reduceMul, Nat.reduceLeDiff, Nat.reduceLT, Nat.reduceEqDiff, Int.reduceNegSucc, ↓gs_tt, ↓gs_ff, ↓gs_tf, ↓gs_ft]
      refine ⟨⟨by omega, by omega⟩, gs_t (fun h => ?_) (fun h => ?_)⟩
      · rw [hT, hk, h]; rfl
      · refine ⟨n - 1, by omega, i + 1, by omega, rfl, ?_⟩
        rw [hk, h]; rfl
    · rw [List.drop_eq_nil_of_le hge] at hk
      simp (implicitDefEqProofs := false) only [s1, s2, s3, ltF hge, go_sem, reduceCtorEq, Nat.reduceAdd, Nat.reduceMul, Nat.reduceLeDiff, Nat.reduceLT, Nat.reduceEqDiff, Int.reduceNegSucc, ↓gs_tt, ↓gs_ff, ↓gs_tf, ↓gs_ft]
      clear s1 s2 s3
      refine wLoop_by (fun n s => ∃ i : Nat, i + n = vals.length ∧ At s [(p1, .fz vals.length none 1 (encI vals)), (p6, .int .i64 i)] 0 0 [] ∧ vals.any outB = (vals.drop i).any outB) vals.length ?_ ?_
      · exact ⟨0, by simp, by simp (implicitDefEqProofs := false) only [go_sem, reduceCtorEq, Nat.reduceAdd, Nat.reduceMul, Nat.reduceLeDiff, Nat.reduceLT, Nat.reduceEqDiff, Int.reduceNegSucc, ↓gs_tt, ↓gs_ff, ↓gs_tf, ↓gs_ft], by simp⟩
      · rintro n ⟨e, nx, w, h⟩ ⟨i, hi, ⟨⟨s1, s2, -⟩, rfl, rfl, rfl⟩, hk2⟩
        rcases Nat.lt_or_ge i vals.length with hlt | hge
        · obtain ⟨y, hy⟩ := has hlt
          rw [drop_cons hy, List.any_cons] at hk2
          have hin : outB y = !inB y (-2147483648) 2147483647 := by unfold outB inB; by_cases a : y < -2147483648 <;> by_cases b : 2147483647 < y <;> simp [a, b] <;> omega
          simp (implicitDefEqProofs := false) only [s1, s2, ltT hlt, Nat.mul_one, encI_g hy, encI_len, inc64 hlt (by omega : vals.length ≤ 4611686018427387904), go_sem, reduceCtorEq, Nat.reduceAdd, Nat.reduceMul, Nat.reduceLeDiff, Nat.reduceLT, Nat.reduceEqDiff, Int.reduceNegSucc, ↓gs_tt, ↓gs_ff, ↓gs_tf, ↓gs_ft]
          repeat' (first | (with_reducible refine And.intro ?_ ?_) | (with_reducible refine gs_t ?_ ?_) | (with_reducible refine gs_f ?_ ?_) | (intro _) | ((with_reducible apply wCall_any); (· (simp (implicitDefEqProofs := false) only [go_sem, reduceCtorEq, Nat.reduceAdd, Nat.reduceMul, Nat.reduceLeDiff, Nat.reduceLT, Nat.reduceEqDiff, Int.reduceNegSucc, ↓gs_tt, ↓gs_ff, ↓gs_tf, ↓gs_ft] <;> rfl)); (· (exact in_ok _ _ _)); (· rfl); (· rfl); (· (first | exact Eq.refl true | exact Eq.refl false)); (simp (implicitDefEqProofs := false) only [inc64 hlt (by omega : vals.length ≤ 4611686018427387904), go_sem, reduceCtorEq, Nat.reduceAdd, Nat.reduceMul, Nat.reduceLeDiff, Nat.reduceLT, Nat.reduceEqDiff, Int.reduceNegSucc, ↓gs_tt, ↓gs_ff, ↓gs_tf, ↓gs_ft])) | fail)
          all_goals (try omega)
          · rename_i h
            rw [hT, hk, hk2, hin, h]; rfl
          · rename_i h
            refine ⟨n - 1, by omega, i + 1, by omega, rfl, ?_⟩
            rw [hk2, hin, h]; rfl
        · rw [List.drop_eq_nil_of_le hge] at hk2
          simp (implicitDefEqProofs := false) only [s1, s2, ltF hge, go_sem, reduceCtorEq, Nat.reduceAdd, Nat.reduceMul, Nat.reduceLeDiff, Nat.reduceLT, Nat.reduceEqDiff, Int.reduceNegSucc, ↓gs_tt, ↓gs_ff, ↓gs_tf, ↓gs_ft]
          rw [hT, hk, hk2]; rfl
theorem rValue_ok (c : Int) (l : List Mono) (vals : List Int) (h0 : toldE c l vals = 0) (hv : vals.length ≤ 1000000) : VPure FT p40 [.agg [.int .i64 c, .fz l.length none 2 (encM l)], .fz vals.length none 1 (encI vals)] (.int .i64 (c + linV vals l)) := by
  refine vpure_of_body (f := p40) rfl rfl ?_
  obtain ⟨hok, hrg, h3, hms⟩ := told_parts h0
  obtain ⟨⟨hc1, hc2⟩, h40, _⟩ := okC_parts (x := ⟨⟨c, l⟩, false⟩) hok
  simp only at hc1 hc2 h40
  simp (implicitDefEqProofs := false) only [go_sem, reduceCtorEq, Nat.reduceAdd, Nat.reduceMul, Nat.reduceLeDiff, Nat.reduceLT, Nat.reduceEqDiff, Int.reduceNegSucc, ↓gs_tt, ↓gs_ff, ↓gs_tf, ↓gs_ft]
  refine wLoop_by (fun n s => ∃ i : Nat, i + n = l.length ∧ At s [(p1, .fz vals.length none 1 (encI vals)), (p2, .var [.int .i64 c, .fz l.length none 2 (encM l)]), (p5, .int .i64 (c + linV vals (l.take i))), (p6, .int .i64 i)] 0 0 []) l.length ?_ ?_
  · exact ⟨0, by simp, by simp (implicitDefEqProofs := false) only [go_sem, reduceCtorEq, Nat.reduceAdd, Nat.reduceMul, Nat.reduceLeDiff, Nat.reduceLT, Nat.reduceEqDiff, Int.reduceNegSucc, ↓gs_tt, ↓gs_ff, ↓gs_tf, ↓gs_ft]; simp [linV]⟩
  · rintro n ⟨e', nx, w, h⟩ ⟨i, hi, ⟨a1, a2, a3, a4, -⟩, rfl, rfl, rfl⟩
    rcases Nat.lt_or_ge i l.length with hlt | hge
    · obtain ⟨m, hm⟩ := has hlt
      have hmm := List.mem_of_getElem? hm
      obtain ⟨r1, r2⟩ := hrg m hmm
      obtain ⟨y, hy⟩ : ∃ y, vals[m.v.toNat]? = some y := has (by omega)
      have hval : valOf vals m.v = y := by unfold valOf; rw [hy]; rfl
      have hb1 := linV_bound h3 (l := l.take i) fun x hx => hms x (List.mem_of_mem_take hx)
      have hb2 := term_bound h3 (hms m hmm)
      have hlen : (l.take i).length ≤ 40 := by rw [List.length_take]; omega
      rw [hval] at hb2
      have hw1 : IntKind.i64.wrap (m.k * y) = m.k * y := i64 (by omega)
      have hw2 : IntKind.i64.wrap (c + linV vals (l.take i) + m.k * y) = c + linV vals (l.take i) + m.k * y := i64 (by omega)
      simp (implicitDefEqProofs := false) only [a1, a2, a3, a4, ltT hlt, encM_g0 hm, encM_g1 hm, encM_len, inc64 hlt (by omega : l.length ≤ 4611686018427387904), Nat.mul_one, encI_g hy, hw1, hw2, go_sem, reduceCtorEq, Nat.reduceAdd, Nat.reduceMul, Nat.reduceLeDiff, Nat.reduceLT, Nat.reduceEqDiff, Int.reduceNegSucc, ↓gs_tt, ↓gs_ff, ↓gs_tf, ↓gs_ft]
      refine ⟨⟨by omega, by omega⟩, ⟨by omega, by omega⟩, ⟨by omega, by omega⟩, n - 1, by omega, i + 1, by omega, ?_, rfl⟩
      rw [take_snoc hm, linV_app]; simp only [linV, hval, Int.add_zero]; rw [Int.add_assoc]
    · simp (implicitDefEqProofs := false) only [a1, a2, a3, a4, ltF hge, List.take_of_length_le hge, go_sem, reduceCtorEq, Nat.reduceAdd, Nat.reduceMul, Nat.reduceLeDiff, Nat.reduceLT, Nat.reduceEqDiff, Int.reduceNegSucc, ↓gs_tt, ↓gs_ff, ↓gs_tf, ↓gs_ft]
/-- What Equal tells. -/
def equalR (x : Cons) (v : Int) : Int × List Mono × Int :=
  if rightB [x] v = false then (0, [], 1) else if (!x.eq || !oneB (kOf x.t.l v)) = true then (0, [], 11)
  else scaleR (putR x.t.c x.t.l v 0 []).1 (putR x.t.c x.t.l v 0 []).2.1 (-(kOf x.t.l v))
theorem Equal_ok (x : Cons) (v : Int) (hx : x.t.l.length ≤ 400000) : VPure FT p37 [.agg (cC x), .int .i64 v] (vTE (equalR x v)) := by
  refine vpure_of_body' (f := p37) rfl rfl ?_
  have hR := right_ok [x] v ⟨by simp, by intro y hy; simp at hy; subst hy; omega⟩
  simp only [encC, List.append_nil, List.length_cons, List.length_nil, Nat.zero_add] at hR
  cases h1 : rightB [x] v with
  | false =>
    have e : equalR x v = (0, [], 1) := by unfold equalR; rw [if_pos h1]
    rw [h1] at hR
    rw [e]
    simp (implicitDefEqProofs := false) only [vTE, encM, go_sem, reduceCtorEq, Nat.reduceAdd, Nat.reduceMul, Nat.reduceLeDiff, Nat.reduceLT, Nat.reduceEqDiff, Int.reduceNegSucc, ↓gs_tt, ↓gs_ff, ↓gs_tf, ↓gs_ft]
    repeat' (first | (with_reducible refine And.intro ?_ ?_) | (with_reducible refine gs_t ?_ ?_) | (with_reducible refine gs_f ?_ ?_) | (intro _) | ((with_reducible apply wCall_any); (· (simp (implicitDefEqProofs := false) only [go_sem, reduceCtorEq, Nat.reduceAdd, Nat.reduceMul, Nat.reduceLeDiff, Nat.reduceLT, Nat.reduceEqDiff, Int.reduceNegSucc, ↓gs_tt, ↓gs_ff, ↓gs_tf, ↓gs_ft] <;> rfl)); (· (first | exact K_ok _ _ _ (by omega) | exact hR)); (· rfl); (· rfl); (· (first | exact Eq.refl true | exact Eq.refl false)); (simp (implicitDefEqProofs := false) only [Bool.not_false, encM, go_sem, reduceCtorEq, Nat.reduceAdd, Nat.reduceMul, Nat.reduceLeDiff, Nat.reduceLT, Nat.reduceEqDiff, Int.reduceNegSucc, ↓gs_tt, ↓gs_ff, ↓gs_tf, ↓gs_ft])) | fail)
  | true =>
  rw [h1] at hR
  cases h2 : (!x.eq || !oneB (kOf x.t.l v)) with
  | true =>
    have e : equalR x v = (0, [], 11) := by unfold equalR; rw [if_neg (by rw [h1]; simp), if_pos h2]
    rw [e]
    simp (implicitDefEqProofs := false) only [vTE, encM, go_sem, reduceCtorEq, Nat.reduceAdd, Nat.reduceMul, Nat.reduceLeDiff, Nat.reduceLT, Nat.reduceEqDiff, Int.reduceNegSucc, ↓gs_tt, ↓gs_ff, ↓gs_tf, ↓gs_ft]
    repeat' (first | (with_reducible refine And.intro ?_ ?_) | (with_reducible refine gs_t ?_ ?_) | (with_reducible refine gs_f ?_ ?_) | (intro _) | ((with_reducible apply wCall_any); (· (simp (implicitDefEqProofs := false) only [go_sem, reduceCtorEq, Nat.reduceAdd, Nat.reduceMul, Nat.reduceLeDiff, Nat.reduceLT, Nat.reduceEqDiff, Int.reduceNegSucc, ↓gs_tt, ↓gs_ff, ↓gs_tf, ↓gs_ft] <;> rfl)); (· (first | exact K_ok _ _ _ (by omega) | exact hR | exact one_ok _)); (· rfl); (· rfl); (· (first | exact Eq.refl true | exact Eq.refl false)); (simp (implicitDefEqProofs := false) only [Bool.not_true, encM, go_sem, reduceCtorEq, Nat.reduceAdd, Nat.reduceMul, Nat.reduceLeDiff, Nat.reduceLT, Nat.reduceEqDiff, Int.reduceNegSucc, ↓gs_tt, ↓gs_ff, ↓gs_tf, ↓gs_ft])) | fail)
    all_goals first | trivial | (rename_i a b; rw [a, b] at h2; cases h2)
  | false =>
    have hok : okC x = true := by
      simp only [rightB, Bool.and_eq_true] at h1
      exact List.all_eq_true.1 h1.2 x (by simp)
    have hkb := kOf_bound v (okC_parts hok).2.2
    have hw : IntKind.i64.wrap (-(kOf x.t.l v)) = -(kOf x.t.l v) := i64 (by omega)
    obtain ⟨P, hP⟩ : ∃ P, P = putR x.t.c x.t.l v 0 [] := ⟨_, rfl⟩
    have e : equalR x v = scaleR P.1 P.2.1 (-(kOf x.t.l v)) := by unfold equalR; rw [if_neg (by rw [h1]; simp), if_neg (by rw [h2]; simp), hP]
    have hPut := Put_ok x.t.c x.t.l v 0 [] hx (by simp)
    have hPl : P.2.1.length ≤ 400000 := by rw [hP]; have := putR_len x.t.c x.t.l v 0 []; simp at this; omega
    rw [← hP] at hPut
    simp only [encM, List.length_nil] at hPut
    have hS := Scale_ok P.1 P.2.1 (-(kOf x.t.l v)) (by omega)
    have e1 : x.eq = true := by simp at h2; exact h2.1
    have e2 : oneB (kOf x.t.l v) = true := by simp at h2; exact h2.2
    rw [e]
    simp (implicitDefEqProofs := false) only [vTE, e1, go_sem, reduceCtorEq, Nat.reduceAdd, Nat.reduceMul, Nat.reduceLeDiff, Nat.reduceLT, Nat.reduceEqDiff, Int.reduceNegSucc, ↓gs_tt, ↓gs_ff, ↓gs_tf, ↓gs_ft]
    simp only [e1] at hR
    repeat' (first | (with_reducible refine And.intro ?_ ?_) | (with_reducible refine gs_t ?_ ?_) | (with_reducible refine gs_f ?_ ?_) | (intro _) | ((with_reducible apply wCall_any); (· (simp (implicitDefEqProofs := false) only [go_sem, reduceCtorEq, Nat.reduceAdd, Nat.reduceMul, Nat.reduceLeDiff, Nat.reduceLT, Nat.reduceEqDiff, Int.reduceNegSucc, ↓gs_tt, ↓gs_ff, ↓gs_tf, ↓gs_ft] <;> rfl)); (· (first | exact K_ok _ _ _ (by omega) | exact hR | exact one_ok _)); (· rfl); (· rfl); (· (first | exact Eq.refl true | exact Eq.refl false)); (simp (implicitDefEqProofs := false) only [Bool.not_true, e1, e2, go_sem, reduceCtorEq, Nat.reduceAdd, Nat.reduceMul, Nat.reduceLeDiff, Nat.reduceLT, Nat.reduceEqDiff, Int.reduceNegSucc, ↓gs_tt, ↓gs_ff, ↓gs_tf, ↓gs_ft])) | fail)
    refine wCall_wk (args' := [.agg [.int .i64 x.t.c, .fz x.t.l.length none 2 (encM x.t.l)], .int .i64 v, .agg [.int .i64 0, .fz 0 none 2 []]]) (by simp [wkL, wk]) ?_
    repeat' (first | (with_reducible refine And.intro ?_ ?_) | (with_reducible refine gs_t ?_ ?_) | (with_reducible refine gs_f ?_ ?_) | (intro _) | ((with_reducible apply wCall_any); (· (simp (implicitDefEqProofs := false) only [go_sem, reduceCtorEq, Nat.reduceAdd, Nat.reduceMul, Nat.reduceLeDiff, Nat.reduceLT, Nat.reduceEqDiff, Int.reduceNegSucc, ↓gs_tt, ↓gs_ff, ↓gs_tf, ↓gs_ft] <;> rfl)); (· (first | exact hPut | exact hS)); (· rfl); (· rfl); (· (first | exact Eq.refl true | exact Eq.refl false)); (simp (implicitDefEqProofs := false) only [vTE, hw, go_sem, reduceCtorEq, Nat.reduceAdd, Nat.reduceMul, Nat.reduceLeDiff, Nat.reduceLT, Nat.reduceEqDiff, Int.reduceNegSucc, ↓gs_tt, ↓gs_ff, ↓gs_tf, ↓gs_ft])) | fail)
end Go.Proofs.Ythdlkpmhjbaplaa.Dx

/- Plain facts: a term's value by how many times it has each variable; what Put, Equal, Swap tell. No statement of this seat is proved here. -/
set_option autoImplicit false
set_option linter.unusedSimpArgs false
set_option linter.unusedVariables false
namespace Go.Proofs.Ythdlkpmhjbaplaa.Dx
open Go

def sumW (f : Int → Int) : Nat → Int
  | 0 => 0
  | n + 1 => sumW f n + f n
theorem sumW_add (f g : Int → Int) : ∀ n, sumW (fun w => f w + g w) n = sumW f n + sumW g n
  | 0 => rfl
  | n + 1 => by simp only [sumW, sumW_add f g n]; omega
theorem sumW_mul (f : Int → Int) (c : Int) : ∀ n, sumW (fun w => f w * c) n = sumW f n * c
  | 0 => by simp [sumW]
  | n + 1 => by simp only [sumW, sumW_mul f c n, Int.add_mul]
theorem sumW_congr {f g : Int → Int} : ∀ n : Nat, (∀ w : Int, 0 ≤ w → w < n → f w = g w) → sumW f n = sumW g n
  | 0, _ => rfl
  | n + 1, h => by rw [sumW, sumW, sumW_congr n fun w h0 hw => h w h0 (by omega), h n (by omega) (by omega)]
theorem sumW_one (v : Int) (x : Int) : ∀ n : Nat, 0 ≤ v → sumW (fun w => if w = v then x else 0) n = if v < n then x else 0
  | 0, h => by simp [sumW]; omega
  | n + 1, h => by
    rw [sumW, sumW_one v x n h]
    by_cases h1 : v < n
    · rw [if_pos h1, if_neg (by omega), if_pos (by omega)]; omega
    · by_cases h2 : (n : Int) = v
      · rw [if_neg h1, if_pos h2, if_pos (by omega)]; omega
      · rw [if_neg h1, if_neg h2, if_neg (by omega)]; rfl
theorem linV_eq (vals : List Int) : ∀ {l : List Mono} {p : Option Int}, okFrom p l = true → linV vals l = sumW (fun w => kOf l w * valOf vals w) 40
  | [], _, _ => by rw [sumW_congr (g := fun _ => 0 * 0) 40 (fun w _ _ => by simp [kOf])]; rfl
  | m :: l, p, h => by
    obtain ⟨h1, h2, h3⟩ := okFrom_cons.1 h
    have hm := okM_spec.1 h1
    rw [linV, linV_eq vals h3]
    have e : sumW (fun w => kOf (m :: l) w * valOf vals w) 40 = sumW (fun w => kOf l w * valOf vals w + (if w = m.v then m.k * valOf vals m.v else 0)) 40 := by
      refine sumW_congr 40 fun w _ _ => ?_
      by_cases hw : m.v = w
      · subst hw
        rw [kOf, if_pos rfl, kOf_low h3 (Int.le_refl _), if_pos rfl]; omega
      · rw [kOf, if_neg hw, if_neg (fun h => hw h.symm)]; omega
    rw [e, sumW_add, sumW_one _ _ _ hm.1, if_pos (by omega)]; omega
/-- What a term comes to, by its constant and how many times it has each variable. -/
def valF (c : Int) (f : Int → Int) (vals : List Int) : Int := c + sumW (fun w => f w * valOf vals w) 40
theorem val_eq {c : Int} {l : List Mono} (h : okT c l = true) (vals : List Int) : c + linV vals l = valF c (kOf l) vals := by
  unfold valF; rw [linV_eq vals (okT_spec.1 h).2.2.2]

theorem kOf_del (v w : Int) : ∀ l : List Mono, kOf (delM v l) w = if w = v then 0 else kOf l w
  | [] => by simp [delM, kOf]
  | m :: l => by
    have ih := kOf_del v w l
    unfold delM at ih ⊢
    by_cases hm : m.v = v
    · rw [List.filter_cons_of_neg (by simp [hm]), ih, kOf]
      by_cases hw : w = v
      · rw [if_pos hw, if_pos hw]
      · rw [if_neg hw, if_neg hw, if_neg (by omega)]
    · rw [List.filter_cons_of_pos (by simp [hm]), kOf, ih, kOf]
      by_cases hw : m.v = w
      · rw [if_pos hw, if_pos hw, if_neg (by omega)]
      · rw [if_neg hw, if_neg hw]
theorem okFrom_mono : ∀ {l : List Mono} {p q : Option Int}, okFrom p l = true → (∀ a, q = some a → ∀ m ∈ l, a < m.v) → okFrom q l = true
  | [], _, _, _, _ => rfl
  | m :: l, p, q, h, hq => by
    obtain ⟨h1, h2, h3⟩ := okFrom_cons.1 h
    exact okFrom_cons.2 ⟨h1, fun a ha => hq a ha m List.mem_cons_self, h3⟩
theorem okFrom_del (v : Int) : ∀ {l : List Mono} {p : Option Int}, okFrom p l = true → okFrom p (delM v l) = true
  | [], _, _ => rfl
  | m :: l, p, h => by
    obtain ⟨h1, h2, h3⟩ := okFrom_cons.1 h
    have ih := okFrom_del v h3
    unfold delM at ih ⊢
    by_cases hm : m.v = v
    · rw [List.filter_cons_of_neg (by simp [hm])]
      refine okFrom_mono ih fun a ha x hx => ?_
      have h4 := okFrom_lt h3 x (List.mem_filter.1 hx).1
      have h5 := h2 a ha
      omega
    · rw [List.filter_cons_of_pos (by simp [hm])]; exact okFrom_cons.2 ⟨h1, h2, ih⟩
theorem okT_del (v : Int) {c : Int} {l : List Mono} (h : okT c l = true) : okT c (delM v l) = true := by
  obtain ⟨h1, h2, h3, h4⟩ := okT_spec.1 h
  exact okT_spec.2 ⟨h1, h2, Nat.le_trans (delM_len v l) h3, okFrom_del v h4⟩
theorem addR_spec {c d : Int} {a b : List Mono} (h1 : okT c a = true) (h2 : okT d b = true) :
    ((addR c a d b).2.2 = 0 ∧ okT (addR c a d b).1 (addR c a d b).2.1 = true ∧ (addR c a d b).1 = c + d ∧ ∀ w, kOf (addR c a d b).2.1 w = kOf a w + kOf b w) ∨ (addR c a d b).2.2 = 12 := by
  obtain ⟨a1, a2, a3, a4⟩ := okT_spec.1 h1
  obtain ⟨b1, b2, b3, b4⟩ := okT_spec.1 h2
  unfold addR
  rw [if_neg (by simp [h1, h2])]
  split
  · rename_i ho
    refine .inl ⟨rfl, ho, i64 (by omega), fun w => kOf_sum w _ _ none none a4 b4⟩
  · exact .inr rfl
theorem putR_spec {c d v : Int} {a b : List Mono} (h1 : okT c a = true) (h2 : okT d b = true) :
    ((putR c a v d b).2.2 = 0 ∧ okT (putR c a v d b).1 (putR c a v d b).2.1 = true ∧ (putR c a v d b).1 = c + d * kOf a v ∧ ∀ w, kOf (putR c a v d b).2.1 w = (if w = v then 0 else kOf a w) + kOf b w * kOf a v) ∨ (putR c a v d b).2.2 = 12 := by
  unfold putR
  rw [if_neg (by simp [h1, h2])]
  rcases scaleR_spec (k := kOf a v) h2 with ⟨s1, s2, s3, s4⟩ | s1
  · rw [if_neg (by simp [s1])]
    rcases addR_spec (okT_del v h1) s2 with ⟨r1, r2, r3, r4⟩ | r1
    · refine .inl ⟨r1, r2, by rw [r3, s3], fun w => ?_⟩
      rw [r4, kOf_del, s4]
    · exact .inr r1
  · rw [if_pos (by simp [s1])]; exact .inr s1
theorem sumM_nil : ∀ {l : List Mono} {p : Option Int}, okFrom p l = true → sumM l [] = l
  | [], _, _ => by simp [sumM]
  | m :: l, p, h => by
    obtain ⟨h1, h2, h3⟩ := okFrom_cons.1 h
    rw [sumM, sumM_nil h3, keepM, if_neg (okM_spec.1 h1).2.2.1]
theorem putR_nil {c v : Int} {a : List Mono} (h : okT c a = true) : putR c a v 0 [] = (c, delM v a, 0) := by
  obtain ⟨a1, a2, a3, a4⟩ := okT_spec.1 h
  have h0 : okT 0 [] = true := rfl
  have hs : scaleR 0 [] (kOf a v) = (0, [], 0) := by
    unfold scaleR
    rw [if_neg (by simp [h0])]
    have : timesP 0 (kOf a v) 1099511627776 = (0, true) := by unfold timesP; rw [if_pos (.inl rfl)]
    rw [this]; rfl
  unfold putR
  rw [if_neg (by simp [h, h0]), hs, if_neg (by simp)]
  have hd := okT_del v h
  have hw : IntKind.i64.wrap (c + 0) = c := by rw [i64 (by omega)]; omega
  unfold addR
  rw [if_neg (by simp [hd, h0]), sumM_nil (okT_spec.1 hd).2.2.2, hw, if_pos hd]
theorem times_unit {a k most : Int} (hm : 1 ≤ most ∧ most ≤ 4611686018427387904) (ha : -most ≤ a ∧ a ≤ most) (hk : k = 1 ∨ k = -1) : (timesP a k most).2 = true := by
  unfold timesP
  split
  · rfl
  · rename_i h
    have h1 : roomB a most = true := by simp [roomB]; omega
    have h2 : roomB k most = true := by simp [roomB]; omega
    rw [if_neg (by rw [h1, h2]; simp)]
    have : max k (-k) = 1 := by omega
    rw [this, Int.tdiv_one]
    simp; omega
theorem equalR_spec {x : Cons} {v : Int} (hx : okC x = true) (hv : 0 ≤ v ∧ v < 40) (he : x.eq = true) (hk : oneB (kOf x.t.l v) = true) :
    (equalR x v).2.2 = 0 ∧ okT (equalR x v).1 (equalR x v).2.1 = true ∧ (equalR x v).1 = x.t.c * (-(kOf x.t.l v)) ∧ ∀ w, kOf (equalR x v).2.1 w = (if w = v then 0 else kOf x.t.l w) * (-(kOf x.t.l v)) := by
  have hr : rightB [x] v = true := by simp [rightB, hx, hv.1, hv.2]
  have hk' : kOf x.t.l v = 1 ∨ kOf x.t.l v = -1 := by simpa [oneB] using hk
  have ho : okT x.t.c x.t.l = true := hx
  unfold equalR
  rw [if_neg (by simp [hr]), if_neg (by simp [he, hk]), putR_nil ho]
  have hd := okT_del v ho
  obtain ⟨a1, a2, a3, a4⟩ := okT_spec.1 hd
  rcases scaleR_spec (k := -(kOf x.t.l v)) hd with ⟨s1, s2, s3, s4⟩ | s1
  · refine ⟨s1, s2, s3, fun w => ?_⟩
    rw [s4, kOf_del]
  · exfalso
    have : (scaleR x.t.c (delM v x.t.l) (-(kOf x.t.l v))).2.2 = 0 := by
      unfold scaleR
      rw [if_neg (by simp [hd]), if_pos]
      rw [Bool.and_eq_true]
      refine ⟨times_unit (by omega) ⟨a1, a2⟩ (by omega), ?_⟩
      unfold scaleB
      rw [List.all_eq_true]
      intro m hm
      have := okM_spec.1 (okFrom_ok a4 m hm)
      exact times_unit (by omega) (by omega) (by omega)
    rw [this] at s1; omega
end Go.Proofs.Ythdlkpmhjbaplaa.Dx
