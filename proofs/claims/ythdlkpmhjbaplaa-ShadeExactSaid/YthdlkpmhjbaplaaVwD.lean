/- What the references Unit, Exact, spanMay come to. No statement of this seat is proved here. -/
import Derived.Test.YthdlkpmhjbaplaaVwC
set_option autoImplicit false
set_option linter.unusedSimpArgs false
set_option linter.unusedVariables false
set_option maxRecDepth 10000
namespace Go.Proofs.Ythdlkpmhjbaplaa.Dx
open Go
attribute [local irreducible] wCall wLoop
attribute [local go_sem] decide_true decide_false Bool.and_true Bool.true_and Bool.and_self Bool.false_and Bool.and_false vMs vCs vIs Slots At Tr.get_z Tr.get_l Tr.get_r Tr.get_e Tr.set_z_e Tr.set_z_n Tr.set_l_e Tr.set_l_n Tr.set_r_e Tr.set_r_n eOs_n eOs_c eDs_n eDs_c ekOs ekDs ekPut ekBack ekSeq_n ekSeq_x ekSeq_r ekBlk_n ekBlk_x ekBlk_r eO_mk eO_gd eO_loc eO_locb eD_mk eD_loc eD_locb eD_gd eDr eC_skip eC_reg eC_drw eC_seq eC_cond eC_block eC_loop eC_exit eC_ret eRetW_n eRetW_r wk wkL eRet_n eRet_r ekLd_n ekLd_x ekLd_r ekLp_n ekLp_x ekLp_r wI wBin wBd vev vov vovs vplace vouter ofDV ofDVs vcells spl vfills vput vuse vuseP vback vbackP wOf vbare isVarV vkeep hget hset hdels hdel hkeys live vw vwL keysV keysL pureV pureL vsrc veqs vmx vmn vT cT vC cC VOb.cells vres vrsL vrs1 vone List.length_cons List.length_nil List.getElem?_cons_zero List.getElem?_cons_succ List.take_succ_cons List.take_zero List.drop_succ_cons List.drop_zero List.drop_nil List.take_nil List.nil_append List.cons_append List.append_nil Option.some.injEq Nat.zero_add Nat.add_zero if_true if_false ite_true ite_false true_and and_true false_and and_false true_implies implies_true false_implies Bool.true_eq_false Bool.false_eq_true Bool.not_true Bool.not_false eq_self_iff_true Int.toNat_natCast Int.ofNat_eq_natCast Int.ofNat_zero Int.ofNat_one Int.cast_ofNat_Int VV.int.injEq VV.bool.injEq cond_true cond_false

def rUnitV (l : List Cons) : VV := match unitOf l 0 with | some (i, v) => .tup [.int .i64 i, .int .i64 v] | none => .tup [.int .i64 (-1), .int .i64 0]
theorem mag_one {k : Int} (h : -1048576 ≤ k ∧ k ≤ 1048576) : decide (magI k = 1) = oneB k := by
  rw [magI_eq (by omega)]
  unfold oneB
  by_cases h1 : k = 1
  · subst h1; rfl
  · by_cases h2 : k = -1
    · subst h2; rfl
    · rw [decide_eq_false h1, decide_eq_false h2, decide_eq_false (by omega)]; rfl
theorem dm1 : decide ((-1 : Int) = 0) = false := rfl
theorem rUnit_ok (l : List Cons) (hs : smallC l) (hok : l.all okC = true) : VPure FT p27 [.fz l.length none 3 (encC l)] (rUnitV l) := by
  have hll := hs.len
  refine vpure_of_body (f := p27) rfl rfl ?_
  simp (implicitDefEqProofs := false) only [go_sem, reduceCtorEq, Nat.reduceAdd, Nat.reduceMul, Nat.reduceLeDiff, Nat.reduceLT, Nat.reduceEqDiff, Int.reduceNegSucc, ↓gs_tt, ↓gs_ff, ↓gs_tf, ↓gs_ft]
  refine wLoop_by (fun n s => ∃ i : Nat, i + n = l.length ∧ At s [(p0, .fz l.length none 3 (encC l)), (p4, .int .i64 i)] 0 0 [] ∧ unitOf l 0 = unitOf (l.drop i) i) l.length ?_ ?_
  · exact ⟨0, by simp, by simp (implicitDefEqProofs := false) only [go_sem, reduceCtorEq, Nat.reduceAdd, Nat.reduceMul, Nat.reduceLeDiff, Nat.reduceLT, Nat.reduceEqDiff, Int.reduceNegSucc, ↓gs_tt, ↓gs_ff, ↓gs_tf, ↓gs_ft], by simp⟩
  · rintro n ⟨e, nx, w, h⟩ ⟨i, hi, ⟨⟨s1, s2, -⟩, rfl, rfl, rfl⟩, hk⟩
    rcases Nat.lt_or_ge i l.length with hlt | hge
    · obtain ⟨x, hx⟩ := has hlt
      have hxl := hs.all x (List.mem_of_getElem? hx)
      have hxo := List.all_eq_true.1 hok x (List.mem_of_getElem? hx)
      have hmo := (okC_parts hxo).2.2
      rw [drop_cons hx] at hk
      simp (implicitDefEqProofs := false) only [s1, s2, ltT hlt, encC_len, go_sem, reduceCtorEq, Nat.reduceAdd, Nat.reduceMul, Nat.reduceLeDiff, Nat.reduceLT, Nat.reduceEqDiff, Int.reduceNegSucc, ↓gs_tt, ↓gs_ff, ↓gs_tf, ↓gs_ft]
      refine wLoop_by (fun n s => ∃ j : Nat, j + n = x.t.l.length ∧ At s [(p0, .fz l.length none 3 (encC l)), (p4, .int .i64 i), (p5, .int .i64 j)] 0 0 [] ∧
          unitX x = if x.eq = true then unitM (x.t.l.drop j) else none) x.t.l.length ?_ ?_
      · exact ⟨0, by simp, by simp (implicitDefEqProofs := false) only [go_sem, reduceCtorEq, Nat.reduceAdd, Nat.reduceMul, Nat.reduceLeDiff, Nat.reduceLT, Nat.reduceEqDiff, Int.reduceNegSucc, ↓gs_tt, ↓gs_ff, ↓gs_tf, ↓gs_ft], by simp [unitX]⟩
      · rintro n' ⟨e', nx, w, h⟩ ⟨j, hj, ⟨⟨a1, a2, a3, -⟩, rfl, rfl, rfl⟩, hkj⟩
        cases hxe : x.eq with
        | false =>
          simp (implicitDefEqProofs := false) only [a1, a2, a3, ltT hlt, encC_g2 hx, encC_g1 hx, hxe, encC_len, inc64 hlt (by omega : l.length ≤ 4611686018427387904), go_sem, reduceCtorEq, Nat.reduceAdd, Nat.reduceMul, Nat.reduceLeDiff, Nat.reduceLT, Nat.reduceEqDiff, Int.reduceNegSucc, ↓gs_tt, ↓gs_ff, ↓gs_tf, ↓gs_ft]
          refine ⟨⟨by omega, by omega⟩, n - 1, by omega, i + 1, by omega, rfl, ?_⟩
          rw [hk]; simp [unitOf, unitX, hxe]
        | true =>
          rcases Nat.lt_or_ge j x.t.l.length with hjlt | hjge
          · obtain ⟨m, hm⟩ := has hjlt
            rw [drop_cons hm] at hkj
            simp (implicitDefEqProofs := false) only [a1, a2, a3, ltT hlt, ltT hjlt, encC_g2 hx, encC_g1 hx, encM_g0 hm, encM_g1 hm, encM_len, hxe, encC_len, inc64 hlt (by omega : l.length ≤ 4611686018427387904), inc64 hjlt (by omega : x.t.l.length ≤ 4611686018427387904), go_sem, reduceCtorEq, Nat.reduceAdd, Nat.reduceMul, Nat.reduceLeDiff, Nat.reduceLT, Nat.reduceEqDiff, Int.reduceNegSucc, ↓gs_tt, ↓gs_ff, ↓gs_tf, ↓gs_ft]
            refine ⟨⟨by omega, by omega⟩, ⟨by omega, by omega⟩, ⟨by omega, by omega⟩, ⟨by omega, by omega⟩, ?_⟩
            refine wCall_pp (r := .int .i64 (magI m.k)) rfl (mag_ok _) rfl ?_
            have hm1 : decide (magI m.k = 1) = oneB m.k := mag_one (by have := okM_spec.1 (hmo m (List.mem_of_getElem? hm)); omega)
            simp (implicitDefEqProofs := false) only [hm1, encM_g0 hm, encC_g1 hx, inc64 hjlt (by omega : x.t.l.length ≤ 4611686018427387904), go_sem, reduceCtorEq, Nat.reduceAdd, Nat.reduceMul, Nat.reduceLeDiff, Nat.reduceLT, Nat.reduceEqDiff, Int.reduceNegSucc, ↓gs_tt, ↓gs_ff, ↓gs_tf, ↓gs_ft]
            refine gs_t (fun h1 => ?_) (fun h1 => ?_)
            · have hu : unitOf l 0 = some ((i : Int), m.v) := by rw [hk]; simp [unitOf, hkj, hxe, unitM, h1]
              unfold rUnitV
              rw [hu]
              refine ⟨⟨by omega, by omega⟩, ⟨by omega, by omega⟩, rfl⟩
            · refine ⟨n' - 1, by omega, j + 1, by omega, rfl, ?_⟩
              rw [hkj, hxe]; simp [unitM, h1]
          · simp (implicitDefEqProofs := false) only [a1, a2, a3, ltT hlt, ltF hjge, encC_g2 hx, encC_g1 hx, encM_len, hxe, encC_len, inc64 hlt (by omega : l.length ≤ 4611686018427387904), go_sem, reduceCtorEq, Nat.reduceAdd, Nat.reduceMul, Nat.reduceLeDiff, Nat.reduceLT, Nat.reduceEqDiff, Int.reduceNegSucc, ↓gs_tt, ↓gs_ff, ↓gs_tf, ↓gs_ft]
            refine ⟨⟨by omega, by omega⟩, ⟨by omega, by omega⟩, n - 1, by omega, i + 1, by omega, rfl, ?_⟩
            rw [hk]
            have : unitX x = none := by rw [hkj, List.drop_eq_nil_of_le hjge]; simp [unitM]
            simp [unitOf, this]
    · simp (implicitDefEqProofs := false) only [s1, s2, ltF hge, go_sem, reduceCtorEq, Nat.reduceAdd, Nat.reduceMul, Nat.reduceLeDiff, Nat.reduceLT, Nat.reduceEqDiff, Int.reduceNegSucc, ↓gs_tt, ↓gs_ff, ↓gs_tf, ↓gs_ft]
      unfold rUnitV
      rw [hk, List.drop_eq_nil_of_le hge]; rfl

def lowB (l : List Cons) (v : Int) : Bool := l.all fun x => decide (0 ≤ kOf x.t.l v) || decide (kOf x.t.l v = -1)
def highB (l : List Cons) (v : Int) : Bool := l.all fun x => decide (kOf x.t.l v ≤ 0) || decide (kOf x.t.l v = 1)
theorem exact_eq (l : List Cons) (v : Int) : exactB l v = (lowB l v || highB l v) := by
  unfold exactB lowB highB lowsOf highsOf
  rw [List.all_filter, List.all_filter]
  congr 1
  · congr 1; funext x
    by_cases h : kOf x.t.l v < 0
    · rw [decide_eq_true h, decide_eq_false (p := 0 ≤ kOf x.t.l v) (by omega)]; simp
    · rw [decide_eq_false h, decide_eq_true (p := 0 ≤ kOf x.t.l v) (by omega)]; simp
  · congr 1; funext x
    by_cases h : 0 < kOf x.t.l v
    · rw [decide_eq_true h, decide_eq_false (p := kOf x.t.l v ≤ 0) (by omega)]; simp
    · rw [decide_eq_false h, decide_eq_true (p := kOf x.t.l v ≤ 0) (by omega)]; simp
theorem rExact_ok (l : List Cons) (v : Int) (hs : smallC l) : VPure FT p31 [.fz l.length none 3 (encC l), .int .i64 v] (.bool (exactB l v)) := by
  have hll := hs.len
  refine vpure_of_body (f := p31) rfl rfl ?_
  rw [exact_eq]
  simp (implicitDefEqProofs := false) only [go_sem, reduceCtorEq, Nat.reduceAdd, Nat.reduceMul, Nat.reduceLeDiff, Nat.reduceLT, Nat.reduceEqDiff, Int.reduceNegSucc, ↓gs_tt, ↓gs_ff, ↓gs_tf, ↓gs_ft]
  refine wLoop_by (fun n s => ∃ i : Nat, i + n = l.length ∧ At s [(p0, .fz l.length none 3 (encC l)), (p1, .int .i64 v), (p5, .bool (lowB (l.take i) v)), (p6, .bool (highB (l.take i) v)), (p7, .int .i64 i)] 0 0 []) l.length ?_ ?_
  · exact ⟨0, by simp, by simp (implicitDefEqProofs := false) only [go_sem, reduceCtorEq, Nat.reduceAdd, Nat.reduceMul, Nat.reduceLeDiff, Nat.reduceLT, Nat.reduceEqDiff, Int.reduceNegSucc, ↓gs_tt, ↓gs_ff, ↓gs_tf, ↓gs_ft]; simp [lowB, highB]⟩
  · rintro n ⟨e, nx, w, h⟩ ⟨i, hi, ⟨s1, s2, s3, s4, s5, -⟩, rfl, rfl, rfl⟩
    rcases Nat.lt_or_ge i l.length with hlt | hge
    · obtain ⟨x, hx⟩ := has hlt
      have hxl := hs.all x (List.mem_of_getElem? hx)
      have ht := take_snoc hx
      have hl1 : lowB (l.take (i + 1)) v = (lowB (l.take i) v && (decide (0 ≤ kOf x.t.l v) || decide (kOf x.t.l v = -1))) := by rw [ht]; simp [lowB, List.all_append]
      have hl2 : highB (l.take (i + 1)) v = (highB (l.take i) v && (decide (kOf x.t.l v ≤ 0) || decide (kOf x.t.l v = 1))) := by rw [ht]; simp [highB, List.all_append]
      simp (implicitDefEqProofs := false) only [s1, s2, s3, s4, s5, ltT hlt, encC_t hx, encC_len, inc64 hlt (by omega : l.length ≤ 4611686018427387904), go_sem, reduceCtorEq, Nat.reduceAdd, Nat.reduceMul, Nat.reduceLeDiff, Nat.reduceLT, Nat.reduceEqDiff, Int.reduceNegSucc, ↓gs_tt, ↓gs_ff, ↓gs_tf, ↓gs_ft]
      refine ⟨⟨by omega, by omega⟩, by omega, ?_⟩
      refine wCall_pp (r := .int .i64 (kOf x.t.l v)) (by simp [pureL, pureV]) (Kr_ok _ _ _ (by omega)) rfl ?_
      have fin : ∀ L H : Bool, L = lowB (l.take (i + 1)) v → H = highB (l.take (i + 1)) v → ∃ m, m < n ∧ ∃ i_1, i_1 + m = l.length ∧ VV.bool L = VV.bool (lowB (l.take i_1) v) ∧ VV.bool H = VV.bool (highB (l.take i_1) v) ∧ ((i + 1 : Nat) : Int) = (i_1 : Int) := fun L H h1 h2 => ⟨n - 1, by omega, i + 1, by omega, by rw [h1], by rw [h2], rfl⟩
      cases hL : lowB (l.take i) v <;> cases hH : highB (l.take i) v <;> simp (implicitDefEqProofs := false) only [hL, hH, inc64 hlt (by omega : l.length ≤ 4611686018427387904), go_sem, reduceCtorEq, Nat.reduceAdd, Nat.reduceMul, Nat.reduceLeDiff, Nat.reduceLT, Nat.reduceEqDiff, Int.reduceNegSucc, ↓gs_tt, ↓gs_ff, ↓gs_tf, ↓gs_ft]
      all_goals repeat' (first | (with_reducible refine And.intro ?_ ?_) | (with_reducible refine gs_t ?_ ?_) | (with_reducible refine gs_f ?_ ?_) | (intro _) | fail)
      all_goals (refine ⟨n - 1, by omega, i + 1, by omega, ?_, ?_, rfl⟩ <;> simp_all)
    · rw [List.take_of_length_le hge] at s3 s4
      simp (implicitDefEqProofs := false) only [s1, s2, s3, s4, s5, ltF hge, encC_len, go_sem, reduceCtorEq, Nat.reduceAdd, Nat.reduceMul, Nat.reduceLeDiff, Nat.reduceLT, Nat.reduceEqDiff, Int.reduceNegSucc, ↓gs_tt, ↓gs_ff, ↓gs_tf, ↓gs_ft]
      cases lowB l v <;> simp [gSplit]

def mayFar (l : List Cons) (v n : Int) : Bool := l.any fun x => decide (kOf x.t.l v ≠ 0) && x.t.l.any (farB v n)
theorem far_eq (l : List Cons) (v n : Int) : (spanC l v).any (fun x => x.t.l.any (farB v n)) = mayFar l v n := by
  unfold spanC mayFar lowsOf highsOf
  rw [List.any_append, List.any_filter, List.any_filter]
  induction l with
  | nil => rfl
  | cons x l ih =>
    simp only [List.any_cons]
    rw [← ih]
    by_cases h1 : kOf x.t.l v < 0
    · rw [decide_eq_true h1, decide_eq_false (p := 0 < kOf x.t.l v) (by omega), decide_eq_true (p := kOf x.t.l v ≠ 0) (by omega)]
      cases x.t.l.any (farB v n) <;> simp
    · by_cases h2 : 0 < kOf x.t.l v
      · rw [decide_eq_false h1, decide_eq_true h2, decide_eq_true (p := kOf x.t.l v ≠ 0) (by omega)]
        cases x.t.l.any (farB v n) <;> simp
      · rw [decide_eq_false h1, decide_eq_false h2, decide_eq_false (p := kOf x.t.l v ≠ 0) (by omega)]
        cases x.t.l.any (farB v n) <;> simp
def spanMayE (l : List Cons) (v : Int) (vals : List Int) : Int := if mayFar l v vals.length = true then 5 else toldE 0 [] vals
theorem spanMay_ok (l : List Cons) (v : Int) (vals : List Int) (hs : smallC l) (hv : vals.length ≤ 1000000) : VPure FT p33 [.fz l.length none 3 (encC l), .int .i64 v, .fz vals.length none 1 (encI vals)] (.int .i64 (spanMayE l v vals)) := by
  have hll := hs.len
  refine vpure_of_body' (f := p33) rfl rfl ?_
  simp (implicitDefEqProofs := false) only [go_sem, reduceCtorEq, Nat.reduceAdd, Nat.reduceMul, Nat.reduceLeDiff, Nat.reduceLT, Nat.reduceEqDiff, Int.reduceNegSucc, ↓gs_tt, ↓gs_ff, ↓gs_tf, ↓gs_ft]
  refine wLoop_by (fun n s => ∃ i : Nat, i + n = l.length ∧ At s [(p0, .fz l.length none 3 (encC l)), (p1, .int .i64 v), (p2, .fz vals.length none 1 (encI vals)), (p7, .int .i64 i)] 0 0 [] ∧ mayFar l v vals.length = mayFar (l.drop i) v vals.length) l.length ?_ ?_
  · exact ⟨0, by simp, by simp (implicitDefEqProofs := false) only [go_sem, reduceCtorEq, Nat.reduceAdd, Nat.reduceMul, Nat.reduceLeDiff, Nat.reduceLT, Nat.reduceEqDiff, Int.reduceNegSucc, ↓gs_tt, ↓gs_ff, ↓gs_tf, ↓gs_ft], by simp⟩
  · rintro n ⟨e, nx, w, h⟩ ⟨i, hi, ⟨⟨s1, s2, s3, s4, -⟩, rfl, rfl, rfl⟩, hk⟩
    rcases Nat.lt_or_ge i l.length with hlt | hge
    · obtain ⟨x, hx⟩ := has hlt
      have hxl := hs.all x (List.mem_of_getElem? hx)
      rw [drop_cons hx] at hk
      simp (implicitDefEqProofs := false) only [s1, s2, s3, s4, ltT hlt, encC_len, go_sem, reduceCtorEq, Nat.reduceAdd, Nat.reduceMul, Nat.reduceLeDiff, Nat.reduceLT, Nat.reduceEqDiff, Int.reduceNegSucc, ↓gs_tt, ↓gs_ff, ↓gs_tf, ↓gs_ft]
      refine wLoop_by (fun n s => ∃ j : Nat, j + n = x.t.l.length ∧ At s [(p0, .fz l.length none 3 (encC l)), (p1, .int .i64 v), (p2, .fz vals.length none 1 (encI vals)), (p7, .int .i64 i), (p8, .int .i64 j)] 0 0 [] ∧
          (kOf x.t.l v ≠ 0 → x.t.l.any (farB v vals.length) = (x.t.l.drop j).any (farB v vals.length))) x.t.l.length ?_ ?_
      · exact ⟨0, by simp, by simp (implicitDefEqProofs := false) only [go_sem, reduceCtorEq, Nat.reduceAdd, Nat.reduceMul, Nat.reduceLeDiff, Nat.reduceLT, Nat.reduceEqDiff, Int.reduceNegSucc, ↓gs_tt, ↓gs_ff, ↓gs_tf, ↓gs_ft], by simp⟩
      · rintro n' ⟨e', nx, w, h⟩ ⟨j, hj, ⟨⟨a1, a2, a3, a4, a5, -⟩, rfl, rfl, rfl⟩, hkj⟩
        simp (implicitDefEqProofs := false) only [a1, a2, a3, a4, a5, ltT hlt, encC_t hx, encC_g1 hx, encC_len, go_sem, reduceCtorEq, Nat.reduceAdd, Nat.reduceMul, Nat.reduceLeDiff, Nat.reduceLT, Nat.reduceEqDiff, Int.reduceNegSucc, ↓gs_tt, ↓gs_ff, ↓gs_tf, ↓gs_ft]
        refine ⟨⟨by omega, by omega⟩, by omega, ?_⟩
        refine wCall_pp (r := .int .i64 (kOf x.t.l v)) (by simp [pureL, pureV]) (Kr_ok _ _ _ (by omega)) rfl ?_
        by_cases hk0 : kOf x.t.l v = 0
        · have d0 : decide (kOf x.t.l v = 0) = true := by simpa using hk0
          simp (implicitDefEqProofs := false) only [d0, Bool.not_true, inc64 hlt (by omega : l.length ≤ 4611686018427387904), go_sem, reduceCtorEq, Nat.reduceAdd, Nat.reduceMul, Nat.reduceLeDiff, Nat.reduceLT, Nat.reduceEqDiff, Int.reduceNegSucc, ↓gs_tt, ↓gs_ff, ↓gs_tf, ↓gs_ft]
          refine ⟨n - 1, by omega, i + 1, by omega, rfl, ?_⟩
          rw [hk]; simp [mayFar, hk0]
        · have d0 : decide (kOf x.t.l v = 0) = false := by simpa using hk0
          rcases Nat.lt_or_ge j x.t.l.length with hjlt | hjge
          · obtain ⟨m, hm⟩ := has hjlt
            rw [drop_cons hm] at hkj
            simp (implicitDefEqProofs := false) only [d0, Bool.not_false, ltT hjlt, encC_g1 hx, encM_g0 hm, encM_len, encC_len, encI_len, inc64 hjlt (by omega : x.t.l.length ≤ 4611686018427387904), inc64 hlt (by omega : l.length ≤ 4611686018427387904), go_sem, reduceCtorEq, Nat.reduceAdd, Nat.reduceMul, Nat.reduceLeDiff, Nat.reduceLT, Nat.reduceEqDiff, Int.reduceNegSucc, ↓gs_tt, ↓gs_ff, ↓gs_tf, ↓gs_ft]
            refine ⟨⟨by omega, by omega⟩, ⟨by omega, by omega⟩, ⟨by omega, by omega⟩, gs_t (fun h1 => gs_t (fun h2 => ?_) (fun h2 => ?_)) (fun h1 => ?_)⟩
            · simp at h1 h2
              have : mayFar l v vals.length = true := by
                rw [hk]; simp only [mayFar, List.any_cons]; rw [hkj hk0]; simp [hk0, farB, h1, h2]
              unfold spanMayE; rw [if_pos this]
            · simp at h1 h2
              refine ⟨n' - 1, by omega, j + 1, by omega, rfl, fun h => ?_⟩
              rw [hkj h]; simp [farB, h1]; omega
            · simp at h1
              refine ⟨n' - 1, by omega, j + 1, by omega, rfl, fun h => ?_⟩
              rw [hkj h]; simp [farB, h1]
          · simp (implicitDefEqProofs := false) only [d0, Bool.not_false, ltF hjge, encC_g1 hx, encC_len, inc64 hlt (by omega : l.length ≤ 4611686018427387904), go_sem, reduceCtorEq, Nat.reduceAdd, Nat.reduceMul, Nat.reduceLeDiff, Nat.reduceLT, Nat.reduceEqDiff, Int.reduceNegSucc, ↓gs_tt, ↓gs_ff, ↓gs_tf, ↓gs_ft]
            refine ⟨⟨by omega, by omega⟩, n - 1, by omega, i + 1, by omega, rfl, ?_⟩
            have := hkj hk0
            rw [List.drop_eq_nil_of_le hjge] at this
            rw [hk]; simp only [mayFar, List.any_cons]; rw [this]; simp
    · simp (implicitDefEqProofs := false) only [s1, s2, s3, s4, ltF hge, go_sem, reduceCtorEq, Nat.reduceAdd, Nat.reduceMul, Nat.reduceLeDiff, Nat.reduceLT, Nat.reduceEqDiff, Int.reduceNegSucc, ↓gs_tt, ↓gs_ff, ↓gs_tf, ↓gs_ft]
      have hT := Told_ok 0 [] vals (by simp) hv
      simp only [encM, List.length_nil] at hT
      have hf : mayFar l v vals.length = false := by rw [hk, List.drop_eq_nil_of_le hge]; rfl
      refine wCall_wk (args' := [.agg [.int .i64 0, .fz 0 none 2 []], .fz vals.length none 1 (encI vals)]) (by simp [wkL, wk]) ?_
      refine wCall_pp (r := .int .i64 (toldE 0 [] vals)) (by simp [pureL, pureV]) hT rfl ?_
      simp (implicitDefEqProofs := false) only [go_sem, reduceCtorEq, Nat.reduceAdd, Nat.reduceMul, Nat.reduceLeDiff, Nat.reduceLT, Nat.reduceEqDiff, Int.reduceNegSucc, ↓gs_tt, ↓gs_ff, ↓gs_tf, ↓gs_ft]
      unfold spanMayE; rw [hf]; rfl
end Go.Proofs.Ythdlkpmhjbaplaa.Dx
