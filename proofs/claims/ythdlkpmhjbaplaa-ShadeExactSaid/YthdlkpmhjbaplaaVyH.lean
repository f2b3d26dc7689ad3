/- What Span comes to. No statement of this seat is proved here. -/
import Derived.Test.YthdlkpmhjbaplaaVyG
set_option autoImplicit false
set_option linter.unusedSimpArgs false
set_option linter.unusedVariables false
set_option maxRecDepth 10000
namespace Go.Proofs.Ythdlkpmhjbaplaa.Dx
open Go
attribute [local irreducible] wCall wLoop
attribute [local go_sem] decide_true decide_false Bool.and_true Bool.true_and Bool.and_self Bool.false_and Bool.and_false vMs vCs vIs Slots At Tr.get_z Tr.get_l Tr.get_r Tr.get_e Tr.set_z_e Tr.set_z_n Tr.set_l_e Tr.set_l_n Tr.set_r_e Tr.set_r_n eOs_n eOs_c eDs_n eDs_c ekOs ekDs ekPut ekBack ekSeq_n ekSeq_x ekSeq_r ekBlk_n ekBlk_x ekBlk_r eO_mk eO_gd eO_loc eO_locb eD_mk eD_loc eD_locb eD_gd eDr eC_skip eC_reg eC_drw eC_seq eC_cond eC_block eC_loop eC_exit eC_ret eRetW_n eRetW_r wk wkL eRet_n eRet_r ekLd_n ekLd_x ekLd_r ekLp_n ekLp_x ekLp_r wI wBin wBd vev vov vovs vplace vouter ofDV ofDVs vcells spl vfills vput vuse vuseP vback vbackP wOf vbare isVarV vkeep hget hset hdels hdel hkeys live vw vwL keysV keysL pureV pureL vsrc veqs vmx vmn vT cT vC cC VOb.cells vres vrsL vrs1 vone List.length_cons List.length_nil List.getElem?_cons_zero List.getElem?_cons_succ List.take_succ_cons List.take_zero List.drop_succ_cons List.drop_zero List.drop_nil List.take_nil List.nil_append List.cons_append List.append_nil Option.some.injEq Nat.zero_add Nat.add_zero if_true if_false ite_true ite_false true_and and_true false_and and_false true_implies implies_true false_implies Bool.true_eq_false Bool.false_eq_true Bool.not_true Bool.not_false eq_self_iff_true Int.toNat_natCast Int.ofNat_eq_natCast Int.ofNat_zero Int.ofNat_one Int.cast_ofNat_Int VV.int.injEq VV.bool.injEq cond_true cond_false

def valOf (vals : List Int) (v : Int) : Int := (vals[v.toNat]?).getD 0
def restOf (v : Int) (vals : List Int) : List Mono → Int
  | [] => 0
  | m :: l => (if m.v = v then 0 else m.k * valOf vals m.v) + restOf v vals l
def spanStep (v : Int) (vals : List Int) (p : Int × Int) (x : Cons) : Int × Int :=
  if kOf x.t.l v < 0 then (max p.1 (-(-(x.t.c + restOf v vals x.t.l) / -(kOf x.t.l v))), p.2) else (p.1, min p.2 (-(x.t.c + restOf v vals x.t.l) / kOf x.t.l v))
def spanC (l : List Cons) (v : Int) : List Cons := lowsOf l v ++ highsOf l v
def spanFold (l : List Cons) (v : Int) (vals : List Int) : Int × Int := (spanC l v).foldl (spanStep v vals) (-2147483648, 2147483647)
def spanE (l : List Cons) (v : Int) (vals : List Int) : Int :=
  if mayE l v ≠ 0 then mayE l v else if (spanC l v).any (fun x => x.t.l.any (farB v vals.length)) = true then 5 else if vals.any outB = true then 1 else 0
def spanV (l : List Cons) (v : Int) (vals : List Int) : VV :=
  if spanE l v vals = 0 then .tup [.int .i64 (min (spanFold l v vals).1 2147483647), .int .i64 (max (spanFold l v vals).2 (-2147483648)), .int .i64 0] else .tup [.int .i64 0, .int .i64 0, .int .i64 (spanE l v vals)]

theorem okFrom_mem : ∀ {l : List Mono} {p : Option Int}, okFrom p l = true → ∀ m ∈ l, okM m = true
  | [], _, _, m, hm => by cases hm
  | x :: l, p, h, m, hm => by
    simp only [okFrom, Bool.and_eq_true] at h
    rcases List.mem_cons.1 hm with rfl | hm
    · exact h.1.1
    · exact okFrom_mem h.2 m hm
theorem restOf_app (v : Int) (vals : List Int) : ∀ (a b : List Mono), restOf v vals (a ++ b) = restOf v vals a + restOf v vals b
  | [], b => by simp [restOf]
  | m :: a, b => by simp only [List.cons_append, restOf, restOf_app v vals a b]; omega
theorem mul_bound {a b A B : Int} (ha : -A ≤ a ∧ a ≤ A) (hb : -B ≤ b ∧ b ≤ B) (hA : 0 ≤ A) (hB : 0 ≤ B) : -(A * B) ≤ a * b ∧ a * b ≤ A * B := by
  have h1 : (a * b).natAbs ≤ (A * B).natAbs := by
    rw [Int.natAbs_mul, Int.natAbs_mul]; exact Nat.mul_le_mul (by omega) (by omega)
  have h2 : 0 ≤ A * B := Int.mul_nonneg hA hB
  omega
theorem valOf_bound {vals : List Int} (h : vals.any outB = false) (v : Int) : -2147483648 ≤ valOf vals v ∧ valOf vals v ≤ 2147483648 := by
  unfold valOf
  cases hv : vals[v.toNat]? with
  | none => simp
  | some x =>
    have := List.mem_of_getElem? hv
    rw [List.any_eq_false] at h
    have h2 := h x this
    simp [outB] at h2
    simp only [Option.getD_some]; omega
theorem term_bound {vals : List Int} (h : vals.any outB = false) {m : Mono} (hm : okM m = true) : -2251799813685248 ≤ m.k * valOf vals m.v ∧ m.k * valOf vals m.v ≤ 2251799813685248 := by
  have h1 := valOf_bound h m.v
  simp only [okM, roomB, Bool.and_eq_true, decide_eq_true_eq] at hm
  have := mul_bound (a := m.k) (b := valOf vals m.v) (A := 1048576) (B := 2147483648) (by omega) (by omega) (by omega) (by omega)
  omega
theorem restOf_bound (v : Int) {vals : List Int} (h : vals.any outB = false) : ∀ {l : List Mono}, (∀ m ∈ l, okM m = true) → -(l.length * 2251799813685248 : Int) ≤ restOf v vals l ∧ restOf v vals l ≤ l.length * 2251799813685248
  | [], _ => by simp [restOf]
  | m :: l, hl => by
    have ih := restOf_bound v h (l := l) fun m hm => hl m (List.mem_cons_of_mem _ hm)
    have h1 := term_bound h (hl m List.mem_cons_self)
    simp only [restOf, List.length_cons]
    split <;> omega
theorem kOf_bound : ∀ {l : List Mono} (v : Int), (∀ m ∈ l, okM m = true) → -1048576 ≤ kOf l v ∧ kOf l v ≤ 1048576
  | [], v, _ => by simp [kOf]
  | m :: l, v, h => by
    have h1 := h m List.mem_cons_self
    simp only [okM, roomB, Bool.and_eq_true, decide_eq_true_eq] at h1
    simp only [kOf]
    split
    · omega
    · exact kOf_bound v fun m hm => h m (List.mem_cons_of_mem _ hm)
theorem okC_parts {x : Cons} (h : okC x = true) : (-1099511627776 ≤ x.t.c ∧ x.t.c ≤ 1099511627776) ∧ x.t.l.length ≤ 40 ∧ ∀ m ∈ x.t.l, okM m = true := by
  simp only [okC, okT, roomB, Bool.and_eq_true, decide_eq_true_eq] at h
  exact ⟨h.1.1, h.1.2, okFrom_mem h.2⟩
set_option maxHeartbeats 1000000 in
theorem Span_ok (l : List Cons) (v : Int) (vals : List Int) (hl : smallC l) (hv : vals.length ≤ 1000000) : VPure FT p25 [.fz l.length none 3 (encC l), .int .i64 v, .fz vals.length none 1 (encI vals)] (spanV l v vals) := by
  refine vpure_of_body (f := p25) rfl rfl ?_
  simp (implicitDefEqProofs := false) only [go_sem, reduceCtorEq, Nat.reduceAdd, Nat.reduceMul, Nat.reduceLeDiff, Nat.reduceLT, Nat.reduceEqDiff, Int.reduceNegSucc, ↓gs_tt, ↓gs_ff, ↓gs_tf, ↓gs_ft]
  have hC : smallC (lowsOf l v) ∧ smallC (highsOf l v) := ⟨hl.lows v, hl.highs v⟩
  have e1 : (spanC l v).length ≤ 2000000 := by unfold spanC; rw [List.length_append]; have := hC.1.len; have := hC.2.len; omega
  repeat' (first | (with_reducible refine And.intro ?_ ?_) | (with_reducible refine gs_t ?_ ?_) | (with_reducible refine gs_f ?_ ?_) | (intro _) | ((with_reducible apply wCall_any); (· (simp (implicitDefEqProofs := false) only [go_sem, reduceCtorEq, Nat.reduceAdd, Nat.reduceMul, Nat.reduceLeDiff, Nat.reduceLT, Nat.reduceEqDiff, Int.reduceNegSucc, ↓gs_tt, ↓gs_ff, ↓gs_tf, ↓gs_ft] <;> rfl)); (· (first | exact may_ok l v hl | exact parts_ok l v hl | exact Concat_ok (lowsOf l v) (highsOf l v) (by have := hC.1.len; omega) (by have := hC.2.len; omega))); (· rfl); (· rfl); (· (first | exact Eq.refl true | exact Eq.refl false)); (simp (implicitDefEqProofs := false) only [go_sem, reduceCtorEq, Nat.reduceAdd, Nat.reduceMul, Nat.reduceLeDiff, Nat.reduceLT, Nat.reduceEqDiff, Int.reduceNegSucc, ↓gs_tt, ↓gs_ff, ↓gs_tf, ↓gs_ft])) | fail)
  · rename_i h0
    have h0' : mayE l v ≠ 0 := by simpa using h0
    have : spanE l v vals = mayE l v := by unfold spanE; rw [if_pos h0']
    unfold spanV; rw [this, if_neg h0']
  · rename_i h0
    have h0' : mayE l v = 0 := by simpa using h0
    have hall : l.all okC = true := by
      have := h0'
      unfold mayE at this
      by_cases hr : rightB l v = false
      · rw [if_pos hr] at this; omega
      · have : rightB l v = true := by simpa using hr
        simp only [rightB, Bool.and_eq_true] at this; exact this.2
    have hmem : ∀ x ∈ spanC l v, x ∈ l ∧ kOf x.t.l v ≠ 0 := by
      intro x hx
      unfold spanC lowsOf highsOf at hx
      rcases List.mem_append.1 hx with hx | hx <;> (rw [List.mem_filter] at hx; have := hx.2; simp at this; exact ⟨hx.1, by omega⟩)
    obtain ⟨C, hCd⟩ : ∃ C, C = spanC l v := ⟨_, rfl⟩
    have hCC : lowsOf l v ++ highsOf l v = C := by rw [hCd]; rfl
    have hCs : ∀ x ∈ C, x.t.l.length ≤ 1000000 := fun x hx => hl.all x (hmem x (hCd ▸ hx)).1
    rw [← hCd] at e1 hmem
    simp only [hCC]
    refine wLoop_by (fun n s => ∃ i : Nat, i + n = C.length ∧ At s [(p4, .pt 0 1 0), (p5, .pt 1 1 0), (p6, .int .i64 (-2147483648)), (p7, .int .i64 2147483647), (p9, .fz (lowsOf l v).length none 3 (encC (lowsOf l v))), (p10, .fz (highsOf l v).length none 3 (encC (highsOf l v))),
      (p36, .fz C.length none 3 (encC C)), (p37, .int .i64 C.length), (p38, .int .i64 i)] 3 0 [(1, .obj [.fz vals.length none 1 (encI vals)]), (0, .obj [.int .i64 v])] ∧ (C.take i).any (fun x => x.t.l.any (farB v vals.length)) = false) C.length ?_ ?_
    · exact ⟨0, by simp, by simp (implicitDefEqProofs := false) only [go_sem, reduceCtorEq, Nat.reduceAdd, Nat.reduceMul, Nat.reduceLeDiff, Nat.reduceLT, Nat.reduceEqDiff, Int.reduceNegSucc, ↓gs_tt, ↓gs_ff, ↓gs_tf, ↓gs_ft], by simp⟩
    · rintro n ⟨e, nx, w, h⟩ ⟨i, hi, ⟨⟨s1, s2, s3, s4, s5, s6, s7, s8, s9, -⟩, rfl, rfl, rfl⟩, hk⟩
      rcases Nat.lt_or_ge i C.length with hlt | hge
      · obtain ⟨x, hx⟩ := has hlt
        have hxl := hCs x (List.mem_of_getElem? hx)
        simp (implicitDefEqProofs := false) only [s1, s2, s3, s4, s5, s6, s7, s8, s9, ltT hlt, encC_cut hx, encC_len, inc64 hlt (by omega : C.length ≤ 4611686018427387904), go_sem, reduceCtorEq, Nat.reduceAdd, Nat.reduceMul, Nat.reduceLeDiff, Nat.reduceLT, Nat.reduceEqDiff, Int.reduceNegSucc, ↓gs_tt, ↓gs_ff, ↓gs_tf, ↓gs_ft]
        repeat' (first | (with_reducible refine And.intro ?_ ?_) | (with_reducible refine gs_t ?_ ?_) | (with_reducible refine gs_f ?_ ?_) | (intro _) | ((with_reducible apply wCall_any); (· (simp (implicitDefEqProofs := false) only [go_sem, reduceCtorEq, Nat.reduceAdd, Nat.reduceMul, Nat.reduceLeDiff, Nat.reduceLT, Nat.reduceEqDiff, Int.reduceNegSucc, ↓gs_tt, ↓gs_ff, ↓gs_tf, ↓gs_ft] <;> rfl)); (· (exact ContainsM_ok p61 [.fp [.int .i64 v] 0, .fp [.fz vals.length none 1 (encI vals)] 0] (farB v vals.length) x.t.l (by omega) rfl (fun m _ => Span1_ok m v vals))); (· rfl); (· rfl); (· (first | exact Eq.refl true | exact Eq.refl false)); (simp (implicitDefEqProofs := false) only [inc64 hlt (by omega : C.length ≤ 4611686018427387904), go_sem, reduceCtorEq, Nat.reduceAdd, Nat.reduceMul, Nat.reduceLeDiff, Nat.reduceLT, Nat.reduceEqDiff, Int.reduceNegSucc, ↓gs_tt, ↓gs_ff, ↓gs_tf, ↓gs_ft])) | fail)
        all_goals clear s1 s2 s3 s4 s5 s6 s7 s8 s9
        all_goals first | omega | skip
        · rename_i ha
          have hsp : spanE l v vals = 5 := by
            have : (spanC l v).any (fun x => x.t.l.any (farB v vals.length)) = true := List.any_eq_true.2 ⟨x, hCd ▸ List.mem_of_getElem? hx, ha⟩
            unfold spanE; rw [if_neg (by omega), if_pos this]
          unfold spanV; rw [hsp]; rfl
        · rename_i ha
          refine ⟨n - 1, by omega, i + 1, by omega, rfl, ?_⟩
          rw [take_snoc hx, List.any_append, hk]; simp [ha]
      · have hfar : C.any (fun x => x.t.l.any (farB v vals.length)) = false := by rw [List.take_of_length_le hge] at hk; exact hk
        simp (implicitDefEqProofs := false) only [s1, s2, s3, s4, s5, s6, s7, s8, s9, ltF hge, go_sem, reduceCtorEq, Nat.reduceAdd, Nat.reduceMul, Nat.reduceLeDiff, Nat.reduceLT, Nat.reduceEqDiff, Int.reduceNegSucc, ↓gs_tt, ↓gs_ff, ↓gs_tf, ↓gs_ft]
        repeat' (first | (with_reducible refine And.intro ?_ ?_) | (with_reducible refine gs_t ?_ ?_) | (with_reducible refine gs_f ?_ ?_) | (intro _) | ((with_reducible apply wCall_any); (· (simp (implicitDefEqProofs := false) only [go_sem, reduceCtorEq, Nat.reduceAdd, Nat.reduceMul, Nat.reduceLeDiff, Nat.reduceLT, Nat.reduceEqDiff, Int.reduceNegSucc, ↓gs_tt, ↓gs_ff, ↓gs_tf, ↓gs_ft] <;> rfl)); (· (first | exact ContainsI_ok p63 [] outB vals (by omega) rfl (fun x _ => Span2_ok x) | exact Concat_ok (lowsOf l v) (highsOf l v) (by have := hC.1.len; omega) (by have := hC.2.len; omega))); (· rfl); (· rfl); (· (first | exact Eq.refl true | exact Eq.refl false)); (simp (implicitDefEqProofs := false) only [go_sem, reduceCtorEq, Nat.reduceAdd, Nat.reduceMul, Nat.reduceLeDiff, Nat.reduceLT, Nat.reduceEqDiff, Int.reduceNegSucc, ↓gs_tt, ↓gs_ff, ↓gs_tf, ↓gs_ft])) | fail)
        · rename_i ha
          have hsp : spanE l v vals = 1 := by
            unfold spanE; rw [if_neg (by omega), ← hCd, hfar, if_neg (by simp), if_pos ha]
          unfold spanV; rw [hsp]; rfl
        · rename_i hout
          have hsp : spanE l v vals = 0 := by
            unfold spanE; rw [if_neg (by omega), ← hCd, hfar, if_neg (by simp), hout, if_neg (by simp)]
          clear s1 s2 s3 s4 s5 s6 s7 s8 s9 hk hi hge
          simp only [hCC]
          have hF : ∀ i, ∃ P : Int × Int, P = (C.take i).foldl (spanStep v vals) (-2147483648, 2147483647) := fun i => ⟨_, rfl⟩
          refine wLoop_by (fun n s => ∃ i : Nat, i + n = C.length ∧ At s [(p4, .pt 0 1 0), (p5, .pt 1 1 0), (p6, .int .i64 ((C.take i).foldl (spanStep v vals) (-2147483648, 2147483647)).1), (p7, .int .i64 ((C.take i).foldl (spanStep v vals) (-2147483648, 2147483647)).2),
            (p53, .fz C.length none 3 (encC C)), (p54, .int .i64 C.length), (p55, .int .i64 i)] 4 0 [(1, .obj [.fz vals.length none 1 (encI vals)]), (0, .obj [.int .i64 v])]) C.length ?_ ?_
          · exact ⟨0, by simp, by simp (implicitDefEqProofs := false) only [go_sem, reduceCtorEq, Nat.reduceAdd, Nat.reduceMul, Nat.reduceLeDiff, Nat.reduceLT, Nat.reduceEqDiff, Int.reduceNegSucc, ↓gs_tt, ↓gs_ff, ↓gs_tf, ↓gs_ft]; simp⟩
          · rintro n ⟨e, nx, w, h⟩ ⟨i, hi, ⟨s1, s2, s3, s4, s5, s6, s7, -⟩, rfl, rfl, rfl⟩
            rcases Nat.lt_or_ge i C.length with hlt | hge
            · obtain ⟨x, hx⟩ := has hlt
              have hxm := List.mem_of_getElem? hx
              have hxl := hCs x hxm
              obtain ⟨hxc, hx40, hxok⟩ := okC_parts (List.all_eq_true.1 hall x (hmem x hxm).1)
              have hxfar : ∀ m ∈ x.t.l, m.v ≠ v → m.v < vals.length := by
                intro m hm hne
                have h1 := List.any_eq_false.1 hfar x hxm
                have h2 : x.t.l.any (farB v vals.length) = false := by simpa using h1
                have h3 := List.any_eq_false.1 h2 m hm
                simp [farB, hne] at h3; exact h3
              obtain ⟨P, hP⟩ := hF i
              rw [← hP] at s3 s4
              simp (implicitDefEqProofs := false) only [s1, s2, s3, s4, s5, s6, s7, ltT hlt, encC_cut hx, encC_len, go_sem, reduceCtorEq, Nat.reduceAdd, Nat.reduceMul, Nat.reduceLeDiff, Nat.reduceLT, Nat.reduceEqDiff, Int.reduceNegSucc, ↓gs_tt, ↓gs_ff, ↓gs_tf, ↓gs_ft]
              refine ⟨⟨by omega, by omega⟩, by omega, ?_⟩
              refine wLoop_by (fun n s => ∃ j : Nat, j + n = x.t.l.length ∧ At s [(p4, .pt 0 1 0), (p5, .pt 1 1 0), (p6, .int .i64 P.1), (p7, .int .i64 P.2), (p15, .var (cC x)), (p16, .int .i64 (x.t.c + restOf v vals (x.t.l.take j))),
                (p53, .fz C.length none 3 (encC C)), (p54, .int .i64 C.length), (p55, .int .i64 i), (p64, .fz x.t.l.length none 2 (encM x.t.l)), (p65, .int .i64 x.t.l.length), (p66, .int .i64 j)] 4 0 [(1, .obj [.fz vals.length none 1 (encI vals)]), (0, .obj [.int .i64 v])]) x.t.l.length ?_ ?_
              · exact ⟨0, by simp, by simp (implicitDefEqProofs := false) only [go_sem, reduceCtorEq, Nat.reduceAdd, Nat.reduceMul, Nat.reduceLeDiff, Nat.reduceLT, Nat.reduceEqDiff, Int.reduceNegSucc, ↓gs_tt, ↓gs_ff, ↓gs_tf, ↓gs_ft]; simp [restOf]⟩
              · rintro n' ⟨e', nx, w, h⟩ ⟨j, hj, ⟨a1, a2, a3, a4, a5, a6, a7, a8, a9, a10, a11, a12, -⟩, rfl, rfl, rfl⟩
                rcases Nat.lt_or_ge j x.t.l.length with hjlt | hjge
                · obtain ⟨m, hm⟩ := has hjlt
                  have hmm := List.mem_of_getElem? hm
                  have hmok := hxok m hmm
                  have hb1 := restOf_bound v hout (l := x.t.l.take j) fun m hm => hxok m (List.mem_of_mem_take hm)
                  have hlen : (x.t.l.take j).length ≤ 40 := by rw [List.length_take]; omega
                  have hb2 := term_bound hout hmok
                  have hmv : 0 ≤ m.v := by simp only [okM, Bool.and_eq_true, decide_eq_true_eq] at hmok; omega
                  have hsum : restOf v vals (x.t.l.take (j + 1)) = restOf v vals (x.t.l.take j) + (if m.v = v then 0 else m.k * valOf vals m.v) := by
                    rw [take_snoc hm, restOf_app]; simp [restOf]
                  by_cases hmvv : m.v = v
                  · have hd : decide (m.v = v) = true := by simpa using hmvv
                    simp (implicitDefEqProofs := false) only [a1, a2, a3, a4, a5, a6, a7, a8, a9, a10, a11, a12, hd, ltT hjlt, encM_cut hm, encM_len, inc64 hjlt (by omega : x.t.l.length ≤ 4611686018427387904), go_sem, reduceCtorEq, Nat.reduceAdd, Nat.reduceMul, Nat.reduceLeDiff, Nat.reduceLT, Nat.reduceEqDiff, Int.reduceNegSucc, ↓gs_tt, ↓gs_ff, ↓gs_tf, ↓gs_ft]
                    refine ⟨⟨by omega, by omega⟩, by omega, n' - 1, by omega, j + 1, by omega, ?_⟩
                    rw [hsum, if_pos hmvv]; simp
                  · have hd : decide (m.v = v) = false := by simpa using hmvv
                    have hlv := hxfar m hmm hmvv
                    obtain ⟨y, hy⟩ : ∃ y, vals[m.v.toNat]? = some y := has (by omega)
                    have hval : valOf vals m.v = y := by unfold valOf; rw [hy]; rfl
                    rw [hval] at hb2
                    have hw1 : IntKind.i64.wrap (m.k * y) = m.k * y := i64 (by omega)
                    have hw2 : IntKind.i64.wrap (x.t.c + restOf v vals (x.t.l.take j) + m.k * y) = x.t.c + restOf v vals (x.t.l.take j) + m.k * y := i64 (by omega)
                    simp (implicitDefEqProofs := false) only [a1, a2, a3, a4, a5, a6, a7, a8, a9, a10, a11, a12, hd, ltT hjlt, encM_cut hm, encM_len, inc64 hjlt (by omega : x.t.l.length ≤ 4611686018427387904), Nat.mul_one, encI_g hy, hw1, hw2, go_sem, reduceCtorEq, Nat.reduceAdd, Nat.reduceMul, Nat.reduceLeDiff, Nat.reduceLT, Nat.reduceEqDiff, Int.reduceNegSucc, ↓gs_tt, ↓gs_ff, ↓gs_tf, ↓gs_ft]
                    repeat' (first | (with_reducible refine And.intro ?_ ?_) | (with_reducible refine gs_t ?_ ?_) | (with_reducible refine gs_f ?_ ?_) | (intro _) | fail)
                    all_goals first | omega | skip
                    refine ⟨n' - 1, by omega, j + 1, by omega, ?_⟩
                    rw [hsum, if_neg hmvv, hval]; simp [Int.add_assoc]
                · rw [List.take_of_length_le hjge] at a6
                  have hb1 := restOf_bound v hout hxok
                  have hkb := kOf_bound v hxok
                  have hk0 := (hmem x hxm).2
                  obtain ⟨S, hS⟩ : ∃ S, S = x.t.c + restOf v vals x.t.l := ⟨_, rfl⟩
                  rw [← hS] at a6
                  have hSb : -1152921504606846976 ≤ -S ∧ -S ≤ 1152921504606846976 := by omega
                  have hw1 : IntKind.i64.wrap (-S) = -S := i64 (by omega)
                  have hw2 : IntKind.i64.wrap (-(kOf x.t.l v)) = -(kOf x.t.l v) := i64 (by omega)
                  have hstep : (C.take (i + 1)).foldl (spanStep v vals) (-2147483648, 2147483647) = spanStep v vals P x := by
                    rw [take_snoc hx, List.foldl_append, ← hP]; rfl
                  simp (implicitDefEqProofs := false) only [a1, a2, a3, a4, a5, a6, a7, a8, a9, a10, a11, a12, ltF hjge, hw1, hw2, go_sem, reduceCtorEq, Nat.reduceAdd, Nat.reduceMul, Nat.reduceLeDiff, Nat.reduceLT, Nat.reduceEqDiff, Int.reduceNegSucc, ↓gs_tt, ↓gs_ff, ↓gs_tf, ↓gs_ft]
                  clear a1 a2 a3 a4 a5 a6 a7 a8 a9 a10 a11 a12 s1 s2 s3 s4 s5 s6 s7
                  by_cases hneg : kOf x.t.l v < 0
                  · have hdiv : -1152921504606846976 ≤ -S / -(kOf x.t.l v) ∧ -S / -(kOf x.t.l v) ≤ 1152921504606846976 := ediv_bound (by omega) (by omega) (by omega)
                    have hw3 : IntKind.i64.wrap (-(-S / -(kOf x.t.l v))) = -(-S / -(kOf x.t.l v)) := i64 (by omega)
                    have hd : decide (kOf x.t.l v < 0) = true := by simpa using hneg
                    repeat' (first | (with_reducible refine And.intro ?_ ?_) | (with_reducible refine gs_t ?_ ?_) | (with_reducible refine gs_f ?_ ?_) | (intro _) | ((with_reducible apply wCall_any); (· (simp (implicitDefEqProofs := false) only [go_sem, reduceCtorEq, Nat.reduceAdd, Nat.reduceMul, Nat.reduceLeDiff, Nat.reduceLT, Nat.reduceEqDiff, Int.reduceNegSucc, ↓gs_tt, ↓gs_ff, ↓gs_tf, ↓gs_ft] <;> rfl)); (· (first | exact K_ok _ _ _ (by omega) | exact down_ok (-S) (-(kOf x.t.l v)) (by omega) hSb)); (· rfl); (· rfl); (· (first | exact Eq.refl true | exact Eq.refl false)); (simp (implicitDefEqProofs := false) only [hd, hw1, hw2, hw3, inc64 hlt (by omega : C.length ≤ 4611686018427387904), go_sem, reduceCtorEq, Nat.reduceAdd, Nat.reduceMul, Nat.reduceLeDiff, Nat.reduceLT, Nat.reduceEqDiff, Int.reduceNegSucc, ↓gs_tt, ↓gs_ff, ↓gs_tf, ↓gs_ft])) | fail)
                    refine ⟨n - 1, by omega, i + 1, by omega, ?_⟩
                    rw [hstep]; unfold spanStep; rw [if_pos hneg, ← hS]; simp
                  · have hd : decide (kOf x.t.l v < 0) = false := by simpa using hneg
                    repeat' (first | (with_reducible refine And.intro ?_ ?_) | (with_reducible refine gs_t ?_ ?_) | (with_reducible refine gs_f ?_ ?_) | (intro _) | ((with_reducible apply wCall_any); (· (simp (implicitDefEqProofs := false) only [go_sem, reduceCtorEq, Nat.reduceAdd, Nat.reduceMul, Nat.reduceLeDiff, Nat.reduceLT, Nat.reduceEqDiff, Int.reduceNegSucc, ↓gs_tt, ↓gs_ff, ↓gs_tf, ↓gs_ft] <;> rfl)); (· (first | exact K_ok _ _ _ (by omega) | exact down_ok (-S) (kOf x.t.l v) (by omega) hSb)); (· rfl); (· rfl); (· (first | exact Eq.refl true | exact Eq.refl false)); (simp (implicitDefEqProofs := false) only [hd, hw1, hw2, inc64 hlt (by omega : C.length ≤ 4611686018427387904), go_sem, reduceCtorEq, Nat.reduceAdd, Nat.reduceMul, Nat.reduceLeDiff, Nat.reduceLT, Nat.reduceEqDiff, Int.reduceNegSucc, ↓gs_tt, ↓gs_ff, ↓gs_tf, ↓gs_ft])) | fail)
                    refine ⟨n - 1, by omega, i + 1, by omega, ?_⟩
                    rw [hstep]; unfold spanStep; rw [if_neg hneg, ← hS]; simp
            · rw [List.take_of_length_le hge] at s3 s4
              simp (implicitDefEqProofs := false) only [s1, s2, s3, s4, s5, s6, s7, ltF hge, go_sem, reduceCtorEq, Nat.reduceAdd, Nat.reduceMul, Nat.reduceLeDiff, Nat.reduceLT, Nat.reduceEqDiff, Int.reduceNegSucc, ↓gs_tt, ↓gs_ff, ↓gs_tf, ↓gs_ft]
              unfold spanV; rw [if_pos hsp]; unfold spanFold; rw [← hCd]
end Go.Proofs.Ythdlkpmhjbaplaa.Dx
