/- Terms, constraints: what the program's functions tell, in plain words. No statement of this seat is proved here. -/
import Derived.Test.YthdlkpmhjbaplaaVxI
import Derived.Test.YthdlkpmhjbaplaaCdA
set_option autoImplicit false
namespace Go.Proofs.Ythdlkpmhjbaplaa.Dx
open Go

/-- How many times a term has a variable. -/
def kOf : List Mono → Int → Int
  | [], _ => 0
  | m :: l, v => if m.v = v then m.k else kOf l v
def roomB (n most : Int) : Bool := decide (-most ≤ n) && decide (n ≤ most)
def okM (m : Mono) : Bool := decide (0 ≤ m.v) && decide (m.v < 40) && decide (m.k ≠ 0) && roomB m.k 1048576
def okFrom : Option Int → List Mono → Bool
  | _, [] => true
  | p, m :: l => okM m && (match p with | none => true | some q => decide (q < m.v)) && okFrom (some m.v) l
def okT (c : Int) (l : List Mono) : Bool := roomB c 1099511627776 && decide (l.length ≤ 40) && okFrom none l
def okC (x : Cons) : Bool := okT x.t.c x.t.l
def rightB (l : List Cons) (v : Int) : Bool := decide (0 ≤ v) && decide (v < 40) && l.all okC
def hasB (l : List Cons) (v : Int) : Bool := l.any fun x => x.eq && decide (kOf x.t.l v ≠ 0)
def mayE (l : List Cons) (v : Int) : Int := if rightB l v = false then 1 else if hasB l v = true then 11 else 0
/-- The first place where something holds. -/
def idxOf {α : Type} (p : α → Bool) : List α → Int → Int
  | [], _ => -1
  | x :: l, i => if p x then i else idxOf p l (i + 1)
theorem idxOf_nonneg {α : Type} (p : α → Bool) : ∀ (l : List α) (i : Int), 0 ≤ i → (decide (0 ≤ idxOf p l i) = l.any p)
  | [], i, _ => by simp [idxOf]
  | x :: l, i, h => by
    have ih := idxOf_nonneg p l (i + 1) (by omega)
    by_cases hp : p x = true
    · simp [idxOf, hp, h]
    · simp only [idxOf, List.any_cons, hp, Bool.false_eq_true, if_false]
      rw [ih]; simp
def prevOf (l : List Mono) (i : Nat) : Option Int := if i = 0 then none else (l[i - 1]?).map (·.v)
def oneB (k : Int) : Bool := decide (k = 1) || decide (k = -1)
end Go.Proofs.Ythdlkpmhjbaplaa.Dx

/- What the functions of terms come to: room, Check, K; right, has. No statement of this seat is proved here. -/
set_option autoImplicit false
set_option linter.unusedSimpArgs false
set_option linter.unusedVariables false
set_option maxRecDepth 10000
namespace Go.Proofs.Ythdlkpmhjbaplaa.Dx
open Go
attribute [local irreducible] wCall wLoop
attribute [local go_sem] decide_true decide_false Bool.and_true Bool.true_and Bool.and_self Bool.false_and Bool.and_false vMs vCs vIs Slots At Tr.get_z Tr.get_l Tr.get_r Tr.get_e Tr.set_z_e Tr.set_z_n Tr.set_l_e Tr.set_l_n Tr.set_r_e Tr.set_r_n eOs_n eOs_c eDs_n eDs_c ekOs ekDs ekPut ekBack ekSeq_n ekSeq_x ekSeq_r ekBlk_n ekBlk_x ekBlk_r eO_mk eO_gd eO_loc eO_locb eD_mk eD_loc eD_locb eD_gd eDr eC_skip eC_reg eC_drw eC_seq eC_cond eC_block eC_loop eC_exit eC_ret eRetW_n eRetW_r wk wkL eRet_n eRet_r ekLd_n ekLd_x ekLd_r ekLp_n ekLp_x ekLp_r wI wBin wBd vev vov vovs vplace vouter ofDV ofDVs vcells spl vfills vput vuse vuseP vback vbackP wOf vbare isVarV vkeep hget hset hdels hdel hkeys live vw vwL keysV keysL pureV pureL vsrc veqs vmx vmn vT cT vC cC VOb.cells vres vrsL vrs1 vone List.length_cons List.length_nil List.getElem?_cons_zero List.getElem?_cons_succ List.take_succ_cons List.take_zero List.drop_succ_cons List.drop_zero List.drop_nil List.take_nil List.nil_append List.cons_append List.append_nil Option.some.injEq Nat.zero_add Nat.add_zero if_true if_false ite_true ite_false true_and and_true false_and and_false true_implies implies_true false_implies Bool.true_eq_false Bool.false_eq_true Bool.not_true Bool.not_false eq_self_iff_true Int.toNat_natCast Int.ofNat_eq_natCast Int.ofNat_zero Int.ofNat_one Int.cast_ofNat_Int VV.int.injEq VV.bool.injEq cond_true cond_false

theorem K_ok (c : Int) (l : List Mono) (v : Int) (hl : l.length ≤ 4611686018427387904) : VPure FT p64 [.agg [.int .i64 c, .fz l.length none 2 (encM l)], .int .i64 v] (.int .i64 (kOf l v)) := by
  refine vpure_of_body (f := p64) rfl rfl ?_
  simp (implicitDefEqProofs := false) only [go_sem, reduceCtorEq, Nat.reduceAdd, Nat.reduceMul, Nat.reduceLeDiff, Nat.reduceLT, Nat.reduceEqDiff, Int.reduceNegSucc, ↓gs_tt, ↓gs_ff, ↓gs_tf, ↓gs_ft]
  refine wLoop_by (fun n s => ∃ i : Nat, i + n = l.length ∧ At s [(p1, .int .i64 v), (p8, vMs l), (p9, .int .i64 l.length), (p10, .int .i64 i)] 0 0 [] ∧ kOf l v = kOf (l.drop i) v) l.length ?_ ?_
  · exact ⟨0, by simp, by simp (implicitDefEqProofs := false) only [go_sem, reduceCtorEq, Nat.reduceAdd, Nat.reduceMul, Nat.reduceLeDiff, Nat.reduceLT, Nat.reduceEqDiff, Int.reduceNegSucc, ↓gs_tt, ↓gs_ff, ↓gs_tf, ↓gs_ft], by simp⟩
  · rintro n ⟨e, nx, w, h⟩ ⟨i, hi, ⟨⟨h1, h2, h3, h4, -⟩, rfl, rfl, rfl⟩, hk⟩
    rcases Nat.lt_or_ge i l.length with hlt | hge
    · obtain ⟨m, hm⟩ := has hlt
      rw [drop_cons hm] at hk
      simp (implicitDefEqProofs := false) only [h1, h2, h3, h4, ltT hlt, encM_cut hm, encM_len, inc64 hlt hl, go_sem, reduceCtorEq, Nat.reduceAdd, Nat.reduceMul, Nat.reduceLeDiff, Nat.reduceLT, Nat.reduceEqDiff, Int.reduceNegSucc, ↓gs_tt, ↓gs_ff, ↓gs_tf, ↓gs_ft]
      refine ⟨by omega, by omega, fun h => ?_, fun h => ⟨n - 1, by omega, i + 1, by omega, rfl, ?_⟩⟩
      · rw [hk]; simp at h; simp [kOf, h]
      · rw [hk]; simp at h; simp [kOf, h]
    · simp (implicitDefEqProofs := false) only [h1, h2, h3, h4, ltF hge, go_sem, reduceCtorEq, Nat.reduceAdd, Nat.reduceMul, Nat.reduceLeDiff, Nat.reduceLT, Nat.reduceEqDiff, Int.reduceNegSucc, ↓gs_tt, ↓gs_ff, ↓gs_tf, ↓gs_ft]
      rw [hk, List.drop_eq_nil_of_le hge]; rfl
theorem room_ok (n m : Int) (hm : 0 ≤ m ∧ m ≤ 4611686018427387904) : VPure FT p91 [.int .i64 n, .int .i64 m] (.bool (roomB n m)) := by
  refine vpure_of_body (f := p91) rfl rfl ?_
  have h := i64 (z := -m) (by omega)
  simp (implicitDefEqProofs := false) only [h, go_sem, reduceCtorEq, Nat.reduceAdd, Nat.reduceMul, Nat.reduceLeDiff, Nat.reduceLT, Nat.reduceEqDiff, Int.reduceNegSucc, ↓gs_tt, ↓gs_ff, ↓gs_tf, ↓gs_ft]
  unfold roomB
  refine ⟨fun h => ?_, fun h => ?_⟩ <;> simp only [h] <;> simp
set_option maxHeartbeats 1000000 in
theorem Check_ok (c : Int) (l : List Mono) (hl : l.length ≤ 4611686018427387904) : VPure FT p66 [.agg [.int .i64 c, .fz l.length none 2 (encM l)]] (.int .i64 (if okT c l then 0 else 1)) := by
  refine vpure_of_body (f := p66) rfl rfl ?_
  simp (implicitDefEqProofs := false) only [go_sem, reduceCtorEq, Nat.reduceAdd, Nat.reduceMul, Nat.reduceLeDiff, Nat.reduceLT, Nat.reduceEqDiff, Int.reduceNegSucc, ↓gs_tt, ↓gs_ff, ↓gs_tf, ↓gs_ft]
  repeat' (first | (with_reducible refine And.intro ?_ ?_) | (with_reducible refine gs_t ?_ ?_) | (with_reducible refine gs_f ?_ ?_) | (intro _) | ((with_reducible apply wCall_any); (· (simp (implicitDefEqProofs := false) only [go_sem, reduceCtorEq, Nat.reduceAdd, Nat.reduceMul, Nat.reduceLeDiff, Nat.reduceLT, Nat.reduceEqDiff, Int.reduceNegSucc, ↓gs_tt, ↓gs_ff, ↓gs_tf, ↓gs_ft] <;> rfl)); (· (exact room_ok _ _ (by omega))); (· rfl); (· rfl); (· (first | exact Eq.refl true | exact Eq.refl false)); (simp (implicitDefEqProofs := false) only [go_sem, reduceCtorEq, Nat.reduceAdd, Nat.reduceMul, Nat.reduceLeDiff, Nat.reduceLT, Nat.reduceEqDiff, Int.reduceNegSucc, ↓gs_tt, ↓gs_ff, ↓gs_tf, ↓gs_ft])) | fail)
  · rename_i h1 h2; simp at h1 h2; unfold okT; rw [if_neg]; simp; omega
  · rename_i h1 h2
    have h1' : roomB c 1099511627776 = true := by simpa using h1
    have h2' : l.length ≤ 40 := by simp at h2; omega
    refine wLoop_by (fun n s => ∃ i : Nat, i + n = l.length ∧ At s [(p1, .var [.int .i64 c, .fz l.length none 2 (encM l)]), (p16, .fz l.length none 2 (encM l)), (p17, .int .i64 l.length), (p18, .int .i64 i)] 0 0 [] ∧ okFrom none l = okFrom (prevOf l i) (l.drop i)) l.length ?_ ?_
    · exact ⟨0, by simp, by simp (implicitDefEqProofs := false) only [go_sem, reduceCtorEq, Nat.reduceAdd, Nat.reduceMul, Nat.reduceLeDiff, Nat.reduceLT, Nat.reduceEqDiff, Int.reduceNegSucc, ↓gs_tt, ↓gs_ff, ↓gs_tf, ↓gs_ft], by simp [prevOf]⟩
    · rintro n ⟨e, nx, w, h⟩ ⟨i, hi, ⟨⟨s1, s2, s3, s4, -⟩, rfl, rfl, rfl⟩, hk⟩
      rcases Nat.lt_or_ge i l.length with hlt | hge
      · obtain ⟨m, hm⟩ := has hlt
        rw [drop_cons hm] at hk
        have key : ∀ q, prevOf l i = q → okFrom q (m :: l.drop (i + 1)) = (okM m && (match q with | none => true | some q => decide (q < m.v)) && okFrom (some m.v) (l.drop (i + 1))) := fun q _ => rfl
        rw [key _ rfl] at hk
        have hp1 : prevOf l (i + 1) = some m.v := by simp [prevOf, hm]
        have fin : okM m = true → (match prevOf l i with | none => true | some q => decide (q < m.v)) = true → ∃ m0, m0 < n ∧ ∃ i_1, i_1 + m0 = l.length ∧ ((i + 1 : Nat) : Int) = (i_1 : Int) ∧ okFrom none l = okFrom (prevOf l i_1) (List.drop i_1 l) := by
          intro a b
          refine ⟨n - 1, by omega, i + 1, by omega, rfl, ?_⟩
          rw [hk, a, b, hp1]; rfl
        have bad : (okM m = false ∨ (match prevOf l i with | none => true | some q => decide (q < m.v)) = false) → (1 : Int) = if okT c l = true then 0 else 1 := by
          intro h
          rw [if_neg]
          unfold okT; rw [hk]
          rcases h with h | h <;> rw [h] <;> simp
        by_cases hi0 : i = 0
        · have hz : decide ((0 : Int) < (i : Int)) = false := by simp [hi0]
          have hpz : prevOf l i = none := by simp [prevOf, hi0]
          rw [hpz] at fin bad
          simp (implicitDefEqProofs := false) only [s1, s2, s3, s4, ltT hlt, encM_cut hm, encM_len, inc64 hlt hl, hz, go_sem, reduceCtorEq, Nat.reduceAdd, Nat.reduceMul, Nat.reduceLeDiff, Nat.reduceLT, Nat.reduceEqDiff, Int.reduceNegSucc, ↓gs_tt, ↓gs_ff, ↓gs_tf, ↓gs_ft]
          clear hk key s1 s2 s3 s4
          repeat' (first | (with_reducible refine And.intro ?_ ?_) | (with_reducible refine gs_t ?_ ?_) | (with_reducible refine gs_f ?_ ?_) | (intro _) | ((with_reducible apply wCall_any); (· (simp (implicitDefEqProofs := false) only [go_sem, reduceCtorEq, Nat.reduceAdd, Nat.reduceMul, Nat.reduceLeDiff, Nat.reduceLT, Nat.reduceEqDiff, Int.reduceNegSucc, ↓gs_tt, ↓gs_ff, ↓gs_tf, ↓gs_ft] <;> rfl)); (· (exact room_ok _ _ (by omega))); (· rfl); (· rfl); (· (first | exact Eq.refl true | exact Eq.refl false)); (simp (implicitDefEqProofs := false) only [inc64 hlt hl, go_sem, reduceCtorEq, Nat.reduceAdd, Nat.reduceMul, Nat.reduceLeDiff, Nat.reduceLT, Nat.reduceEqDiff, Int.reduceNegSucc, ↓gs_tt, ↓gs_ff, ↓gs_tf, ↓gs_ft])) | fail)
          all_goals first
            | omega
            | (refine bad (.inl ?_); clear fin bad; first | (simp_all [okM]; done) | (simp_all [okM]; intros; omega))
            | (refine bad (.inr ?_); clear fin bad; first | (simp_all; done) | (simp_all; omega))
            | (refine fin ?_ ?_ <;> clear fin bad <;> first | rfl | (simp_all [okM]; done) | (simp_all [okM]; omega) | (simp_all; omega))
        · obtain ⟨j, hj⟩ : ∃ j, j + 1 = i := ⟨i - 1, by omega⟩
          obtain ⟨m', hm'⟩ : ∃ m', l[j]? = some m' := has (by omega)
          have hz : decide ((0 : Int) < (i : Int)) = true := by simp; omega
          have hw : IntKind.i64.wrap ((i : Int) - 1) = (j : Int) := by rw [i64 (by omega)]; omega
          have hpz : prevOf l i = some m'.v := by
            have : i - 1 = j := by omega
            simp [prevOf, hi0, this, hm']
          rw [hpz] at fin bad
          simp (implicitDefEqProofs := false) only [s1, s2, s3, s4, ltT hlt, encM_cut hm, encM_g0 hm', encM_len, inc64 hlt hl, hw, hz, go_sem, reduceCtorEq, Nat.reduceAdd, Nat.reduceMul, Nat.reduceLeDiff, Nat.reduceLT, Nat.reduceEqDiff, Int.reduceNegSucc, ↓gs_tt, ↓gs_ff, ↓gs_tf, ↓gs_ft]
          clear hk key s1 s2 s3 s4
          repeat' (first | (with_reducible refine And.intro ?_ ?_) | (with_reducible refine gs_t ?_ ?_) | (with_reducible refine gs_f ?_ ?_) | (intro _) | ((with_reducible apply wCall_any); (· (simp (implicitDefEqProofs := false) only [go_sem, reduceCtorEq, Nat.reduceAdd, Nat.reduceMul, Nat.reduceLeDiff, Nat.reduceLT, Nat.reduceEqDiff, Int.reduceNegSucc, ↓gs_tt, ↓gs_ff, ↓gs_tf, ↓gs_ft] <;> rfl)); (· (exact room_ok _ _ (by omega))); (· rfl); (· rfl); (· (first | exact Eq.refl true | exact Eq.refl false)); (simp (implicitDefEqProofs := false) only [inc64 hlt hl, go_sem, reduceCtorEq, Nat.reduceAdd, Nat.reduceMul, Nat.reduceLeDiff, Nat.reduceLT, Nat.reduceEqDiff, Int.reduceNegSucc, ↓gs_tt, ↓gs_ff, ↓gs_tf, ↓gs_ft])) | fail)
          all_goals first
            | omega
            | (refine bad (.inl ?_); clear fin bad; first | (simp_all [okM]; done) | (simp_all [okM]; intros; omega))
            | (refine bad (.inr ?_); clear fin bad; first | (simp_all; done) | (simp_all; omega))
            | (refine fin ?_ ?_ <;> clear fin bad <;> first | rfl | (simp_all [okM]; done) | (simp_all [okM]; omega) | (simp_all; omega))
      · simp (implicitDefEqProofs := false) only [s1, s2, s3, s4, ltF hge, go_sem, reduceCtorEq, Nat.reduceAdd, Nat.reduceMul, Nat.reduceLeDiff, Nat.reduceLT, Nat.reduceEqDiff, Int.reduceNegSucc, ↓gs_tt, ↓gs_ff, ↓gs_tf, ↓gs_ft]
        unfold okT
        rw [hk, List.drop_eq_nil_of_le hge, h1', show decide (l.length ≤ 40) = true by simpa using h2']; simp [okFrom]
  · rename_i h1; simp at h1; unfold okT; rw [if_neg]; simp [h1]
end Go.Proofs.Ythdlkpmhjbaplaa.Dx

/- What the functions of shade come to: right, has, may, all, Exact. No statement of this seat is proved here. -/
set_option autoImplicit false
set_option linter.unusedSimpArgs false
set_option linter.unusedVariables false
set_option maxRecDepth 10000
namespace Go.Proofs.Ythdlkpmhjbaplaa.Dx
open Go
attribute [local irreducible] wCall wLoop
attribute [local go_sem] decide_true decide_false Bool.and_true Bool.true_and Bool.and_self Bool.false_and Bool.and_false vMs vCs vIs Slots At Tr.get_z Tr.get_l Tr.get_r Tr.get_e Tr.set_z_e Tr.set_z_n Tr.set_l_e Tr.set_l_n Tr.set_r_e Tr.set_r_n eOs_n eOs_c eDs_n eDs_c ekOs ekDs ekPut ekBack ekSeq_n ekSeq_x ekSeq_r ekBlk_n ekBlk_x ekBlk_r eO_mk eO_gd eO_loc eO_locb eD_mk eD_loc eD_locb eD_gd eDr eC_skip eC_reg eC_drw eC_seq eC_cond eC_block eC_loop eC_exit eC_ret eRetW_n eRetW_r wk wkL eRet_n eRet_r ekLd_n ekLd_x ekLd_r ekLp_n ekLp_x ekLp_r wI wBin wBd vev vov vovs vplace vouter ofDV ofDVs vcells spl vfills vput vuse vuseP vback vbackP wOf vbare isVarV vkeep hget hset hdels hdel hkeys live vw vwL keysV keysL pureV pureL vsrc veqs vmx vmn vT cT vC cC VOb.cells vres vrsL vrs1 vone List.length_cons List.length_nil List.getElem?_cons_zero List.getElem?_cons_succ List.take_succ_cons List.take_zero List.drop_succ_cons List.drop_zero List.drop_nil List.take_nil List.nil_append List.cons_append List.append_nil Option.some.injEq Nat.zero_add Nat.add_zero if_true if_false ite_true ite_false true_and and_true false_and and_false true_implies implies_true false_implies Bool.true_eq_false Bool.false_eq_true Bool.not_true Bool.not_false eq_self_iff_true Int.toNat_natCast Int.ofNat_eq_natCast Int.ofNat_zero Int.ofNat_one Int.cast_ofNat_Int VV.int.injEq VV.bool.injEq cond_true cond_false

theorem wCall_pp {F : Tr Fd} {f : P} {args : List VV} {s : VSt} {K : VSt → VV → Prop} {r : VV} (ha : pureL args = true) (hp : VPure F f args r) (hr : pureV r = true) (hK : K s r) : wCall F f args s K :=
  wCall_pure (vwL_pure _ _ ha) hp hr (.inr ha) hK

theorem one_ok (k : Int) : VPure FT p51 [.int .i64 k] (.bool (oneB k)) := by
  refine vpure_of_body (f := p51) rfl rfl ?_
  simp (implicitDefEqProofs := false) only [go_sem, reduceCtorEq, Nat.reduceAdd, Nat.reduceMul, Nat.reduceLeDiff, Nat.reduceLT, Nat.reduceEqDiff, Int.reduceNegSucc, ↓gs_tt, ↓gs_ff, ↓gs_tf, ↓gs_ft]
  unfold oneB
  refine gs_f (fun h => ?_) (fun h => ?_) <;> simp only [h] <;> simp
theorem right1_ok (x : Cons) (hx : x.t.l.length ≤ 4611686018427387904) : VPure FT p83 [.agg (cC x)] (.bool (!okC x)) := by
  refine vpure_of_body (f := p83) rfl rfl ?_
  simp (implicitDefEqProofs := false) only [go_sem, reduceCtorEq, Nat.reduceAdd, Nat.reduceMul, Nat.reduceLeDiff, Nat.reduceLT, Nat.reduceEqDiff, Int.reduceNegSucc, ↓gs_tt, ↓gs_ff, ↓gs_tf, ↓gs_ft]
  repeat' (first | (with_reducible refine And.intro ?_ ?_) | (with_reducible refine gs_t ?_ ?_) | (with_reducible refine gs_f ?_ ?_) | (intro _) | ((with_reducible apply wCall_any); (· (simp (implicitDefEqProofs := false) only [go_sem, reduceCtorEq, Nat.reduceAdd, Nat.reduceMul, Nat.reduceLeDiff, Nat.reduceLT, Nat.reduceEqDiff, Int.reduceNegSucc, ↓gs_tt, ↓gs_ff, ↓gs_tf, ↓gs_ft] <;> rfl)); (· (exact Check_ok _ _ hx)); (· rfl); (· rfl); (· (first | exact Eq.refl true | exact Eq.refl false)); (simp (implicitDefEqProofs := false) only [go_sem, reduceCtorEq, Nat.reduceAdd, Nat.reduceMul, Nat.reduceLeDiff, Nat.reduceLT, Nat.reduceEqDiff, Int.reduceNegSucc, ↓gs_tt, ↓gs_ff, ↓gs_tf, ↓gs_ft])) | fail)
  unfold okC
  cases okT x.t.c x.t.l <;> rfl
theorem IndexC_ok (f : P) (cs : List VV) (p : Cons → Bool) (l : List Cons) (hl : l.length ≤ 4611686018427387904) (hcs : pureL cs = true) (hp : ∀ x ∈ l, VPure FT f (.agg (cC x) :: cs) (.bool (p x))) :
    VPure FT p106 [.fz l.length none 3 (encC l), .fn f cs] (.int .i64 (idxOf p l 0)) := by
  refine vpure_of_body (f := p106) rfl rfl ?_
  simp (implicitDefEqProofs := false) only [go_sem, reduceCtorEq, Nat.reduceAdd, Nat.reduceMul, Nat.reduceLeDiff, Nat.reduceLT, Nat.reduceEqDiff, Int.reduceNegSucc, ↓gs_tt, ↓gs_ff, ↓gs_tf, ↓gs_ft]
  refine wLoop_by (fun n s => ∃ i : Nat, i + n = l.length ∧ At s [(p0, .fz l.length none 3 (encC l)), (p1, .fn f cs), (p7, .int .i64 l.length), (p8, .int .i64 i)] 0 0 [] ∧ idxOf p l 0 = idxOf p (l.drop i) i) l.length ?_ ?_
  · exact ⟨0, by simp, by simp (implicitDefEqProofs := false) only [go_sem, reduceCtorEq, Nat.reduceAdd, Nat.reduceMul, Nat.reduceLeDiff, Nat.reduceLT, Nat.reduceEqDiff, Int.reduceNegSucc, ↓gs_tt, ↓gs_ff, ↓gs_tf, ↓gs_ft], by simp⟩
  · rintro n ⟨e, nx, w, h⟩ ⟨i, hi, ⟨⟨s1, s2, s3, s4, -⟩, rfl, rfl, rfl⟩, hk⟩
    rcases Nat.lt_or_ge i l.length with hlt | hge
    · obtain ⟨x, hx⟩ := has hlt
      rw [drop_cons hx] at hk
      simp (implicitDefEqProofs := false) only [s1, s2, s3, s4, ltT hlt, encC_cut hx, encC_len, inc64 hlt hl, go_sem, reduceCtorEq, Nat.reduceAdd, Nat.reduceMul, Nat.reduceLeDiff, Nat.reduceLT, Nat.reduceEqDiff, Int.reduceNegSucc, ↓gs_tt, ↓gs_ff, ↓gs_tf, ↓gs_ft]
      refine ⟨⟨by omega, by omega⟩, by omega, ?_⟩
      refine wCall_pp (r := .bool (p x)) (by simp [pureL, pureV, hcs]) (hp x (List.mem_of_getElem? hx)) rfl ?_
      simp (implicitDefEqProofs := false) only [inc64 hlt hl, go_sem, reduceCtorEq, Nat.reduceAdd, Nat.reduceMul, Nat.reduceLeDiff, Nat.reduceLT, Nat.reduceEqDiff, Int.reduceNegSucc, ↓gs_tt, ↓gs_ff, ↓gs_tf, ↓gs_ft]
      refine gs_t (fun h => ?_) (fun h => ?_)
      · rw [hk]; simp [idxOf, h]
      · refine ⟨n - 1, by omega, i + 1, by omega, rfl, ?_⟩
        rw [hk]; simp [idxOf, h]
    · simp (implicitDefEqProofs := false) only [s1, s2, s3, s4, ltF hge, go_sem, reduceCtorEq, Nat.reduceAdd, Nat.reduceMul, Nat.reduceLeDiff, Nat.reduceLT, Nat.reduceEqDiff, Int.reduceNegSucc, ↓gs_tt, ↓gs_ff, ↓gs_tf, ↓gs_ft]
      rw [hk, List.drop_eq_nil_of_le hge]; rfl
theorem ContainsC_ok (f : P) (cs : List VV) (p : Cons → Bool) (l : List Cons) (hl : l.length ≤ 4611686018427387904) (hcs : pureL cs = true) (hp : ∀ x ∈ l, VPure FT f (.agg (cC x) :: cs) (.bool (p x))) :
    VPure FT p82 [.fz l.length none 3 (encC l), .fn f cs] (.bool (l.any p)) := by
  refine vpure_of_body (f := p82) rfl rfl ?_
  simp (implicitDefEqProofs := false) only [go_sem, reduceCtorEq, Nat.reduceAdd, Nat.reduceMul, Nat.reduceLeDiff, Nat.reduceLT, Nat.reduceEqDiff, Int.reduceNegSucc, ↓gs_tt, ↓gs_ff, ↓gs_tf, ↓gs_ft]
  refine wCall_pp (r := .int .i64 (idxOf p l 0)) (by simp [pureL, pureV, hcs]) (IndexC_ok f cs p l hl hcs hp) rfl ?_
  simp (implicitDefEqProofs := false) only [go_sem, reduceCtorEq, Nat.reduceAdd, Nat.reduceMul, Nat.reduceLeDiff, Nat.reduceLT, Nat.reduceEqDiff, Int.reduceNegSucc, ↓gs_tt, ↓gs_ff, ↓gs_tf, ↓gs_ft]
  exact idxOf_nonneg p l 0 (by omega)
/-- All lengths are small. -/
structure smallC (l : List Cons) : Prop where
  len : l.length ≤ 100000
  all : ∀ x ∈ l, x.t.l.length ≤ 1000000
theorem right_ok (l : List Cons) (v : Int) (hl : smallC l) : VPure FT p50 [.fz l.length none 3 (encC l), .int .i64 v] (.bool (rightB l v)) := by
  refine vpure_of_body (f := p50) rfl rfl ?_
  simp (implicitDefEqProofs := false) only [go_sem, reduceCtorEq, Nat.reduceAdd, Nat.reduceMul, Nat.reduceLeDiff, Nat.reduceLT, Nat.reduceEqDiff, Int.reduceNegSucc, ↓gs_tt, ↓gs_ff, ↓gs_tf, ↓gs_ft]
  repeat' (first | (with_reducible refine And.intro ?_ ?_) | (with_reducible refine gs_t ?_ ?_) | (with_reducible refine gs_f ?_ ?_) | (intro _) | ((with_reducible apply wCall_any); (· (simp (implicitDefEqProofs := false) only [go_sem, reduceCtorEq, Nat.reduceAdd, Nat.reduceMul, Nat.reduceLeDiff, Nat.reduceLT, Nat.reduceEqDiff, Int.reduceNegSucc, ↓gs_tt, ↓gs_ff, ↓gs_tf, ↓gs_ft] <;> rfl)); (· (exact ContainsC_ok p83 [] (fun x => !okC x) l (by have := hl.len; omega) rfl (fun x hx => right1_ok x (by have := hl.all x hx; omega)))); (· rfl); (· rfl); (· (first | exact Eq.refl true | exact Eq.refl false)); (simp (implicitDefEqProofs := false) only [go_sem, reduceCtorEq, Nat.reduceAdd, Nat.reduceMul, Nat.reduceLeDiff, Nat.reduceLT, Nat.reduceEqDiff, Int.reduceNegSucc, ↓gs_tt, ↓gs_ff, ↓gs_tf, ↓gs_ft])) | fail)
  all_goals unfold rightB
  all_goals first | (simp_all [List.any_eq_not_all_not]; done) | (simp_all [List.any_eq_not_all_not]; intros; omega)
theorem has1_ok (x : Cons) (v : Int) (hx : x.t.l.length ≤ 4611686018427387904) : VPure FT p107 [.agg (cC x), .fp [.int .i64 v] 0] (.bool (x.eq && decide (kOf x.t.l v ≠ 0))) := by
  refine vpure_of_body (f := p107) rfl rfl ?_
  simp (implicitDefEqProofs := false) only [go_sem, reduceCtorEq, Nat.reduceAdd, Nat.reduceMul, Nat.reduceLeDiff, Nat.reduceLT, Nat.reduceEqDiff, Int.reduceNegSucc, ↓gs_tt, ↓gs_ff, ↓gs_tf, ↓gs_ft]
  repeat' (first | (with_reducible refine And.intro ?_ ?_) | (with_reducible refine gs_t ?_ ?_) | (with_reducible refine gs_f ?_ ?_) | (intro _) | ((with_reducible apply wCall_any); (· (simp (implicitDefEqProofs := false) only [go_sem, reduceCtorEq, Nat.reduceAdd, Nat.reduceMul, Nat.reduceLeDiff, Nat.reduceLT, Nat.reduceEqDiff, Int.reduceNegSucc, ↓gs_tt, ↓gs_ff, ↓gs_tf, ↓gs_ft] <;> rfl)); (· (exact K_ok _ _ _ hx)); (· rfl); (· rfl); (· (first | exact Eq.refl true | exact Eq.refl false)); (simp (implicitDefEqProofs := false) only [go_sem, reduceCtorEq, Nat.reduceAdd, Nat.reduceMul, Nat.reduceLeDiff, Nat.reduceLT, Nat.reduceEqDiff, Int.reduceNegSucc, ↓gs_tt, ↓gs_ff, ↓gs_tf, ↓gs_ft])) | fail)
  all_goals simp_all
theorem has_ok (l : List Cons) (v : Int) (hl : smallC l) : VPure FT p84 [.fz l.length none 3 (encC l), .int .i64 v] (.bool (hasB l v)) := by
  refine vpure_of_body (f := p84) rfl rfl ?_
  simp (implicitDefEqProofs := false) only [go_sem, reduceCtorEq, Nat.reduceAdd, Nat.reduceMul, Nat.reduceLeDiff, Nat.reduceLT, Nat.reduceEqDiff, Int.reduceNegSucc, ↓gs_tt, ↓gs_ff, ↓gs_tf, ↓gs_ft]
  repeat' (first | (with_reducible refine And.intro ?_ ?_) | (with_reducible refine gs_t ?_ ?_) | (with_reducible refine gs_f ?_ ?_) | (intro _) | ((with_reducible apply wCall_any); (· (simp (implicitDefEqProofs := false) only [go_sem, reduceCtorEq, Nat.reduceAdd, Nat.reduceMul, Nat.reduceLeDiff, Nat.reduceLT, Nat.reduceEqDiff, Int.reduceNegSucc, ↓gs_tt, ↓gs_ff, ↓gs_tf, ↓gs_ft] <;> rfl)); (· (exact ContainsC_ok p107 [.fp [.int .i64 v] 0] (fun x => x.eq && decide (kOf x.t.l v ≠ 0)) l (by have := hl.len; omega) rfl (fun x hx => has1_ok x v (by have := hl.all x hx; omega)))); (· rfl); (· rfl); (· (first | exact Eq.refl true | exact Eq.refl false)); (simp (implicitDefEqProofs := false) only [go_sem, reduceCtorEq, Nat.reduceAdd, Nat.reduceMul, Nat.reduceLeDiff, Nat.reduceLT, Nat.reduceEqDiff, Int.reduceNegSucc, ↓gs_tt, ↓gs_ff, ↓gs_tf, ↓gs_ft])) | fail)
  rfl
theorem may_ok (l : List Cons) (v : Int) (hl : smallC l) : VPure FT p52 [.fz l.length none 3 (encC l), .int .i64 v] (.int .i64 (mayE l v)) := by
  refine vpure_of_body (f := p52) rfl rfl ?_
  simp (implicitDefEqProofs := false) only [go_sem, reduceCtorEq, Nat.reduceAdd, Nat.reduceMul, Nat.reduceLeDiff, Nat.reduceLT, Nat.reduceEqDiff, Int.reduceNegSucc, ↓gs_tt, ↓gs_ff, ↓gs_tf, ↓gs_ft]
  repeat' (first | (with_reducible refine And.intro ?_ ?_) | (with_reducible refine gs_t ?_ ?_) | (with_reducible refine gs_f ?_ ?_) | (intro _) | ((with_reducible apply wCall_any); (· (simp (implicitDefEqProofs := false) only [go_sem, reduceCtorEq, Nat.reduceAdd, Nat.reduceMul, Nat.reduceLeDiff, Nat.reduceLT, Nat.reduceEqDiff, Int.reduceNegSucc, ↓gs_tt, ↓gs_ff, ↓gs_tf, ↓gs_ft] <;> rfl)); (· (first | exact right_ok l v hl | exact has_ok l v hl)); (· rfl); (· rfl); (· (first | exact Eq.refl true | exact Eq.refl false)); (simp (implicitDefEqProofs := false) only [go_sem, reduceCtorEq, Nat.reduceAdd, Nat.reduceMul, Nat.reduceLeDiff, Nat.reduceLT, Nat.reduceEqDiff, Int.reduceNegSucc, ↓gs_tt, ↓gs_ff, ↓gs_tf, ↓gs_ft])) | fail)
  all_goals unfold mayE
  all_goals first | rfl | (simp_all; done)
end Go.Proofs.Ythdlkpmhjbaplaa.Dx
