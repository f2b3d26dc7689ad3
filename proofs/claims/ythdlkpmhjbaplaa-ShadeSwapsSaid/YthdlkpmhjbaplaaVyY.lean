/- What the law ShadeSwaps comes to. No statement of this seat is proved here. -/
import Derived.Test.YthdlkpmhjbaplaaVyX
set_option autoImplicit false
set_option linter.unusedSimpArgs false
set_option linter.unusedVariables false
set_option maxRecDepth 10000
namespace Go.Proofs.Ythdlkpmhjbaplaa.Dx
open Go
attribute [local irreducible] wCall wLoop
attribute [local go_sem] decide_true decide_false Bool.and_true Bool.true_and Bool.and_self Bool.false_and Bool.and_false vMs vCs vIs Slots At Tr.get_z Tr.get_l Tr.get_r Tr.get_e Tr.set_z_e Tr.set_z_n Tr.set_l_e Tr.set_l_n Tr.set_r_e Tr.set_r_n eOs_n eOs_c eDs_n eDs_c ekOs ekDs ekPut ekBack ekSeq_n ekSeq_x ekSeq_r ekBlk_n ekBlk_x ekBlk_r eO_mk eO_gd eO_loc eO_locb eD_mk eD_loc eD_locb eD_gd eDr eC_skip eC_reg eC_drw eC_seq eC_cond eC_block eC_loop eC_exit eC_ret eRetW_n eRetW_r wk wkL eRet_n eRet_r ekLd_n ekLd_x ekLd_r ekLp_n ekLp_x ekLp_r wI wBin wBd vev vov vovs vplace vouter ofDV ofDVs vcells spl vfills vput vuse vuseP vback vbackP wOf vbare isVarV vkeep hget hset hdels hdel hkeys live vw vwL keysV keysL pureV pureL vsrc veqs vmx vmn vT cT vC cC VOb.cells vres vrsL vrs1 vone List.length_cons List.length_nil List.getElem?_cons_zero List.getElem?_cons_succ List.take_succ_cons List.take_zero List.drop_succ_cons List.drop_zero List.drop_nil List.take_nil List.nil_append List.cons_append List.append_nil Option.some.injEq Nat.zero_add Nat.add_zero if_true if_false ite_true ite_false true_and and_true false_and and_false true_implies implies_true false_implies Bool.true_eq_false Bool.false_eq_true Bool.not_true Bool.not_false eq_self_iff_true Int.toNat_natCast Int.ofNat_eq_natCast Int.ofNat_zero Int.ofNat_one Int.cast_ofNat_Int VV.int.injEq VV.bool.injEq

theorem mem_kOf : ∀ {l : List Mono} {p : Option Int}, okFrom p l = true → ∀ m ∈ l, kOf l m.v = m.k
  | [], _, _, m, hm => by cases hm
  | x :: l, p, h, m, hm => by
    obtain ⟨h1, h2, h3⟩ := okFrom_cons.1 h
    rcases List.mem_cons.1 hm with rfl | hm
    · rw [kOf, if_pos rfl]
    · have := okFrom_lt h3 m hm
      rw [kOf, if_neg (by omega)]; exact mem_kOf h3 m hm
theorem kOf_mem : ∀ {l : List Mono} {w : Int}, kOf l w ≠ 0 → ∃ m ∈ l, m.v = w
  | [], w, h => absurd rfl h
  | x :: l, w, h => by
    by_cases hx : x.v = w
    · exact ⟨x, List.mem_cons_self, hx⟩
    · rw [kOf, if_neg hx] at h
      obtain ⟨m, hm, e⟩ := kOf_mem h
      exact ⟨m, List.mem_cons_of_mem _ hm, e⟩
theorem told_of {c : Int} {l : List Mono} {vals : List Int} (h : okT c l = true) (hr : ∀ w, kOf l w ≠ 0 → w < vals.length) (ho : vals.any outB = false) : toldE c l vals = 0 := by
  unfold toldE
  rw [if_neg (by simp [h]), if_neg, if_neg (by simp [ho])]
  rw [List.any_eq_true]
  rintro ⟨m, hm, h1⟩
  have hf := (okT_spec.1 h).2.2.2
  have := hr m.v (by rw [mem_kOf hf m hm]; exact (okM_spec.1 (okFrom_ok hf m hm)).2.2.1)
  simp at h1; omega
theorem told_range {c : Int} {l : List Mono} {vals : List Int} (h : toldE c l vals = 0) {w : Int} (hw : kOf l w ≠ 0) : 0 ≤ w ∧ w < vals.length := by
  obtain ⟨m, hm, rfl⟩ := kOf_mem hw
  exact (told_parts h).2.1 m hm
theorem valOf_set {vals : List Int} {v w T : Int} (hv : 0 ≤ v ∧ v < vals.length) (hw : 0 ≤ w) : valOf (vals.set v.toNat T) w = if w = v then T else valOf vals w := by
  unfold valOf
  by_cases h : w = v
  · subst h; rw [if_pos rfl, List.getElem?_set_self (by omega)]; rfl
  · rw [if_neg h, List.getElem?_set_ne (by omega)]
theorem any_set {vals : List Int} {v T : Int} (h : vals.any outB = false) (hT : outB T = false) : (vals.set v.toNat T).any outB = false := by
  rw [List.any_eq_false] at h ⊢
  intro a ha
  rcases List.mem_or_eq_of_mem_set ha with h1 | rfl
  · exact h a h1
  · simp [hT]
theorem kOf_neg {c : Int} {l : List Mono} (h : okT c l = true) {w : Int} (hw : w < 0) : kOf l w = 0 := by
  by_cases h0 : kOf l w = 0
  · exact h0
  · obtain ⟨m, hm, rfl⟩ := kOf_mem h0
    have := okM_spec.1 (okFrom_ok (okT_spec.1 h).2.2.2 m hm)
    omega
/-- A variable's number turned where a term has it not. -/
theorem val_set {c : Int} {f : Int → Int} {vals : List Int} {v T : Int} (hv : 0 ≤ v ∧ v < vals.length) (hf : f v = 0) : valF c f (vals.set v.toNat T) = valF c f vals := by
  unfold valF
  congr 1
  refine sumW_congr 40 fun w h0 _ => ?_
  rw [valOf_set hv h0]
  by_cases h : w = v
  · rw [if_pos h, h, hf]; omega
  · rw [if_neg h]
theorem sumW_split (f : Int → Int) (vals : List Int) {v : Int} (hv : 0 ≤ v ∧ v < 40) : sumW (fun w => f w * valOf vals w) 40 = sumW (fun w => (if w = v then 0 else f w) * valOf vals w) 40 + f v * valOf vals v := by
  have e : sumW (fun w => f w * valOf vals w) 40 = sumW (fun w => (if w = v then 0 else f w) * valOf vals w + (if w = v then f v * valOf vals v else 0)) 40 := by
    refine sumW_congr 40 fun w h0 _ => ?_
    by_cases h : w = v
    · subst h; simp
    · simp [h]
  rw [e, sumW_add, sumW_one _ _ _ hv.1, if_pos (by omega)]
/-- The variable's term in its place: all stays. -/
theorem val_put {c d v : Int} {f g h : Int → Int} {vals : List Int} (hv : 0 ≤ v ∧ v < 40) (hh : ∀ w, h w = (if w = v then 0 else f w) + g w * f v) (hy : valOf vals v = valF d g vals) : valF (c + d * f v) h vals = valF c f vals := by
  unfold valF at hy ⊢
  have e : sumW (fun w => h w * valOf vals w) 40 = sumW (fun w => (if w = v then 0 else f w) * valOf vals w) 40 + sumW (fun w => g w * valOf vals w) 40 * f v := by
    rw [← sumW_mul, ← sumW_add]
    refine sumW_congr 40 fun w _ _ => ?_
    rw [hh, Int.add_mul]
    congr 1
    rw [Int.mul_assoc, Int.mul_comm (f v), ← Int.mul_assoc]
  rw [e, sumW_split f vals hv, hy, Int.mul_add, Int.mul_comm d, Int.mul_comm (sumW (fun w => g w * valOf vals w) 40)]
  omega
section
variable {x : Cons} {v : Int} {vals : List Int}
structure SwapAt (x : Cons) (v : Int) (vals : List Int) : Prop where
  ok : okC x = true
  v0 : 0 ≤ v
  vn : v < vals.length
  v40 : v < 40
  eq : x.eq = true
  one : oneB (kOf x.t.l v) = true
  told : toldE x.t.c x.t.l vals = 0
  low : -2147483648 ≤ (equalR x v).1 + linV vals (equalR x v).2.1
  high : (equalR x v).1 + linV vals (equalR x v).2.1 ≤ 2147483647
def swapT (x : Cons) (v : Int) (vals : List Int) : Int := (equalR x v).1 + linV vals (equalR x v).2.1
theorem SwapAt.toldT (A : SwapAt x v vals) : toldE (equalR x v).1 (equalR x v).2.1 vals = 0 := by
  obtain ⟨e1, e2, e3, e4⟩ := equalR_spec A.ok ⟨A.v0, A.v40⟩ A.eq A.one
  refine told_of e2 (fun w hw => ?_) (told_parts A.told).2.2.1
  rw [e4] at hw
  have : kOf x.t.l w ≠ 0 := by
    intro h; rw [h] at hw; simp at hw
  exact (told_range A.told this).2
theorem SwapAt.any (A : SwapAt x v vals) : (vals.set v.toNat (swapT x v vals)).any outB = false := by
  refine any_set (told_parts A.told).2.2.1 ?_
  have h1 := A.low; have h2 := A.high
  unfold swapT outB
  simp; omega
theorem SwapAt.at (A : SwapAt x v vals) : valOf (vals.set v.toNat (swapT x v vals)) v = valF (equalR x v).1 (kOf (equalR x v).2.1) (vals.set v.toNat (swapT x v vals)) := by
  obtain ⟨e1, e2, e3, e4⟩ := equalR_spec A.ok ⟨A.v0, A.v40⟩ A.eq A.one
  rw [valOf_set ⟨A.v0, A.vn⟩ A.v0, if_pos rfl, val_set ⟨A.v0, A.vn⟩ (by rw [e4, if_pos rfl, Int.zero_mul])]
  unfold swapT
  exact val_eq e2 vals
theorem SwapAt.toldY (A : SwapAt x v vals) {c : Int} {l : List Mono} (h : toldE c l vals = 0) : toldE c l (vals.set v.toNat (swapT x v vals)) = 0 :=
  told_of (told_parts h).1 (fun w hw => by rw [List.length_set]; exact (told_range h hw).2) A.any
/-- The Eq itself holds. -/
theorem SwapAt.holds (A : SwapAt x v vals) : holdsB x (vals.set v.toNat (swapT x v vals)) = true := by
  obtain ⟨e1, e2, e3, e4⟩ := equalR_spec A.ok ⟨A.v0, A.v40⟩ A.eq A.one
  have hat := A.at
  generalize hY : vals.set v.toNat (swapT x v vals) = Y at hat ⊢
  have hz : x.t.c + linV Y x.t.l = 0 := by
    rw [val_eq A.ok]
    unfold valF at hat ⊢
    rw [sumW_split _ Y ⟨A.v0, A.v40⟩, hat, e3]
    have : sumW (fun w => kOf (equalR x v).2.1 w * valOf Y w) 40 = sumW (fun w => (if w = v then 0 else kOf x.t.l w) * valOf Y w) 40 * (-(kOf x.t.l v)) := by
      rw [← sumW_mul]
      refine sumW_congr 40 fun w _ _ => ?_
      rw [e4, Int.mul_assoc, Int.mul_comm (-(kOf x.t.l v)), ← Int.mul_assoc]
    rw [this]
    have hk : kOf x.t.l v = 1 ∨ kOf x.t.l v = -1 := by simpa [oneB] using A.one
    generalize sumW (fun w => (if w = v then 0 else kOf x.t.l w) * valOf Y w) 40 = S
    rcases hk with hk | hk <;> rw [hk] <;> omega
  unfold holdsB
  rw [hz]; rfl
/-- What is swapped holds as what it comes of. -/
theorem SwapAt.swap (A : SwapAt x v vals) {z : Cons} (hz : toldE z.t.c z.t.l vals = 0) (he : (swapX v (equalR x v).1 (equalR x v).2.1 z).2.2 ≠ 12) :
    (swapX v (equalR x v).1 (equalR x v).2.1 z).2.2 = 0 ∧ kOf (swapC v (equalR x v).1 (equalR x v).2.1 z).t.l v = 0 ∧
    holdB (vals.set v.toNat (swapT x v vals)) (swapC v (equalR x v).1 (equalR x v).2.1 z) = holdB (vals.set v.toNat (swapT x v vals)) z ∧
    holdB vals (swapC v (equalR x v).1 (equalR x v).2.1 z) = holdB (vals.set v.toNat (swapT x v vals)) z := by
  obtain ⟨e1, e2, e3, e4⟩ := equalR_spec A.ok ⟨A.v0, A.v40⟩ A.eq A.one
  have hzo := (told_parts hz).1
  unfold swapX at he
  rcases putR_spec (v := v) hzo e2 with ⟨p1, p2, p3, p4⟩ | p1
  · have hk0 : kOf (putR z.t.c z.t.l v (equalR x v).1 (equalR x v).2.1).2.1 v = 0 := by
      rw [p4, if_pos rfl, e4, if_pos rfl]; simp
    have ht : toldE (putR z.t.c z.t.l v (equalR x v).1 (equalR x v).2.1).1 (putR z.t.c z.t.l v (equalR x v).1 (equalR x v).2.1).2.1 vals = 0 := by
      refine told_of p2 (fun w hw => ?_) (told_parts hz).2.2.1
      rw [p4] at hw
      by_cases h1 : kOf z.t.l w = 0
      · have : kOf (equalR x v).2.1 w ≠ 0 := by
          intro h; rw [h, h1] at hw; simp at hw
        exact (told_range A.toldT this).2
      · exact (told_range hz h1).2
    have hval : (putR z.t.c z.t.l v (equalR x v).1 (equalR x v).2.1).1 + linV (vals.set v.toNat (swapT x v vals)) (putR z.t.c z.t.l v (equalR x v).1 (equalR x v).2.1).2.1 = z.t.c + linV (vals.set v.toNat (swapT x v vals)) z.t.l := by
      rw [val_eq p2, val_eq hzo, p3]
      exact val_put ⟨A.v0, A.v40⟩ p4 A.at
    have hval2 : (putR z.t.c z.t.l v (equalR x v).1 (equalR x v).2.1).1 + linV vals (putR z.t.c z.t.l v (equalR x v).1 (equalR x v).2.1).2.1 = z.t.c + linV (vals.set v.toNat (swapT x v vals)) z.t.l := by
      rw [← hval, val_eq p2, val_eq p2, val_set ⟨A.v0, A.vn⟩ hk0]
    have hb1 : holdB (vals.set v.toNat (swapT x v vals)) (swapC v (equalR x v).1 (equalR x v).2.1 z) = holdB (vals.set v.toNat (swapT x v vals)) z := by
      unfold holdB holdsB swapC swapX
      simp only [A.toldY hz, A.toldY ht, hval]
    refine ⟨p1, hk0, hb1, ?_⟩
    unfold holdB holdsB swapC swapX
    simp only [A.toldY hz, ht, hval2]
  · exact absurd p1 he
end
end Go.Proofs.Ythdlkpmhjbaplaa.Dx
