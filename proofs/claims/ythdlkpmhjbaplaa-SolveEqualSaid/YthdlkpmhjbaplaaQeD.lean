/- A part of the proof of Equal: a small machine, what its functions come to, plain laws. No statement of this seat is proved here. -/
import Derived.Test.YthdlkpmhjbaplaaQeC
import Derived.Deep.MidRow
import Derived.RowKit3
import Derived.Great.BuildSlice
import Derived.WalkSpells
import Derived.Laws.StructEq
import Derived.Shelf.Abstract
set_option autoImplicit false
set_option linter.unusedSimpArgs false
set_option linter.unusedVariables false
set_option linter.unnecessarySimpa false
set_option maxRecDepth 100000
noncomputable section
namespace Go.Proofs.Ythdlkpmhjbaplaa.Dx
open Go
theorem scale_err {c : Int} {l : List Mono} {k : Int} (h : okT c l = true) (he : (scaleR c l k).2.2 ≠ 0) : scaleR c l k = (0, [], 12) := by
  unfold scaleR at he ⊢
  rw [if_neg (by simp [h])] at he ⊢
  split at he
  · exact absurd rfl he
  · rename_i h1; rw [if_neg h1]
theorem first_zero : ∀ {l : List Int}, firstErr l = 0 ↔ ∀ e ∈ l, e = 0
  | [] => by simp [firstErr]
  | e :: l => by
    rw [firstErr]
    by_cases h : e = 0
    · rw [if_neg (by omega), first_zero]; simp [h]
    · rw [if_pos h]; simp [h]
theorem drop_zero {l : List Cons} {v : Int} : dropErr l v = 0 ↔ ∀ a ∈ lowsOf l v, ∀ b ∈ highsOf l v, (pairR a b v).2.2 = 0 := by
  unfold dropErr
  rw [first_zero]
  constructor
  · intro h a ha b hb
    exact h _ (List.mem_flatMap.2 ⟨a, ha, List.mem_map.2 ⟨b, hb, rfl⟩⟩)
  · intro h e he
    obtain ⟨a, ha, he⟩ := List.mem_flatMap.1 he
    obtain ⟨b, hb, rfl⟩ := List.mem_map.1 he
    exact h a ha b hb
def goodX (n : Nat) (x : Cons) : Prop := okC x = true ∧ ∀ w, kOf x.t.l w ≠ 0 → w < n
def good (n : Nat) (l : List Cons) : Prop := l.length ≤ 100000 ∧ ∀ x ∈ l, goodX n x
theorem good.small {n : Nat} {l : List Cons} (h : good n l) : smallC l := ⟨h.1, fun x hx => by have := (okC_parts (h.2 x hx).1).2.1; omega⟩
theorem good.ok {n : Nat} {l : List Cons} (h : good n l) : l.all okC = true := List.all_eq_true.2 fun x hx => (h.2 x hx).1
theorem gcd_dvd : ∀ {l : List Mono} {m : Mono}, m ∈ l → (gcdL l : Int) ∣ m.k := by
  have key : ∀ (l : List Mono) (g : Nat), (∀ m ∈ l, ((l.foldl (fun g m => Int.gcd g m.k) g : Nat) : Int) ∣ m.k) ∧ ((l.foldl (fun g m => Int.gcd g m.k) g : Nat) : Int) ∣ g := by
    intro l
    induction l with
    | nil => intro g; exact ⟨by simp, Int.dvd_refl _⟩
    | cons a l ih =>
      intro g
      rw [List.foldl_cons]
      obtain ⟨h1, h2⟩ := ih (Int.gcd g a.k)
      refine ⟨fun m hm => ?_, Int.dvd_trans h2 (Int.gcd_dvd_left ..)⟩
      rcases List.mem_cons.1 hm with rfl | hm
      · exact Int.dvd_trans h2 (Int.gcd_dvd_right ..)
      · exact h1 m hm
  intro l m hm
  exact (key l 0).1 m hm
theorem sgC_cases (x : Cons) : sgC x = 1 ∨ sgC x = -1 := by unfold sgC; split <;> simp
theorem tdiv_exact {a g s : Int} (hg : 0 < g) (hd : g ∣ a) (hs : s = 1 ∨ s = -1) : (s * a).tdiv g * g = s * a ∧ (a ≠ 0 → (s * a).tdiv g ≠ 0) := by
  have hd2 : g ∣ s * a := Int.dvd_trans hd (Int.dvd_mul_left ..)
  have h1 := Int.tdiv_mul_cancel hd2
  refine ⟨h1, fun h0 h => ?_⟩
  rw [h, Int.zero_mul] at h1
  rcases hs with rfl | rfl <;> omega
theorem shM_ok {l : List Mono} {g s : Int} (hg : 0 < g) (hs : s = 1 ∨ s = -1) : ∀ {l : List Mono} {p : Option Int}, okFrom p l = true → (∀ m ∈ l, g ∣ m.k) → okFrom p (l.map (shM g s)) = true
  | [], _, _, _ => rfl
  | m :: l, p, h, hd => by
    obtain ⟨h1, h2, h3⟩ := okFrom_cons.1 h
    have hm := okM_spec.1 h1
    have hx := tdiv_exact hg (hd m List.mem_cons_self) hs
    have hb : ((s * m.k).tdiv g).natAbs ≤ (s * m.k).natAbs := by
      rw [Int.natAbs_tdiv]; exact Nat.div_le_self _ _
    have hsa : (s * m.k).natAbs = m.k.natAbs := by rcases hs with rfl | rfl <;> simp
    refine okFrom_cons.2 ⟨okM_spec.2 ⟨hm.1, hm.2.1, hx.2 hm.2.2.1, ?_, ?_⟩, h2, shM_ok (l := []) hg hs h3 fun y hy => hd y (List.mem_cons_of_mem _ hy)⟩
    · simp only [shM]; omega
    · simp only [shM]; omega
theorem kOf_sh {g s : Int} (w : Int) : ∀ l : List Mono, kOf (l.map (shM g s)) w = (s * kOf l w).tdiv g
  | [] => by simp [kOf]
  | m :: l => by
    rw [List.map_cons, kOf, kOf]
    by_cases h : m.v = w
    · rw [if_pos h, if_pos (by simpa [shM] using h)]; rfl
    · rw [if_neg h, if_neg (by simpa [shM] using h), kOf_sh w l]
theorem one_good {n : Nat} {x : Cons} (h : goodX n x) (hne : x.t.l ≠ []) : goodX n (oneCx x) := by
  obtain ⟨ho, hv⟩ := h
  obtain ⟨hc, x40, xok⟩ := okC_parts ho
  have hok : okT x.t.c x.t.l = true := ho
  have gp : (0 : Int) < gcdL x.t.l := by have := gcdL_pos hne xok; omega
  have hub := ediv_bound (a := -x.t.c) (b := (gcdL x.t.l : Int)) (B := 1099511627776) gp (by omega) (by omega)
  refine ⟨okT_spec.2 ⟨?_, ?_, by rw [oneC_len]; exact x40, shM_ok (l := []) gp (sgC_cases x) (okT_spec.1 hok).2.2.2 fun m hm => gcd_dvd hm⟩, fun w hw => hv w fun h0 => hw ?_⟩
  · simp only [oneCx]; rcases sgC_cases x with e | e <;> rw [e] <;> omega
  · simp only [oneCx]; rcases sgC_cases x with e | e <;> rw [e] <;> omega
  · simp only [oneCx]; rw [kOf_sh, h0]; simp
theorem oneW_ne {x : Cons} (h : oneW x = 0) : x.t.l ≠ [] := by
  intro e
  unfold oneW at h
  rw [e] at h
  simp only [List.isEmpty_nil, if_true] at h
  split at h <;> omega
theorem allS_mem : ∀ {l : List Cons} {y : Cons}, y ∈ allS l → ∃ x ∈ l, oneW x = 0 ∧ y = oneCx x := by
  have key : ∀ (l S : List Cons) (y : Cons), y ∈ l.foldl addSx S → y ∈ S ∨ ∃ x ∈ l, oneW x = 0 ∧ y = oneCx x := by
    intro l
    induction l with
    | nil => intro S y h; exact .inl h
    | cons x l ih =>
      intro S y h
      rw [List.foldl_cons] at h
      rcases ih _ _ h with h | ⟨z, hz, h1, h2⟩
      · unfold addSx at h
        split at h
        · rename_i hw
          split at h
          · exact .inl h
          · rcases List.mem_append.1 h with h | h
            · exact .inl h
            · exact .inr ⟨x, List.mem_cons_self, hw, List.mem_singleton.1 h⟩
        · exact .inl h
      · exact .inr ⟨z, List.mem_cons_of_mem _ hz, h1, h2⟩
  intro l y h
  rcases key l [] y h with h | h
  · cases h
  · exact h
theorem all_good {n : Nat} {l : List Cons} (h : good n l) : good n (allS l) := by
  refine ⟨Nat.le_trans (allS_len l) h.1, fun y hy => ?_⟩
  obtain ⟨x, hx, hw, rfl⟩ := allS_mem hy
  exact one_good (h.2 x hx) (oneW_ne hw)
theorem allS_ne {l : List Cons} {y : Cons} (hy : y ∈ allS l) : y.t.l ≠ [] := by
  obtain ⟨x, hx, hw, rfl⟩ := allS_mem hy
  intro e
  have := oneC_len x
  rw [e] at this
  exact oneW_ne hw (List.eq_nil_of_length_eq_zero this.symm)
theorem uneq_good {n : Nat} {l : List Cons} (h : good n l) (hl : l.length ≤ 50000) : good n (uneq l) := by
  refine ⟨by have := uneq_len l; omega, fun y hy => ?_⟩
  obtain ⟨x, hx, hy⟩ := List.mem_flatMap.1 hy
  obtain ⟨ho, hv⟩ := h.2 x hx
  have hok : okT x.t.c x.t.l = true := ho
  unfold uneqX at hy
  split at hy
  · rcases List.mem_cons.1 hy with rfl | hy
    · exact ⟨ho, hv⟩
    · rw [List.mem_singleton.1 hy]
      rcases scaleR_spec (k := -1) hok with ⟨s1, s2, s3, s4⟩ | s1
      · exact ⟨s2, fun w hw => hv w fun h0 => hw (by rw [s4, h0]; rfl)⟩
      · have : scaleR x.t.c x.t.l (-1) = (0, [], 12) := scale_err hok (by omega)
        rw [this]; exact ⟨rfl, fun w hw => absurd rfl hw⟩
  · rw [List.mem_singleton.1 hy]; exact ⟨ho, hv⟩
theorem swap_good {n : Nat} {l : List Cons} {v c : Int} {b : List Mono} (h : good n l) (hb : okT c b = true) (hbv : ∀ w, kOf b w ≠ 0 → w < n) (hE : swapE l v c b = 0) : good n (swapL l v c b) := by
  refine ⟨by rw [swapL, List.length_map]; exact h.1, fun y hy => ?_⟩
  obtain ⟨x, hx, rfl⟩ := List.mem_map.1 hy
  obtain ⟨ho, hv⟩ := h.2 x hx
  have hz : (swapX v c b x).2.2 = 0 := by
    unfold swapE at hE
    split at hE
    · omega
    · split at hE
      · omega
      · rename_i h1 h2
        have h3 : l.any (fun x => decide ((swapX v c b x).2.2 ≠ 0)) = false := by
          cases hq : l.any (fun x => decide ((swapX v c b x).2.2 ≠ 0)) with
          | false => rfl
          | true => exact absurd hq h2
        have := List.any_eq_false.1 h3 x hx
        simpa using this
  rcases putR_spec (v := v) (a := x.t.l) (c := x.t.c) ho hb with ⟨r1, r2, r3, r4⟩ | r1
  · refine ⟨r2, fun w hw => ?_⟩
    by_cases h1 : kOf x.t.l w = 0
    · apply hbv w
      intro h2
      apply hw
      have := r4 w
      simp only [swapC, swapX]
      rw [this, h2]
      split
      · simp
      · rw [h1]; simp
    · exact hv w h1
  · have : (swapX v c b x).2.2 = 12 := r1
    omega
theorem drop_good {n : Nat} {l : List Cons} {v : Int} (h : good n l) (hl : l.length ≤ 240) (hE : dropErr l v = 0) : good n (dropList l v) := by
  refine ⟨?_, fun y hy => ?_⟩
  · rw [dropList_len]
    have h1 : (othersOf l v).length ≤ 240 := Nat.le_trans (List.length_filter_le _ _) hl
    have h2 : (lowsOf l v).length * (highsOf l v).length ≤ 240 * 240 := Nat.mul_le_mul (Nat.le_trans (List.length_filter_le _ _) hl) (Nat.le_trans (List.length_filter_le _ _) hl)
    omega
  · rcases List.mem_append.1 hy with hy | hy
    · exact h.2 y (List.mem_filter.1 hy).1
    · obtain ⟨a, ha, hy⟩ := List.mem_flatMap.1 hy
      obtain ⟨b, hb, rfl⟩ := List.mem_map.1 hy
      have h0 := drop_zero.1 hE a ha b hb
      obtain ⟨ao, av⟩ := h.2 a (mem_lows ha)
      obtain ⟨bo, bv⟩ := h.2 b (mem_highs hb)
      rcases scaleR_spec (k := -(kOf a.t.l v)) (c := b.t.c) (l := b.t.l) bo with ⟨s1, s2, s3, s4⟩ | s1
      · rcases scaleR_spec (k := kOf b.t.l v) (c := a.t.c) (l := a.t.l) ao with ⟨q1, q2, q3, q4⟩ | q1
        · have hp : pairR a b v = addR (scaleR b.t.c b.t.l (-(kOf a.t.l v))).1 (scaleR b.t.c b.t.l (-(kOf a.t.l v))).2.1 (scaleR a.t.c a.t.l (kOf b.t.l v)).1 (scaleR a.t.c a.t.l (kOf b.t.l v)).2.1 := by
            unfold pairR; rw [if_neg (by omega)]
          rcases addR_spec s2 q2 with ⟨r1, r2, r3, r4⟩ | r1
          · refine ⟨by show okT _ _ = true; simp only [mkC]; rw [hp]; exact r2, fun w hw => ?_⟩
            simp only [mkC] at hw
            rw [hp, r4, s4, q4] at hw
            by_cases h1 : kOf b.t.l w = 0
            · apply av w; intro h2; apply hw; rw [h1, h2]; simp
            · exact bv w h1
          · rw [hp] at h0; omega
        · have : pairR a b v = (0, [], 12) := by unfold pairR; rw [if_pos (.inr (by omega))]
          rw [this] at h0; cases h0
      · have : pairR a b v = (0, [], 12) := by unfold pairR; rw [if_pos (.inl (by omega))]
        rw [this] at h0; cases h0
end Go.Proofs.Ythdlkpmhjbaplaa.Dx
namespace Go.Proofs.Ythdlkpmhjbaplaa.Dx
open Go
open Nat renaming reduceAdd → rdA, reduceMul → rdM, reduceLeDiff → rdL, reduceLT → rdT, reduceEqDiff → rdE
open Int renaming reduceNegSucc → rdN
attribute [local irreducible] wCall wLoop
attribute [local go_sem] decide_true decide_false Bool.and_true Bool.true_and Bool.and_self Bool.false_and Bool.and_false vMs vCs vIs Slots At Tr.get_z Tr.get_l Tr.get_r Tr.get_e Tr.set_z_e Tr.set_z_n Tr.set_l_e Tr.set_l_n Tr.set_r_e Tr.set_r_n eOs_n eOs_c eDs_n eDs_c ekOs ekDs ekPut ekBack ekSeq_n ekSeq_x ekSeq_r ekBlk_n ekBlk_x ekBlk_r eO_mk eO_gd eO_loc eO_locb eD_mk eD_loc eD_locb eD_gd eDr eC_skip eC_reg eC_drw eC_seq eC_cond eC_block eC_loop eC_exit eC_ret eRetW_n eRetW_r wk wkL eRet_n eRet_r ekLd_n ekLd_x ekLd_r ekLp_n ekLp_x ekLp_r wI wBin wBd vev vov vovs vplace vouter ofDV ofDVs vcells spl vfills vput vuse vuseP vback vbackP wOf vbare isVarV vkeep hget hset hdels hdel hkeys live vw vwL keysV keysL pureV pureL vsrc veqs vmx vmn vT cT vC cC VOb.cells vres vrsL vrs1 vone List.length_cons List.length_nil List.getElem?_cons_zero List.getElem?_cons_succ List.take_succ_cons List.take_zero List.drop_succ_cons List.drop_zero List.drop_nil List.take_nil List.nil_append List.cons_append List.append_nil Option.some.injEq Nat.zero_add Nat.add_zero if_true if_false ite_true ite_false true_and and_true false_and and_false true_implies implies_true false_implies Bool.true_eq_false Bool.false_eq_true Bool.not_true Bool.not_false eq_self_iff_true Int.toNat_natCast Int.ofNat_eq_natCast Int.ofNat_zero Int.ofNat_one Int.cast_ofNat_Int VV.int.injEq VV.bool.injEq cond_true cond_false
theorem unitX_spec {x : Cons} {v : Int} (h : unitX x = some v) : x.eq = true ∧ ∃ m ∈ x.t.l, m.v = v ∧ oneB m.k = true := by
  unfold unitX at h
  split at h
  · rename_i he
    refine ⟨he, ?_⟩
    have key : ∀ l : List Mono, unitM l = some v → ∃ m ∈ l, m.v = v ∧ oneB m.k = true := by
      intro l
      induction l with
      | nil => intro h; cases h
      | cons m l ih =>
        intro h
        unfold unitM at h
        split at h
        · cases h; exact ⟨m, List.mem_cons_self, rfl, by assumption⟩
        · obtain ⟨z, h1, h2⟩ := ih h
          exact ⟨z, List.mem_cons_of_mem _ h1, h2⟩
    exact key _ h
  · cases h
theorem eraseC (l : List Cons) (q : Nat) : (encC l).take (q * 3) ++ (encC l).drop ((q + 1) * 3) = encC (l.eraseIdx q) := by
  rw [encC_take, encC_drop, ← encC_app, List.eraseIdx_eq_take_drop_succ]
def SemAt (j kk n : Nat) (rec : Nat → List Int → List Cons → Ans) (left : Nat) : Prop :=
  ∀ (vals : List Int) (l : List Cons) (nx : Nat), vals.length = n → good n l → j < nx → kk < nx →
    LookSem p79 [.fz l.length none 3 (encC l)] j kk nx left vals (rec left vals l) ∧ (rec left vals l).2.2.length = n ∧ (rec left vals l).2.1 ≤ left
theorem swapD_ok {j kk n left nx : Nat} {rec : Nat → List Int → List Cons → Ans} {vals : List Int} {l : List Cons} {v c : Int} {b : List Mono} (hrec : SemAt j kk n rec left) (hj : (j = kk) = False) (hjn : j < nx) (hkn : kk < nx) (hn : vals.length = n) (hn1 : n ≤ 1000000)
    (hg : good n l) (hb : okT c b = true) (hbv : ∀ w, kOf b w ≠ 0 → w < n) (hv : 0 ≤ v ∧ v < n) :
    LookSem p100 [.fz l.length none 3 (encC l), .int .i64 v, .agg [.int .i64 c, .fz b.length none 2 (encM b)]] j kk nx left vals (swapD rec left vals l v c b) ∧ (swapD rec left vals l v c b).2.2.length = n ∧ (swapD rec left vals l v c b).2.1 ≤ left := by
  refine ⟨swap_sem hj hjn hkn hg.small (by have := (okT_spec.1 hb).2.2.1; omega) (by omega) (by omega) fun hE => ?_, ?_⟩
  · obtain ⟨h1, h2, h3⟩ := hrec vals (swapL l v c b) nx hn (swap_good hg hb hbv hE) hjn hkn
    exact ⟨h1, by omega⟩
  · unfold swapD
    split
    · exact ⟨hn, Nat.le_refl _⟩
    · rename_i hE
      obtain ⟨-, h2, h3⟩ := hrec vals (swapL l v c b) nx hn (swap_good hg hb hbv (by omega)) hjn hkn
      split
      · exact ⟨by rw [List.length_set]; exact h2, h3⟩
      · exact ⟨h2, h3⟩
theorem one_v (v k : Int) (w : Int) : kOf [⟨v, k⟩] w ≠ 0 → w = v := by
  intro h; rw [kOf] at h; split at h
  · rename_i h1; exact h1.symm
  · exact absurd rfl h
theorem below_good {n : Nat} {l : List Cons} {v m : Int} (hg : good n l) (hl : l.length ≤ 240) (hv : 0 ≤ v ∧ v < n) (hv40 : v < 40) (hm : -2147483648 ≤ m ∧ m ≤ 2147483647) : good n (l ++ [belowC v m]) ∧ good n (l ++ [aboveC v m]) := by
  refine ⟨⟨by simp; omega, fun x hx => ?_⟩, ⟨by simp; omega, fun x hx => ?_⟩⟩
  · rcases List.mem_append.1 hx with hx | hx
    · exact hg.2 x hx
    · rw [List.mem_singleton.1 hx]
      refine ⟨okT_spec.2 ⟨by simp [belowC]; omega, by simp [belowC]; omega, by simp [belowC], okFrom_cons.2 ⟨okM_spec.2 ⟨hv.1, hv40, by simp, by simp, by simp⟩, fun q hq => (by cases hq), rfl⟩⟩, fun w hw => by have := one_v v 1 w hw; omega⟩
  · rcases List.mem_append.1 hx with hx | hx
    · exact hg.2 x hx
    · rw [List.mem_singleton.1 hx]
      refine ⟨okT_spec.2 ⟨by simp [aboveC]; omega, by simp [aboveC]; omega, by simp [aboveC], okFrom_cons.2 ⟨okM_spec.2 ⟨hv.1, hv40, by simp, by simp, by simp⟩, fun q hq => (by cases hq), rfl⟩⟩, fun w hw => by have := one_v v (-1) w hw; omega⟩
theorem half_b {lo hi : Int} (h : lo ≤ hi) : lo ≤ halfR lo hi ∧ halfR lo hi ≤ hi := by unfold halfR; omega
theorem splitD_ok {j kk n left nx : Nat} {rec : Nat → List Int → List Cons → Ans} {vals : List Int} {l : List Cons} {v : Int} (hrec : ∀ left', left' < left → SemAt j kk n rec left') (hj : (j = kk) = False) (hjn : j < nx) (hkn : kk < nx) (hn : vals.length = n) (hn1 : n ≤ 1000000)
    (hg : good n l) (hl240 : l.length ≤ 240) (hne : l ≠ []) (hv : 0 ≤ v ∧ v < n) (hv40 : v < 40) (hl : left ≤ 1000000) :
    LookSem p104 [.fz l.length none 3 (encC l), .int .i64 v] j kk nx left vals (splitD rec left vals l v) ∧ (splitD rec left vals l v).2.2.length = n ∧ (splitD rec left vals l v).2.1 ≤ left := by
  have b1 := span_lob (aloneL l v) v []
  have b2 := span_hib (aloneL l v) v []
  have hgo : ∀ m : Int, spanLo (aloneL l v) v [] ≤ m ∧ m ≤ spanHi (aloneL l v) v [] → good n (l ++ [belowC v m]) ∧ good n (l ++ [aboveC v m]) := fun m hm => below_good hg hl240 hv hv40 (by omega)
  have hb0 : okT (spanLo (aloneL l v) v []) [] = true := okT_spec.2 ⟨by omega, by omega, by simp, rfl⟩
  refine ⟨split_sem hj hjn hkn hg.small hl hne (fun nx' hx h1 he => ?_) (fun nx' hx h1 he => ?_) (fun nx' hx h1 he ha => ?_), ?_⟩
  · exact (swapD_ok (hrec (left - 1) (by omega)) hj (by omega) (by omega) hn hn1 hg hb0 (fun w hw => absurd rfl hw) hv).1
  · exact (hrec (left - 1) (by omega) vals _ nx' hn (hgo _ (half_b (by omega))).1 (by omega) (by omega)).1
  · obtain ⟨-, q1, q2⟩ := hrec (left - 1) (by omega) vals _ nx' hn (hgo _ (half_b (by omega))).1 (by omega) (by omega)
    exact (hrec _ (by omega) _ _ nx' q1 (hgo _ (half_b (by omega))).2 (by omega) (by omega)).1
  · unfold splitD
    split
    · exact ⟨hn, Nat.le_refl _⟩
    · rename_i h0
      split
      · exact ⟨hn, Nat.le_refl _⟩
      · rename_i h1
        split
        · rename_i he
          have := (swapD_ok (hrec (left - 1) (by omega)) hj hjn hkn hn hn1 hg hb0 (fun w hw => absurd rfl hw) hv).2
          exact ⟨this.1, by omega⟩
        · obtain ⟨-, q1, q2⟩ := hrec (left - 1) (by omega) vals _ nx hn (hgo _ (half_b (by omega))).1 (by omega) (by omega)
          split
          · obtain ⟨-, q3, q4⟩ := hrec (rec (left - 1) vals (l ++ [belowC v (halfR (spanLo (aloneL l v) v []) (spanHi (aloneL l v) v []))])).2.1 (by omega) _ _ nx q1 (hgo _ (half_b (by omega))).2 hjn hkn
            exact ⟨q3, by omega⟩
          · exact ⟨q1, by omega⟩
theorem compI_mem : ∀ {l : List Int} {v : Int}, v ∈ compI l → v ∈ l := by
  have key : ∀ (l acc : List Int) (v : Int), v ∈ l.foldl compF acc → v ∈ acc ∨ v ∈ l := by
    intro l
    induction l with
    | nil => intro acc v h; exact .inl h
    | cons x l ih =>
      intro acc v h
      rw [List.foldl_cons] at h
      rcases ih _ v h with h | h
      · unfold compF at h
        split at h
        · exact .inl h
        · rcases List.mem_append.1 h with h | h
          · exact .inl h
          · rw [List.mem_singleton.1 h]; exact .inr List.mem_cons_self
      · exact .inr (List.mem_cons_of_mem _ h)
  intro l v h
  rcases key l [] v h with h | h
  · cases h
  · exact h
theorem insI_mem {x v : Int} : ∀ {l : List Int}, v ∈ insI x l → v = x ∨ v ∈ l
  | [], h => by simp [insI] at h; exact .inl h
  | y :: t, h => by
    unfold insI at h
    cases hb : ilt y x with
    | true =>
      rw [hb] at h
      rcases List.mem_cons.1 h with rfl | h
      · exact .inr List.mem_cons_self
      · rcases insI_mem h with h | h
        · exact .inl h
        · exact .inr (List.mem_cons_of_mem _ h)
    | false =>
      rw [hb] at h
      rcases List.mem_cons.1 h with rfl | h
      · exact .inl rfl
      · exact .inr h
theorem sortI_mem {v : Int} : ∀ {l : List Int}, v ∈ sortI l → v ∈ l
  | [], h => by cases h
  | x :: l, h => by
    rcases insI_mem h with rfl | h
    · exact List.mem_cons_self
    · exact List.mem_cons_of_mem _ (sortI_mem h)
theorem firstL_mem {l : List Cons} {v : Int} (h : v ∈ firstL l) : ∃ x ∈ l, ∃ m ∈ x.t.l, m.v = v := by
  have h1 := sortI_mem (compI_mem h)
  obtain ⟨x, hx, h2⟩ := List.mem_flatMap.1 h1
  obtain ⟨m, hm, rfl⟩ := List.mem_map.1 h2
  exact ⟨x, hx, m, hm, rfl⟩
theorem var_good {n : Nat} {l : List Cons} {v : Int} (hg : good n l) (h : v ∈ firstL l) : 0 ≤ v ∧ v < n ∧ v < 40 := by
  obtain ⟨x, hx, m, hm, rfl⟩ := firstL_mem h
  obtain ⟨ho, hv⟩ := hg.2 x hx
  have hok : okT x.t.c x.t.l = true := ho
  have hmm := okM_spec.1 (okFrom_ok (okT_spec.1 hok).2.2.2 m hm)
  exact ⟨hmm.1, hv m.v (by rw [mem_kOf (okT_spec.1 hok).2.2.2 m hm]; exact hmm.2.2.1), hmm.2.1⟩
theorem leastV_mem {l : List Cons} (hne : varsOf l ≠ []) : leastV l ∈ firstL l := by
  have hpos : 0 < (firstL l).length := List.length_pos_iff.2 (compI_ne (sortI_ne hne))
  obtain ⟨a, ha⟩ := has hpos
  unfold leastV; rw [ha]; exact List.mem_of_getElem? ha
theorem exactV_mem {l : List Cons} (h : ¬ exactV l < 0) : exactV l ∈ firstL l ∧ exP l (exactV l) = true := by
  unfold exactV at h ⊢
  by_cases hi : firstI l < 0
  · rw [if_pos hi] at h; omega
  · rw [if_neg hi]
    obtain ⟨q, hq1, hq2, -, x, hx, hp⟩ := idxOf_some (exP l) (firstL l) 0 (by omega) (by show firstI l ≠ -1; omega)
    have : firstI l = q := by unfold firstI; rw [hq1]; omega
    rw [this, Int.toNat_natCast, hx]
    exact ⟨List.mem_of_getElem? hx, hp⟩
theorem exP_spec {l : List Cons} {v : Int} (h : exP l v = true) : mayE l v = 0 ∧ exactB l v = true := by
  unfold exP at h
  split at h
  · exact ⟨by assumption, h⟩
  · cases h
theorem dE50 : decide ((5 : Int) = 0) = false := rfl
set_option maxHeartbeats 1000000 in
theorem answer_sem {j kk n left nx : Nat} {rec : Nat → List Int → List Cons → Ans} {vals : List Int} {l : List Cons} (hrec : ∀ left', left' < left → SemAt j kk n rec left') (hj : (j = kk) = False) (hjn : j < nx) (hkn : kk < nx) (hn : vals.length = n) (hn1 : n ≤ 1000000)
    (hg : good n l) (hl : left ≤ 1000000) : LookSem p79 [.fz l.length none 3 (encC l)] j kk nx left vals (stepD rec left vals l) := by
  refine FSem.sub (fsem_of_body (f := p79) rfl rfl ?_)
  have hjk : (kk = j) = False := by simp at hj ⊢; omega
  have hA := All_ok l hg.small hg.ok
  unfold stepD
  by_cases hw : allW l = 0
  case neg =>
    have dw : decide (allW l = 0) = false := by simpa using hw
    have e : allV l = .tup [.fz 0 none 3 [], .int .i64 (allW l), .int .i64 0] := by unfold allV allL; rw [if_neg hw]; rfl
    rw [e] at hA
    rw [if_pos hw]
    simp (implicitDefEqProofs := false) only [go_sem, reduceCtorEq, rdA, rdM, rdL, rdT, rdE, rdN, ↓gTT, ↓gFF, ↓gTF, ↓gFT]
    refine wCall_pp rfl hA rfl ?_
    simp (implicitDefEqProofs := false) only [s0eq, dw, Bool.not_true, Bool.not_false, lookH, eRetK_r, go_sem, reduceCtorEq, rdA, rdM, rdL, rdT, rdE, rdN, ↓gTT, ↓gFF, ↓gTF, ↓gFT]
    exact ⟨_, subH_refl _, rfl⟩
  have dw : decide (allW l = 0) = true := by simpa using hw
  have e : allV l = .tup [.fz (allS l).length none 3 (encC (allS l)), .int .i64 0, .int .i64 0] := by unfold allV allL; rw [hw, if_pos rfl]; rfl
  rw [e] at hA
  rw [if_neg (by omega)]
  have hg1 := all_good hg
  have hSne : allS l ≠ [] := by
    intro e
    unfold allW at hw
    rw [e] at hw
    split at hw
    · cases hw
    · simp at hw
  have hmne : ∀ y ∈ allS l, y.t.l ≠ [] := fun y hy => allS_ne hy
  generalize allS l = L at hA hg1 hSne hmne ⊢
  by_cases h240 : 240 < L.length
  · have d : decide ((240 : Int) < (L.length : Int)) = true := by simp; omega
    rw [if_pos h240]
    simp (implicitDefEqProofs := false) only [go_sem, reduceCtorEq, rdA, rdM, rdL, rdT, rdE, rdN, ↓gTT, ↓gFF, ↓gTF, ↓gFT]
    refine wCall_pp rfl hA rfl ?_
    simp (implicitDefEqProofs := false) only [s0eq, d, Bool.not_true, lookH, eRetK_r, go_sem, reduceCtorEq, rdA, rdM, rdL, rdT, rdE, rdN, ↓gTT, ↓gFF, ↓gTF, ↓gFT]
    exact ⟨_, subH_refl _, rfl⟩
  have d : decide ((240 : Int) < (L.length : Int)) = false := by simp; omega
  rw [if_neg h240]
  have hU := Unit_ok L hg1.small
  have hr0 := rightB_zero hg1.ok
  rcases unitOf_cases L 0 with ⟨hu, _⟩ | ⟨q, x, u, hu, hx, hux, _⟩
  · have hU' : unitV L = .tup [.int .i64 0, .int .i64 0, .int .i64 5] := by unfold unitV; rw [if_pos hr0]; simp only [Int.natCast_zero] at hu; rw [hu]
    simp only [Int.natCast_zero] at hu
    rw [hU'] at hU
    rw [hu]
    simp (implicitDefEqProofs := false) only [go_sem, reduceCtorEq, rdA, rdM, rdL, rdT, rdE, rdN, ↓gTT, ↓gFF, ↓gTF, ↓gFT]
    refine wCall_pp rfl hA rfl ?_
    simp (implicitDefEqProofs := false) only [s0eq, d, Bool.not_true, go_sem, reduceCtorEq, rdA, rdM, rdL, rdT, rdE, rdN, ↓gTT, ↓gFF, ↓gTF, ↓gFT]
    refine wCall_pp rfl hU rfl ?_
    simp (implicitDefEqProofs := false) only [dE50, go_sem, reduceCtorEq, rdA, rdM, rdL, rdT, rdE, rdN, ↓gTT, ↓gFF, ↓gTF, ↓gFT]
    have hg2 := uneq_good hg1 (by omega)
    have hUn := unequal_ok L hg1.small
    have hv2 : varsOf (uneq L) ≠ [] := by
      obtain ⟨y, hy⟩ := List.exists_mem_of_ne_nil L hSne
      obtain ⟨m, hm⟩ := List.exists_mem_of_ne_nil y.t.l (hmne y hy)
      intro e
      have : m.v ∈ varsOf (uneq L) := by
        refine List.mem_flatMap.2 ⟨⟨y.t, false⟩, List.mem_flatMap.2 ⟨y, hy, ?_⟩, List.mem_map.2 ⟨m, hm, rfl⟩⟩
        unfold uneqX; split <;> simp
      rw [e] at this; cases this
    have hne2 : uneq L ≠ [] := by intro e; rw [e] at hv2; exact hv2 rfl
    have heq2 : ∀ x ∈ uneq L, x.eq = false := by
      intro x hx
      obtain ⟨y, hy, hx⟩ := List.mem_flatMap.1 hx
      unfold uneqX at hx
      split at hx
      · rcases List.mem_cons.1 hx with rfl | hx
        · rfl
        · rw [List.mem_singleton.1 hx]
      · rw [List.mem_singleton.1 hx]
    refine wCall_pp rfl hUn rfl ?_
    unfold noUnitD
    generalize uneq L = L2 at hg2 hv2 hne2 heq2 ⊢
    by_cases g240 : 240 < L2.length
    · have dg : decide ((240 : Int) < (L2.length : Int)) = true := by simp; omega
      rw [if_pos g240]
      simp (implicitDefEqProofs := false) only [dg, vCs, lookH, eRetK_r, go_sem, reduceCtorEq, rdA, rdM, rdL, rdT, rdE, rdN, ↓gTT, ↓gFF, ↓gTF, ↓gFT]
      exact ⟨_, subH_refl _, rfl⟩
    have dg : decide ((240 : Int) < (L2.length : Int)) = false := by simp; omega
    rw [if_neg g240]
    have hvl : (varsOf L2).length ≤ 1000000 := by
      have : (varsOf L2).length ≤ L2.length * 40 := by
        have hk : ∀ l : List Cons, (∀ x ∈ l, x.t.l.length ≤ 40) → (varsOf l).length ≤ l.length * 40 := by
          intro l
          induction l with
          | nil => intro _; simp [varsOf]
          | cons x l ih =>
            intro h
            have h1 := ih fun y hy => h y (List.mem_cons_of_mem _ hy)
            have h2 := h x List.mem_cons_self
            unfold varsOf at h1 ⊢
            rw [List.flatMap_cons, List.length_append, List.length_cons]
            have : (mvars x).length = x.t.l.length := by simp [mvars]
            omega
        exact hk L2 fun x hx => (okC_parts (hg2.2 x hx).1).2.1
      omega
    have hF := first_ok L2 hg2.small hvl hv2
    simp (implicitDefEqProofs := false) only [dg, vCs, go_sem, reduceCtorEq, rdA, rdM, rdL, rdT, rdE, rdN, ↓gTT, ↓gFF, ↓gTF, ↓gFT]
    refine wCall_pp rfl hF rfl ?_
    by_cases hx0 : exactV L2 < 0
    · have dx : decide (exactV L2 < 0) = true := by simpa using hx0
      have hlv := var_good hg2 (leastV_mem hv2)
      rw [if_pos hx0]
      simp (implicitDefEqProofs := false) only [dx, go_sem, reduceCtorEq, rdA, rdM, rdL, rdT, rdE, rdN, ↓gTT, ↓gFF, ↓gTF, ↓gFT]
      refine wCall_look hj (splitD_ok hrec hj (by show j < nx; exact hjn) hkn hn hn1 hg2 (by omega) hne2 ⟨hlv.1, hlv.2.1⟩ hlv.2.2 hl).1 rfl rfl fun nx' hn' => ?_
      simp (implicitDefEqProofs := false) only [lookH, eRetK_r, go_sem, reduceCtorEq, rdA, rdM, rdL, rdT, rdE, rdN, ↓gTT, ↓gFF, ↓gTF, ↓gFT]
      exact ⟨_, subH_refl _, rfl⟩
    have dx : decide (exactV L2 < 0) = false := by simpa using hx0
    obtain ⟨hxm, hxp⟩ := exactV_mem hx0
    have hxv := var_good hg2 hxm
    rw [if_neg hx0]
    generalize exactV L2 = X at dx hxm hxp hxv ⊢
    have hPr := Pairs_ok L2 X hg2.small
    have hDr := Drop_ok L2 X hg2.small
    have hm0 := (exP_spec hxp).1
    simp (implicitDefEqProofs := false) only [dx, go_sem, reduceCtorEq, rdA, rdM, rdL, rdT, rdE, rdN, ↓gTT, ↓gFF, ↓gTF, ↓gFT]
    refine wCall_pp rfl hPr rfl ?_
    simp (implicitDefEqProofs := false) only [go_sem, reduceCtorEq, rdA, rdM, rdL, rdT, rdE, rdN, ↓gTT, ↓gFF, ↓gTF, ↓gFT]
    have hab : (lowsOf L2 X).length * (highsOf L2 X).length ≤ 240 * 240 := Nat.mul_le_mul (Nat.le_trans (List.length_filter_le _ _) (by omega)) (Nat.le_trans (List.length_filter_le _ _) (by omega))
    have hC : max (((lowsOf L2 X).length : Int) * ((highsOf L2 X).length : Int)) 1 = ((max ((lowsOf L2 X).length * (highsOf L2 X).length) 1 : Nat) : Int) := by
      rw [← Int.natCast_mul]; omega
    rw [hC]
    unfold dropD
    have hC1 : 1 ≤ max ((lowsOf L2 X).length * (highsOf L2 X).length) 1 := by omega
    have hC2 : max ((lowsOf L2 X).length * (highsOf L2 X).length) 1 ≤ 1000000 := by omega
    generalize max ((lowsOf L2 X).length * (highsOf L2 X).length) 1 = C at hC1 hC2 ⊢
    refine wCall_burn (left := left) (vals := vals) (c := C) hj hl (by omega) rfl rfl ?_
    by_cases h1 : C ≤ left
    case neg =>
      rw [if_neg h1, decide_eq_false h1, if_pos (by omega)]
      simp (implicitDefEqProofs := false) only [Bool.not_false, eRetK_r, lookH, go_sem, reduceCtorEq, rdA, rdM, rdL, rdT, rdE, rdN, ↓gTT, ↓gFF, ↓gTF, ↓gFT]
      exact ⟨_, subH_refl _, rfl⟩
    rw [if_pos h1, decide_eq_true h1, if_neg (by omega)]
    simp (implicitDefEqProofs := false) only [Bool.not_true, go_sem, reduceCtorEq, rdA, rdM, rdL, rdT, rdE, rdN, ↓gTT, ↓gFF, ↓gTF, ↓gFT]
    by_cases hde : dropErr L2 X = 0
    case neg =>
      have e : dropV L2 X = .tup [.fz 0 none 3 [], .int .i64 (dropErr L2 X)] := by unfold dropV; rw [if_neg (by omega), if_pos hde]; rfl
      have dd : decide (dropErr L2 X = 0) = false := by simpa using hde
      rw [e] at hDr
      rw [if_pos hde]
      refine wCall_pp rfl hDr rfl ?_
      simp (implicitDefEqProofs := false) only [dd, Bool.not_false, eRetK_r, lookH, go_sem, reduceCtorEq, rdA, rdM, rdL, rdT, rdE, rdN, ↓gTT, ↓gFF, ↓gTF, ↓gFT]
      exact ⟨_, subH_refl _, rfl⟩
    have e : dropV L2 X = .tup [.fz (dropList L2 X).length none 3 (encC (dropList L2 X)), .int .i64 0] := by unfold dropV; rw [if_neg (by omega), if_neg (by omega)]; rfl
    rw [e] at hDr
    rw [if_neg (by omega)]
    refine wCall_pp rfl hDr rfl ?_
    simp (implicitDefEqProofs := false) only [s0eq, Bool.not_true, go_sem, reduceCtorEq, rdA, rdM, rdL, rdT, rdE, rdN, ↓gTT, ↓gFF, ↓gTF, ↓gFT]
    obtain ⟨hS1, hS2, hS3⟩ := hrec (left - C) (by omega) vals (dropList L2 X) nx hn (drop_good hg2 (by omega) hde) hjn hkn
    obtain ⟨A, hA'⟩ : ∃ A, A = rec (left - C) vals (dropList L2 X) := ⟨_, rfl⟩
    rw [← hA'] at hS1 hS2 hS3 ⊢
    refine wCall_look hj hS1 rfl rfl fun nx' hn' => ?_
    by_cases h2 : A.1 = 2
    case neg =>
      have d2 : decide (A.1 = 2) = false := by simpa using h2
      rw [if_neg h2]
      simp (implicitDefEqProofs := false) only [d2, eRetK_r, lookH, go_sem, reduceCtorEq, rdA, rdM, rdL, rdT, rdE, rdN, ↓gTT, ↓gFF, ↓gTF, ↓gFT]
      exact ⟨_, subH_refl _, rfl⟩
    have d2 : decide (A.1 = 2) = true := by simpa using h2
    rw [if_pos h2]
    have hSp := Span_ok L2 X A.2.2 hg2.small (by omega)
    rw [spanV_eq] at hSp
    have hPk := Pick_ok (spanLo L2 X A.2.2) (spanHi L2 X A.2.2)
    obtain ⟨q, rfl⟩ : ∃ q : Nat, X = q := ⟨X.toNat, by omega⟩
    have hql : q < A.2.2.length := by omega
    simp (implicitDefEqProofs := false) only [lookH, hj, hjk, d2, go_sem, reduceCtorEq, rdA, rdM, rdL, rdT, rdE, rdN, ↓gTT, ↓gFF, ↓gTF, ↓gFT]
    refine wCall_pure (args' := [.fz L2.length none 3 (encC L2), .int .i64 q, .fz A.2.2.length none 1 (encI A.2.2)]) (by simp (implicitDefEqProofs := false) only [encI_len, hj, hjk, Nat.mul_one, go_sem, reduceCtorEq, rdA, rdM, rdL, rdT, rdE, rdN, ↓gTT, ↓gFF, ↓gTF, ↓gFT]) hSp rfl (.inl rfl) ?_
    simp (implicitDefEqProofs := false) only [hj, hjk, go_sem, reduceCtorEq, rdA, rdM, rdL, rdT, rdE, rdN, ↓gTT, ↓gFF, ↓gTF, ↓gFT]
    refine wCall_pp rfl hPk rfl ?_
    simp (implicitDefEqProofs := false) only [encI_len, hj, hjk, Nat.mul_one, eRetK_r, go_sem, reduceCtorEq, rdA, rdM, rdL, rdT, rdE, rdN, ↓gTT, ↓gFF, ↓gTF, ↓gFT]
    refine ⟨⟨by omega, by omega⟩, by omega, by omega, _, subH_refl _, h2, ?_⟩
    rw [encI_set2 _ _ _ hql]; simp [pickR]
  · have hU' : unitV L = .tup [.int .i64 q, .int .i64 u, .int .i64 0] := by unfold unitV; rw [if_pos hr0]; simp only [Int.natCast_zero, Nat.zero_add] at hu; rw [hu]
    simp only [Int.natCast_zero, Nat.zero_add] at hu
    rw [hU'] at hU
    rw [hu]
    simp only []
    unfold unitD
    have hql : q < L.length := (List.getElem?_eq_some_iff.1 hx).1
    have hxg := hg1.2 x (List.mem_of_getElem? hx)
    have hxo : okC x = true := hxg.1
    obtain ⟨hxe, mu, hmu, hmv, hmk⟩ := unitX_spec hux
    have hko : kOf x.t.l u = mu.k := by rw [← hmv]; exact mem_kOf (okT_spec.1 hxo).2.2.2 mu hmu
    have hmm := okM_spec.1 ((okC_parts hxo).2.2 mu hmu)
    have hub : 0 ≤ u ∧ u < n := ⟨by omega, hxg.2 u (by omega)⟩
    obtain ⟨e1, e2, e3, e4⟩ := equalR_spec (v := u) hxo ⟨hub.1, by omega⟩ hxe (by rw [hko]; exact hmk)
    have hgx : (L[q]?).getD nilC = x := by rw [hx]; rfl
    rw [Int.toNat_natCast, hgx]
    have hEq := Equal_ok x u (by have := (okC_parts hxo).2.1; omega)
    obtain ⟨E, hE⟩ : ∃ E, E = equalR x u := ⟨_, rfl⟩
    rw [← hE] at hEq e1 e2 e3 e4 ⊢
    simp (implicitDefEqProofs := false) only [go_sem, reduceCtorEq, rdA, rdM, rdL, rdT, rdE, rdN, ↓gTT, ↓gFF, ↓gTF, ↓gFT]
    refine wCall_pp rfl hA rfl ?_
    simp (implicitDefEqProofs := false) only [s0eq, d, Bool.not_true, go_sem, reduceCtorEq, rdA, rdM, rdL, rdT, rdE, rdN, ↓gTT, ↓gFF, ↓gTF, ↓gFT]
    refine wCall_pp rfl hU rfl ?_
    simp (implicitDefEqProofs := false) only [s0eq, go_sem, reduceCtorEq, rdA, rdM, rdL, rdT, rdE, rdN, ↓gTT, ↓gFF, ↓gTF, ↓gFT]
    refine wCall_burn (left := left) (vals := vals) (c := 1) hj hl (by omega) rfl rfl ?_
    by_cases h1 : 1 ≤ left
    case neg =>
      rw [if_neg h1, decide_eq_false h1, if_pos (by omega)]
      simp (implicitDefEqProofs := false) only [Bool.not_false, eRetK_r, lookH, go_sem, reduceCtorEq, rdA, rdM, rdL, rdT, rdE, rdN, ↓gTT, ↓gFF, ↓gTF, ↓gFT]
      exact ⟨_, subH_refl _, rfl⟩
    rw [if_pos h1, decide_eq_true h1, if_neg (by omega)]
    simp (implicitDefEqProofs := false) only [Bool.not_true, encC_cut hx, encC_len, go_sem, reduceCtorEq, rdA, rdM, rdL, rdT, rdE, rdN, ↓gTT, ↓gFF, ↓gTF, ↓gFT]
    refine ⟨⟨by omega, by omega⟩, by omega, ?_⟩
    refine wCall_pp (r := vTE E) rfl hEq rfl ?_
    simp (implicitDefEqProofs := false) only [vTE, go_sem, reduceCtorEq, rdA, rdM, rdL, rdT, rdE, rdN, ↓gTT, ↓gFF, ↓gTF, ↓gFT]
    refine wCall_heap (hin := []) (CloneC_own L (by omega) hSne _) (fun k o h => by cases h) ?_ ?_
    · rintro r nx' h' ⟨rfl, rfl, rfl⟩
      refine ⟨by simp [closed, keysV, keysL, hkeys], ?_⟩
      intro k o ho
      simp only [hget] at ho
      split at ho
      · cases ho; simp [closed, okeys]
      · cases ho
    · rintro r nx' h' ⟨rfl, rfl, rfl⟩ _
      simp (implicitDefEqProofs := false) only [hkeys, hdels, inc64 hql (by omega : L.length ≤ 4611686018427387904), lookH, go_sem, reduceCtorEq, rdA, rdM, rdL, rdT, rdE, rdN, ↓gTT, ↓gFF, ↓gTF, ↓gFT]
      have n1 : (nx = j) = False := by simp; omega
      have n2 : (nx = kk) = False := by simp; omega
      have n3 : (j = nx) = False := by simp; omega
      have n4 : (kk = nx) = False := by simp; omega
      have n5 : (nx + 1 = j) = False := by simp; omega
      have n6 : (nx + 1 = kk) = False := by simp; omega
      have n7 : (j = nx + 1) = False := by simp; omega
      have n8 : (kk = nx + 1) = False := by simp; omega
      refine wCall_heap (hin := [(nx, .row (encC L))]) (prim_del (F := FT) (f := p101) rfl (encC_len L) hql (by omega)) (fun k o h => by
        simp only [hget] at h ⊢
        split at h
        · rename_i h1; subst h1; cases h; exact ⟨by simp, by first | exact Nat.zero_le _ | (simp; done) | skip⟩
        · cases h) ?_ ?_
      · rintro r nx' h' ⟨rfl, rfl, rfl⟩
        refine ⟨by simp [closed, keysV, keysL, hkeys], ?_⟩
        intro k o ho
        simp only [hget] at ho
        split at ho
        · cases ho; simp [closed, okeys]
        · cases ho
      · rintro r nx' h' ⟨rfl, rfl, rfl⟩ _
        have hel : (L.eraseIdx q).length = L.length - 1 := by rw [List.length_eraseIdx, if_pos hql]
        have hgE : good n (L.eraseIdx q) := ⟨by have := hg1.1; omega, fun y hy => hg1.2 y (List.mem_of_mem_eraseIdx hy)⟩
        have hEv : ∀ w, kOf E.2.1 w ≠ 0 → w < n := fun w hw => hxg.2 w fun h0 => hw (by rw [e4, h0]; split <;> simp)
        have hsw := fun nx2 (h : nx ≤ nx2) => (swapD_ok (j := j) (kk := kk) (n := n) (left := left - 1) (nx := nx2) (rec := rec) (vals := vals) (l := L.eraseIdx q) (v := u) (c := E.1) (b := E.2.1) (hrec (left - 1) (by omega)) hj (by omega) (by omega) hn hn1 hgE e2 hEv hub).1
        rw [hel] at hsw
        rw [eraseC]
        simp (implicitDefEqProofs := false) only [hkeys, hdels, n1, n2, n3, n4, n5, n6, n7, n8, hj, hjk, go_sem, reduceCtorEq, rdA, rdM, rdL, rdT, rdE, rdN, ↓gTT, ↓gFF, ↓gTF, ↓gFT]
        refine wCall_frzR (v' := .fz (L.length - 1) none 3 (encC (L.eraseIdx q))) (by simp (implicitDefEqProofs := false) only [encC_len, hel, go_sem, reduceCtorEq, rdA, rdM, rdL, rdT, rdE, rdN, ↓gTT, ↓gFF, ↓gTF, ↓gFT]) ?_
        refine wCall_look' hj (hsw _ (by show nx ≤ nx + 1 + 1; omega)) rfl ?_ ?_
        · intro k o ho
          rcases lookH_get ho with ⟨rfl, rfl⟩ | ⟨rfl, rfl⟩ <;> simp (implicitDefEqProofs := false) only [hdels, n1, n2, n3, n4, n5, n6, n7, n8, hj, hjk, go_sem, reduceCtorEq, rdA, rdM, rdL, rdT, rdE, rdN, ↓gTT, ↓gFF, ↓gTF, ↓gFT]
        · intro nx2 hn2
          simp (implicitDefEqProofs := false) only [hdels, n1, n2, n3, n4, n5, n6, n7, n8, lookH, eRetK_r, hj, hjk, go_sem, reduceCtorEq, rdA, rdM, rdL, rdT, rdE, rdN, ↓gTT, ↓gFF, ↓gTF, ↓gFT]
          exact ⟨_, subH_refl _, rfl⟩
end Go.Proofs.Ythdlkpmhjbaplaa.Dx
namespace Go.Proofs.Ythdlkpmhjbaplaa.Dx
open Go
def LenAt (n : Nat) (rec : Nat → List Int → List Cons → Ans) (left : Nat) : Prop :=
  ∀ (vals : List Int) (l : List Cons), vals.length = n → good n l → (rec left vals l).2.2.length = n ∧ (rec left vals l).2.1 ≤ left
theorem swapD_len {n left : Nat} {rec : Nat → List Int → List Cons → Ans} {vals : List Int} {l : List Cons} {v c : Int} {b : List Mono} (hrec : LenAt n rec left) (hn : vals.length = n)
    (hg : good n l) (hb : okT c b = true) (hbv : ∀ w, kOf b w ≠ 0 → w < n) : (swapD rec left vals l v c b).2.2.length = n ∧ (swapD rec left vals l v c b).2.1 ≤ left := by
  unfold swapD
  split
  · exact ⟨hn, Nat.le_refl _⟩
  · rename_i hE
    obtain ⟨h2, h3⟩ := hrec vals (swapL l v c b) hn (swap_good hg hb hbv (by omega))
    split
    · exact ⟨by rw [List.length_set]; exact h2, h3⟩
    · exact ⟨h2, h3⟩
theorem unit_facts {n : Nat} {L : List Cons} {i v : Int} (hg : good n L) (h : unitOf L 0 = some (i, v)) : ∃ (q : Nat) (x : Cons), i = q ∧ L[q]? = some x ∧ (L[i.toNat]?).getD nilC = x ∧ x ∈ L ∧ goodX n x ∧ x.eq = true ∧ oneB (kOf x.t.l v) = true ∧ (0 ≤ v ∧ v < n) ∧ v < 40 ∧
    good n (L.eraseIdx i.toNat) ∧ okT (equalR x v).1 (equalR x v).2.1 = true ∧ ∀ w, kOf (equalR x v).2.1 w ≠ 0 → w < n := by
  rcases unitOf_cases L 0 with ⟨hu, _⟩ | ⟨q, x, u, hu, hx, hux, _⟩
  · simp only [Int.natCast_zero] at hu; rw [hu] at h; cases h
  · simp only [Int.natCast_zero, Nat.zero_add] at hu
    rw [hu] at h; cases h
    have hxm := List.mem_of_getElem? hx
    have hxg := hg.2 x hxm
    have hxo : okC x = true := hxg.1
    obtain ⟨hxe, mu, hmu, hmv, hmk⟩ := unitX_spec hux
    have hko : kOf x.t.l v = mu.k := by rw [← hmv]; exact mem_kOf (okT_spec.1 hxo).2.2.2 mu hmu
    have hmm := okM_spec.1 ((okC_parts hxo).2.2 mu hmu)
    have hub : 0 ≤ v ∧ v < n := ⟨by omega, hxg.2 v (by omega)⟩
    have hone : oneB (kOf x.t.l v) = true := by rw [hko]; exact hmk
    obtain ⟨e1, e2, e3, e4⟩ := equalR_spec (v := v) hxo ⟨hub.1, by omega⟩ hxe hone
    refine ⟨q, x, rfl, hx, by rw [Int.toNat_natCast, hx]; rfl, hxm, hxg, hxe, hone, hub, by omega, ⟨?_, fun y hy => hg.2 y (List.mem_of_mem_eraseIdx hy)⟩, e2, fun w hw => hxg.2 w fun h0 => hw (by rw [e4, h0]; split <;> simp)⟩
    have := List.length_eraseIdx_le L ((q : Int).toNat)
    have := hg.1; omega
theorem splitD_len {n left : Nat} {rec : Nat → List Int → List Cons → Ans} {vals : List Int} {l : List Cons} {v : Int} (hrec : ∀ left', left' < left → LenAt n rec left') (hn : vals.length = n)
    (hg : good n l) (hl240 : l.length ≤ 240) (hv : 0 ≤ v ∧ v < n) (hv40 : v < 40) : (splitD rec left vals l v).2.2.length = n ∧ (splitD rec left vals l v).2.1 ≤ left := by
  have b1 := span_lob (aloneL l v) v []
  have b2 := span_hib (aloneL l v) v []
  have hgo : ∀ m : Int, spanLo (aloneL l v) v [] ≤ m ∧ m ≤ spanHi (aloneL l v) v [] → good n (l ++ [belowC v m]) ∧ good n (l ++ [aboveC v m]) := fun m hm => below_good hg hl240 hv hv40 (by omega)
  have hb0 : okT (spanLo (aloneL l v) v []) [] = true := okT_spec.2 ⟨by omega, by omega, by simp, rfl⟩
  unfold splitD
  split
  · exact ⟨hn, Nat.le_refl _⟩
  · rename_i h0
    split
    · exact ⟨hn, Nat.le_refl _⟩
    · rename_i h1
      split
      · rename_i he
        have := swapD_len (v := v) (hrec (left - 1) (by omega)) hn hg hb0 (fun w hw => absurd rfl hw)
        exact ⟨this.1, by omega⟩
      · obtain ⟨q1, q2⟩ := hrec (left - 1) (by omega) vals _ hn (hgo _ (half_b (by omega))).1
        split
        · obtain ⟨q3, q4⟩ := hrec (rec (left - 1) vals (l ++ [belowC v (halfR (spanLo (aloneL l v) v []) (spanHi (aloneL l v) v []))])).2.1 (by omega) _ _ q1 (hgo _ (half_b (by omega))).2
          exact ⟨q3, by omega⟩
        · exact ⟨q1, by omega⟩
theorem uneq_vars {L : List Cons} (hne : L ≠ []) (hm : ∀ y ∈ L, y.t.l ≠ []) : varsOf (uneq L) ≠ [] := by
  obtain ⟨y, hy⟩ := List.exists_mem_of_ne_nil L hne
  obtain ⟨m, hmm⟩ := List.exists_mem_of_ne_nil y.t.l (hm y hy)
  intro e
  have : m.v ∈ varsOf (uneq L) := by
    refine List.mem_flatMap.2 ⟨⟨y.t, false⟩, List.mem_flatMap.2 ⟨y, hy, ?_⟩, List.mem_map.2 ⟨m, hmm, rfl⟩⟩
    unfold uneqX; split <;> simp
  rw [e] at this; cases this
theorem allW_ne {l : List Cons} (h : allW l = 0) : allS l ≠ [] := by
  intro e
  unfold allW at h
  rw [e] at h
  split at h
  · cases h
  · simp at h
theorem stepD_len {n left : Nat} {rec : Nat → List Int → List Cons → Ans} {vals : List Int} {l : List Cons} (hrec : ∀ left', left' < left → LenAt n rec left') (hn : vals.length = n) (hg : good n l) : (stepD rec left vals l).2.2.length = n ∧ (stepD rec left vals l).2.1 ≤ left := by
  unfold stepD
  split
  · exact ⟨hn, Nat.le_refl _⟩
  · rename_i hw
    split
    · exact ⟨hn, Nat.le_refl _⟩
    · have hg1 := all_good hg
      split
      · rename_i i v hu
        obtain ⟨q, x, rfl, hx, hgx, hxm, hxg, hxe, hone, hub, h40, hge, he2, hev⟩ := unit_facts hg1 hu
        unfold unitD
        rw [hgx]
        split
        · exact ⟨hn, Nat.le_refl _⟩
        · have := swapD_len (v := v) (hrec (left - 1) (by omega)) hn hge he2 hev
          exact ⟨this.1, by omega⟩
      · have hg2 := uneq_good hg1 (by omega)
        unfold noUnitD
        split
        · exact ⟨hn, Nat.le_refl _⟩
        · have hlv := var_good hg2 (leastV_mem (uneq_vars (allW_ne (by omega)) fun y hy => allS_ne hy))
          split
          · exact splitD_len hrec hn hg2 (by omega) ⟨hlv.1, hlv.2.1⟩ hlv.2.2
          · rename_i hx0
            unfold dropD
            split
            · exact ⟨hn, Nat.le_refl _⟩
            · rename_i hc
              split
              · exact ⟨hn, by simp only; omega⟩
              · rename_i hd
                obtain ⟨q1, q2⟩ := hrec (left - max ((lowsOf (uneq (allS l)) (exactV (uneq (allS l)))).length * (highsOf (uneq (allS l)) (exactV (uneq (allS l)))).length) 1) (by omega) vals _ hn (drop_good hg2 (by omega) (by omega : dropErr (uneq (allS l)) (exactV (uneq (allS l))) = 0))
                split
                · exact ⟨by rw [List.length_set]; exact q1, by simp only; omega⟩
                · exact ⟨q1, by omega⟩
theorem ansD_len {n : Nat} : ∀ (d left : Nat), LenAt n (ansD d) left
  | 0, left => fun vals l hn hg => ⟨hn, Nat.le_refl _⟩
  | d + 1, left => fun vals l hn hg => stepD_len (fun left' h => ansD_len d left') hn hg
theorem answer_ok {j kk n : Nat} (hj : (j = kk) = False) (hn1 : n ≤ 1000000) : ∀ (d left : Nat), left < d → left ≤ 1000000 → SemAt j kk n (ansD d) left
  | 0, left, h, _ => absurd h (Nat.not_lt_zero _)
  | d + 1, left, h, hl => by
    intro vals l nx hn hg hjn hkn
    refine ⟨answer_sem (rec := ansD d) (fun left' h' => answer_ok hj hn1 d left' (by omega) (by omega)) hj hjn hkn hn hn1 hg hl, ?_⟩
    exact ansD_len (d + 1) left vals l hn hg
def holdX (vals : List Int) (x : Cons) : Prop := if x.eq = true then valF x.t.c (kOf x.t.l) vals = 0 else valF x.t.c (kOf x.t.l) vals ≤ 0
def holdL (vals : List Int) (l : List Cons) : Prop := ∀ x ∈ l, holdX vals x
def in32 (vals : List Int) : Prop := vals.any outB = false
theorem in32_val {vals : List Int} (h : in32 vals) (w : Int) : -2147483648 ≤ valOf vals w ∧ valOf vals w ≤ 2147483647 := by
  unfold valOf
  cases hv : vals[w.toNat]? with
  | none => simp
  | some x =>
    have := List.mem_of_getElem? hv
    have h2 := List.any_eq_false.1 h x this
    simp [outB] at h2
    simp only [Option.getD_some]; omega
theorem in32_set {vals : List Int} (h : in32 vals) {i : Nat} {x : Int} (hx : -2147483648 ≤ x ∧ x ≤ 2147483647) : in32 (vals.set i x) := by
  unfold in32
  rw [List.any_eq_false]
  intro y hy
  rcases List.mem_or_eq_of_mem_set hy with hy | rfl
  · exact List.any_eq_false.1 h y hy
  · simp [outB]; omega
theorem valF_scale (c k : Int) (f : Int → Int) (vals : List Int) : valF (c * k) (fun w => f w * k) vals = valF c f vals * k := by
  unfold valF
  have : (fun w => f w * k * valOf vals w) = (fun w => (f w * valOf vals w) * k) := by funext w; rw [Int.mul_right_comm]
  rw [this, sumW_mul, Int.add_mul]
theorem valF_add (c d : Int) (f g : Int → Int) (vals : List Int) : valF (c + d) (fun w => f w + g w) vals = valF c f vals + valF d g vals := by
  unfold valF
  have : (fun w => (f w + g w) * valOf vals w) = (fun w => f w * valOf vals w + g w * valOf vals w) := by funext w; rw [Int.add_mul]
  rw [this, sumW_add]; omega
theorem valF_congr {c : Int} {f g : Int → Int} (h : ∀ w, f w = g w) (vals : List Int) : valF c f vals = valF c g vals := by
  have : f = g := funext h
  rw [this]
theorem valF_split (c : Int) (f : Int → Int) (vals : List Int) {v : Int} (hv : 0 ≤ v ∧ v < 40) : valF c f vals = valF c (fun w => if w = v then 0 else f w) vals + f v * valOf vals v := by
  unfold valF
  rw [sumW_split f vals hv]
  show _ = c + sumW (fun w => (if w = v then 0 else f w) * valOf vals w) 40 + _
  omega
theorem ceil_iff {g c S : Int} (hg : 0 < g) : c + g * S ≤ 0 ↔ -(-c / g) + S ≤ 0 := by
  have h1 := Int.emod_add_mul_ediv (-c) g
  have h2 := Int.emod_nonneg (-c) (show g ≠ 0 by omega)
  have h3 := Int.emod_lt_of_pos (-c) hg
  constructor
  · intro h
    have : S ≤ -c / g := by
      apply Int.le_ediv_of_mul_le hg
      rw [Int.mul_comm]; omega
    omega
  · intro h
    have : S ≤ -c / g := by omega
    have := Int.mul_le_mul_of_nonneg_left this (Int.le_of_lt hg)
    omega
theorem gcd_dvd_kOf {l : List Mono} (w : Int) : (gcdL l : Int) ∣ kOf l w := by
  by_cases h : kOf l w = 0
  · rw [h]; exact Int.dvd_zero _
  · have key : ∀ l : List Mono, kOf l w ≠ 0 → ∃ m ∈ l, m.k = kOf l w := by
      intro l
      induction l with
      | nil => intro h; exact absurd rfl h
      | cons m l ih =>
        intro h
        rw [kOf] at h ⊢
        by_cases hm : m.v = w
        · rw [if_pos hm]; exact ⟨m, List.mem_cons_self, rfl⟩
        · rw [if_neg hm] at h ⊢
          obtain ⟨z, h1, h2⟩ := ih h
          exact ⟨z, List.mem_cons_of_mem _ h1, h2⟩
    obtain ⟨m, h1, h2⟩ := key l h
    rw [← h2]; exact gcd_dvd h1
theorem one_kOf {n : Nat} {x : Cons} (hg : goodX n x) (hne : x.t.l ≠ []) (w : Int) : kOf x.t.l w = kOf (oneCx x).t.l w * ((gcdL x.t.l : Int) * sgC x) := by
  have gp : (0 : Int) < gcdL x.t.l := by have := gcdL_pos hne (okC_parts hg.1).2.2; omega
  have h1 := (tdiv_exact gp (gcd_dvd_kOf (l := x.t.l) w) (sgC_cases x)).1
  simp only [oneCx]
  rw [kOf_sh, ← Int.mul_assoc, h1]
  rcases sgC_cases x with e | e <;> rw [e] <;> omega
theorem one_val {n : Nat} {x : Cons} (hg : goodX n x) (hne : x.t.l ≠ []) (vals : List Int) : sumW (fun w => kOf x.t.l w * valOf vals w) 40 = sumW (fun w => kOf (oneCx x).t.l w * valOf vals w) 40 * ((gcdL x.t.l : Int) * sgC x) := by
  rw [← sumW_mul]
  refine sumW_congr 40 fun w _ _ => ?_
  rw [one_kOf hg hne w, Int.mul_right_comm]
theorem holdX_one {n : Nat} {x : Cons} (hg : goodX n x) (hw : oneW x = 0) (vals : List Int) : holdX vals (oneCx x) ↔ holdX vals x := by
  have hne := oneW_ne hw
  have gp : (0 : Int) < gcdL x.t.l := by have := gcdL_pos hne (okC_parts hg.1).2.2; omega
  have hv := one_val hg hne vals
  have hwe : ¬ ((x.eq && decide (x.t.c.tmod (gcdL x.t.l) ≠ 0)) = true) := by
    intro h
    unfold oneW at hw
    rw [if_neg (by simp [hne]), if_pos h] at hw
    cases hw
  unfold holdX valF
  rw [hv]
  show (if x.eq = true then sgC x * (-(-x.t.c / (gcdL x.t.l : Int))) + sumW (fun w => kOf (oneCx x).t.l w * valOf vals w) 40 = 0 else sgC x * (-(-x.t.c / (gcdL x.t.l : Int))) + sumW (fun w => kOf (oneCx x).t.l w * valOf vals w) 40 ≤ 0) ↔ _
  generalize sumW (fun w => kOf (oneCx x).t.l w * valOf vals w) 40 = S
  generalize hgg : (gcdL x.t.l : Int) = g at gp hwe ⊢
  generalize x.t.c = c at hwe ⊢
  cases he : x.eq with
  | false =>
    have hs : sgC x = 1 := by unfold sgC; rw [he]; rfl
    simp only [Bool.false_eq_true, if_false, hs, Int.one_mul, Int.mul_one]
    rw [Int.mul_comm S g]
    exact (ceil_iff gp).symm
  | true =>
    rw [he] at hwe
    have hc : c.tmod g = 0 := by simpa using hwe
    have hd : g ∣ c := Int.dvd_of_tmod_eq_zero hc
    obtain ⟨q, rfl⟩ := hd
    have hq : -(-(g * q) / g) = q := by
      rw [← Int.mul_neg, Int.mul_ediv_cancel_left _ (by omega)]; omega
    simp only [if_true, hq]
    have hfac : g * q + S * (g * sgC x) = g * sgC x * (sgC x * q + S) := by
      rcases sgC_cases x with e | e <;> rw [e]
      · simp only [Int.mul_one, Int.one_mul, Int.mul_add]; rw [Int.mul_comm S g]
      · simp only [Int.mul_neg, Int.mul_one, Int.neg_mul, Int.one_mul, Int.mul_add, Int.neg_neg, Int.neg_add]; rw [Int.mul_comm S g]
    rw [hfac]
    constructor
    · intro h; rw [h, Int.mul_zero]
    · intro h
      rcases Int.mul_eq_zero.1 h with h | h
      · rcases Int.mul_eq_zero.1 h with h | h
        · omega
        · rcases sgC_cases x with e | e <;> omega
      · exact h
theorem holdX_never {n : Nat} {x : Cons} (hg : goodX n x) (hw : oneW x = 1) (vals : List Int) : ¬ holdX vals x := by
  intro h
  unfold oneW at hw
  by_cases hne : x.t.l = []
  · rw [hne, List.isEmpty_nil, if_pos rfl] at hw
    have hb : alwaysB x = false := by
      cases hq : alwaysB x with
      | false => rfl
      | true => rw [hq] at hw; cases hw
    unfold holdX valF at h
    have h0 : sumW (fun w => kOf x.t.l w * valOf vals w) 40 = 0 := by
      rw [hne, sumW_congr (g := fun _ => 0 * 0) 40 (fun w _ _ => by simp [kOf])]; rfl
    rw [h0, Int.add_zero] at h
    unfold alwaysB at hb
    cases he : x.eq <;> rw [he] at h hb
    · simp at h hb; omega
    · simp at h hb; omega
  · rw [if_neg (by simp [hne])] at hw
    split at hw
    · rename_i hcc
      simp only [Bool.and_eq_true, decide_eq_true_eq] at hcc
      have hv := one_val hg hne vals
      unfold holdX valF at h
      rw [hcc.1, if_pos rfl, hv] at h
      apply hcc.2
      have : (gcdL x.t.l : Int) ∣ x.t.c := by
        have e : x.t.c = (gcdL x.t.l : Int) * (-(sumW (fun w => kOf (oneCx x).t.l w * valOf vals w) 40 * sgC x)) := by
          have e2 := Int.mul_left_comm (sumW (fun w => kOf (oneCx x).t.l w * valOf vals w) 40) (gcdL x.t.l : Int) (sgC x)
          rw [Int.mul_neg, ← e2]; omega
        rw [e]; exact Int.dvd_mul_right ..
      exact Int.tmod_eq_zero_of_dvd this
    · cases hw
theorem holdX_always {x : Cons} (hw : oneW x = 2) (vals : List Int) : holdX vals x := by
  unfold oneW at hw
  by_cases hne : x.t.l = []
  · rw [hne, List.isEmpty_nil, if_pos rfl] at hw
    have hb : alwaysB x = true := by
      cases hq : alwaysB x with
      | true => rfl
      | false => rw [hq] at hw; cases hw
    have h0 : sumW (fun w => kOf x.t.l w * valOf vals w) 40 = 0 := by
      rw [hne, sumW_congr (g := fun _ => 0 * 0) 40 (fun w _ _ => by simp [kOf])]; rfl
    unfold holdX valF
    rw [h0, Int.add_zero]
    unfold alwaysB at hb
    cases he : x.eq <;> rw [he] at hb <;> simp at hb ⊢ <;> omega
  · rw [if_neg (by simp [hne])] at hw
    split at hw <;> cases hw
theorem allS_has {l : List Cons} {x : Cons} (hx : x ∈ l) (hw : oneW x = 0) : oneCx x ∈ allS l := by
  have keep : ∀ (S : List Cons) (x y : Cons), y ∈ S → y ∈ addSx S x := by
    intro S x y h
    unfold addSx; repeat' split
    · exact h
    · exact List.mem_append_left _ h
    · exact h
  have key1 : ∀ (l S : List Cons) (y : Cons), y ∈ S → y ∈ l.foldl addSx S := by
    intro l
    induction l with
    | nil => intro S y h; exact h
    | cons z l ih => intro S y h; rw [List.foldl_cons]; exact ih _ _ (keep S z y h)
  have key2 : ∀ (l S : List Cons), x ∈ l → oneCx x ∈ l.foldl addSx S := by
    intro l
    induction l with
    | nil => intro S h; cases h
    | cons z l ih =>
      intro S h
      rw [List.foldl_cons]
      rcases List.mem_cons.1 h with rfl | h
      · apply key1
        unfold addSx
        rw [if_pos hw]
        split
        · rename_i ha
          obtain ⟨y, hy, hb⟩ := List.any_eq_true.1 ha
          rw [← consB_eq hb]; exact hy
        · simp
      · exact ih _ h
  exact key2 l [] hx
theorem all_hold {n : Nat} {l : List Cons} (hg : good n l) (hn : neverB l = false) (vals : List Int) : holdL vals (allS l) ↔ holdL vals l := by
  constructor
  · intro h x hx
    rcases oneW_cases x with hw | hw | hw
    · exact (holdX_one (hg.2 x hx) hw vals).1 (h _ (allS_has hx hw))
    · have := List.any_eq_false.1 hn x hx
      simp [hw] at this
    · exact holdX_always hw vals
  · intro h y hy
    obtain ⟨x, hx, hw, rfl⟩ := allS_mem hy
    exact (holdX_one (hg.2 x hx) hw vals).2 (h x hx)
theorem never_not {n : Nat} {l : List Cons} (hg : good n l) (hn : neverB l = true) (vals : List Int) : ¬ holdL vals l := by
  intro h
  obtain ⟨x, hx, hw⟩ := List.any_eq_true.1 hn
  exact holdX_never (hg.2 x hx) (by simpa using hw) vals (h x hx)
theorem allW_spec (l : List Cons) : (allW l = 1 ∧ neverB l = true) ∨ (allW l = 2 ∧ neverB l = false ∧ allS l = []) ∨ (allW l = 0 ∧ neverB l = false ∧ allS l ≠ []) := by
  unfold allW
  cases hn : neverB l with
  | true => exact .inl ⟨rfl, rfl⟩
  | false =>
    cases he : (allS l).isEmpty with
    | true => exact .inr (.inl ⟨rfl, rfl, List.isEmpty_iff.1 he⟩)
    | false => exact .inr (.inr ⟨rfl, rfl, fun h => by rw [h] at he; cases he⟩)
theorem scale_neg {c : Int} {l : List Mono} (h : okT c l = true) : (scaleR c l (-1)).2.2 = 0 := by
  obtain ⟨h1, h2, h3, h4⟩ := okT_spec.1 h
  unfold scaleR
  rw [if_neg (by simp [h])]
  have hc : (timesP c (-1) 1099511627776).2 = true := times_unit (by omega) (by omega) (.inr rfl)
  have hb : scaleB (-1) l = true := by
    unfold scaleB
    rw [List.all_eq_true]
    intro m hm
    have hmm := okM_spec.1 (okFrom_ok h4 m hm)
    exact times_unit (by omega) (by omega) (.inr rfl)
  rw [hc, hb]; rfl
theorem uneq_hold {n : Nat} {l : List Cons} (hg : good n l) (vals : List Int) : holdL vals (uneq l) ↔ holdL vals l := by
  have key : ∀ x ∈ l, (∀ y ∈ uneqX x, holdX vals y) ↔ holdX vals x := by
    intro x hx
    have hok : okT x.t.c x.t.l = true := (hg.2 x hx).1
    unfold uneqX
    cases he : x.eq with
    | false =>
      simp only [Bool.false_eq_true, if_false, List.mem_singleton, forall_eq]
      unfold holdX; rw [he]
    | true =>
      rcases scaleR_spec (k := -1) hok with ⟨s1, s2, s3, s4⟩ | s1
      · have hv : valF (scaleR x.t.c x.t.l (-1)).1 (kOf (scaleR x.t.c x.t.l (-1)).2.1) vals = valF x.t.c (kOf x.t.l) vals * (-1) := by
          rw [s3, valF_congr s4, valF_scale]
        simp only [if_true, List.mem_cons, List.not_mem_nil, or_false, forall_eq_or_imp, forall_eq]
        unfold holdX
        simp only [he, Bool.false_eq_true, if_false, if_true, hv]
        constructor
        · rintro ⟨h1, h2⟩; omega
        · intro h; omega
      · have := scale_neg hok; omega
  constructor
  · intro h x hx
    exact (key x hx).1 fun y hy => h y (List.mem_flatMap.2 ⟨x, hx, hy⟩)
  · intro h y hy
    obtain ⟨x, hx, hy⟩ := List.mem_flatMap.1 hy
    exact (key x hx).2 (h x hx) y hy
theorem swap_zero {l : List Cons} {v c : Int} {b : List Mono} (hE : swapE l v c b = 0) {x : Cons} (hx : x ∈ l) : (swapX v c b x).2.2 = 0 := by
  unfold swapE at hE
  split at hE
  · omega
  · split at hE
    · omega
    · rename_i h1 h2
      have h3 : l.any (fun x => decide ((swapX v c b x).2.2 ≠ 0)) = false := by
        cases hq : l.any (fun x => decide ((swapX v c b x).2.2 ≠ 0)) with
        | false => rfl
        | true => exact absurd hq h2
      have := List.any_eq_false.1 h3 x hx
      simpa using this
theorem swap_hold {n : Nat} {l : List Cons} {v c : Int} {b : List Mono} (hg : good n l) (hb : okT c b = true) (hv : 0 ≤ v ∧ v < 40) (hE : swapE l v c b = 0) {vals : List Int} (hy : valOf vals v = valF c (kOf b) vals) : holdL vals (swapL l v c b) ↔ holdL vals l := by
  have key : ∀ x ∈ l, holdX vals (swapC v c b x) ↔ holdX vals x := by
    intro x hx
    have hok : okT x.t.c x.t.l = true := (hg.2 x hx).1
    have hz := swap_zero hE hx
    rcases putR_spec (v := v) (a := x.t.l) (c := x.t.c) hok hb with ⟨r1, r2, r3, r4⟩ | r1
    · have hval : valF (putR x.t.c x.t.l v c b).1 (kOf (putR x.t.c x.t.l v c b).2.1) vals = valF x.t.c (kOf x.t.l) vals := by
        rw [r3]; exact val_put hv r4 hy
      unfold holdX
      show (if x.eq = true then valF (putR x.t.c x.t.l v c b).1 (kOf (putR x.t.c x.t.l v c b).2.1) vals = 0 else valF (putR x.t.c x.t.l v c b).1 (kOf (putR x.t.c x.t.l v c b).2.1) vals ≤ 0) ↔ _
      rw [hval]
    · have : (swapX v c b x).2.2 = 12 := r1
      omega
  constructor
  · intro h x hx
    exact (key x hx).1 (h _ (List.mem_map.2 ⟨x, hx, rfl⟩))
  · intro h y hy
    obtain ⟨x, hx, rfl⟩ := List.mem_map.1 hy
    exact (key x hx).2 (h x hx)
theorem equal_hold {x : Cons} {v : Int} (hxo : okC x = true) (hv : 0 ≤ v ∧ v < 40) (he : x.eq = true) (hk : oneB (kOf x.t.l v) = true) (vals : List Int) : holdX vals x ↔ valOf vals v = valF (equalR x v).1 (kOf (equalR x v).2.1) vals := by
  obtain ⟨e1, e2, e3, e4⟩ := equalR_spec hxo hv he hk
  rw [e3, valF_congr e4, valF_scale]
  unfold holdX
  rw [he, if_pos rfl, valF_split x.t.c (kOf x.t.l) vals hv]
  generalize valF x.t.c (fun w => if w = v then 0 else kOf x.t.l w) vals = R
  have hk' : kOf x.t.l v = 1 ∨ kOf x.t.l v = -1 := by simpa [oneB] using hk
  rcases hk' with e | e <;> rw [e] <;> omega
theorem pair_val {a b : Cons} {v : Int} (ha : okC a = true) (hb : okC b = true) (h0 : (pairR a b v).2.2 = 0) (vals : List Int) :
    valF (pairR a b v).1 (kOf (pairR a b v).2.1) vals = valF b.t.c (kOf b.t.l) vals * (-(kOf a.t.l v)) + valF a.t.c (kOf a.t.l) vals * kOf b.t.l v := by
  rcases scaleR_spec (k := -(kOf a.t.l v)) (c := b.t.c) (l := b.t.l) hb with ⟨s1, s2, s3, s4⟩ | s1
  · rcases scaleR_spec (k := kOf b.t.l v) (c := a.t.c) (l := a.t.l) ha with ⟨q1, q2, q3, q4⟩ | q1
    · have hp : pairR a b v = addR (scaleR b.t.c b.t.l (-(kOf a.t.l v))).1 (scaleR b.t.c b.t.l (-(kOf a.t.l v))).2.1 (scaleR a.t.c a.t.l (kOf b.t.l v)).1 (scaleR a.t.c a.t.l (kOf b.t.l v)).2.1 := by
        unfold pairR; rw [if_neg (by omega)]
      rcases addR_spec s2 q2 with ⟨r1, r2, r3, r4⟩ | r1
      · rw [hp, r3, valF_congr r4, valF_add, s3, q3, valF_congr s4, valF_congr q4, valF_scale, valF_scale]
      · rw [hp] at h0; omega
    · have : pairR a b v = (0, [], 12) := by unfold pairR; rw [if_pos (.inr (by omega))]
      rw [this] at h0; cases h0
  · have : pairR a b v = (0, [], 12) := by unfold pairR; rw [if_pos (.inl (by omega))]
    rw [this] at h0; cases h0
theorem drop_fwd {n : Nat} {l : List Cons} {v : Int} (hg : good n l) (hq : ∀ x ∈ l, x.eq = false) (hE : dropErr l v = 0) {vals : List Int} (h : holdL vals l) : holdL vals (dropList l v) := by
  intro y hy
  rcases List.mem_append.1 hy with hy | hy
  · exact h y (List.mem_filter.1 hy).1
  · obtain ⟨a, ha, hy⟩ := List.mem_flatMap.1 hy
    obtain ⟨b, hb, rfl⟩ := List.mem_map.1 hy
    have h0 := drop_zero.1 hE a ha b hb
    have hal := mem_lows ha
    have hbl := mem_highs hb
    have ka : kOf a.t.l v < 0 := by simpa using (List.mem_filter.1 ha).2
    have kb : 0 < kOf b.t.l v := by simpa using (List.mem_filter.1 hb).2
    have h1 := h a hal
    have h2 := h b hbl
    unfold holdX at h1 h2 ⊢
    rw [hq a hal] at h1
    rw [hq b hbl] at h2
    simp only [Bool.false_eq_true, if_false] at h1 h2
    have hp := pair_val (hg.2 a hal).1 (hg.2 b hbl).1 h0 vals
    show (if (mkC (pairR a b v)).eq = true then _ else valF (pairR a b v).1 (kOf (pairR a b v).2.1) vals ≤ 0)
    rw [if_neg (by simp [mkC]), hp]
    have m1 := Int.mul_nonneg (show 0 ≤ -(valF b.t.c (kOf b.t.l) vals) by omega) (show 0 ≤ -(kOf a.t.l v) by omega)
    have m2 := Int.mul_nonneg (show 0 ≤ -(valF a.t.c (kOf a.t.l) vals) by omega) (show 0 ≤ kOf b.t.l v by omega)
    rw [Int.neg_mul] at m1 m2
    omega
theorem rest_lin (v : Int) (vals : List Int) : ∀ l : List Mono, linV vals (delM v l) = restOf v vals l
  | [] => rfl
  | m :: l => by
    have ih := rest_lin v vals l
    unfold delM at ih ⊢
    by_cases h : m.v = v
    · rw [List.filter_cons_of_neg (by simp [h]), ih, restOf, if_pos h]; omega
    · rw [List.filter_cons_of_pos (by simp [h]), linV, ih, restOf, if_neg h]
theorem rest_val {x : Cons} (hx : okC x = true) (v : Int) (vals : List Int) : x.t.c + restOf v vals x.t.l = valF x.t.c (fun w => if w = v then 0 else kOf x.t.l w) vals := by
  have hd : okT x.t.c (delM v x.t.l) = true := okT_del v hx
  rw [← rest_lin, val_eq hd vals]
  exact valF_congr (fun w => kOf_del v w x.t.l) vals
theorem val_rest {x : Cons} (hx : okC x = true) {v : Int} (hv : 0 ≤ v ∧ v < 40) (vals : List Int) : valF x.t.c (kOf x.t.l) vals = (x.t.c + restOf v vals x.t.l) + kOf x.t.l v * valOf vals v := by
  rw [rest_val hx, ← valF_split _ _ _ hv]
theorem low_iff {k N t : Int} (hk : k < 0) : -(-N / -k) ≤ t ↔ N + k * t ≤ 0 := by
  have h := Int.le_ediv_iff_mul_le (a := -t) (b := -N) (c := -k) (by omega)
  rw [Int.neg_mul_neg, Int.mul_comm t k] at h
  constructor
  · intro h1
    have := h.1 (by omega)
    omega
  · intro h1
    have := h.2 (by omega)
    omega
theorem high_iff {k N t : Int} (hk : 0 < k) : t ≤ -N / k ↔ N + k * t ≤ 0 := by
  have h := Int.le_ediv_iff_mul_le (a := t) (b := -N) (c := k) hk
  rw [Int.mul_comm t k] at h
  constructor
  · intro h1; have := h.1 h1; omega
  · intro h1; exact h.2 (by omega)
theorem fold_b (v : Int) (vals : List Int) (t : Int) : ∀ (l : List Cons) (a b : Int), a ≤ t → t ≤ b → (∀ x ∈ l, (kOf x.t.l v < 0 → -(-(x.t.c + restOf v vals x.t.l) / -(kOf x.t.l v)) ≤ t) ∧ (¬ kOf x.t.l v < 0 → t ≤ -(x.t.c + restOf v vals x.t.l) / kOf x.t.l v)) →
    (l.foldl (spanStep v vals) (a, b)).1 ≤ t ∧ t ≤ (l.foldl (spanStep v vals) (a, b)).2
  | [], a, b, h1, h2, _ => ⟨h1, h2⟩
  | x :: l, a, b, h1, h2, h => by
    rw [List.foldl_cons]
    have hx := h x List.mem_cons_self
    have ht := fun y hy => h y (List.mem_cons_of_mem _ hy)
    by_cases hk : kOf x.t.l v < 0
    · have e : spanStep v vals (a, b) x = (max a (-(-(x.t.c + restOf v vals x.t.l) / -(kOf x.t.l v))), b) := by unfold spanStep; rw [if_pos hk]
      rw [e]
      exact fold_b v vals t l _ _ (by have := hx.1 hk; omega) h2 ht
    · have e : spanStep v vals (a, b) x = (a, min b (-(x.t.c + restOf v vals x.t.l) / kOf x.t.l v)) := by unfold spanStep; rw [if_neg hk]
      rw [e]
      exact fold_b v vals t l _ _ h1 (by have := hx.2 hk; omega) ht
theorem alone_mem {l : List Cons} {v : Int} {x : Cons} (h : x ∈ aloneL l v) : x ∈ l ∧ ∃ m, x.t.l = [m] ∧ m.v = v := by
  have hal := (List.mem_filter.1 h).2
  refine ⟨(List.mem_filter.1 h).1, ?_⟩
  unfold aloneB at hal
  split at hal
  · rename_i m hm
    exact ⟨m, hm, by simpa using hal⟩
  · cases hal
theorem mem_span {l : List Cons} {v : Int} {x : Cons} (hx : x ∈ spanC l v) : x ∈ l ∧ kOf x.t.l v ≠ 0 := by
  unfold spanC lowsOf highsOf at hx
  rcases List.mem_append.1 hx with hx | hx
  · exact ⟨(List.mem_filter.1 hx).1, by have := (List.mem_filter.1 hx).2; simp at this; omega⟩
  · exact ⟨(List.mem_filter.1 hx).1, by have := (List.mem_filter.1 hx).2; simp at this; omega⟩
theorem may_zero {l : List Cons} {v : Int} (hq : ∀ x ∈ l, x.eq = false) (hok : ∀ x ∈ l, okC x = true) (hv : 0 ≤ v ∧ v < 40) : mayE l v = 0 := by
  have h1 : rightB l v = true := by
    unfold rightB
    rw [List.all_eq_true.2 hok, decide_eq_true hv.1, decide_eq_true hv.2]; rfl
  have h2 : hasB l v = false := by
    unfold hasB
    rw [List.any_eq_false]
    intro x hx
    rw [hq x hx]; simp
  unfold mayE
  rw [h1, h2]; rfl
theorem span_zero {l : List Cons} {v : Int} (hq : ∀ x ∈ l, x.eq = false) (hok : ∀ x ∈ l, okC x = true) (hv : 0 ≤ v ∧ v < 40) : spanE (aloneL l v) v [] = 0 := by
  have hm : mayE (aloneL l v) v = 0 := may_zero (fun x hx => hq x (alone_mem hx).1) (fun x hx => hok x (alone_mem hx).1) hv
  have hf : (spanC (aloneL l v) v).any (fun x => x.t.l.any (farB v (([] : List Int).length : Int))) = false := by
    rw [List.any_eq_false]
    intro x hx
    obtain ⟨-, m, hm, hmv⟩ := alone_mem (mem_span hx).1
    rw [hm]; simp [farB, hmv]
  unfold spanE
  rw [if_neg (by simp [hm]), if_neg (by rw [hf]; simp), if_neg (by simp)]
theorem alone_in {n : Nat} {l : List Cons} {v : Int} (hg : good n l) (hq : ∀ x ∈ l, x.eq = false) (hv : 0 ≤ v ∧ v < 40) {r : List Int} (hr : in32 r) (h : holdL r l) : spanLo (aloneL l v) v [] ≤ valOf r v ∧ valOf r v ≤ spanHi (aloneL l v) v [] := by
  have hb := in32_val hr v
  have hf := fold_b v [] (valOf r v) (spanC (aloneL l v) v) (-2147483648) 2147483647 hb.1 hb.2 (by
    intro x hx
    obtain ⟨hxa, hk0⟩ := mem_span hx
    obtain ⟨hxl, m, hm, hmv⟩ := alone_mem hxa
    have hh := h x hxl
    unfold holdX at hh
    rw [hq x hxl] at hh
    simp only [Bool.false_eq_true, if_false] at hh
    rw [val_rest (hg.2 x hxl).1 hv] at hh
    have e0 : restOf v [] x.t.l = restOf v r x.t.l := by rw [hm]; simp [restOf, hmv]
    rw [e0]
    exact ⟨fun hk => (low_iff hk).2 hh, fun hk => (high_iff (by omega)).2 hh⟩)
  have hz := span_zero hq (fun x hx => (hg.2 x hx).1) hv
  unfold spanLo spanHi spanFold
  rw [if_pos hz, if_pos hz]
  omega
def UnsatAt (n : Nat) (rec : Nat → List Int → List Cons → Ans) : Prop :=
  ∀ (left : Nat) (vals : List Int) (l : List Cons) (r : List Int), good n l → in32 r → holdL r l → (rec left vals l).1 ≠ 1
theorem swapD_unsat {n left : Nat} {rec : Nat → List Int → List Cons → Ans} {vals : List Int} {l : List Cons} {v c : Int} {b : List Mono} {r : List Int} (hrec : UnsatAt n rec)
    (hg : good n l) (hb : okT c b = true) (hbv : ∀ w, kOf b w ≠ 0 → w < n) (hv : 0 ≤ v ∧ v < 40) (hr : in32 r) (hh : holdL r l) (hy : valOf r v = valF c (kOf b) r) : (swapD rec left vals l v c b).1 ≠ 1 := by
  unfold swapD
  split
  · simp
  · rename_i hE
    have hE0 : swapE l v c b = 0 := by omega
    have := hrec left vals (swapL l v c b) r (swap_good hg hb hbv hE0) hr ((swap_hold hg hb hv hE0 hy).2 hh)
    split
    · simp
    · exact this
theorem valF_nil (c : Int) (r : List Int) : valF c (kOf []) r = c := by
  unfold valF
  rw [sumW_congr (g := fun _ => 0 * 0) 40 (fun w _ _ => by simp [kOf])]
  show c + 0 = c
  omega
theorem kOf_one (v k w : Int) : kOf [⟨v, k⟩] w = if v = w then k else 0 := by rw [kOf]; rfl
theorem valF_one (c k : Int) {v : Int} (hv : 0 ≤ v ∧ v < 40) (r : List Int) : valF c (kOf [⟨v, k⟩]) r = c + k * valOf r v := by
  rw [valF_split c (kOf [⟨v, k⟩]) r hv]
  have e : valF c (fun w => if w = v then 0 else kOf [⟨v, k⟩] w) r = valF c (kOf []) r := valF_congr (fun w => by
    rw [kOf_one]; by_cases h : w = v
    · rw [if_pos h]; rfl
    · rw [if_neg h, if_neg (fun e => h e.symm)]; rfl) r
  rw [e, valF_nil, kOf_one, if_pos rfl]
theorem hold_below {v m : Int} (hv : 0 ≤ v ∧ v < 40) (r : List Int) : holdX r (belowC v m) ↔ valOf r v ≤ m := by
  unfold holdX belowC
  simp only [Bool.false_eq_true, if_false]
  rw [valF_one _ _ hv]
  omega
theorem hold_above {v m : Int} (hv : 0 ≤ v ∧ v < 40) (r : List Int) : holdX r (aboveC v m) ↔ m < valOf r v := by
  unfold holdX aboveC
  simp only [Bool.false_eq_true, if_false]
  rw [valF_one _ _ hv]
  omega
theorem hold_app {r : List Int} {l : List Cons} {x : Cons} : holdL r (l ++ [x]) ↔ holdL r l ∧ holdX r x := by
  unfold holdL
  constructor
  · intro h
    exact ⟨fun y hy => h y (List.mem_append_left _ hy), h x (by simp)⟩
  · rintro ⟨h1, h2⟩ y hy
    rcases List.mem_append.1 hy with hy | hy
    · exact h1 y hy
    · rw [List.mem_singleton.1 hy]; exact h2
theorem splitD_unsat {n left : Nat} {rec : Nat → List Int → List Cons → Ans} {vals : List Int} {l : List Cons} {v : Int} {r : List Int} (hrec : UnsatAt n rec)
    (hg : good n l) (hq : ∀ x ∈ l, x.eq = false) (hl240 : l.length ≤ 240) (hv : 0 ≤ v ∧ v < n) (hv40 : v < 40) (hr : in32 r) (hh : holdL r l) : (splitD rec left vals l v).1 ≠ 1 := by
  have b1 := span_lob (aloneL l v) v []
  have b2 := span_hib (aloneL l v) v []
  have hin := alone_in hg hq ⟨hv.1, hv40⟩ hr hh
  have hgo : ∀ m : Int, spanLo (aloneL l v) v [] ≤ m ∧ m ≤ spanHi (aloneL l v) v [] → good n (l ++ [belowC v m]) ∧ good n (l ++ [aboveC v m]) := fun m hm => below_good hg hl240 hv hv40 (by omega)
  have hb0 : okT (spanLo (aloneL l v) v []) [] = true := okT_spec.2 ⟨by omega, by omega, by simp, rfl⟩
  unfold splitD
  rw [if_neg (by omega)]
  split
  · simp
  · split
    · rename_i he
      exact swapD_unsat hrec hg hb0 (fun w hw => absurd rfl hw) ⟨hv.1, hv40⟩ hr hh (by rw [valF_nil]; omega)
    · have hm := hgo _ (half_b (by omega))
      generalize halfR (spanLo (aloneL l v) v []) (spanHi (aloneL l v) v []) = m at hm ⊢
      split
      · rename_i h1
        refine hrec _ _ _ r hm.2 hr (hold_app.2 ⟨hh, (hold_above ⟨hv.1, hv40⟩ r).2 ?_⟩)
        apply Int.lt_of_not_ge
        intro hle
        exact hrec (left - 1) vals (l ++ [belowC v m]) r hm.1 hr (hold_app.2 ⟨hh, (hold_below ⟨hv.1, hv40⟩ r).2 hle⟩) h1
      · assumption
theorem uneq_eq {l : List Cons} {x : Cons} (h : x ∈ uneq l) : x.eq = false := by
  obtain ⟨y, -, hx⟩ := List.mem_flatMap.1 h
  unfold uneqX at hx
  split at hx
  · simp only [List.mem_cons, List.not_mem_nil, or_false] at hx
    rcases hx with rfl | rfl <;> rfl
  · rename_i he
    have e := List.mem_singleton.1 hx
    subst e
    rfl
theorem stepD_unsat {n : Nat} {rec : Nat → List Int → List Cons → Ans} (hrec : UnsatAt n rec) : UnsatAt n (stepD rec) := by
  intro left vals l r hg hr hh
  unfold stepD
  split
  · rename_i hw
    rcases allW_spec l with ⟨h1, h2⟩ | ⟨h1, _⟩ | ⟨h1, _⟩
    · exact absurd hh (never_not hg h2 r)
    · rw [h1]; simp
    · omega
  · rename_i hw
    have hn : neverB l = false := by
      rcases allW_spec l with ⟨h1, h2⟩ | ⟨h1, h2, _⟩ | ⟨h1, h2, _⟩
      · omega
      · exact h2
      · exact h2
    split
    · simp
    · have hg1 := all_good hg
      have hh1 := (all_hold hg hn r).2 hh
      split
      · rename_i i v hu
        obtain ⟨q, x, rfl, hx, hgx, hxm, hxg, hxe, hone, hub, h40, hge, he2, hev⟩ := unit_facts hg1 hu
        unfold unitD
        rw [hgx]
        split
        · simp
        · exact swapD_unsat hrec hge he2 hev ⟨hub.1, h40⟩ hr (fun y hy => hh1 y (List.mem_of_mem_eraseIdx hy)) ((equal_hold hxg.1 ⟨hub.1, h40⟩ hxe hone r).1 (hh1 x hxm))
      · have hg2 := uneq_good hg1 (by omega)
        have hh2 := (uneq_hold hg1 r).2 hh1
        have hq2 : ∀ x ∈ uneq (allS l), x.eq = false := fun x hx => uneq_eq hx
        unfold noUnitD
        split
        · simp
        · have hlv := var_good hg2 (leastV_mem (uneq_vars (allW_ne (by omega)) fun y hy => allS_ne hy))
          split
          · exact splitD_unsat hrec hg2 hq2 (by omega) ⟨hlv.1, hlv.2.1⟩ hlv.2.2 hr hh2
          · rename_i hx0
            unfold dropD
            split
            · simp
            · split
              · simp
              · rename_i hd
                have hd0 : dropErr (uneq (allS l)) (exactV (uneq (allS l))) = 0 := by omega
                have := hrec (left - max ((lowsOf (uneq (allS l)) (exactV (uneq (allS l)))).length * (highsOf (uneq (allS l)) (exactV (uneq (allS l)))).length) 1) vals _ r (drop_good hg2 (by omega) hd0) hr (drop_fwd hg2 hq2 hd0 hh2)
                split
                · simp
                · exact this
theorem ansD_unsat {n : Nat} : ∀ d : Nat, UnsatAt n (ansD d)
  | 0 => fun left vals l r _ _ _ => by simp [ansD]
  | d + 1 => stepD_unsat (ansD_unsat d)
def bxB (l : List Cons) (w c k : Int) : Prop := ∃ x ∈ l, x.eq = false ∧ x.t.c = c ∧ ∀ u, kOf x.t.l u = if u = w then k else 0
def bx2 (l : List Cons) (w : Int) : Prop := bxB l w (-2147483647) 1 ∧ bxB l w (-2147483648) (-1)
def boxed (l : List Cons) : Prop := ∀ x ∈ l, ∀ w, kOf x.t.l w ≠ 0 → bx2 l w
theorem bx2_sub {l l' : List Cons} {w : Int} (h : ∀ x ∈ l, x ∈ l') (hb : bx2 l w) : bx2 l' w := by
  obtain ⟨⟨x, h1, h2⟩, ⟨y, h3, h4⟩⟩ := hb
  exact ⟨⟨x, h x h1, h2⟩, ⟨y, h y h3, h4⟩⟩
theorem valF_single {f : Int → Int} {w k : Int} (hw : 0 ≤ w ∧ w < 40) (hf : ∀ u, f u = if u = w then k else 0) (c : Int) (r : List Int) : valF c f r = c + k * valOf r w := by
  rw [valF_split c f r hw]
  have e : valF c (fun u => if u = w then 0 else f u) r = valF c (kOf []) r := valF_congr (fun u => by
    by_cases h : u = w
    · rw [if_pos h]; rfl
    · rw [if_neg h, hf, if_neg h]; rfl) r
  rw [e, valF_nil, hf, if_pos rfl]
theorem bx2_hold {l : List Cons} {w : Int} (hw : 0 ≤ w ∧ w < 40) (hb : bx2 l w) {r : List Int} (h : holdL r l) : -2147483648 ≤ valOf r w ∧ valOf r w ≤ 2147483647 := by
  obtain ⟨⟨x, h1, h2, h3, h4⟩, ⟨y, g1, g2, g3, g4⟩⟩ := hb
  have a := h x h1
  have b := h y g1
  unfold holdX at a b
  rw [h2, if_neg (by simp), valF_single hw h4, h3] at a
  rw [g2, if_neg (by simp), valF_single hw g4, g3] at b
  omega
theorem one_box {n : Nat} {x : Cons} {w c k : Int} (hg : goodX n x) (hk : k = 1 ∨ k = -1) (h2 : x.eq = false) (h3 : x.t.c = c) (h4 : ∀ u, kOf x.t.l u = if u = w then k else 0) :
    oneW x = 0 ∧ (oneCx x).eq = false ∧ (oneCx x).t.c = c ∧ ∀ u, kOf (oneCx x).t.l u = if u = w then k else 0 := by
  have hkw : kOf x.t.l w = k := by rw [h4, if_pos rfl]
  have hne : x.t.l ≠ [] := by
    intro e; rw [e] at hkw; have : (0 : Int) = k := hkw; omega
  have hs : sgC x = 1 := by unfold sgC; rw [h2]; rfl
  have hd := gcd_dvd_kOf (l := x.t.l) w
  have gp : (0 : Int) < gcdL x.t.l := by have := gcdL_pos hne (okC_parts hg.1).2.2; omega
  have hgc : (gcdL x.t.l : Int) = 1 := by
    rw [hkw] at hd
    have h1 : (gcdL x.t.l : Int) ∣ 1 := by
      rcases hk with e | e
      · rw [e] at hd; exact hd
      · rw [e] at hd; exact (Int.dvd_neg).1 hd
    have := Int.le_of_dvd (by omega) h1
    omega
  refine ⟨?_, h2, ?_, fun u => ?_⟩
  · unfold oneW
    rw [if_neg (by simp [hne]), h2]; simp
  · simp only [oneCx, hs, hgc, h3]
    rw [Int.ediv_one]; omega
  · have := one_kOf hg hne u
    rw [hs, hgc] at this
    rw [← h4, this]; omega
theorem bxB_all {n : Nat} {l : List Cons} {w c k : Int} (hg : good n l) (hk : k = 1 ∨ k = -1) (h : bxB l w c k) : bxB (allS l) w c k := by
  obtain ⟨x, h1, h2, h3, h4⟩ := h
  obtain ⟨a, b⟩ := one_box (hg.2 x h1) hk h2 h3 h4
  exact ⟨oneCx x, allS_has h1 a, b⟩
theorem boxed_all {n : Nat} {l : List Cons} (hg : good n l) (h : boxed l) : boxed (allS l) := by
  intro y hy w hw
  obtain ⟨x, hx, hw0, rfl⟩ := allS_mem hy
  have hkx : kOf x.t.l w ≠ 0 := by
    rw [one_kOf (hg.2 x hx) (oneW_ne hw0)]
    have gp : (0 : Int) < gcdL x.t.l := by have := gcdL_pos (oneW_ne hw0) (okC_parts (hg.2 x hx).1).2.2; omega
    refine Int.mul_ne_zero hw (Int.mul_ne_zero (by omega) ?_)
    rcases sgC_cases x with e | e <;> rw [e] <;> simp
  exact ⟨bxB_all hg (.inl rfl) (h x hx w hkx).1, bxB_all hg (.inr rfl) (h x hx w hkx).2⟩
theorem bxB_uneq {l : List Cons} {w c k : Int} (h : bxB l w c k) : bxB (uneq l) w c k := by
  obtain ⟨x, h1, h2, h3⟩ := h
  refine ⟨x, List.mem_flatMap.2 ⟨x, h1, ?_⟩, h2, h3⟩
  obtain ⟨⟨c0, m0⟩, q0⟩ := x
  simp only at h2
  subst h2
  simp [uneqX]
theorem boxed_uneq {n : Nat} {l : List Cons} (hg : good n l) (h : boxed l) : boxed (uneq l) := by
  intro y hy w hw
  obtain ⟨x, hx, hyx⟩ := List.mem_flatMap.1 hy
  have hkx : kOf x.t.l w ≠ 0 := by
    have hok : okT x.t.c x.t.l = true := (hg.2 x hx).1
    unfold uneqX at hyx
    split at hyx
    · simp only [List.mem_cons, List.not_mem_nil, or_false] at hyx
      rcases hyx with rfl | rfl
      · exact hw
      · intro e
        rcases scaleR_spec (k := -1) hok with ⟨s1, s2, s3, s4⟩ | s1
        · exact hw (by show kOf (scaleR x.t.c x.t.l (-1)).2.1 w = 0; rw [s4, e]; rfl)
        · have := scale_neg hok; omega
    · have e := List.mem_singleton.1 hyx
      subst e; exact hw
  exact ⟨bxB_uneq (h x hx w hkx).1, bxB_uneq (h x hx w hkx).2⟩
theorem swap_parts {n : Nat} {l : List Cons} {v c : Int} {b : List Mono} (hg : good n l) (hb : okT c b = true) (hE : swapE l v c b = 0) {x : Cons} (hx : x ∈ l) :
    (swapC v c b x).t.c = x.t.c + c * kOf x.t.l v ∧ ∀ w, kOf (swapC v c b x).t.l w = (if w = v then 0 else kOf x.t.l w) + kOf b w * kOf x.t.l v := by
  have hok : okT x.t.c x.t.l = true := (hg.2 x hx).1
  have hz := swap_zero hE hx
  rcases putR_spec (v := v) (a := x.t.l) (c := x.t.c) hok hb with ⟨r1, r2, r3, r4⟩ | r1
  · exact ⟨r3, r4⟩
  · have : (swapX v c b x).2.2 = 12 := r1
    omega
theorem bxB_swap {n : Nat} {l : List Cons} {v c : Int} {b : List Mono} {w d k : Int} (hg : good n l) (hb : okT c b = true) (hE : swapE l v c b = 0) (hwv : w ≠ v) (h : bxB l w d k) : bxB (swapL l v c b) w d k := by
  obtain ⟨x, h1, h2, h3, h4⟩ := h
  obtain ⟨p1, p2⟩ := swap_parts hg hb hE h1
  have h0 : kOf x.t.l v = 0 := by rw [h4, if_neg (fun e => hwv e.symm)]
  refine ⟨swapC v c b x, List.mem_map.2 ⟨x, h1, rfl⟩, h2, ?_, fun u => ?_⟩
  · rw [p1, h0, h3]; omega
  · rw [p2, h0, ← h4]
    by_cases e : u = v
    · rw [if_pos e, e, h0]; omega
    · rw [if_neg e]; omega
theorem boxed_swap {n : Nat} {l : List Cons} {v c : Int} {b : List Mono} (hg : good n l) (hb : okT c b = true) (hE : swapE l v c b = 0) (hbv : kOf b v = 0) (hbb : ∀ w, kOf b w ≠ 0 → bx2 l w) (h : boxed l) : boxed (swapL l v c b) := by
  intro y hy w hw
  obtain ⟨x, hx, rfl⟩ := List.mem_map.1 hy
  rw [(swap_parts hg hb hE hx).2] at hw
  have hwv : w ≠ v := by
    intro e; rw [if_pos e, e, hbv] at hw; omega
  rw [if_neg hwv] at hw
  have h2 : bx2 l w := by
    by_cases e : kOf x.t.l w = 0
    · exact hbb w (fun e2 => hw (by rw [e, e2]; omega))
    · exact h x hx w e
  exact ⟨bxB_swap hg hb hE hwv h2.1, bxB_swap hg hb hE hwv h2.2⟩
theorem bxB_drop {l : List Cons} {v w d k : Int} (hwv : w ≠ v) (h : bxB l w d k) : bxB (dropList l v) w d k := by
  obtain ⟨x, h1, h2, h3, h4⟩ := h
  refine ⟨x, List.mem_append_left _ (List.mem_filter.2 ⟨h1, ?_⟩), h2, h3, h4⟩
  have h0 : kOf x.t.l v = 0 := by rw [h4, if_neg (fun e => hwv e.symm)]
  simp [h0]
theorem pair_kOf {a b : Cons} {v : Int} (ha : okC a = true) (hb : okC b = true) (h0 : (pairR a b v).2.2 = 0) (w : Int) :
    kOf (pairR a b v).2.1 w = kOf b.t.l w * (-(kOf a.t.l v)) + kOf a.t.l w * kOf b.t.l v := by
  rcases scaleR_spec (k := -(kOf a.t.l v)) (c := b.t.c) (l := b.t.l) hb with ⟨s1, s2, s3, s4⟩ | s1
  · rcases scaleR_spec (k := kOf b.t.l v) (c := a.t.c) (l := a.t.l) ha with ⟨q1, q2, q3, q4⟩ | q1
    · have hp : pairR a b v = addR (scaleR b.t.c b.t.l (-(kOf a.t.l v))).1 (scaleR b.t.c b.t.l (-(kOf a.t.l v))).2.1 (scaleR a.t.c a.t.l (kOf b.t.l v)).1 (scaleR a.t.c a.t.l (kOf b.t.l v)).2.1 := by
        unfold pairR; rw [if_neg (by omega)]
      rcases addR_spec s2 q2 with ⟨r1, r2, r3, r4⟩ | r1
      · rw [hp, r4, s4, q4]
      · rw [hp] at h0; omega
    · have : pairR a b v = (0, [], 12) := by unfold pairR; rw [if_pos (.inr (by omega))]
      rw [this] at h0; cases h0
  · have : pairR a b v = (0, [], 12) := by unfold pairR; rw [if_pos (.inl (by omega))]
    rw [this] at h0; cases h0
theorem boxed_drop {n : Nat} {l : List Cons} {v : Int} (hg : good n l) (hE : dropErr l v = 0) (h : boxed l) : boxed (dropList l v) := by
  intro y hy w hw
  have key : w ≠ v ∧ bx2 l w := by
    rcases List.mem_append.1 hy with hy | hy
    · have hf := List.mem_filter.1 hy
      have h0 : kOf y.t.l v = 0 := by simpa using hf.2
      exact ⟨fun e => hw (by rw [e]; exact h0), h y hf.1 w hw⟩
    · obtain ⟨a, ha, hy⟩ := List.mem_flatMap.1 hy
      obtain ⟨b, hb, rfl⟩ := List.mem_map.1 hy
      have h0 := drop_zero.1 hE a ha b hb
      have hal := mem_lows ha
      have hbl := mem_highs hb
      have e : kOf (mkC (pairR a b v)).t.l w = kOf b.t.l w * (-(kOf a.t.l v)) + kOf a.t.l w * kOf b.t.l v := pair_kOf (hg.2 a hal).1 (hg.2 b hbl).1 h0 w
      rw [e] at hw
      refine ⟨fun e => hw (by rw [e, Int.mul_neg, Int.mul_comm (kOf b.t.l v)]; omega), ?_⟩
      by_cases e1 : kOf b.t.l w = 0
      · refine h a hal w fun e2 => hw ?_
        rw [e1, e2]; simp
      · exact h b hbl w e1
  exact ⟨bxB_drop key.1 key.2.1, bxB_drop key.1 key.2.2⟩
theorem boxed_app {l : List Cons} {x : Cons} (h : boxed l) (hx : ∀ w, kOf x.t.l w ≠ 0 → bx2 l w) : boxed (l ++ [x]) := by
  intro y hy w hw
  have hs : ∀ z ∈ l, z ∈ l ++ [x] := fun z hz => List.mem_append_left _ hz
  rcases List.mem_append.1 hy with hy | hy
  · exact bx2_sub hs (h y hy w hw)
  · rw [List.mem_singleton.1 hy] at hw
    exact bx2_sub hs (hx w hw)
theorem valF_set {r : List Int} {v t : Int} (hv : 0 ≤ v ∧ v < r.length) (c : Int) (f : Int → Int) : valF c (fun w => if w = v then 0 else f w) (r.set v.toNat t) = valF c (fun w => if w = v then 0 else f w) r := by
  unfold valF
  rw [sumW_congr 40 fun w h0 _ => ?_]
  show (if w = v then 0 else f w) * valOf (r.set v.toNat t) w = (if w = v then 0 else f w) * valOf r w
  by_cases h : w = v
  · rw [if_pos h]; simp
  · rw [valOf_set hv h0, if_neg h, if_neg h]
theorem valF_set0 {r : List Int} {v t : Int} (hv : 0 ≤ v ∧ v < r.length) (c : Int) {f : Int → Int} (hf : f v = 0) : valF c f (r.set v.toNat t) = valF c f r := by
  have e : f = fun w => if w = v then 0 else f w := by
    funext w; by_cases h : w = v
    · rw [if_pos h, h, hf]
    · rw [if_neg h]
  rw [e]; exact valF_set hv c f
def SatAt (n : Nat) (rec : Nat → List Int → List Cons → Ans) : Prop :=
  ∀ (left : Nat) (vals : List Int) (l : List Cons), vals.length = n → good n l → boxed l → in32 vals →
    (rec left vals l).2.2.length = n ∧ in32 (rec left vals l).2.2 ∧ ((rec left vals l).1 = 2 → holdL (rec left vals l).2.2 l)
theorem told_zero {n : Nat} {c : Int} {b : List Mono} {r : List Int} (hb : okT c b = true) (hbv : ∀ w, kOf b w ≠ 0 → w < n) (hn : r.length = n) (hr : in32 r) : toldE c b r = 0 := by
  unfold toldE
  have h5 : b.any (fun m => decide ((r.length : Int) ≤ m.v)) = false := by
    rw [List.any_eq_false]
    intro m hm
    have hmm := okM_spec.1 (okFrom_ok (okT_spec.1 hb).2.2.2 m hm)
    have := hbv m.v (by rw [mem_kOf (okT_spec.1 hb).2.2.2 m hm]; exact hmm.2.2.1)
    simp; omega
  rw [if_neg (by simp [hb]), if_neg (by simp [h5]), if_neg (by rw [show r.any outB = false from hr]; simp)]
theorem swapD_sat {n left : Nat} {rec : Nat → List Int → List Cons → Ans} {vals : List Int} {l : List Cons} {v c : Int} {b : List Mono} (hrec : SatAt n rec) (hn : vals.length = n)
    (hg : good n l) (hbx : boxed l) (hr : in32 vals) (hb : okT c b = true) (hbn : ∀ w, kOf b w ≠ 0 → w < n) (hv : 0 ≤ v ∧ v < n) (hv40 : v < 40) (hbv : kOf b v = 0) (hbb : ∀ w, kOf b w ≠ 0 → bx2 l w) (hbxv : bx2 l v) :
    (swapD rec left vals l v c b).2.2.length = n ∧ in32 (swapD rec left vals l v c b).2.2 ∧ ((swapD rec left vals l v c b).1 = 2 → holdL (swapD rec left vals l v c b).2.2 l ∧ valOf (swapD rec left vals l v c b).2.2 v = valF c (kOf b) (swapD rec left vals l v c b).2.2) := by
  unfold swapD
  split
  · exact ⟨hn, hr, fun h => by simp at h⟩
  · rename_i hE
    have hE0 : swapE l v c b = 0 := by omega
    obtain ⟨h1, h2, h3⟩ := hrec left vals (swapL l v c b) hn (swap_good hg hb hbn hE0) (boxed_swap hg hb hE0 hbv hbb hbx) hr
    split
    · rename_i hs
      have hh := h3 hs
      generalize (rec left vals (swapL l v c b)).2.2 = r at h1 h2 hh ⊢
      have hvr : 0 ≤ v ∧ v < r.length := by omega
      have hval : valueR c b r = valF c (kOf b) r := by
        unfold valueR
        rw [if_pos (told_zero hb hbn h1 h2), val_eq hb r]
      have hy : valOf (r.set v.toNat (valueR c b r)) v = valF c (kOf b) (r.set v.toNat (valueR c b r)) := by
        rw [valOf_set hvr hv.1, if_pos rfl, valF_set0 hvr c hbv, hval]
      have hsw : holdL (r.set v.toNat (valueR c b r)) (swapL l v c b) := by
        intro y hy
        obtain ⟨x, hx, rfl⟩ := List.mem_map.1 hy
        have h0 : kOf (swapC v c b x).t.l v = 0 := by
          rw [(swap_parts hg hb hE0 hx).2, if_pos rfl, hbv]; omega
        have := hh _ hy
        unfold holdX at this ⊢
        rw [valF_set0 hvr _ h0]; exact this
      have hl := (swap_hold hg hb ⟨hv.1, hv40⟩ hE0 hy).1 hsw
      have hbd := bx2_hold ⟨hv.1, hv40⟩ hbxv hl
      rw [valOf_set hvr hv.1, if_pos rfl] at hbd
      exact ⟨by rw [List.length_set]; exact h1, in32_set h2 hbd, fun _ => ⟨hl, hy⟩⟩
    · rename_i hs
      exact ⟨h1, h2, fun h => absurd h hs⟩
def loV (v : Int) (vals : List Int) (x : Cons) : Int := -(-(x.t.c + restOf v vals x.t.l) / -(kOf x.t.l v))
def hiV (v : Int) (vals : List Int) (x : Cons) : Int := -(x.t.c + restOf v vals x.t.l) / kOf x.t.l v
theorem fold_ge (v : Int) (vals : List Int) : ∀ (l : List Cons) (a b : Int),
    a ≤ (l.foldl (spanStep v vals) (a, b)).1 ∧ (l.foldl (spanStep v vals) (a, b)).2 ≤ b ∧
    (∀ x ∈ l, (kOf x.t.l v < 0 → loV v vals x ≤ (l.foldl (spanStep v vals) (a, b)).1) ∧ (¬ kOf x.t.l v < 0 → (l.foldl (spanStep v vals) (a, b)).2 ≤ hiV v vals x)) ∧
    ((l.foldl (spanStep v vals) (a, b)).1 = a ∨ ∃ x ∈ l, kOf x.t.l v < 0 ∧ (l.foldl (spanStep v vals) (a, b)).1 = loV v vals x) ∧
    ((l.foldl (spanStep v vals) (a, b)).2 = b ∨ ∃ x ∈ l, ¬ kOf x.t.l v < 0 ∧ (l.foldl (spanStep v vals) (a, b)).2 = hiV v vals x)
  | [], a, b => ⟨Int.le_refl _, Int.le_refl _, (fun x hx => by cases hx), .inl rfl, .inl rfl⟩
  | x :: l, a, b => by
    rw [List.foldl_cons]
    by_cases hk : kOf x.t.l v < 0
    · have e : spanStep v vals (a, b) x = (max a (loV v vals x), b) := by unfold spanStep; rw [if_pos hk]; rfl
      rw [e]
      obtain ⟨h1, h2, h3, h4, h5⟩ := fold_ge v vals l (max a (loV v vals x)) b
      generalize l.foldl (spanStep v vals) (max a (loV v vals x), b) = p at h1 h2 h3 h4 h5 ⊢
      refine ⟨by clear h3 h4 h5; omega, h2, fun y hy => ?_, ?_, ?_⟩
      · rcases List.mem_cons.1 hy with rfl | hy
        · exact ⟨fun _ => by clear h3 h4 h5; omega, fun h => absurd hk h⟩
        · exact h3 y hy
      · rcases h4 with h4 | ⟨y, hy, h4⟩
        · by_cases hm : a ≤ loV v vals x
          · exact .inr ⟨x, List.mem_cons_self, hk, by clear h3 h5; omega⟩
          · exact .inl (by clear h3 h5; omega)
        · exact .inr ⟨y, List.mem_cons_of_mem _ hy, h4⟩
      · rcases h5 with h5 | ⟨y, hy, h5⟩
        · exact .inl h5
        · exact .inr ⟨y, List.mem_cons_of_mem _ hy, h5⟩
    · have e : spanStep v vals (a, b) x = (a, min b (hiV v vals x)) := by unfold spanStep; rw [if_neg hk]; rfl
      rw [e]
      obtain ⟨h1, h2, h3, h4, h5⟩ := fold_ge v vals l a (min b (hiV v vals x))
      generalize l.foldl (spanStep v vals) (a, min b (hiV v vals x)) = p at h1 h2 h3 h4 h5 ⊢
      refine ⟨h1, by clear h3 h4 h5; omega, fun y hy => ?_, ?_, ?_⟩
      · rcases List.mem_cons.1 hy with rfl | hy
        · exact ⟨fun h => absurd h hk, fun _ => by clear h3 h4 h5; omega⟩
        · exact h3 y hy
      · rcases h4 with h4 | ⟨y, hy, h4⟩
        · exact .inl h4
        · exact .inr ⟨y, List.mem_cons_of_mem _ hy, h4⟩
      · rcases h5 with h5 | ⟨y, hy, h5⟩
        · by_cases hm : hiV v vals x ≤ b
          · exact .inr ⟨x, List.mem_cons_self, hk, by clear h3 h4; omega⟩
          · exact .inl (by clear h3 h4; omega)
        · exact .inr ⟨y, List.mem_cons_of_mem _ hy, h5⟩
theorem span_zero' {n : Nat} {l : List Cons} {v : Int} {r : List Int} (hg : good n l) (hq : ∀ x ∈ l, x.eq = false) (hv : 0 ≤ v ∧ v < 40) (hn : r.length = n) (hr : in32 r) : spanE l v r = 0 := by
  have hm : mayE l v = 0 := may_zero hq (fun x hx => (hg.2 x hx).1) hv
  have hf : (spanC l v).any (fun x => x.t.l.any (farB v (r.length : Int))) = false := by
    rw [List.any_eq_false]
    intro x hx
    have hxg := hg.2 x (mem_span hx).1
    have hok : okT x.t.c x.t.l = true := hxg.1
    have : x.t.l.any (farB v (r.length : Int)) = false := by
      rw [List.any_eq_false]
      intro m hm
      have hmm := okM_spec.1 (okFrom_ok (okT_spec.1 hok).2.2.2 m hm)
      have := hxg.2 m.v (by rw [mem_kOf (okT_spec.1 hok).2.2.2 m hm]; exact hmm.2.2.1)
      simp [farB]; omega
    rw [this]; simp
  unfold spanE
  rw [if_neg (by simp [hm]), if_neg (by rw [hf]; simp), if_neg (by rw [show r.any outB = false from hr]; simp)]
theorem span_mem {l : List Cons} {v : Int} {x : Cons} (hx : x ∈ l) (hk : kOf x.t.l v ≠ 0) : x ∈ spanC l v := by
  unfold spanC lowsOf highsOf
  by_cases h : kOf x.t.l v < 0
  · exact List.mem_append_left _ (List.mem_filter.2 ⟨hx, by simpa using h⟩)
  · exact List.mem_append_right _ (List.mem_filter.2 ⟨hx, by simp; omega⟩)
theorem pick_in {n : Nat} {l : List Cons} {v : Int} {r : List Int} (hg : good n l) (hq : ∀ x ∈ l, x.eq = false) (hE : dropErr l v = 0) (hv : 0 ≤ v ∧ v < 40) (hn : r.length = n) (hr : in32 r) (hx : exactB l v = true) (hb : bx2 l v) (hh : holdL r (dropList l v)) :
    ∀ x ∈ l, kOf x.t.l v ≠ 0 → (x.t.c + restOf v r x.t.l) + kOf x.t.l v * pickR (spanLo l v r) (spanHi l v r) ≤ 0 := by
  have hz := span_zero' hg hq hv hn hr
  obtain ⟨f1, f2, f3, f4, f5⟩ := fold_ge v r (spanC l v) (-2147483648) 2147483647
  have hpair : ∀ a ∈ l, ∀ b ∈ l, kOf a.t.l v < 0 → 0 < kOf b.t.l v → loV v r a ≤ hiV v r b := by
    intro a ha b hb' ka kb
    have hal : a ∈ lowsOf l v := List.mem_filter.2 ⟨ha, by simpa using ka⟩
    have hbl : b ∈ highsOf l v := List.mem_filter.2 ⟨hb', by simpa using kb⟩
    have h0 := drop_zero.1 hE a hal b hbl
    have hp := hh (mkC (pairR a b v)) (List.mem_append_right _ (List.mem_flatMap.2 ⟨a, hal, List.mem_map.2 ⟨b, hbl, rfl⟩⟩))
    have hp2 : valF (pairR a b v).1 (kOf (pairR a b v).2.1) r ≤ 0 := by
      unfold holdX at hp
      rw [if_neg (by simp [mkC])] at hp
      exact hp
    rw [pair_val (hg.2 a ha).1 (hg.2 b hb').1 h0, val_rest (hg.2 a ha).1 hv, val_rest (hg.2 b hb').1 hv] at hp2
    unfold loV hiV
    generalize a.t.c + restOf v r a.t.l = A at hp2 ⊢
    generalize b.t.c + restOf v r b.t.l = B at hp2 ⊢
    generalize valOf r v = t at hp2
    unfold exactB at hx
    rcases Bool.or_eq_true_iff.1 hx with hx | hx
    · have e := List.all_eq_true.1 hx a hal
      have e : kOf a.t.l v = -1 := by simpa using e
      rw [e] at hp2 ⊢
      have hA : -(-A / - -1) = A := by rw [show (- -1 : Int) = 1 by rfl, Int.ediv_one]; omega
      rw [hA, high_iff kb]
      generalize kOf b.t.l v = k at *
      have e1 : (B + k * t) * - -1 = B + k * t := by omega
      have e2 : (A + -1 * t) * k = k * A - k * t := by rw [Int.add_mul, Int.mul_comm A k, Int.mul_assoc, Int.mul_comm t k]; omega
      rw [e1, e2] at hp2
      omega
    · have e := List.all_eq_true.1 hx b hbl
      have e : kOf b.t.l v = 1 := by simpa using e
      rw [e] at hp2 ⊢
      rw [Int.ediv_one, low_iff ka]
      generalize kOf a.t.l v = k at *
      have e1 : (B + 1 * t) * -k = -(k * B) - k * t := by rw [Int.one_mul, Int.mul_neg, Int.add_mul, Int.mul_comm B k, Int.mul_comm t k]; omega
      rw [e1] at hp2
      rw [Int.mul_neg]
      omega
  have hbl : ∀ b ∈ l, 0 < kOf b.t.l v → -2147483648 ≤ hiV v r b := by
    intro b hb' kb
    obtain ⟨-, ⟨y, g1, g2, g3, g4⟩⟩ := hb
    have hk : kOf y.t.l v = -1 := by rw [g4, if_pos rfl]
    have h := hpair y g1 b hb' (by omega) kb
    have e0 : y.t.c + restOf v r y.t.l = -2147483648 := by
      rw [rest_val (hg.2 y g1).1, valF_congr (g := kOf []) (fun w => by
        by_cases h : w = v
        · rw [if_pos h]; rfl
        · rw [if_neg h, g4, if_neg h]; rfl), valF_nil, g3]
    unfold loV at h
    rw [e0, hk] at h
    exact h
  have hah : ∀ a ∈ l, kOf a.t.l v < 0 → loV v r a ≤ 2147483647 := by
    intro a ha ka
    obtain ⟨⟨y, g1, g2, g3, g4⟩, -⟩ := hb
    have hk : kOf y.t.l v = 1 := by rw [g4, if_pos rfl]
    have h := hpair a ha y g1 ka (by omega)
    have e0 : y.t.c + restOf v r y.t.l = -2147483647 := by
      rw [rest_val (hg.2 y g1).1, valF_congr (g := kOf []) (fun w => by
        by_cases h : w = v
        · rw [if_pos h]; rfl
        · rw [if_neg h, g4, if_neg h]; rfl), valF_nil, g3]
    unfold hiV at h
    rw [e0, hk] at h
    exact h
  have hle : (spanFold l v r).1 ≤ (spanFold l v r).2 := by
    unfold spanFold
    rcases f4 with e1 | ⟨a, ha, ka, e1⟩
    · rcases f5 with e2 | ⟨b, hb', kb, e2⟩
      · omega
      · have := hbl b (mem_span hb').1 (by have := (mem_span hb').2; omega)
        omega
    · rcases f5 with e2 | ⟨b, hb', kb, e2⟩
      · have := hah a (mem_span ha).1 ka
        omega
      · have := hpair a (mem_span ha).1 b (mem_span hb').1 ka (by have := (mem_span hb').2; omega)
        omega
  have hp : (spanFold l v r).1 ≤ pickR (spanLo l v r) (spanHi l v r) ∧ pickR (spanLo l v r) (spanHi l v r) ≤ (spanFold l v r).2 := by
    have q1 : -2147483648 ≤ (spanFold l v r).1 := f1
    have q2 : (spanFold l v r).2 ≤ 2147483647 := f2
    unfold pickR spanLo spanHi
    rw [if_pos hz, if_pos hz]
    split <;> omega
  intro x hx hk
  have h3 := f3 x (span_mem hx hk)
  by_cases h : kOf x.t.l v < 0
  · exact (low_iff h).1 (Int.le_trans (h3.1 h) hp.1)
  · exact (high_iff (by omega)).1 (Int.le_trans hp.2 (h3.2 h))
theorem hold_sub {r : List Int} {l : List Cons} {x : Cons} (h : holdL r (l ++ [x])) : holdL r l := fun y hy => h y (List.mem_append_left _ hy)
theorem var_box {n : Nat} {l : List Cons} {v : Int} (hg : good n l) (hb : boxed l) (h : v ∈ firstL l) : bx2 l v := by
  obtain ⟨x, hx, m, hm, rfl⟩ := firstL_mem h
  have hok : okT x.t.c x.t.l = true := (hg.2 x hx).1
  have hmm := okM_spec.1 (okFrom_ok (okT_spec.1 hok).2.2.2 m hm)
  exact hb x hx m.v (by rw [mem_kOf (okT_spec.1 hok).2.2.2 m hm]; exact hmm.2.2.1)
theorem splitD_sat {n left : Nat} {rec : Nat → List Int → List Cons → Ans} {vals : List Int} {l : List Cons} {v : Int} (hrec : SatAt n rec) (hn : vals.length = n)
    (hg : good n l) (hbx : boxed l) (hr : in32 vals) (hl240 : l.length ≤ 240) (hv : 0 ≤ v ∧ v < n) (hv40 : v < 40) (hbv : bx2 l v) :
    (splitD rec left vals l v).2.2.length = n ∧ in32 (splitD rec left vals l v).2.2 ∧ ((splitD rec left vals l v).1 = 2 → holdL (splitD rec left vals l v).2.2 l) := by
  have b1 := span_lob (aloneL l v) v []
  have b2 := span_hib (aloneL l v) v []
  have hgo : ∀ m : Int, spanLo (aloneL l v) v [] ≤ m ∧ m ≤ spanHi (aloneL l v) v [] → good n (l ++ [belowC v m]) ∧ good n (l ++ [aboveC v m]) := fun m hm => below_good hg hl240 hv hv40 (by omega)
  have hb0 : okT (spanLo (aloneL l v) v []) [] = true := okT_spec.2 ⟨by omega, by omega, by simp, rfl⟩
  have hbo : ∀ m : Int, boxed (l ++ [belowC v m]) ∧ boxed (l ++ [aboveC v m]) := fun m =>
    ⟨boxed_app hbx fun w hw => by rw [one_v v 1 w hw]; exact hbv, boxed_app hbx fun w hw => by rw [one_v v (-1) w hw]; exact hbv⟩
  unfold splitD
  split
  · exact ⟨hn, hr, fun h => by simp at h⟩
  · rename_i h0
    split
    · exact ⟨hn, hr, fun h => by simp at h⟩
    · split
      · obtain ⟨q1, q2, q3⟩ := swapD_sat (left := left - 1) hrec hn hg hbx hr hb0 (fun w hw => absurd rfl hw) hv hv40 rfl (fun w hw => absurd rfl hw) hbv
        exact ⟨q1, q2, fun h => (q3 h).1⟩
      · have hm := hgo _ (half_b (by omega))
        have hb := hbo (halfR (spanLo (aloneL l v) v []) (spanHi (aloneL l v) v []))
        generalize halfR (spanLo (aloneL l v) v []) (spanHi (aloneL l v) v []) = m at hm hb ⊢
        obtain ⟨q1, q2, q3⟩ := hrec (left - 1) vals _ hn hm.1 hb.1 hr
        split
        · obtain ⟨p1, p2, p3⟩ := hrec (rec (left - 1) vals (l ++ [belowC v m])).2.1 (rec (left - 1) vals (l ++ [belowC v m])).2.2 _ q1 hm.2 hb.2 q2
          exact ⟨p1, p2, fun h => hold_sub (p3 h)⟩
        · exact ⟨q1, q2, fun h => hold_sub (q3 h)⟩
theorem pickR_b (lo hi : Int) (h1 : -2147483648 ≤ lo ∧ lo ≤ 2147483647) (h2 : -2147483648 ≤ hi ∧ hi ≤ 2147483647) : -2147483648 ≤ pickR lo hi ∧ pickR lo hi ≤ 2147483647 := by
  unfold pickR; split <;> omega
theorem dropD_sat {n left : Nat} {rec : Nat → List Int → List Cons → Ans} {vals : List Int} {l : List Cons} {v : Int} (hrec : SatAt n rec) (hn : vals.length = n)
    (hg : good n l) (hq : ∀ x ∈ l, x.eq = false) (hbx : boxed l) (hr : in32 vals) (hl240 : l.length ≤ 240) (hv : 0 ≤ v ∧ v < n) (hv40 : v < 40) (hbv : bx2 l v) (hex : exactB l v = true) :
    (dropD rec left vals l v).2.2.length = n ∧ in32 (dropD rec left vals l v).2.2 ∧ ((dropD rec left vals l v).1 = 2 → holdL (dropD rec left vals l v).2.2 l) := by
  unfold dropD
  generalize left - max ((lowsOf l v).length * (highsOf l v).length) 1 = left'
  split
  · exact ⟨hn, hr, fun h => by simp at h⟩
  · split
    · exact ⟨hn, hr, fun h => by simp at h⟩
    · rename_i hd
      have hd0 : dropErr l v = 0 := by omega
      obtain ⟨q1, q2, q3⟩ := hrec left' vals (dropList l v) hn (drop_good hg hl240 hd0) (boxed_drop hg hd0 hbx) hr
      split
      · rename_i hs
        have hh := q3 hs
        generalize (rec left' vals (dropList l v)).2.2 = r at q1 q2 hh ⊢
        have hpk := pick_in hg hq hd0 ⟨hv.1, hv40⟩ q1 q2 hex hbv hh
        have hpb := pickR_b _ _ (span_lob l v r) (span_hib l v r)
        generalize pickR (spanLo l v r) (spanHi l v r) = t at hpk hpb ⊢
        have hvr : 0 ≤ v ∧ v < r.length := by omega
        refine ⟨by rw [List.length_set]; exact q1, in32_set q2 hpb, fun _ x hx => ?_⟩
        by_cases hk : kOf x.t.l v = 0
        · have hm : x ∈ dropList l v := List.mem_append_left _ (List.mem_filter.2 ⟨hx, by simp [hk]⟩)
          have := hh x hm
          unfold holdX at this ⊢
          rw [valF_set0 hvr _ hk]; exact this
        · have := hpk x hx hk
          unfold holdX
          rw [hq x hx, if_neg (by simp)]
          rw [rest_val (hg.2 x hx).1] at this
          rw [valF_split x.t.c (kOf x.t.l) (r.set v.toNat t) ⟨hv.1, hv40⟩, valF_set hvr, valOf_set hvr hv.1, if_pos rfl]
          exact this
      · rename_i hs
        exact ⟨q1, q2, fun h => absurd h hs⟩
theorem equalR_v {x : Cons} {v : Int} (hx : okC x = true) (hv : 0 ≤ v ∧ v < 40) (he : x.eq = true) (hk : oneB (kOf x.t.l v) = true) : kOf (equalR x v).2.1 v = 0 ∧ ∀ w, kOf (equalR x v).2.1 w ≠ 0 → kOf x.t.l w ≠ 0 := by
  obtain ⟨e1, e2, e3, e4⟩ := equalR_spec hx hv he hk
  refine ⟨by rw [e4, if_pos rfl]; omega, fun w hw h0 => hw ?_⟩
  rw [e4]
  by_cases h : w = v
  · rw [if_pos h]; omega
  · rw [if_neg h, h0]; omega
theorem bxB_erase {l : List Cons} {w c k : Int} {q : Nat} {x : Cons} (hx : l[q]? = some x) (he : x.eq = true) (h : bxB l w c k) : bxB (l.eraseIdx q) w c k := by
  obtain ⟨y, h1, h2, h3⟩ := h
  refine ⟨y, ?_, h2, h3⟩
  obtain ⟨i, hi, rfl⟩ := List.getElem_of_mem h1
  rw [List.mem_eraseIdx_iff_getElem]
  refine ⟨i, hi, ?_, rfl⟩
  intro e
  subst e
  rw [List.getElem?_eq_getElem hi] at hx
  cases hx
  rw [h2] at he; cases he
theorem stepD_sat {n : Nat} {rec : Nat → List Int → List Cons → Ans} (hrec : SatAt n rec) : SatAt n (stepD rec) := by
  intro left vals l hn hg hbx hr
  unfold stepD
  split
  · rename_i hw
    refine ⟨hn, hr, fun h => ?_⟩
    rcases allW_spec l with ⟨h1, h2⟩ | ⟨h1, h2, h3⟩ | ⟨h1, h2, _⟩
    · simp only at h; omega
    · exact (all_hold hg h2 vals).1 (by rw [h3]; intro x hx; cases hx)
    · simp only at h; omega
  · rename_i hw
    have hnv : neverB l = false := by
      rcases allW_spec l with ⟨h1, h2⟩ | ⟨h1, h2, _⟩ | ⟨h1, h2, _⟩
      · omega
      · exact h2
      · exact h2
    split
    · exact ⟨hn, hr, fun h => by simp at h⟩
    · have hg1 := all_good hg
      have hb1 := boxed_all hg hbx
      have hh1 := fun r => (all_hold hg hnv r).1
      split
      · rename_i i v hu
        obtain ⟨q, x, rfl, hx, hgx, hxm, hxg, hxe, hone, hub, h40, hge, he2, hev⟩ := unit_facts hg1 hu
        unfold unitD
        rw [hgx]
        split
        · exact ⟨hn, hr, fun h => by simp at h⟩
        · have hko : kOf x.t.l v ≠ 0 := by intro e; rw [e] at hone; cases hone
          have hers : ∀ w, kOf x.t.l w ≠ 0 → bx2 ((allS l).eraseIdx (q : Int).toNat) w := fun w hw => ⟨bxB_erase hx hxe (hb1 x hxm w hw).1, bxB_erase hx hxe (hb1 x hxm w hw).2⟩
          have hbe : boxed ((allS l).eraseIdx (q : Int).toNat) := fun y hy w hw => by
            have := hb1 y (List.mem_of_mem_eraseIdx hy) w hw
            exact ⟨bxB_erase hx hxe this.1, bxB_erase hx hxe this.2⟩
          obtain ⟨z1, z2⟩ := equalR_v hxg.1 ⟨hub.1, h40⟩ hxe hone
          obtain ⟨p1, p2, p3⟩ := swapD_sat (left := left - 1) hrec hn hge hbe hr he2 hev hub h40 z1 (fun w hw => hers w (z2 w hw)) (hers v hko)
          refine ⟨p1, p2, fun h => hh1 _ fun y hy => ?_⟩
          obtain ⟨g1, g2⟩ := p3 h
          have hxh := (equal_hold hxg.1 ⟨hub.1, h40⟩ hxe hone _).2 g2
          by_cases hyx : y ∈ (allS l).eraseIdx (q : Int).toNat
          · exact g1 y hyx
          · have hyq : y = x := by
              obtain ⟨i, hi, rfl⟩ := List.getElem_of_mem hy
              by_cases hiq : i = q
              · subst hiq
                rw [List.getElem?_eq_getElem hi] at hx
                cases hx; rfl
              · exact absurd (List.mem_eraseIdx_iff_getElem.2 ⟨i, hi, by simpa using hiq, rfl⟩) hyx
            rw [hyq]; exact hxh
      · have hg2 := uneq_good hg1 (by omega)
        have hb2 := boxed_uneq hg1 hb1
        have hq2 : ∀ x ∈ uneq (allS l), x.eq = false := fun x hx => uneq_eq hx
        have hh2 := fun r h => hh1 r ((uneq_hold hg1 r).1 h)
        unfold noUnitD
        split
        · exact ⟨hn, hr, fun h => by simp at h⟩
        · have hw0 : allW l = 0 := by omega
          have hlm := leastV_mem (uneq_vars (allW_ne hw0) fun y hy => allS_ne hy)
          have hlv := var_good hg2 hlm
          split
          · obtain ⟨p1, p2, p3⟩ := splitD_sat (left := left) hrec hn hg2 hb2 hr (by omega) ⟨hlv.1, hlv.2.1⟩ hlv.2.2 (var_box hg2 hb2 hlm)
            exact ⟨p1, p2, fun h => hh2 _ (p3 h)⟩
          · rename_i hx0
            obtain ⟨e1, e2⟩ := exactV_mem hx0
            have hev := var_good hg2 e1
            obtain ⟨p1, p2, p3⟩ := dropD_sat (left := left) hrec hn hg2 hq2 hb2 hr (by omega) ⟨hev.1, hev.2.1⟩ hev.2.2 (var_box hg2 hb2 e1) (exP_spec e2).2
            exact ⟨p1, p2, fun h => hh2 _ (p3 h)⟩
theorem ansD_sat {n : Nat} : ∀ d : Nat, SatAt n (ansD d)
  | 0 => fun left vals l hn _ _ hr => ⟨hn, hr, fun h => by simp [ansD] at h⟩
  | d + 1 => stepD_sat (ansD_sat d)
end Go.Proofs.Ythdlkpmhjbaplaa.Dx
namespace Go.Proofs.Ythdlkpmhjbaplaa.Dx
open Go
open Nat renaming reduceAdd → rdA, reduceMul → rdM, reduceLeDiff → rdL, reduceLT → rdT, reduceEqDiff → rdE
open Int renaming reduceNegSucc → rdN
attribute [local irreducible] wCall wLoop
attribute [local go_sem] decide_true decide_false Bool.and_true Bool.true_and Bool.and_self Bool.false_and Bool.and_false vMs vCs vIs Slots At Tr.get_z Tr.get_l Tr.get_r Tr.get_e Tr.set_z_e Tr.set_z_n Tr.set_l_e Tr.set_l_n Tr.set_r_e Tr.set_r_n eOs_n eOs_c eDs_n eDs_c ekOs ekDs ekPut ekBack ekSeq_n ekSeq_x ekSeq_r ekBlk_n ekBlk_x ekBlk_r eO_mk eO_gd eO_loc eO_locb eD_mk eD_loc eD_locb eD_gd eDr eC_skip eC_reg eC_drw eC_seq eC_cond eC_block eC_loop eC_exit eC_ret eRetW_n eRetW_r wk wkL eRet_n eRet_r ekLd_n ekLd_x ekLd_r ekLp_n ekLp_x ekLp_r wI wBin wBd vev vov vovs vplace vouter ofDV ofDVs vcells spl vfills vput vuse vuseP vback vbackP wOf vbare isVarV vkeep hget hset hdels hdel hkeys live vw vwL keysV keysL pureV pureL vsrc veqs vmx vmn vT cT vC cC VOb.cells vres vrsL vrs1 vone List.length_cons List.length_nil List.getElem?_cons_zero List.getElem?_cons_succ List.take_succ_cons List.take_zero List.drop_succ_cons List.drop_zero List.drop_nil List.take_nil List.nil_append List.cons_append List.append_nil Option.some.injEq Nat.zero_add Nat.add_zero if_true if_false ite_true ite_false true_and and_true false_and and_false true_implies implies_true false_implies Bool.true_eq_false Bool.false_eq_true Bool.not_true Bool.not_false eq_self_iff_true Int.toNat_natCast Int.ofNat_eq_natCast Int.ofNat_zero Int.ofNat_one Int.cast_ofNat_Int VV.int.injEq VV.bool.injEq cond_true cond_false
def solveA (n : Nat) (l : List Cons) (fuel : Nat) : Ans := ansD (fuel + 1) fuel (List.replicate n 0) (l ++ boxL n)
def modelL (a : Ans) : List Int := if a.1 = 2 then a.2.2 else []
def solveV (n : Nat) (l : List Cons) (fuel : Nat) : VV := .tup [.int .i64 (solveA n l fuel).1, vIs (modelL (solveA n l fuel)), .int .i64 (solveA n l fuel).2.1, .int .i64 0]
theorem reps_zero : ∀ n : Nat, reps' [.int .i64 0] n = encI (List.replicate n 0)
  | 0 => rfl
  | n + 1 => by
    have := reps_zero n
    unfold reps' at this ⊢
    rw [List.replicate_succ, List.flatten_cons, this, List.replicate_succ]; rfl
theorem box_good (n : Nat) (hn : n ≤ 40) : ∀ k : Nat, k ≤ n → good n (boxL k)
  | 0, _ => ⟨by simp [boxL], by simp [boxL]⟩
  | k + 1, h => by
    obtain ⟨h1, h2⟩ := box_good n hn k (by omega)
    refine ⟨by rw [boxL_len]; omega, fun x hx => ?_⟩
    rw [boxL] at hx
    rcases List.mem_append.1 hx with hx | hx
    · exact h2 x hx
    · simp only [boxX, List.mem_cons, List.not_mem_nil, or_false] at hx
      rcases hx with rfl | rfl
      · refine ⟨okT_spec.2 ⟨by simp, by simp, by simp, okFrom_cons.2 ⟨okM_spec.2 ⟨by simp, by simp; omega, by simp, by simp, by simp⟩, fun q hq => (by cases hq), rfl⟩⟩, fun w hw => by have := one_v k 1 w hw; omega⟩
      · refine ⟨okT_spec.2 ⟨by simp, by simp, by simp, okFrom_cons.2 ⟨okM_spec.2 ⟨by simp, by simp; omega, by simp, by simp, by simp⟩, fun q hq => (by cases hq), rfl⟩⟩, fun w hw => by have := one_v k (-1) w hw; omega⟩
theorem good_app {n : Nat} {a b : List Cons} (ha : good n a) (hb : good n b) (h : a.length + b.length ≤ 100000) : good n (a ++ b) :=
  ⟨by simp; omega, fun x hx => (List.mem_append.1 hx).elim (ha.2 x) (hb.2 x)⟩
theorem Solve_ok (n : Nat) (l : List Cons) (fuel : Nat) (hn : n ≤ 40) (hf : fuel ≤ 4000) (hl : l.length ≤ 240) (hg : good n l) :
    VPure FT p45 [.int .i64 n, .fz l.length none 3 (encC l), .int .i64 fuel] (solveV n l fuel) := by
  refine vpure_of_body' (f := p45) rfl rfl ?_
  have e1 : decide ((n : Int) < 0) = false := by simp
  have e2 : decide ((40 : Int) < (n : Int)) = false := by simp; omega
  have e3 : decide ((fuel : Int) < 0) = false := by simp
  have e4 : decide ((4000 : Int) < (fuel : Int)) = false := by simp; omega
  have e5 : decide ((240 : Int) < (l.length : Int)) = false := by simp; omega
  simp (implicitDefEqProofs := false) only [e1, e2, e3, e4, e5, go_sem, reduceCtorEq, rdA, rdM, rdL, rdT, rdE, rdN, ↓gTT, ↓gFF, ↓gTF, ↓gFT]
  refine wLoop_by (fun m s => ∃ i : Nat, i + m = l.length ∧ At s [(p0, .int .i64 n), (p1, .fz l.length none 3 (encC l)), (p2, .int .i64 fuel), (p7, .nils), (p32, .fz l.length none 3 (encC l)), (p33, .int .i64 l.length), (p34, .int .i64 i)] 0 0 []) l.length ?_ ?_
  · exact ⟨0, by simp, by simp (implicitDefEqProofs := false) only [go_sem, reduceCtorEq, rdA, rdM, rdL, rdT, rdE, rdN, ↓gTT, ↓gFF, ↓gTF, ↓gFT]⟩
  · rintro m ⟨e, nx, w, h⟩ ⟨i, hi, ⟨s1, s2, s3, s4, s5, s6, s7, -⟩, rfl, rfl, rfl⟩
    rcases Nat.lt_or_ge i l.length with hlt | hge
    · obtain ⟨x, hx⟩ := has hlt
      have hxg := hg.2 x (List.mem_of_getElem? hx)
      have hok : okT x.t.c x.t.l = true := hxg.1
      have hCk := Check_ok x.t.c x.t.l (by have := (okT_spec.1 hok).2.2.1; omega)
      rw [hok, if_pos rfl] at hCk
      have hxl := (okT_spec.1 hok).2.2.1
      simp (implicitDefEqProofs := false) only [s1, s2, s3, s4, s5, s6, s7, ltT hlt, encC_cut hx, encC_len, go_sem, reduceCtorEq, rdA, rdM, rdL, rdT, rdE, rdN, ↓gTT, ↓gFF, ↓gTF, ↓gFT]
      refine ⟨⟨by omega, by omega⟩, by omega, ?_⟩
      refine wCall_pp rfl hCk rfl ?_
      rcases Nat.eq_zero_or_pos x.t.l.length with h0 | hpos
      · have d0 : decide ((0 : Int) < (x.t.l.length : Int)) = false := decide_eq_false (by omega)
        simp (implicitDefEqProofs := false) only [s0eq, d0, Bool.not_true, inc64 hlt (by omega : l.length ≤ 4611686018427387904), go_sem, reduceCtorEq, rdA, rdM, rdL, rdT, rdE, rdN, ↓gTT, ↓gFF, ↓gTF, ↓gFT]
        exact ⟨m - 1, by omega, i + 1, by omega, rfl⟩
      · have d0 : decide ((0 : Int) < (x.t.l.length : Int)) = true := by simp; omega
        obtain ⟨y, hy⟩ := has (show x.t.l.length - 1 < x.t.l.length by omega)
        have hw : IntKind.i64.wrap ((x.t.l.length : Int) - 1) = ((x.t.l.length - 1 : Nat) : Int) := by rw [i64 (by omega)]; omega
        have hyv : y.v < n := hxg.2 y.v (by rw [mem_kOf (okT_spec.1 hok).2.2.2 y (List.mem_of_getElem? hy)]; exact (okM_spec.1 (okFrom_ok (okT_spec.1 hok).2.2.2 y (List.mem_of_getElem? hy))).2.2.1)
        have d1 : decide ((n : Int) ≤ y.v) = false := by simp; omega
        simp (implicitDefEqProofs := false) only [s0eq, d0, Bool.not_true, hw, encM_g0 hy, d1, inc64 hlt (by omega : l.length ≤ 4611686018427387904), go_sem, reduceCtorEq, rdA, rdM, rdL, rdT, rdE, rdN, ↓gTT, ↓gFF, ↓gTF, ↓gFT]
        refine ⟨⟨by omega, by omega⟩, m - 1, by omega, i + 1, by omega, rfl⟩
    · simp (implicitDefEqProofs := false) only [s1, s2, s3, s4, s5, s6, s7, ltF hge, go_sem, reduceCtorEq, rdA, rdM, rdL, rdT, rdE, rdN, ↓gTT, ↓gFF, ↓gTF, ↓gFT]
      clear s1 s2 s3 s4 s5 s6 s7
      have hB := box_ok n (by omega)
      have hg2 : good n (l ++ boxL n) := good_app hg (box_good n hn n (Nat.le_refl n)) (by rw [boxL_len]; omega)
      have hSem := fun nx' (h : 2 ≤ nx') => (answer_ok (j := 1) (kk := 0) (n := n) (by simp) (by omega) (fuel + 1) fuel (by omega) (by omega) (List.replicate n 0) (l ++ boxL n) nx' (by simp) hg2 (by omega) (by omega))
      have hz : (List.replicate n (0 : Int)).length = n := by simp
      have hbl := boxL_len n
      obtain ⟨A, hA⟩ : ∃ A, A = solveA n l fuel := ⟨_, rfl⟩
      have hSem2 : ∀ nx', 2 ≤ nx' → LookSem p79 [.fz (l ++ boxL n).length none 3 (encC (l ++ boxL n))] 1 0 nx' fuel (List.replicate n 0) A := fun nx' h => by rw [hA]; exact (hSem nx' h).1
      have hLen : A.2.2.length = n := by rw [hA]; exact (hSem 2 (by omega)).2.1
      unfold solveV
      rw [← hA]
      clear hSem
      refine ⟨⟨by omega, by omega, by omega⟩, ?_⟩
      by_cases hl0 : l = []
      · subst hl0
        simp only [encC, List.length_nil]
        refine wCall_heap (hin := []) (CloneC_nil _) (fun k o h => by cases h) ?_ ?_
        · rintro r nx' h' (⟨rfl, rfl, rfl⟩ | ⟨rfl, rfl, rfl⟩)
          · exact ⟨by simp [closed, keysV], by intro k o ho; cases ho⟩
          · refine ⟨by simp [closed, keysV, keysL, hkeys], ?_⟩
            intro k o ho
            simp only [hget] at ho
            split at ho
            · cases ho; simp [closed, okeys]
            · cases ho
        · rintro r nx' h' (⟨rfl, rfl, rfl⟩ | ⟨rfl, rfl, rfl⟩) _
          · simp (implicitDefEqProofs := false) only [hkeys, hdels, reps_zero, vCs, go_sem, reduceCtorEq, rdA, rdM, rdL, rdT, rdE, rdN, ↓gTT, ↓gFF, ↓gTF, ↓gFT]
            refine wCall_pp rfl hB rfl ?_
            simp (implicitDefEqProofs := false) only [vCs, go_sem, reduceCtorEq, rdA, rdM, rdL, rdT, rdE, rdN, ↓gTT, ↓gFF, ↓gTF, ↓gFT]
            refine ⟨⟨by omega, encC_len _⟩, ?_⟩
            simp only [List.nil_append] at hSem2
            have hlc : (encC (boxL n)).length = (boxL n).length * 3 := encC_len _
            refine wCall_frz2 (v' := .fz ((boxL n).length) none 3 (encC (boxL n))) (by simp (implicitDefEqProofs := false) only [encC_len, hlc, hbl, go_sem, reduceCtorEq, rdA, rdM, rdL, rdT, rdE, rdN, ↓gTT, ↓gFF, ↓gTF, ↓gFT]) ?_
            refine wCall_look' (by simp) (hSem2 _ (by first | omega | (show (2 : Nat) ≤ 3; omega) | (show (2 : Nat) ≤ 4; omega))) rfl ?_ ?_
            · intro k o ho
              rcases lookH_get ho with ⟨rfl, rfl⟩ | ⟨rfl, rfl⟩ <;> simp (implicitDefEqProofs := false) only [hdels, hz, go_sem, reduceCtorEq, rdA, rdM, rdL, rdT, rdE, rdN, ↓gTT, ↓gFF, ↓gTF, ↓gFT]
            · intro nx' hn'
              by_cases h2 : A.1 = 2
              · have d2 : decide (A.1 = 2) = true := by simpa using h2
                have hm : modelL A = A.2.2 := by unfold modelL; rw [if_pos h2]
                simp (implicitDefEqProofs := false) only [hdels, lookH, d2, hm, vIs, encI_len, Nat.mul_one, go_sem, reduceCtorEq, rdA, rdM, rdL, rdT, rdE, rdN, ↓gTT, ↓gFF, ↓gTF, ↓gFT]
              · have d2 : decide (A.1 = 2) = false := by simpa using h2
                have hm : modelL A = [] := by unfold modelL; rw [if_neg h2]
                simp (implicitDefEqProofs := false) only [hdels, lookH, d2, hm, vIs, encI_len, Nat.mul_one, go_sem, reduceCtorEq, rdA, rdM, rdL, rdT, rdE, rdN, ↓gTT, ↓gFF, ↓gTF, ↓gFT]
                rfl
          · simp (implicitDefEqProofs := false) only [hkeys, hdels, reps_zero, vCs, go_sem, reduceCtorEq, rdA, rdM, rdL, rdT, rdE, rdN, ↓gTT, ↓gFF, ↓gTF, ↓gFT]
            refine wCall_pp rfl hB rfl ?_
            simp (implicitDefEqProofs := false) only [vCs, encC_len, go_sem, reduceCtorEq, rdA, rdM, rdL, rdT, rdE, rdN, ↓gTT, ↓gFF, ↓gTF, ↓gFT]
            refine ⟨by omega, ?_⟩
            simp only [List.nil_append] at hSem2
            have hlc : (encC (boxL n)).length = (boxL n).length * 3 := encC_len _
            refine wCall_frz2 (v' := .fz ((boxL n).length) none 3 (encC (boxL n))) (by simp (implicitDefEqProofs := false) only [encC_len, hlc, hbl, go_sem, reduceCtorEq, rdA, rdM, rdL, rdT, rdE, rdN, ↓gTT, ↓gFF, ↓gTF, ↓gFT]) ?_
            refine wCall_look' (by simp) (hSem2 _ (by first | omega | (show (2 : Nat) ≤ 3; omega) | (show (2 : Nat) ≤ 4; omega))) rfl ?_ ?_
            · intro k o ho
              rcases lookH_get ho with ⟨rfl, rfl⟩ | ⟨rfl, rfl⟩ <;> simp (implicitDefEqProofs := false) only [hdels, hz, go_sem, reduceCtorEq, rdA, rdM, rdL, rdT, rdE, rdN, ↓gTT, ↓gFF, ↓gTF, ↓gFT]
            · intro nx' hn'
              by_cases h2 : A.1 = 2
              · have d2 : decide (A.1 = 2) = true := by simpa using h2
                have hm : modelL A = A.2.2 := by unfold modelL; rw [if_pos h2]
                simp (implicitDefEqProofs := false) only [hdels, lookH, d2, hm, vIs, encI_len, Nat.mul_one, go_sem, reduceCtorEq, rdA, rdM, rdL, rdT, rdE, rdN, ↓gTT, ↓gFF, ↓gTF, ↓gFT]
              · have d2 : decide (A.1 = 2) = false := by simpa using h2
                have hm : modelL A = [] := by unfold modelL; rw [if_neg h2]
                simp (implicitDefEqProofs := false) only [hdels, lookH, d2, hm, vIs, encI_len, Nat.mul_one, go_sem, reduceCtorEq, rdA, rdM, rdL, rdT, rdE, rdN, ↓gTT, ↓gFF, ↓gTF, ↓gFT]
                rfl
      · refine wCall_heap (hin := []) (CloneC_own l (by omega) hl0 _) (fun k o h => by cases h) ?_ ?_
        · rintro r nx' h' ⟨rfl, rfl, rfl⟩
          refine ⟨by simp [closed, keysV, keysL, hkeys], ?_⟩
          intro k o ho
          simp only [hget] at ho
          split at ho
          · cases ho; simp [closed, okeys]
          · cases ho
        · rintro r nx' h' ⟨rfl, rfl, rfl⟩ _
          simp (implicitDefEqProofs := false) only [hkeys, hdels, reps_zero, go_sem, reduceCtorEq, rdA, rdM, rdL, rdT, rdE, rdN, ↓gTT, ↓gFF, ↓gTF, ↓gFT]
          refine wCall_pp rfl hB rfl ?_
          simp (implicitDefEqProofs := false) only [vCs, encC_len, go_sem, reduceCtorEq, rdA, rdM, rdL, rdT, rdE, rdN, ↓gTT, ↓gFF, ↓gTF, ↓gFT]
          refine ⟨by omega, ?_⟩
          rw [encC_app, List.length_append] at hSem2
          have hlc : (encC l ++ encC (boxL n)).length = (l.length + (boxL n).length) * 3 := by rw [List.length_append, encC_len, encC_len]; omega
          refine wCall_frz2 (v' := .fz (l.length + (boxL n).length) none 3 (encC l ++ encC (boxL n))) (by simp (implicitDefEqProofs := false) only [encC_len, hlc, hbl, go_sem, reduceCtorEq, rdA, rdM, rdL, rdT, rdE, rdN, ↓gTT, ↓gFF, ↓gTF, ↓gFT]) ?_
          refine wCall_look' (by simp) (hSem2 _ (by first | omega | (show (2 : Nat) ≤ 3; omega) | (show (2 : Nat) ≤ 4; omega))) rfl ?_ ?_
          · intro k o ho
            rcases lookH_get ho with ⟨rfl, rfl⟩ | ⟨rfl, rfl⟩ <;> simp (implicitDefEqProofs := false) only [hdels, hz, go_sem, reduceCtorEq, rdA, rdM, rdL, rdT, rdE, rdN, ↓gTT, ↓gFF, ↓gTF, ↓gFT]
          · intro nx' hn'
            by_cases h2 : A.1 = 2
            · have d2 : decide (A.1 = 2) = true := by simpa using h2
              have hm : modelL A = A.2.2 := by unfold modelL; rw [if_pos h2]
              simp (implicitDefEqProofs := false) only [hdels, lookH, d2, hm, vIs, encI_len, Nat.mul_one, go_sem, reduceCtorEq, rdA, rdM, rdL, rdT, rdE, rdN, ↓gTT, ↓gFF, ↓gTF, ↓gFT]
            · have d2 : decide (A.1 = 2) = false := by simpa using h2
              have hm : modelL A = [] := by unfold modelL; rw [if_neg h2]
              simp (implicitDefEqProofs := false) only [hdels, lookH, d2, hm, vIs, encI_len, Nat.mul_one, go_sem, reduceCtorEq, rdA, rdM, rdL, rdT, rdE, rdN, ↓gTT, ↓gFF, ↓gTF, ↓gFT]
              rfl
theorem Ints_ok (a b : List Int) (ha : a.length ≤ 4611686018427387904) (hb : b.length ≤ 4611686018427387904) : VPure FT p47 [.fz a.length none 1 (encI a), .fz b.length none 1 (encI b)] (.bool (decide (a = b))) := by
  refine vpure_of_body (f := p47) rfl rfl ?_
  by_cases hl : a.length = b.length
  case neg =>
    have d : decide ((a.length : Int) = (b.length : Int)) = false := by simp; omega
    have e : decide (a = b) = false := decide_eq_false fun h => hl (by rw [h])
    rw [e]
    simp (implicitDefEqProofs := false) only [d, Bool.not_false, go_sem, reduceCtorEq, rdA, rdM, rdL, rdT, rdE, rdN, ↓gTT, ↓gFF, ↓gTF, ↓gFT]
  have d : decide ((a.length : Int) = (b.length : Int)) = true := by simp; omega
  simp (implicitDefEqProofs := false) only [d, Bool.not_true, go_sem, reduceCtorEq, rdA, rdM, rdL, rdT, rdE, rdN, ↓gTT, ↓gFF, ↓gTF, ↓gFT]
  refine wLoop_by (fun n s => ∃ i : Nat, i + n = a.length ∧ At s [(p0, .fz a.length none 1 (encI a)), (p1, .fz b.length none 1 (encI b)), (p5, .int .i64 i)] 0 0 [] ∧ a.take i = b.take i) a.length ?_ ?_
  · exact ⟨0, by simp, by simp (implicitDefEqProofs := false) only [go_sem, reduceCtorEq, rdA, rdM, rdL, rdT, rdE, rdN, ↓gTT, ↓gFF, ↓gTF, ↓gFT], by simp⟩
  · rintro n ⟨e, nx, w, h⟩ ⟨i, hi, ⟨⟨s1, s2, s3, -⟩, rfl, rfl, rfl⟩, hk⟩
    rcases Nat.lt_or_ge i a.length with hlt | hge
    · obtain ⟨x, hx⟩ := has hlt
      obtain ⟨y, hy⟩ := has (show i < b.length by omega)
      by_cases hxy : x = y
      · have dd : decide (x = y) = true := by simpa using hxy
        simp (implicitDefEqProofs := false) only [s1, s2, s3, ltT hlt, encI_g hx, encI_g hy, Nat.mul_one, dd, Bool.not_true, inc64 hlt ha, go_sem, reduceCtorEq, rdA, rdM, rdL, rdT, rdE, rdN, ↓gTT, ↓gFF, ↓gTF, ↓gFT]
        refine ⟨⟨by omega, by omega⟩, ⟨by omega, by omega⟩, n - 1, by omega, i + 1, by omega, rfl, ?_⟩
        rw [take_snoc hx, take_snoc hy, hk, hxy]
      · have dd : decide (x = y) = false := by simpa using hxy
        have e : decide (a = b) = false := decide_eq_false fun h => hxy (by rw [h] at hx; rw [hx] at hy; cases hy; rfl)
        rw [e]
        simp (implicitDefEqProofs := false) only [s1, s2, s3, ltT hlt, encI_g hx, encI_g hy, Nat.mul_one, dd, Bool.not_false, go_sem, reduceCtorEq, rdA, rdM, rdL, rdT, rdE, rdN, ↓gTT, ↓gFF, ↓gTF, ↓gFT]
        exact ⟨⟨by omega, by omega⟩, by omega, by omega⟩
    · rw [List.take_of_length_le hge, List.take_of_length_le (by omega)] at hk
      have e : decide (a = b) = true := by simpa using hk
      simp (implicitDefEqProofs := false) only [s1, s2, s3, ltF hge, e, go_sem, reduceCtorEq, rdA, rdM, rdL, rdT, rdE, rdN, ↓gTT, ↓gFF, ↓gTF, ↓gFT]
end Go.Proofs.Ythdlkpmhjbaplaa.Dx
namespace Go.Proofs.Ythdlkpmhjbaplaa.Dx
open Go
theorem fsem_of_csem {F : Tr Fd} {f : P} {ps : List P} {body : C} {rs : List Rs} {args : List VV} {nx : Nat} {h : VHp} {R : VV → Nat → VHp → Prop} {e : VEnv}
    (hf : Tr.get? f F = some (.mk ps body rs)) (he : vbinds ps args .nl = some e) (H : CSem F body ⟨e, nx, 0, h⟩ (retK rs R)) : FSem F f args nx h R := by
  intro c dnx dh g ds hc hR hx
  obtain ⟨d, hb, hE⟩ := vbinds_sound hx EnvR.nl he
  obtain ⟨o, s', d', g', ⟨fuel, hrun⟩, R', hw, E, hK⟩ := H c ⟨d, dnx, dh⟩ g hc ⟨hE, hR⟩
  have main : ∀ r, vres rs s' = some r → R r s'.nx s'.h → (o = .norm ∨ o = .ret) → ∃ r nx' h' x dnx' dh' g', (∃ fuel, ∀ n, fuel ≤ n → ∀ (e0 : Env) (k : Kv), callK F (exec F n) c.wm f ds e0 dnx dh k = k e0 x dnx' dh') ∧
      HpR c nx' 0 h' dnx' dh' g' ∧ XR g'.Z dh' (mm nx' h' g') r x ∧ Evo nx h dnx dh g nx' h' dnx' dh' g' ∧ R r nx' h' := by
    intro r hr hRr ho
    unfold vres at hr
    cases hv : vrsL rs s' with
    | none => simp only [hv, reduceCtorEq] at hr
    | some vs =>
      simp only [hv, Option.some.injEq] at hr; subst hr
      obtain ⟨xs, h1, h2⟩ := vrsL_sound R' hv
      have hh : s'.w = 0 := hw
      refine ⟨_, s'.nx, s'.h, one xs, d'.nx, d'.h, g', ⟨fuel + 1, fun n hn e0 k => ?_⟩, by have := R'.hp; rw [hh] at this; exact this, vone_sound h2, E, hRr⟩
      obtain ⟨n, rfl⟩ : ∃ m, n = m + 1 := ⟨n - 1, by omega⟩
      show Option.rec (motive := fun _ => Res) .fail (callF (exec F (n + 1)) c.wm ds e0 dnx dh k) (Tr.get? f F) = _
      rw [hf]
      show bindK ps ds .nl (fun e => retR (exec F (n + 1) body c.wm e dnx dh) rs e0 k) = _
      rw [bindK_eq, hb]
      show retR (step body F (exec F n) c.wm d dnx dh) rs e0 k = _
      rw [hrun n (by omega)]
      have : retE rs e0 k d'.e d'.nx d'.h = k e0 (one xs) d'.nx d'.h := by
        show rsL rs d'.e d'.h (fun vs => oneK vs fun v => fV v fun v => k e0 v d'.nx d'.h) = _
        rw [rsL_eq, h1]
        show oneK xs (fun v => fV v fun v => k e0 v d'.nx d'.h) = _
        rw [oneK_eq, fV_eq]
      rcases ho with rfl | rfl <;> exact this
  unfold retK at hK
  cases o with
  | exit i => exact hK.elim
  | norm =>
    simp only at hK
    cases hr : vres rs s' with
    | none => simp only [hr] at hK
    | some r => simp only [hr] at hK; exact main r hr hK (.inl rfl)
  | ret =>
    simp only at hK
    cases hr : vres rs s' with
    | none => simp only [hr] at hK
    | some r => simp only [hr] at hK; exact main r hr hK (.inr rfl)
theorem CSem.seqR {F : Tr Fd} {a b : C} {s : VSt} {K : Out → VSt → Prop} (J : VSt → Prop) (Ha : wC F a s (fun o s' => o = .norm ∧ J s')) (Hb : ∀ s', J s' → CSem F b s' K) : CSem F (.seq a b) s K := by
  intro c d g hc R
  obtain ⟨o1, s1, d1, g1, ⟨f1, r1⟩, R1, hw1, E1, rfl, H1⟩ := wC_sound Ha c d g hc R
  have run : ∀ n, f1 ≤ n → step (.seq a b) F (exec F n) c.wm d.e d.nx d.h = sqO (step b) F (exec F n) c.wm .norm d1.e d1.nx d1.h := by
    intro n hn
    show Res.rec (motive := fun _ => Res) .fail (sqO (step b) F (exec F n) c.wm) (step a F (exec F n) c.wm d.e d.nx d.h) = _
    rw [r1 n hn]
  obtain ⟨o2, s2, d2, g2, ⟨f2, r2⟩, R2, hw2, E2, H2⟩ := Hb s1 H1 c d1 g1 hc R1
  exact ⟨o2, s2, d2, g2, ⟨max f1 f2, fun n hn => by rw [run n (by omega)]; exact r2 n (by omega)⟩, R2, hw2.trans hw1, E1.trans E2, H2⟩
theorem CSem.frzV {F : Tr Fd} {cd : C} {s : VSt} {K : Out → VSt → Prop} (p : P) (i : Nat) {l : List VV} {v v' : VV} (hp : Tr.get? p s.e = some (.var l)) (hi : l[i]? = some v) (hv : vw s.h v = some v')
    (H : CSem F cd ⟨Tr.set p s.e (some (.var (l.take i ++ v' :: l.drop (i + 1)))), s.nx, s.w, hdels s.h (keysV v)⟩ K) : CSem F cd s K := by
  intro c d g hc R
  obtain ⟨R1, E1⟩ := R.hp.freeze (keysV v) (zOf s.h g (keysV v)) fun b => Iff.rfl
  have hE := E1.env R.env
  obtain ⟨y, hy, hx⟩ := R.env.get hp
  obtain ⟨l', rfl, hl⟩ := hx.var_inv
  obtain ⟨d0, hd0, hd1⟩ := hl.get i _ hi
  have hd2 := (vw_sound R.hp hd1 hv (ks := keysV v) fun k h => h).none_any (M := mm s.nx (hdels s.h (keysV v)) ⟨zOf s.h g (keysV v), g.μ⟩)
  have R2 : RS c ⟨Tr.set p s.e (some (.var (l.take i ++ v' :: l.drop (i + 1)))), s.nx, s.w, hdels s.h (keysV v)⟩ d ⟨zOf s.h g (keysV v), g.μ⟩ := by
    refine ⟨fun q => ?_, R1⟩
    show match Tr.get? q (Tr.set p s.e (some (.var (l.take i ++ v' :: l.drop (i + 1))))), Tr.get? q d.e with | none, none => True | some u, some x => XR (zOf s.h g (keysV v)) d.h (mm s.nx (hdels s.h (keysV v)) ⟨zOf s.h g (keysV v), g.μ⟩) u x | _, _ => False
    rw [Tr.get_set]
    by_cases hq : q = p
    · subst hq; rw [if_pos rfl, hy]
      have hl2 := E1.xrs hl
      have e : l' = l'.take i ++ d0 :: l'.drop (i + 1) := by
        rw [← drop_cons' hd0, List.take_append_drop]
      show XR _ _ _ (.var _) (.var l')
      rw [e]
      exact .var ((hl2.take i).append (.cons hd2 (hl2.drop _)))
    · rw [if_neg hq]; exact hE q
  obtain ⟨o, s', d', g', hr, R', hw, E, hK⟩ := H c d _ hc R2
  exact ⟨o, s', d', g', hr, R', hw, E1.trans E, hK⟩
end Go.Proofs.Ythdlkpmhjbaplaa.Dx
namespace Go.Proofs.Ythdlkpmhjbaplaa.Dx
open Go
open Nat renaming reduceAdd → rdA, reduceMul → rdM, reduceLeDiff → rdL, reduceLT → rdT, reduceEqDiff → rdE
open Int renaming reduceNegSucc → rdN
attribute [local irreducible] wCall wLoop
attribute [local go_sem] decide_true decide_false Bool.and_true Bool.true_and Bool.and_self Bool.false_and Bool.and_false vMs vCs vIs Slots At Tr.get_z Tr.get_l Tr.get_r Tr.get_e Tr.set_z_e Tr.set_z_n Tr.set_l_e Tr.set_l_n Tr.set_r_e Tr.set_r_n eOs_n eOs_c eDs_n eDs_c ekOs ekDs ekPut ekBack ekSeq_n ekSeq_x ekSeq_r ekBlk_n ekBlk_x ekBlk_r eO_mk eO_gd eO_loc eO_locb eD_mk eD_loc eD_locb eD_gd eDr eC_skip eC_reg eC_drw eC_seq eC_cond eC_block eC_loop eC_exit eC_ret eRetW_n eRetW_r wk wkL eRet_n eRet_r ekLd_n ekLd_x ekLd_r ekLp_n ekLp_x ekLp_r wI wBin wBd vev vov vovs vplace vouter ofDV ofDVs vcells spl vfills vput vuse vuseP vback vbackP wOf vbare isVarV vkeep hget hset hdels hdel hkeys live vw vwL keysV keysL pureV pureL vsrc veqs vmx vmn vT cT vC cC VOb.cells vres vrsL vrs1 vone List.length_cons List.length_nil List.getElem?_cons_zero List.getElem?_cons_succ List.take_succ_cons List.take_zero List.drop_succ_cons List.drop_zero List.drop_nil List.take_nil List.nil_append List.cons_append List.append_nil Option.some.injEq Nat.zero_add Nat.add_zero if_true if_false ite_true ite_false true_and and_true false_and and_false true_implies implies_true false_implies Bool.true_eq_false Bool.false_eq_true Bool.not_true Bool.not_false eq_self_iff_true Int.toNat_natCast Int.ofNat_eq_natCast Int.ofNat_zero Int.ofNat_one Int.cast_ofNat_Int VV.int.injEq VV.bool.injEq cond_true cond_false
def wx : Cons := ⟨⟨1, [⟨0, 1⟩, ⟨1, -1⟩]⟩, false⟩
def wy : Cons := ⟨⟨1, [⟨0, -1⟩, ⟨1, 1⟩]⟩, false⟩
theorem wk1 : (solveA 2 [wx] 100).1 = 2 := by decide +kernel
theorem wk1b : decide ((solveA 2 [wx] 100).2.2.getD 0 0 < (solveA 2 [wx] 100).2.2.getD 1 0) = true := by decide +kernel
theorem wk1c : (solveA 2 [wx] 100).2.2.length = 2 := by decide +kernel
theorem wk2 : (solveA 2 [wx, wy] 100).1 = 1 := by decide +kernel
theorem wk3 : (solveA 2 [wx] 0).1 = 3 := by decide +kernel
theorem wg : good 2 [wx, wy] := by
  refine ⟨by simp, fun x hx => ?_⟩
  simp only [List.mem_cons, List.not_mem_nil, or_false] at hx
  rcases hx with rfl | rfl
  · refine ⟨by decide +kernel, fun w hw => ?_⟩
    simp only [wx, kOf] at hw
    split at hw
    · omega
    · split at hw
      · omega
      · exact absurd rfl hw
  · refine ⟨by decide +kernel, fun w hw => ?_⟩
    simp only [wy, kOf] at hw
    split at hw
    · omega
    · split at hw
      · omega
      · exact absurd rfl hw
theorem wg1 : good 2 [wx] := ⟨by simp, fun x hx => wg.2 x (by simp at hx; simp [hx])⟩
theorem wakesS_ok : VPure FT p46 [] (.bool true) := by
  refine FSem.view (fsem_of_csem (f := p46) (R := fun r' _ h' => vw h' r' = some (.bool true)) rfl rfl ?_)
  have h1 := Solve_ok 2 [wx] 100 (by omega) (by omega) (by simp) wg1
  have h2 := Solve_ok 2 [wx, wy] 100 (by omega) (by omega) (by simp) wg
  have h3 := Solve_ok 2 [wx] 0 (by omega) (by omega) (by simp) wg1
  obtain ⟨m, hm⟩ : ∃ m, m = (solveA 2 [wx] 100).2.2 := ⟨_, rfl⟩
  have hmo : modelL (solveA 2 [wx] 100) = m := by unfold modelL; rw [if_pos wk1, hm]
  have hb := wk1b
  have hc := wk1c
  rw [← hm] at hb hc
  match m, hc with
  | [a, b], _ =>
  have hab : decide (a < b) = true := hb
  have hm2 : modelL (solveA 2 [wx, wy] 100) = [] := by unfold modelL; rw [if_neg (by rw [wk2]; decide)]
  have hm3 : modelL (solveA 2 [wx] 0) = [] := by unfold modelL; rw [if_neg (by rw [wk3]; decide)]
  rw [solveV, hmo, wk1] at h1
  rw [solveV, hm2, wk2] at h2
  rw [solveV, hm3, wk3] at h3
  generalize (solveA 2 [wx] 100).2.1 = f1 at h1
  generalize (solveA 2 [wx, wy] 100).2.1 = f2 at h2
  generalize (solveA 2 [wx] 0).2.1 = f3 at h3
  simp (implicitDefEqProofs := false) only [wx, wy, encC, encM, vIs, encI, go_sem, reduceCtorEq, rdA, rdM, rdL, rdT, rdE, rdN, ↓gTT, ↓gFF, ↓gTF, ↓gFT] at h1 h2 h3
  refine CSem.seqR (fun s' => s' = ?s1) ?a1 ?b1
  case a1 => simp (implicitDefEqProofs := false) only [go_sem, reduceCtorEq, rdA, rdM, rdL, rdT, rdE, rdN, ↓gTT, ↓gFF, ↓gTF, ↓gFT]; exact rfl
  case b1 =>
  rintro _ rfl
  refine CSem.seqR (fun s' => s' = ?s2) ?a2 ?b2
  case a2 => simp (implicitDefEqProofs := false) only [go_sem, reduceCtorEq, rdA, rdM, rdL, rdT, rdE, rdN, ↓gTT, ↓gFF, ↓gTF, ↓gFT]; exact rfl
  case b2 =>
  rintro _ rfl
  refine CSem.seqR (fun s' => s' = ?s3) ?a3 ?b3
  case a3 => simp (implicitDefEqProofs := false) only [go_sem, reduceCtorEq, rdA, rdM, rdL, rdT, rdE, rdN, ↓gTT, ↓gFF, ↓gTF, ↓gFT]; exact rfl
  case b3 =>
  rintro _ rfl
  refine CSem.frzV p1 1 (by simp (implicitDefEqProofs := false) only [go_sem, reduceCtorEq, rdA, rdM, rdL, rdT, rdE, rdN, ↓gTT, ↓gFF, ↓gTF, ↓gFT]; rfl) (by rfl) (by simp (implicitDefEqProofs := false) only [go_sem, reduceCtorEq, rdA, rdM, rdL, rdT, rdE, rdN, ↓gTT, ↓gFF, ↓gTF, ↓gFT]; rfl) ?_
  refine CSem.frzV p2 1 (by simp (implicitDefEqProofs := false) only [go_sem, reduceCtorEq, rdA, rdM, rdL, rdT, rdE, rdN, ↓gTT, ↓gFF, ↓gTF, ↓gFT]; rfl) (by rfl) (by simp (implicitDefEqProofs := false) only [go_sem, reduceCtorEq, rdA, rdM, rdL, rdT, rdE, rdN, ↓gTT, ↓gFF, ↓gTF, ↓gFT]; rfl) ?_
  refine wC_sound ?_
  simp (implicitDefEqProofs := false) only [go_sem, reduceCtorEq, rdA, rdM, rdL, rdT, rdE, rdN, ↓gTT, ↓gFF, ↓gTF, ↓gFT]
  repeat' (first | (with_reducible refine And.intro ?_ ?_) | (with_reducible refine gs_t ?_ ?_) | (with_reducible refine gs_f ?_ ?_) | (intro _) | ((with_reducible apply wCall_any); (· (simp (implicitDefEqProofs := false) only [go_sem, reduceCtorEq, rdA, rdM, rdL, rdT, rdE, rdN, ↓gTT, ↓gFF, ↓gTF, ↓gFT] <;> rfl)); (· (first | exact h1 | exact h2 | exact h3)); (· rfl); (· rfl); (· (first | exact Eq.refl true | exact Eq.refl false)); (simp (implicitDefEqProofs := false) only [hab, s0eq, show decide ((2 : Int) = 2) = true from rfl, show decide ((3 : Int) = 3) = true from rfl, dE1e, show Int.toNat 0 = 0 from rfl, show Int.toNat 1 = 1 from rfl, show decide (((2 : Nat) : Int) = 2) = true from rfl, go_sem, reduceCtorEq, rdA, rdM, rdL, rdT, rdE, rdN, ↓gTT, ↓gFF, ↓gTF, ↓gFT])) | fail)
  all_goals first | omega | trivial | (simp; done)
end Go.Proofs.Ythdlkpmhjbaplaa.Dx
namespace Go.Proofs.Ythdlkpmhjbaplaa.Dx
open Go
theorem boxL_mem : ∀ (n : Nat) (x : Cons), x ∈ boxL n → ∃ k : Nat, k < n ∧ x ∈ boxX k
  | 0, x, h => by simp [boxL] at h
  | n + 1, x, h => by
    rw [boxL] at h
    rcases List.mem_append.1 h with h | h
    · obtain ⟨k, h1, h2⟩ := boxL_mem n x h
      exact ⟨k, by omega, h2⟩
    · exact ⟨n, by omega, h⟩
theorem boxL_has : ∀ (n k : Nat), k < n → ∀ x ∈ boxX k, x ∈ boxL n
  | 0, k, h => by omega
  | n + 1, k, h => fun x hx => by
    rw [boxL]
    by_cases e : k = n
    · subst e; exact List.mem_append_right _ hx
    · exact List.mem_append_left _ (boxL_has n k (by omega) x hx)
theorem box_boxed {n : Nat} {l : List Cons} (hg : good n l) : boxed (l ++ boxL n) := by
  have key : ∀ w : Int, 0 ≤ w → w < n → bx2 (l ++ boxL n) w := by
    intro w h0 h1
    obtain ⟨k, rfl⟩ : ∃ k : Nat, w = k := ⟨w.toNat, by omega⟩
    have hm := boxL_has n k (by omega)
    refine ⟨⟨⟨⟨-2147483647, [⟨k, 1⟩]⟩, false⟩, List.mem_append_right _ (hm _ (by simp [boxX])), rfl, rfl, fun u => ?_⟩, ⟨⟨⟨-2147483648, [⟨k, -1⟩]⟩, false⟩, List.mem_append_right _ (hm _ (by simp [boxX])), rfl, rfl, fun u => ?_⟩⟩
    · rw [kOf_one]; by_cases e : (k : Int) = u
      · rw [if_pos e, if_pos e.symm]
      · rw [if_neg e, if_neg (fun h => e h.symm)]
    · rw [kOf_one]; by_cases e : (k : Int) = u
      · rw [if_pos e, if_pos e.symm]
      · rw [if_neg e, if_neg (fun h => e h.symm)]
  intro x hx w hw
  rcases List.mem_append.1 hx with hx | hx
  · have hxg := hg.2 x hx
    have hok : okT x.t.c x.t.l = true := hxg.1
    have hf : ∀ l : List Mono, kOf l w ≠ 0 → ∃ m ∈ l, m.v = w := by
      intro l
      induction l with
      | nil => intro h; exact absurd rfl h
      | cons m l ih =>
        intro h
        rw [kOf] at h
        by_cases hm : m.v = w
        · exact ⟨m, List.mem_cons_self, hm⟩
        · rw [if_neg hm] at h
          obtain ⟨z, h1, h2⟩ := ih h
          exact ⟨z, List.mem_cons_of_mem _ h1, h2⟩
    obtain ⟨m, hm, rfl⟩ := hf _ hw
    exact key _ (okM_spec.1 (okFrom_ok (okT_spec.1 hok).2.2.2 m hm)).1 (hxg.2 _ hw)
  · obtain ⟨k, h1, h2⟩ := boxL_mem n x hx
    simp only [boxX, List.mem_cons, List.not_mem_nil, or_false] at h2
    have : w = k := by
      rcases h2 with rfl | rfl
      · exact one_v k 1 w hw
      · exact one_v k (-1) w hw
    exact key w (by omega) (by omega)
theorem box_hold {n : Nat} (hn : n ≤ 40) {r : List Int} (hr : in32 r) : holdL r (boxL n) := by
  intro x hx
  obtain ⟨k, h1, h2⟩ := boxL_mem n x hx
  have hb := in32_val hr k
  simp only [boxX, List.mem_cons, List.not_mem_nil, or_false] at h2
  rcases h2 with rfl | rfl
  · unfold holdX
    simp only [Bool.false_eq_true, if_false]
    rw [valF_one _ _ (by omega)]; omega
  · unfold holdX
    simp only [Bool.false_eq_true, if_false]
    rw [valF_one _ _ (by omega)]; omega
theorem in32_zero (n : Nat) : in32 (List.replicate n 0) := by
  unfold in32
  rw [List.any_eq_false]
  intro x hx
  rw [(List.mem_replicate.1 hx).2]; decide
theorem box_all_good {n : Nat} {l : List Cons} (hn : n ≤ 40) (hl : l.length ≤ 240) (hg : good n l) : good n (l ++ boxL n) :=
  good_app hg (box_good n hn n (Nat.le_refl n)) (by rw [boxL_len]; omega)
theorem solveA_sat {n : Nat} {l : List Cons} {fuel : Nat} (hn : n ≤ 40) (hl : l.length ≤ 240) (hg : good n l) (h : (solveA n l fuel).1 = 2) :
    (solveA n l fuel).2.2.length = n ∧ in32 (solveA n l fuel).2.2 ∧ holdL (solveA n l fuel).2.2 l := by
  obtain ⟨h1, h2, h3⟩ := ansD_sat (fuel + 1) fuel (List.replicate n 0) (l ++ boxL n) (by simp) (box_all_good hn hl hg) (box_boxed hg) (in32_zero n)
  exact ⟨h1, h2, fun x hx => h3 h x (List.mem_append_left _ hx)⟩
theorem solveA_unsat {n : Nat} {l : List Cons} {fuel : Nat} {r : List Int} (hn : n ≤ 40) (hl : l.length ≤ 240) (hg : good n l) (hr : in32 r) (hh : holdL r l) : (solveA n l fuel).1 ≠ 1 :=
  ansD_unsat (fuel + 1) fuel (List.replicate n 0) (l ++ boxL n) r (box_all_good hn hl hg) hr fun x hx => (List.mem_append.1 hx).elim (hh x) (box_hold hn hr x)
end Go.Proofs.Ythdlkpmhjbaplaa.Dx
namespace Go.Proofs.Ythdlkpmhjbaplaa.Dx
open Go
open Nat renaming reduceAdd → rdA, reduceMul → rdM, reduceLeDiff → rdL, reduceLT → rdT, reduceEqDiff → rdE
open Int renaming reduceNegSucc → rdN
attribute [local irreducible] wCall wLoop
attribute [local go_sem] decide_true decide_false Bool.and_true Bool.true_and Bool.and_self Bool.false_and Bool.and_false vMs vCs vIs Slots At Tr.get_z Tr.get_l Tr.get_r Tr.get_e Tr.set_z_e Tr.set_z_n Tr.set_l_e Tr.set_l_n Tr.set_r_e Tr.set_r_n eOs_n eOs_c eDs_n eDs_c ekOs ekDs ekPut ekBack ekSeq_n ekSeq_x ekSeq_r ekBlk_n ekBlk_x ekBlk_r eO_mk eO_gd eO_loc eO_locb eD_mk eD_loc eD_locb eD_gd eDr eC_skip eC_reg eC_drw eC_seq eC_cond eC_block eC_loop eC_exit eC_ret eRetW_n eRetW_r wk wkL eRet_n eRet_r ekLd_n ekLd_x ekLd_r ekLp_n ekLp_x ekLp_r wI wBin wBd vev vov vovs vplace vouter ofDV ofDVs vcells spl vfills vput vuse vuseP vback vbackP wOf vbare isVarV vkeep hget hset hdels hdel hkeys live vw vwL keysV keysL pureV pureL vsrc veqs vmx vmn vT cT vC cC VOb.cells vres vrsL vrs1 vone List.length_cons List.length_nil List.getElem?_cons_zero List.getElem?_cons_succ List.take_succ_cons List.take_zero List.drop_succ_cons List.drop_zero List.drop_nil List.take_nil List.nil_append List.cons_append List.append_nil Option.some.injEq Nat.zero_add Nat.add_zero if_true if_false ite_true ite_false true_and and_true false_and and_false true_implies implies_true false_implies Bool.true_eq_false Bool.false_eq_true Bool.not_true Bool.not_false eq_self_iff_true Int.toNat_natCast Int.ofNat_eq_natCast Int.ofNat_zero Int.ofNat_one Int.cast_ofNat_Int VV.int.injEq VV.bool.injEq cond_true cond_false
end Go.Proofs.Ythdlkpmhjbaplaa.Dx
namespace Go.Proofs.Ythdlkpmhjbaplaa.Dx
open Go
def lowC (v : Nat) (A : Int) : Cons := ⟨⟨A, [⟨v, -1⟩]⟩, false⟩
def highC (v : Nat) (A : Int) : Cons := ⟨⟨A, [⟨v, 1⟩]⟩, false⟩
def chC (v : Nat) (A : Int) : Cons := ⟨⟨A, [⟨v, 1⟩, ⟨((v + 1 : Nat) : Int), -1⟩]⟩, false⟩
def cstC (A : Int) : Cons := ⟨⟨A, []⟩, false⟩
inductive Shp (n k : Nat) : Cons → Prop
  | cst (A : Int) (h : -274877906944 ≤ A ∧ A ≤ 274877906944) : Shp n k (cstC A)
  | low (v : Nat) (A : Int) (hk : k ≤ v) (hn : v < n) (h : -(((k + 1 : Nat) : Int) * 17179869184) ≤ A ∧ A ≤ ((k + 1 : Nat) : Int) * 17179869184) : Shp n k (lowC v A)
  | high (v : Nat) (A : Int) (hk : k ≤ v) (hn : v < n) (h : -17179869184 ≤ A ∧ A ≤ 17179869184) : Shp n k (highC v A)
  | ch (v : Nat) (A : Int) (hk : k ≤ v) (hn : v + 1 < n) (h : -17179869184 ≤ A ∧ A ≤ 17179869184) : Shp n k (chC v A)
def isLowB (v : Nat) (x : Cons) : Bool := match x.t.l with | [m] => decide (m.v = v) && decide (m.k = -1) | _ => false
def isChB (v : Nat) (x : Cons) : Bool := match x.t.l with | [m, _] => decide (m.v = v) | _ => false
def isHighB (v : Nat) (x : Cons) : Bool := decide (0 < kOf x.t.l v)
structure Sys (n k b c : Nat) (l : List Cons) : Prop where
  shp : ∀ x ∈ l, Shp n k x
  lowk : l.countP (isLowB k) ≤ b
  low : ∀ v, k < v → l.countP (isLowB v) ≤ 2
  high : ∀ v, k ≤ v → l.countP (isHighB v) ≤ 2
  ch : ∀ v, k ≤ v → l.countP (isChB v) ≤ c
theorem Sys.sub {n k b c : Nat} {l s : List Cons} (h : Sys n k b c l) (hs : s.Sublist l) : Sys n k b c s :=
  ⟨fun x hx => h.shp x (hs.subset hx), Nat.le_trans hs.countP_le h.lowk, fun v hv => Nat.le_trans hs.countP_le (h.low v hv), fun v hv => Nat.le_trans hs.countP_le (h.high v hv), fun v hv => Nat.le_trans hs.countP_le (h.ch v hv)⟩
theorem kOfL (v : Nat) (A : Int) (w : Int) : kOf (lowC v A).t.l w = if (v : Int) = w then -1 else 0 := rfl
theorem kOfH (v : Nat) (A : Int) (w : Int) : kOf (highC v A).t.l w = if (v : Int) = w then 1 else 0 := rfl
theorem kOfCh (v : Nat) (A : Int) (w : Int) : kOf (chC v A).t.l w = if (v : Int) = w then 1 else if ((v + 1 : Nat) : Int) = w then -1 else 0 := rfl
theorem kOfK (A : Int) (w : Int) : kOf (cstC A).t.l w = 0 := rfl
theorem Shp.ok {n k : Nat} {x : Cons} (hn : n ≤ 8) (h : Shp n k x) : okC x = true := by
  cases h with
  | cst A h => exact okT_spec.2 ⟨by simp only [cstC]; omega, by simp only [cstC]; omega, by simp [cstC], rfl⟩
  | low v A hk hn' h =>
    refine okT_spec.2 ⟨by simp only [lowC]; omega, by simp only [lowC]; omega, by simp [lowC], ?_⟩
    exact okFrom_cons.2 ⟨okM_spec.2 ⟨by simp, by simp; omega, by simp, by simp, by simp⟩, fun q h => (nomatch h), rfl⟩
  | high v A hk hn' h =>
    refine okT_spec.2 ⟨by simp only [highC]; omega, by simp only [highC]; omega, by simp [highC], ?_⟩
    exact okFrom_cons.2 ⟨okM_spec.2 ⟨by simp, by simp; omega, by simp, by simp, by simp⟩, fun q h => (nomatch h), rfl⟩
  | ch v A hk hn' h =>
    refine okT_spec.2 ⟨by simp only [chC]; omega, by simp only [chC]; omega, by simp [chC], ?_⟩
    refine okFrom_cons.2 ⟨okM_spec.2 ⟨by simp, by simp; omega, by simp, by simp, by simp⟩, fun q h => (nomatch h), ?_⟩
    exact okFrom_cons.2 ⟨okM_spec.2 ⟨by simp; omega, by simp; omega, by simp, by simp, by simp⟩, fun q h => by cases h; simp; omega, rfl⟩
theorem Shp.eq {n k : Nat} {x : Cons} (h : Shp n k x) : x.eq = false := by cases h <;> rfl
theorem Shp.vars {n k : Nat} {x : Cons} (h : Shp n k x) {w : Int} (hw : kOf x.t.l w ≠ 0) : (k : Int) ≤ w ∧ w < n := by
  cases h with
  | cst A h => exact absurd rfl hw
  | low v A hk hn h =>
    rw [kOfL] at hw
    by_cases e : (v : Int) = w
    · omega
    · rw [if_neg e] at hw; exact absurd rfl hw
  | high v A hk hn h =>
    rw [kOfH] at hw
    by_cases e : (v : Int) = w
    · omega
    · rw [if_neg e] at hw; exact absurd rfl hw
  | ch v A hk hn h =>
    rw [kOfCh] at hw; by_cases e : (v : Int) = w
    · omega
    · rw [if_neg e] at hw; by_cases e2 : ((v + 1 : Nat) : Int) = w
      · omega
      · rw [if_neg e2] at hw; exact absurd rfl hw
theorem Shp.good {n k : Nat} {x : Cons} (hn : n ≤ 8) (h : Shp n k x) : goodX n x := ⟨h.ok hn, fun w hw => (h.vars hw).2⟩
theorem one_low (v : Nat) (A : Int) : oneW (lowC v A) = 0 ∧ oneCx (lowC v A) = lowC v A := by
  have g : gcdL (lowC v A).t.l = 1 := by simp [gcdL, lowC]
  refine ⟨rfl, ?_⟩
  unfold oneCx
  rw [g]
  simp [sgC, lowC, shM]
theorem one_high (v : Nat) (A : Int) : oneW (highC v A) = 0 ∧ oneCx (highC v A) = highC v A := by
  have g : gcdL (highC v A).t.l = 1 := by simp [gcdL, highC]
  refine ⟨rfl, ?_⟩
  unfold oneCx
  rw [g]
  simp [sgC, highC, shM]
theorem one_ch (v : Nat) (A : Int) : oneW (chC v A) = 0 ∧ oneCx (chC v A) = chC v A := by
  have g : gcdL (chC v A).t.l = 1 := by simp [gcdL, chC]
  refine ⟨rfl, ?_⟩
  unfold oneCx
  rw [g]
  simp [sgC, chC, shM]
theorem one_cst (A : Int) : oneW (cstC A) ≠ 0 := by
  unfold oneW
  rw [if_pos (show (cstC A).t.l.isEmpty = true from rfl)]
  split <;> decide
theorem all_sub {n k : Nat} : ∀ (l acc : List Cons), (∀ x ∈ l, Shp n k x) → ∃ s, s.Sublist l ∧ l.foldl addSx acc = acc ++ s ∧ ∀ x ∈ s, x.t.l ≠ []
  | [], acc, _ => ⟨[], List.Sublist.refl _, by simp, by simp⟩
  | x :: l, acc, h => by
    have hx := h x List.mem_cons_self
    have ht := fun y hy => h y (List.mem_cons_of_mem _ hy)
    have skip : addSx acc x = acc → ∃ s, s.Sublist (x :: l) ∧ (x :: l).foldl addSx acc = acc ++ s ∧ ∀ x ∈ s, x.t.l ≠ [] := by
      intro e
      obtain ⟨s, h1, h2, h3⟩ := all_sub l acc ht
      exact ⟨s, h1.cons x, by rw [List.foldl_cons, e, h2], h3⟩
    have keep : x.t.l ≠ [] → oneW x = 0 → oneCx x = x → ∃ s, s.Sublist (x :: l) ∧ (x :: l).foldl addSx acc = acc ++ s ∧ ∀ x ∈ s, x.t.l ≠ [] := by
      intro e1 e2 e3
      by_cases ha : acc.any (fun y => consB y (oneCx x)) = true
      · exact skip (by unfold addSx; rw [if_pos e2, if_pos ha])
      · obtain ⟨s, h1, h2, h3⟩ := all_sub l (acc ++ [x]) ht
        refine ⟨x :: s, h1.cons_cons x, ?_, ?_⟩
        · have e : addSx acc x = acc ++ [x] := by unfold addSx; rw [if_pos e2, if_neg ha, e3]
          rw [List.foldl_cons, e, h2]; simp
        · intro y hy
          rcases List.mem_cons.1 hy with rfl | hy
          · exact e1
          · exact h3 y hy
    cases hx with
    | cst A _ => exact skip (by unfold addSx; rw [if_neg (one_cst A)])
    | low v A _ _ _ => exact keep (by simp [lowC]) (one_low v A).1 (one_low v A).2
    | high v A _ _ _ => exact keep (by simp [highC]) (one_high v A).1 (one_high v A).2
    | ch v A _ _ _ => exact keep (by simp [chC]) (one_ch v A).1 (one_ch v A).2
theorem uneq_self : ∀ {l : List Cons}, (∀ x ∈ l, x.eq = false) → uneq l = l
  | [], _ => rfl
  | x :: l, h => by
    have e := h x List.mem_cons_self
    have ih := uneq_self (l := l) fun y hy => h y (List.mem_cons_of_mem _ hy)
    show uneqX x ++ uneq l = x :: l
    rw [ih]
    unfold uneqX
    rw [if_neg (by rw [e]; simp)]
    obtain ⟨t, q⟩ := x
    simp only at e
    subst e; rfl
theorem unit_none : ∀ {l : List Cons}, (∀ x ∈ l, x.eq = false) → ∀ i, unitOf l i = none
  | [], _, i => rfl
  | x :: l, h, i => by
    have e := h x List.mem_cons_self
    have ih := unit_none (l := l) (fun y hy => h y (List.mem_cons_of_mem _ hy)) (i + 1)
    have hx : unitX x = none := by unfold unitX; rw [if_neg (by rw [e]; simp)]
    simp only [unitOf, hx, ih]
theorem inP_perm (x : Int) : ∀ l : List Int, (insI x l).Perm (x :: l)
  | [] => .refl _
  | y :: t => by
    unfold insI
    cases h : ilt y x with
    | true => exact (List.Perm.cons y (inP_perm x t)).trans (.swap x y t)
    | false => exact .refl _
theorem soP_perm : ∀ l : List Int, (sortI l).Perm l
  | [] => .refl _
  | x :: l => by unfold sortI; exact (inP_perm x _).trans (.cons x (soP_perm l))
theorem inP_sorted (x : Int) : ∀ l : List Int, l.Pairwise (· ≤ ·) → (insI x l).Pairwise (· ≤ ·)
  | [], _ => by simp [insI]
  | y :: t, h => by
    have h2 := List.pairwise_cons.1 h
    unfold insI
    cases hh : ilt y x with
    | true =>
      rw [ilt_eq, decide_eq_true_eq] at hh
      refine List.pairwise_cons.2 ⟨fun z hz => ?_, inP_sorted x t h2.2⟩
      have hz' := (inP_perm x t).mem_iff.1 hz
      rcases List.mem_cons.1 hz' with rfl | hz'
      · omega
      · exact h2.1 z hz'
    | false =>
      rw [ilt_eq, decide_eq_false_iff_not] at hh
      refine List.pairwise_cons.2 ⟨fun z hz => ?_, h⟩
      rcases List.mem_cons.1 hz with rfl | hz'
      · omega
      · have := h2.1 z hz'; omega
theorem soP_sorted : ∀ l : List Int, (sortI l).Pairwise (· ≤ ·)
  | [] => .nil
  | x :: l => by unfold sortI; exact inP_sorted x _ (soP_sorted l)
theorem comp_head : ∀ (l acc : List Int) (x : Int), acc[0]? = some x → (l.foldl compF acc)[0]? = some x
  | [], acc, x, h => h
  | y :: l, acc, x, h => by
    rw [List.foldl_cons]
    refine comp_head l _ x ?_
    unfold compF
    split
    · exact h
    · cases acc with
      | nil => simp at h
      | cons a t => simpa using h
theorem least_spec {l : List Cons} (hne : varsOf l ≠ []) : (firstL l)[0]? = some (leastV l) ∧ leastV l ∈ varsOf l ∧ ∀ w ∈ varsOf l, leastV l ≤ w := by
  have h1 := soP_perm (varsOf l)
  have h2 := soP_sorted (varsOf l)
  cases hs : sortI (varsOf l) with
  | nil => rw [hs] at h1; exact absurd h1.symm.eq_nil hne
  | cons x t =>
    have hf : (firstL l)[0]? = some x := by
      unfold firstL
      rw [hs]
      exact comp_head t [x] x rfl
    have hl : leastV l = x := by unfold leastV; rw [hf]; rfl
    rw [hl]
    refine ⟨hf, h1.mem_iff.1 (by rw [hs]; exact List.mem_cons_self), fun w hw => ?_⟩
    have hw' := h1.mem_iff.2 hw
    rw [hs] at hw' h2
    rcases List.mem_cons.1 hw' with rfl | hw'
    · exact Int.le_refl _
    · exact (List.pairwise_cons.1 h2).1 w hw'
theorem mem_vars {l : List Cons} {x : Cons} (hx : x ∈ l) {m : Mono} (hm : m ∈ x.t.l) : m.v ∈ varsOf l :=
  List.mem_flatMap.2 ⟨x, hx, List.mem_map.2 ⟨m, hm, rfl⟩⟩
theorem vars_mem {l : List Cons} {w : Int} (h : w ∈ varsOf l) : ∃ x ∈ l, ∃ m ∈ x.t.l, m.v = w := by
  obtain ⟨x, hx, hm⟩ := List.mem_flatMap.1 h
  obtain ⟨m, hm, rfl⟩ := List.mem_map.1 hm
  exact ⟨x, hx, m, by assumption, rfl⟩
theorem sys_least {n k b c : Nat} {S : List Cons} (hS : Sys n k b c S) (hne : S ≠ []) (hnc : ∀ x ∈ S, x.t.l ≠ []) :
    ∃ v : Nat, leastV S = v ∧ k ≤ v ∧ v < n ∧ (firstL S)[0]? = some (v : Int) ∧ ∀ x ∈ S, Shp n v x := by
  have hv : varsOf S ≠ [] := by
    cases S with
    | nil => exact absurd rfl hne
    | cons x t =>
      have hx := hnc x List.mem_cons_self
      cases hm : x.t.l with
      | nil => exact absurd hm hx
      | cons m q =>
        intro h0
        have := mem_vars (l := x :: t) List.mem_cons_self (m := m) (by rw [hm]; exact List.mem_cons_self)
        rw [h0] at this; cases this
  obtain ⟨h1, h2, h3⟩ := least_spec hv
  obtain ⟨x, hx, m, hm, hmv⟩ := vars_mem h2
  have key : ∃ v : Nat, leastV S = v ∧ k ≤ v ∧ v < n := by
    rw [← hmv]
    cases hS.shp x hx with
    | cst A h => simp [cstC] at hm
    | low v A hk hn h => simp [lowC] at hm; subst hm; exact ⟨v, rfl, hk, hn⟩
    | high v A hk hn h => simp [highC] at hm; subst hm; exact ⟨v, rfl, hk, hn⟩
    | ch v A hk hn h =>
      simp [chC] at hm
      rcases hm with rfl | rfl
      · exact ⟨v, rfl, hk, by omega⟩
      · exact ⟨v + 1, by simp, by omega, hn⟩
  obtain ⟨v, e, hk, hn⟩ := key
  refine ⟨v, e, hk, hn, by rw [← e]; exact h1, fun y hy => ?_⟩
  cases hS.shp y hy with
  | cst A h => exact .cst A h
  | low w A hk' hn' h =>
    have : leastV S ≤ (w : Int) := h3 _ (mem_vars hy (m := ⟨w, -1⟩) (by simp [lowC]))
    exact .low w A (by omega) hn' (by omega)
  | high w A hk' hn' h =>
    have : leastV S ≤ (w : Int) := h3 _ (mem_vars hy (m := ⟨w, 1⟩) (by simp [highC]))
    exact .high w A (by omega) hn' h
  | ch w A hk' hn' h =>
    have : leastV S ≤ (w : Int) := h3 _ (mem_vars hy (m := ⟨w, 1⟩) (by simp [chC]))
    exact .ch w A (by omega) hn' h
theorem times_one {a most : Int} (hm : 1 ≤ most ∧ most ≤ 4611686018427387904) (ha : -most ≤ a ∧ a ≤ most) : timesP a 1 most = (a, true) := by
  have h2 := times_unit (k := 1) hm ha (.inl rfl)
  have h1 : (timesP a 1 most).1 = a := by
    unfold timesP
    by_cases h0 : a = 0
    · rw [if_pos (.inl h0), h0]
    · rw [if_neg (by omega), if_neg (by simp [roomB]; omega)]
      show IntKind.i64.wrap (a * 1) = a
      rw [Int.mul_one, i64 (by omega)]
  exact Prod.ext h1 h2
theorem scaleL_one : ∀ {l : List Mono} {p : Option Int}, okFrom p l = true → scaleL 1 l = l ∧ scaleB 1 l = true
  | [], p, _ => ⟨rfl, rfl⟩
  | m :: l, p, h => by
    obtain ⟨h1, _, h3⟩ := okFrom_cons.1 h
    obtain ⟨i1, i2⟩ := scaleL_one h3
    have hm := okM_spec.1 h1
    have ht := times_one (a := m.k) (most := 1048576) (by omega) (by omega)
    refine ⟨?_, ?_⟩
    · simp only [scaleL, ht, i1]; rw [if_neg hm.2.2.1]
    · unfold scaleB at i2 ⊢
      rw [List.all_cons, ht, i2]; rfl
theorem scaleR_one {c : Int} {l : List Mono} (h : okT c l = true) : scaleR c l 1 = (c, l, 0) := by
  obtain ⟨h1, h2, _, h4⟩ := okT_spec.1 h
  obtain ⟨i1, i2⟩ := scaleL_one h4
  unfold scaleR
  rw [if_neg (by rw [h]; simp), times_one (by omega) (by omega), i1, i2]
  rfl
theorem pair_lh {v : Nat} {A B : Int} (h1 : okC (lowC v A) = true) (h2 : okC (highC v B) = true) (hb : -1099511627776 ≤ B + A ∧ B + A ≤ 1099511627776) : pairR (lowC v A) (highC v B) v = (B + A, [], 0) := by
  have k1 : kOf (lowC v A).t.l v = -1 := by rw [kOfL, if_pos rfl]
  have k2 : kOf (highC v B).t.l v = 1 := by rw [kOfH, if_pos rfl]
  have s1 : scaleR (highC v B).t.c (highC v B).t.l 1 = ((highC v B).t.c, (highC v B).t.l, 0) := scaleR_one h2
  have s2 : scaleR (lowC v A).t.c (lowC v A).t.l 1 = ((lowC v A).t.c, (lowC v A).t.l, 0) := scaleR_one h1
  unfold pairR
  rw [k1, k2, show (-(-1) : Int) = 1 from rfl, s1, s2, if_neg (by simp)]
  unfold addR
  have e1 : okT (highC v B).t.c (highC v B).t.l = true := h2
  have e2 : okT (lowC v A).t.c (lowC v A).t.l = true := h1
  have e3 : sumM (highC v B).t.l (lowC v A).t.l = [] := by
    simp [highC, lowC, sumM, keepM]
    decide
  have e4 : IntKind.i64.wrap ((highC v B).t.c + (lowC v A).t.c) = B + A := i64 (show -9223372036854775808 ≤ B + A ∧ B + A < 9223372036854775808 by omega)
  simp only [e1, e2, e3, e4]
  rw [if_neg (by simp), if_pos (okT_spec.2 ⟨by omega, by omega, by simp, rfl⟩)]
theorem pair_lc {v : Nat} {A B : Int} (h1 : okC (lowC v A) = true) (h2 : okC (chC v B) = true) (hv : v + 1 < 40) (hb : -1099511627776 ≤ B + A ∧ B + A ≤ 1099511627776) :
    pairR (lowC v A) (chC v B) v = (B + A, [⟨((v + 1 : Nat) : Int), -1⟩], 0) := by
  have k1 : kOf (lowC v A).t.l v = -1 := by rw [kOfL, if_pos rfl]
  have k2 : kOf (chC v B).t.l v = 1 := by rw [kOfCh, if_pos rfl]
  have s1 : scaleR (chC v B).t.c (chC v B).t.l 1 = ((chC v B).t.c, (chC v B).t.l, 0) := scaleR_one h2
  have s2 : scaleR (lowC v A).t.c (lowC v A).t.l 1 = ((lowC v A).t.c, (lowC v A).t.l, 0) := scaleR_one h1
  unfold pairR
  rw [k1, k2, show (-(-1) : Int) = 1 from rfl, s1, s2, if_neg (by simp)]
  unfold addR
  have e1 : okT (chC v B).t.c (chC v B).t.l = true := h2
  have e2 : okT (lowC v A).t.c (lowC v A).t.l = true := h1
  have e3 : sumM (chC v B).t.l (lowC v A).t.l = [⟨((v + 1 : Nat) : Int), -1⟩] := by
    have w0 : IntKind.i64.wrap 0 = 0 := by decide
    simp [chC, lowC, sumM, keepM, w0]
  have e4 : IntKind.i64.wrap ((chC v B).t.c + (lowC v A).t.c) = B + A := i64 (show -9223372036854775808 ≤ B + A ∧ B + A < 9223372036854775808 by omega)
  simp only [e1, e2, e3, e4]
  rw [if_neg (by simp), if_pos (okT_spec.2 ⟨by omega, by omega, by simp, okFrom_cons.2 ⟨okM_spec.2 ⟨by simp; omega, by simp; omega, by simp, by simp, by simp⟩, fun q h => (nomatch h), rfl⟩⟩)]
theorem pair_made {n v : Nat} {x y : Cons} (hn : n ≤ 8) (hx : Shp n v x) (hkx : kOf x.t.l v < 0) (hy : Shp n v y) (hky : 0 < kOf y.t.l v) :
    (pairR x y v).2.2 = 0 ∧ Shp n (v + 1) (mkC (pairR x y v)) ∧ kOf x.t.l v = -1 ∧ kOf y.t.l v = 1 ∧ isLowB v x = true ∧
      (∀ w : Nat, isLowB w (mkC (pairR x y v)) = true → w = v + 1 ∧ isChB v y = true) ∧ (∀ w : Nat, isHighB w (mkC (pairR x y v)) = false) ∧ (∀ w : Nat, isChB w (mkC (pairR x y v)) = false) := by
  have ox := hx.ok hn
  have oy := hy.ok hn
  cases hx with
  | cst A h => rw [kOfK] at hkx; omega
  | high w A hk hn' h =>
    rw [kOfH] at hkx
    by_cases e : (w : Int) = v
    · rw [if_pos e] at hkx; omega
    · rw [if_neg e] at hkx; omega
  | ch w A hk hn' h =>
    rw [kOfCh] at hkx
    by_cases e : (w : Int) = v
    · rw [if_pos e] at hkx; omega
    · rw [if_neg e] at hkx
      by_cases e2 : ((w + 1 : Nat) : Int) = v
      · omega
      · rw [if_neg e2] at hkx; omega
  | low w A hk hn' h =>
    rw [kOfL] at hkx
    by_cases e : (w : Int) = v
    case neg => rw [if_neg e] at hkx; omega
    obtain rfl : w = v := by omega
    have kx : kOf (lowC w A).t.l w = -1 := by rw [kOfL, if_pos rfl]
    have lx : isLowB w (lowC w A) = true := by simp [isLowB, lowC]
    cases hy with
    | cst B h => rw [kOfK] at hky; omega
    | low q B hk' hn'' h' =>
      rw [kOfL] at hky
      by_cases e : (q : Int) = w
      · rw [if_pos e] at hky; omega
      · rw [if_neg e] at hky; omega
    | high q B hk' hn'' h' =>
      rw [kOfH] at hky
      by_cases e : (q : Int) = w
      case neg => rw [if_neg e] at hky; omega
      obtain rfl : q = w := by omega
      have hp := pair_lh ox oy (by omega)
      refine ⟨by rw [hp], by rw [hp]; exact .cst (B + A) (by omega), kx, by rw [kOfH, if_pos rfl], lx, fun u hu => ?_, fun u => ?_, fun u => ?_⟩
      · rw [hp] at hu; simp [isLowB, mkC] at hu
      · rw [hp]; simp [isHighB, mkC, kOf]
      · rw [hp]; simp [isChB, mkC]
    | ch q B hk' hn'' h' =>
      rw [kOfCh] at hky
      by_cases e : (q : Int) = w
      case neg =>
        rw [if_neg e] at hky
        by_cases e2 : ((q + 1 : Nat) : Int) = w
        · rw [if_pos e2] at hky; omega
        · rw [if_neg e2] at hky; omega
      obtain rfl : q = w := by omega
      have hp := pair_lc ox oy (by omega) (by omega)
      refine ⟨by rw [hp], by rw [hp]; exact .low (q + 1) (B + A) (Nat.le_refl _) hn'' (by omega), kx, by rw [kOfCh, if_pos rfl], lx, fun u hu => ?_, fun u => ?_, fun u => ?_⟩
      · rw [hp] at hu
        simp [isLowB, mkC] at hu
        exact ⟨by omega, by simp [isChB, chC]⟩
      · rw [hp]
        simp only [isHighB, mkC, kOf]
        split <;> simp
      · rw [hp]; simp [isChB, mkC]
theorem lows_low {n v : Nat} {S : List Cons} (hn : n ≤ 8) (hS : ∀ x ∈ S, Shp n v x) : (lowsOf S v).length ≤ S.countP (isLowB v) := by
  unfold lowsOf
  rw [← List.countP_eq_length_filter]
  refine List.countP_mono_left fun x hx hk => ?_
  have hk' : kOf x.t.l v < 0 := by simpa using hk
  cases hS x hx with
  | cst A h => rw [kOfK] at hk'; omega
  | low w A h1 h2 h3 =>
    rw [kOfL] at hk'
    by_cases e : (w : Int) = v
    · simp [isLowB, lowC, e]
    · rw [if_neg e] at hk'; omega
  | high w A h1 h2 h3 =>
    rw [kOfH] at hk'
    by_cases e : (w : Int) = v
    · rw [if_pos e] at hk'; omega
    · rw [if_neg e] at hk'; omega
  | ch w A h1 h2 h3 =>
    rw [kOfCh] at hk'
    by_cases e : (w : Int) = v
    · rw [if_pos e] at hk'; omega
    · rw [if_neg e] at hk'
      by_cases e2 : ((w + 1 : Nat) : Int) = v
      · omega
      · rw [if_neg e2] at hk'; omega
theorem highs_high {v : Nat} {S : List Cons} : (highsOf S v).length = S.countP (isHighB v) := by
  unfold highsOf
  rw [← List.countP_eq_length_filter]
  rfl
theorem count_flat {α : Type} (p : Cons → Bool) (f : α → List Cons) (c : Nat) : ∀ l : List α, (∀ a ∈ l, (f a).countP p ≤ c) → (l.flatMap f).countP p ≤ l.length * c
  | [], _ => by simp
  | a :: l, h => by
    rw [List.flatMap_cons, List.countP_append, List.length_cons, Nat.succ_mul]
    have := count_flat p f c l fun b hb => h b (List.mem_cons_of_mem _ hb)
    have := h a List.mem_cons_self
    omega
theorem count_zero {p : Cons → Bool} {l : List Cons} (h : ∀ x ∈ l, p x = false) : l.countP p = 0 := by
  rw [List.countP_eq_zero]; intro x hx; rw [h x hx]; simp
theorem sys_drop {n v b c : Nat} {S : List Cons} (hn : n ≤ 8) (hS : ∀ x ∈ S, Shp n v x) (hb : S.countP (isLowB v) ≤ b) (hl : ∀ w, v < w → S.countP (isLowB w) ≤ 2) (hh : ∀ w, v ≤ w → S.countP (isHighB w) ≤ 2) (hc : ∀ w, v ≤ w → S.countP (isChB w) ≤ c) :
    dropErr S v = 0 ∧ Sys n (v + 1) (2 + b * c) c (dropList S v) ∧ (dropList S v).length ≤ S.length + b * 2 ∧ (lowsOf S v).length * (highsOf S v).length ≤ b * 2 ∧ exactB S v = true := by
  have bl := Nat.le_trans (lows_low hn hS) hb
  have bh : (highsOf S v).length ≤ 2 := by rw [highs_high]; exact hh v (Nat.le_refl _)
  have mL : ∀ x ∈ lowsOf S v, Shp n v x ∧ kOf x.t.l v < 0 := fun x hx => by
    have := List.mem_filter.1 hx
    exact ⟨hS x this.1, by simpa using this.2⟩
  have mH : ∀ x ∈ highsOf S v, Shp n v x ∧ 0 < kOf x.t.l v := fun x hx => by
    have := List.mem_filter.1 hx
    exact ⟨hS x this.1, by simpa using this.2⟩
  have hpm : ∀ x ∈ lowsOf S v, ∀ y ∈ highsOf S v, _ := fun x hx y hy => pair_made hn (mL x hx).1 (mL x hx).2 (mH y hy).1 (mH y hy).2
  have oS : ∀ x ∈ othersOf S v, Shp n (v + 1) x := fun x hx => by
    have h1 := List.mem_filter.1 hx
    have hk : kOf x.t.l v = 0 := by simpa using h1.2
    cases hS x h1.1 with
    | cst A h => exact .cst A h
    | low w A h1 h2 h3 =>
      rw [kOfL] at hk
      by_cases e : (w : Int) = v
      · rw [if_pos e] at hk; omega
      · exact .low w A (by omega) h2 (by omega)
    | high w A h1 h2 h3 =>
      rw [kOfH] at hk
      by_cases e : (w : Int) = v
      · rw [if_pos e] at hk; omega
      · exact .high w A (by omega) h2 h3
    | ch w A h1 h2 h3 =>
      rw [kOfCh] at hk
      by_cases e : (w : Int) = v
      · rw [if_pos e] at hk; omega
      · exact .ch w A (by omega) h2 h3
  have sub : (othersOf S v).Sublist S := List.filter_sublist
  have mul : (lowsOf S v).length * (highsOf S v).length ≤ b * 2 := Nat.mul_le_mul bl bh
  have row : ∀ (p : Cons → Bool) (d : Nat), (∀ x ∈ lowsOf S v, ((highsOf S v).map fun h => mkC (pairR x h v)).countP p ≤ d) → ((lowsOf S v).flatMap (conRow (highsOf S v) v)).countP p ≤ b * d := fun p d h =>
    Nat.le_trans (count_flat p (conRow (highsOf S v) v) d _ fun a ha => h a ha) (Nat.mul_le_mul bl (Nat.le_refl _))
  have zero : ∀ p : Cons → Bool, (∀ x ∈ lowsOf S v, ∀ y ∈ highsOf S v, p (mkC (pairR x y v)) = false) → ((lowsOf S v).flatMap (conRow (highsOf S v) v)).countP p = 0 := fun p h =>
    count_zero fun z hz => by
      obtain ⟨x, hx, hz⟩ := List.mem_flatMap.1 hz
      obtain ⟨y, hy, rfl⟩ := List.mem_map.1 hz
      exact h x hx y hy
  refine ⟨?_, ⟨?_, ?_, ?_, ?_, ?_⟩, ?_, mul, ?_⟩
  · unfold dropErr
    have key : ∀ l : List Int, (∀ e ∈ l, e = 0) → firstErr l = 0 := by
      intro l
      induction l with
      | nil => intro _; rfl
      | cons e l ih =>
        intro h
        have h0 := h e List.mem_cons_self
        have := ih fun q hq => h q (List.mem_cons_of_mem _ hq)
        simp [firstErr, h0, this]
    refine key _ fun e he => ?_
    obtain ⟨x, hx, he⟩ := List.mem_flatMap.1 he
    obtain ⟨y, hy, rfl⟩ := List.mem_map.1 he
    exact (hpm x hx y hy).1
  · intro x hx
    rcases List.mem_append.1 hx with hx | hx
    · exact oS x hx
    · obtain ⟨z, hz1, hz⟩ := List.mem_flatMap.1 hx
      obtain ⟨y, hy, rfl⟩ := List.mem_map.1 hz
      exact (hpm z hz1 y hy).2.1
  · unfold dropList
    rw [List.countP_append]
    have h1 := Nat.le_trans (sub.countP_le (p := isLowB (v + 1))) (hl (v + 1) (by omega))
    have h2 := row (isLowB (v + 1)) c fun x hx => by
      rw [List.countP_map]
      refine Nat.le_trans ?_ (hc v (Nat.le_refl _))
      refine Nat.le_trans (List.countP_mono_left (q := isChB v) fun y hy hq => ((hpm x hx y hy).2.2.2.2.2.1 (v + 1) hq).2) ?_
      exact List.filter_sublist.countP_le
    omega
  · intro w hw
    unfold dropList
    rw [List.countP_append]
    have h1 := Nat.le_trans (sub.countP_le (p := isLowB w)) (hl w (by omega))
    have h2 := zero (isLowB w) fun x hx y hy => by
      cases hq : isLowB w (mkC (pairR x y v)) with
      | false => rfl
      | true => have := ((hpm x hx y hy).2.2.2.2.2.1 w hq).1; omega
    omega
  · intro w hw
    unfold dropList
    rw [List.countP_append]
    have h1 := Nat.le_trans (sub.countP_le (p := isHighB w)) (hh w (by omega))
    have h2 := zero (isHighB w) fun x hx y hy => (hpm x hx y hy).2.2.2.2.2.2.1 w
    omega
  · intro w hw
    unfold dropList
    rw [List.countP_append]
    have h1 := Nat.le_trans (sub.countP_le (p := isChB w)) (hc w (by omega))
    have h2 := zero (isChB w) fun x hx y hy => (hpm x hx y hy).2.2.2.2.2.2.2 w
    omega
  · unfold dropList
    rw [List.length_append]
    have h1 := sub.length_le
    have h2 := flat_len (conRow (highsOf S v) v) 2 (fun a => by unfold conRow; rw [List.length_map]; exact bh) (lowsOf S v)
    have h3 : (lowsOf S v).length * 2 ≤ b * 2 := Nat.mul_le_mul bl (Nat.le_refl _)
    omega
  · unfold exactB
    by_cases he : (highsOf S v) = []
    · rw [he]; simp
    · obtain ⟨y, hy⟩ := List.exists_mem_of_ne_nil _ he
      have : (lowsOf S v).all (fun x => decide (kOf x.t.l v = -1)) = true := by
        rw [List.all_eq_true]
        intro x hx
        rw [(hpm x hx y hy).2.2.1]; rfl
      rw [this]; rfl
def need (c : Nat) : Nat → Nat → Nat
  | 0, _ => 0
  | m + 1, b => 2 * b + need c m (2 + b * c)
theorem need_mono (c : Nat) : ∀ {m m' b b' : Nat}, m ≤ m' → b ≤ b' → need c m b ≤ need c m' b'
  | 0, _, _, _, _, _ => Nat.zero_le _
  | m + 1, 0, _, _, h, _ => by omega
  | m + 1, m' + 1, b, b', h, hb => by
    have := need_mono c (m := m) (m' := m') (b := 2 + b * c) (b' := 2 + b' * c) (by omega) (by have := Nat.mul_le_mul hb (Nat.le_refl c); omega)
    simp only [need]; omega
def Sure (a : Ans) : Prop := a.1 = 1 ∨ a.1 = 2
theorem sys_next {n k b c : Nat} {l : List Cons} (hn : n ≤ 8) (hb : 2 ≤ b) (hS : Sys n k b c l) (h0 : allW l = 0) :
    ∃ v : Nat, k ≤ v ∧ v < n ∧ (allS l).Sublist l ∧ unitOf (allS l) 0 = none ∧ uneq (allS l) = allS l ∧ exactV (allS l) = v ∧ dropErr (allS l) v = 0 ∧ Sys n (v + 1) (2 + b * c) c (dropList (allS l) v) ∧
      (dropList (allS l) v).length ≤ l.length + b * 2 ∧ (lowsOf (allS l) v).length * (highsOf (allS l) v).length ≤ b * 2 ∧ (∀ x ∈ allS l, Shp n v x) := by
  obtain ⟨s, hs, he, hnc⟩ := all_sub l [] hS.shp
  have e : allS l = s := by unfold allS; rw [he]; simp
  have hne := allW_ne h0
  rw [e] at hne ⊢
  have hS' := hS.sub hs
  have heq : ∀ x ∈ s, x.eq = false := fun x hx => (hS'.shp x hx).eq
  obtain ⟨v, hv, hkv, hvn, hf, hsh⟩ := sys_least hS' hne hnc
  have hlow : s.countP (isLowB v) ≤ b := by
    rcases Nat.eq_or_lt_of_le hkv with h | h
    · rw [← h]; exact hS'.lowk
    · exact Nat.le_trans (hS'.low v h) hb
  obtain ⟨d1, d2, d3, d4, d5⟩ := sys_drop hn hsh hlow (fun w hw => hS'.low w (by omega)) (fun w hw => hS'.high w (by omega)) (fun w hw => hS'.ch w (by omega))
  refine ⟨v, hkv, hvn, hs, unit_none heq 0, uneq_self heq, ?_, d1, d2, Nat.le_trans d3 (by have := hs.length_le; omega), d4, hsh⟩
  have hP : exP s v = true := by
    unfold exP
    rw [if_pos (may_zero heq (fun x hx => (hsh x hx).ok hn) ⟨by omega, by omega⟩), d5]
  have hI : firstI s = 0 := by
    unfold firstI
    cases hfl : firstL s with
    | nil => rw [hfl] at hf; cases hf
    | cons a t =>
      rw [hfl] at hf
      simp only [List.getElem?_cons_zero, Option.some.injEq] at hf
      subst hf
      simp [idxOf, hP]
  unfold exactV
  rw [hI, if_neg (by omega), Int.toNat_zero, hf]; rfl
theorem sys_sure {n c : Nat} (hn : n ≤ 8) : ∀ (d k b left : Nat) (vals : List Int) (l : List Cons), 2 ≤ b → Sys n k b c l → n ≤ k + d → need c (n - k) b ≤ left → l.length + need c (n - k) b ≤ 240 → Sure (ansD (d + 1) left vals l) := by
  intro d
  induction d with
  | zero =>
    intro k b left vals l hb hS hk hl h240
    show Sure (stepD (ansD 0) left vals l)
    unfold stepD
    by_cases h0 : allW l = 0
    · obtain ⟨v, h1, h2, _⟩ := sys_next hn hb hS h0
      omega
    · rw [if_pos h0]
      rcases allW_spec l with ⟨h1, _⟩ | ⟨h1, _⟩ | ⟨h1, _⟩
      · exact .inl h1
      · exact .inr h1
      · exact absurd h1 h0
  | succ d ih =>
    intro k b left vals l hb hS hk hl h240
    show Sure (stepD (ansD (d + 1)) left vals l)
    unfold stepD
    by_cases h0 : allW l = 0
    case neg =>
      rw [if_pos h0]
      rcases allW_spec l with ⟨h1, _⟩ | ⟨h1, _⟩ | ⟨h1, _⟩
      · exact .inl h1
      · exact .inr h1
      · exact absurd h1 h0
    obtain ⟨v, h1, h2, hs, hu, hq, hx, hE, hD, hlen, hp, hsh⟩ := sys_next hn hb hS h0
    have hsl := hs.length_le
    rw [if_neg (by omega), if_neg (by omega), hu]
    show Sure (noUnitD (ansD (d + 1)) left vals (uneq (allS l)))
    rw [hq]
    unfold noUnitD
    rw [if_neg (by omega), hx, if_neg (by omega)]
    obtain ⟨m, hm⟩ : ∃ m, n - k = m + 1 := ⟨n - k - 1, by omega⟩
    rw [hm] at hl h240
    simp only [need] at hl h240
    have hmono := need_mono c (m := n - (v + 1)) (m' := m) (b := 2 + b * c) (b' := 2 + b * c) (by omega) (Nat.le_refl _)
    obtain ⟨g, hg⟩ : ∃ g, g = max ((lowsOf (allS l) v).length * (highsOf (allS l) v).length) 1 := ⟨_, rfl⟩
    have hgb : g ≤ 2 * b := by omega
    have hrec := ih (v + 1) (2 + b * c) (left - g) vals (dropList (allS l) v) (by omega) hD (by omega) (by omega) (by omega)
    unfold dropD
    rw [← hg, if_neg (by omega), if_neg (by omega)]
    by_cases h22 : (ansD (d + 1) (left - g) vals (dropList (allS l) v)).1 = 2
    · rw [if_pos h22]; exact .inr rfl
    · rw [if_neg h22]; exact hrec
theorem add_same {S : List Cons} {x y : Cons} (hw : oneW x = oneW y) (hc : oneCx x = oneCx y) : addSx S x = addSx S y := by unfold addSx; rw [hw, hc]
inductive Same2 : List Cons → List Cons → Prop
  | nil : Same2 [] []
  | cons {x y : Cons} {l m : List Cons} (hw : oneW x = oneW y) (hc : oneCx x = oneCx y) (t : Same2 l m) : Same2 (x :: l) (y :: m)
theorem Same2.refl : ∀ l, Same2 l l
  | [] => .nil
  | x :: l => .cons rfl rfl (Same2.refl l)
theorem Same2.app {a b : List Cons} (c : List Cons) (h : Same2 a b) : Same2 (a ++ c) (b ++ c) := by
  induction h with
  | nil => exact Same2.refl c
  | cons hw hc _ ih => exact .cons hw hc ih
theorem Same2.all {a b : List Cons} (h : Same2 a b) : allS a = allS b := by
  have key : ∀ S, a.foldl addSx S = b.foldl addSx S := by
    induction h with
    | nil => intro S; rfl
    | cons hw hc _ ih => intro S; rw [List.foldl_cons, List.foldl_cons, add_same hw hc]; exact ih _
  exact key []
theorem Same2.allW {a b : List Cons} (h : Same2 a b) : allW a = allW b := by
  have hn : neverB a = neverB b := by
    unfold neverB
    induction h with
    | nil => rfl
    | cons hw hc _ ih => rw [List.any_cons, List.any_cons, hw, ih]
  unfold Dx.allW
  rw [hn, h.all]
end Go.Proofs.Ythdlkpmhjbaplaa.Dx
namespace Go.Proofs.Ythdlkpmhjbaplaa.Dx
open Go
open Nat renaming reduceAdd → rdA, reduceMul → rdM, reduceLeDiff → rdL, reduceLT → rdT, reduceEqDiff → rdE
open Int renaming reduceNegSucc → rdN
attribute [local irreducible] wCall wLoop
attribute [local go_sem] decide_true decide_false Bool.and_true Bool.true_and Bool.and_self Bool.false_and Bool.and_false vMs vCs vIs Slots At Tr.get_z Tr.get_l Tr.get_r Tr.get_e Tr.set_z_e Tr.set_z_n Tr.set_l_e Tr.set_l_n Tr.set_r_e Tr.set_r_n eOs_n eOs_c eDs_n eDs_c ekOs ekDs ekPut ekBack ekSeq_n ekSeq_x ekSeq_r ekBlk_n ekBlk_x ekBlk_r eO_mk eO_gd eO_loc eO_locb eD_mk eD_loc eD_locb eD_gd eDr eC_skip eC_reg eC_drw eC_seq eC_cond eC_block eC_loop eC_exit eC_ret eRetW_n eRetW_r wk wkL eRet_n eRet_r ekLd_n ekLd_x ekLd_r ekLp_n ekLp_x ekLp_r wI wBin wBd vev vov vovs vplace vouter ofDV ofDVs vcells spl vfills vput vuse vuseP vback vbackP wOf vbare isVarV vkeep hget hset hdels hdel hkeys live vw vwL keysV keysL pureV pureL vsrc veqs vmx vmn vT cT vC cC VOb.cells vres vrsL vrs1 vone List.length_cons List.length_nil List.getElem?_cons_zero List.getElem?_cons_succ List.take_succ_cons List.take_zero List.drop_succ_cons List.drop_zero List.drop_nil List.take_nil List.nil_append List.cons_append List.append_nil Option.some.injEq Nat.zero_add Nat.add_zero if_true if_false ite_true ite_false true_and and_true false_and and_false true_implies implies_true false_implies Bool.true_eq_false Bool.false_eq_true Bool.not_true Bool.not_false eq_self_iff_true Int.toNat_natCast Int.ofNat_eq_natCast Int.ofNat_zero Int.ofNat_one Int.cast_ofNat_Int VV.int.injEq VV.bool.injEq cond_true cond_false
theorem modB (c : Int) {m : Int} (hm : 0 < m) : -m < c.tmod m ∧ c.tmod m < m := by
  have h := Int.natAbs_tmod c m
  have h2 := Nat.mod_lt c.natAbs (y := m.natAbs) (by omega)
  omega
theorem Line_is (v k c : Int) : VPure FT p48 [.int .i64 v, .int .i64 k, .int .i64 c] (.agg [.int .i64 c, .fz 1 none 2 [.int .i64 v, .int .i64 k]]) := Line_ok v k c
end Go.Proofs.Ythdlkpmhjbaplaa.Dx
namespace Go.Proofs.Ythdlkpmhjbaplaa.Dx
open Go
def negM (m : Mono) : Mono := ⟨m.v, -m.k⟩
theorem times_neg {a most : Int} (hm : 1 ≤ most ∧ most ≤ 4611686018427387904) (ha : -most ≤ a ∧ a ≤ most) : timesP a (-1) most = (-a, true) := by
  have h2 := times_unit (k := -1) hm ha (.inr rfl)
  have h1 : (timesP a (-1) most).1 = -a := by
    unfold timesP
    by_cases h0 : a = 0
    · rw [if_pos (.inl h0), h0]; rfl
    · rw [if_neg (by omega), if_neg (by simp [roomB]; omega)]
      show IntKind.i64.wrap (a * -1) = -a
      rw [i64 (by omega)]; omega
  exact Prod.ext h1 h2
theorem scaleL_neg : ∀ {l : List Mono} {p : Option Int}, okFrom p l = true → scaleL (-1) l = l.map negM ∧ scaleB (-1) l = true
  | [], p, _ => ⟨rfl, rfl⟩
  | m :: l, p, h => by
    obtain ⟨h1, _, h3⟩ := okFrom_cons.1 h
    obtain ⟨i1, i2⟩ := scaleL_neg h3
    have hm := okM_spec.1 h1
    have ht := times_neg (a := m.k) (most := 1048576) (by omega) (by omega)
    refine ⟨?_, ?_⟩
    · simp only [scaleL, ht, i1]; rw [if_neg (by omega)]; rfl
    · unfold scaleB at i2 ⊢
      rw [List.all_cons, ht, i2]; rfl
theorem scaleR_neg {c : Int} {l : List Mono} (h : okT c l = true) : scaleR c l (-1) = (-c, l.map negM, 0) := by
  obtain ⟨h1, h2, _, h4⟩ := okT_spec.1 h
  obtain ⟨i1, i2⟩ := scaleL_neg h4
  unfold scaleR
  rw [if_neg (by rw [h]; simp), times_neg (by omega) (by omega), i1, i2]
  rfl
theorem scaleR_zero {c : Int} {l : List Mono} (h : okT c l = true) : scaleR c l 0 = (0, [], 0) := by
  have ht : ∀ a most : Int, timesP a 0 most = (0, true) := fun a most => by unfold timesP; rw [if_pos (.inr rfl)]
  have h1 : ∀ l : List Mono, scaleL 0 l = [] := by
    intro l
    induction l with
    | nil => rfl
    | cons m l ih => simp only [scaleL, ht, ih]; rfl
  have h2 : scaleB 0 l = true := by unfold scaleB; rw [List.all_eq_true]; intro m _; rw [ht]
  unfold scaleR
  rw [if_neg (by rw [h]; simp), ht, h1, h2]
  rfl
def mulM (k : Int) (b : List Mono) : List Mono := if k = 0 then [] else if k = 1 then b else b.map negM
theorem putR_go {c d v k : Int} {a b s : List Mono} (ha : okFrom none a = true) (hb : okFrom none b = true) (hla : a.length ≤ 2) (hlb : b.length ≤ 2) (hk : kOf a v = k) (hk1 : k = 0 ∨ k = 1 ∨ k = -1) (hs : sumM (delM v a) (mulM k b) = s) (hos : okFrom none s = true)
    (hls : s.length ≤ 4) (hod : okFrom none (delM v a) = true) (hob : okFrom none (mulM k b) = true) (hc : -274877906944 ≤ c ∧ c ≤ 274877906944) (hd : -274877906944 ≤ d ∧ d ≤ 274877906944) : putR c a v d b = (c + k * d, s, 0) := by
  have oa : okT c a = true := okT_spec.2 ⟨by omega, by omega, by omega, ha⟩
  have ob : okT d b = true := okT_spec.2 ⟨by omega, by omega, by omega, hb⟩
  have od : okT c (delM v a) = true := okT_spec.2 ⟨by omega, by omega, by have := delM_len v a; omega, hod⟩
  have key : scaleR d b k = (k * d, mulM k b, 0) := by
    rcases hk1 with rfl | rfl | rfl
    · rw [scaleR_zero ob]; simp [mulM]
    · rw [scaleR_one ob]; simp [mulM]
    · rw [scaleR_neg ob]; simp [mulM]
  have hkd : -274877906944 ≤ k * d ∧ k * d ≤ 274877906944 := by rcases hk1 with rfl | rfl | rfl <;> omega
  have hlm : (mulM k b).length ≤ 2 := by
    unfold mulM; split
    · simp
    · split
      · exact hlb
      · simpa using hlb
  have om : okT (k * d) (mulM k b) = true := okT_spec.2 ⟨by omega, by omega, by omega, hob⟩
  have os : okT (c + k * d) s = true := okT_spec.2 ⟨by omega, by omega, by omega, hos⟩
  have w : IntKind.i64.wrap (c + k * d) = c + k * d := i64 (by omega)
  unfold putR
  rw [if_neg (by rw [oa, ob]; simp), hk, key, if_neg (by simp)]
  unfold addR
  rw [if_neg (by rw [od, om]; simp), w, hs, if_pos os]
inductive Kd where | e | p0 | p1 | p2 | m0 | m1 | m2 | v0 | v1
def Kd.l : Kd → List Mono
  | .e => [] | .p0 => [⟨0, 1⟩] | .p1 => [⟨1, 1⟩] | .p2 => [⟨2, 1⟩] | .m0 => [⟨0, -1⟩] | .m1 => [⟨1, -1⟩] | .m2 => [⟨2, -1⟩] | .v0 => [⟨0, 1⟩, ⟨2, -1⟩] | .v1 => [⟨1, 1⟩, ⟨2, -1⟩]
inductive Sw where | a0 | a1 | c0 | c1 | c2
def Sw.v : Sw → Int | .a0 => 0 | .a1 => 1 | .c0 => 0 | .c1 => 1 | .c2 => 2
def Sw.b : Sw → List Mono | .a0 => [⟨2, 1⟩] | .a1 => [⟨2, 1⟩] | _ => []
def put3 : Sw → Kd → Kd
  | .a0, .p0 => .p2 | .a0, .m0 => .m2 | .a0, .v0 => .e
  | .a1, .p1 => .p2 | .a1, .m1 => .m2 | .a1, .v1 => .e
  | .c0, .p0 => .e | .c0, .m0 => .e | .c0, .v0 => .m2
  | .c1, .p1 => .e | .c1, .m1 => .e | .c1, .v1 => .m2
  | .c2, .p2 => .e | .c2, .m2 => .e | .c2, .v0 => .p0 | .c2, .v1 => .p1
  | _, k => k
theorem put_kd (k : Kd) (s : Sw) {c d : Int} (hc : -274877906944 ≤ c ∧ c ≤ 274877906944) (hd : -274877906944 ≤ d ∧ d ≤ 274877906944) : putR c k.l s.v d s.b = (c + kOf k.l s.v * d, (put3 s k).l, 0) := by
  have w0 : IntKind.i64.wrap 0 = 0 := by decide
  refine putR_go (k := kOf k.l s.v) ?_ ?_ ?_ ?_ rfl ?_ ?_ ?_ ?_ ?_ ?_ hc hd
  · cases k <;> rfl
  · cases s <;> rfl
  · cases k <;> decide
  · cases s <;> decide
  · cases k <;> cases s <;> decide
  · cases k <;> cases s <;> simp [Kd.l, Sw.v, Sw.b, put3, kOf, mulM, delM, negM, sumM, keepM, w0]
  · cases k <;> cases s <;> rfl
  · cases k <;> cases s <;> decide
  · cases k <;> cases s <;> rfl
  · cases k <;> cases s <;> rfl
def E3 (B : Int) (x : Cons) : Prop := ∃ (k : Kd), x.t.l = k.l ∧ -B ≤ x.t.c ∧ x.t.c ≤ B ∧ (x.eq = true → (k = .v0 ∨ k = .v1) → x.t.c = 0) ∧
  (x.eq = false → k = .e ∨ ((k = .p0 ∨ k = .p1 ∨ k = .p2) ∧ x.t.c = -2147483647) ∨ ((k = .m0 ∨ k = .m1 ∨ k = .m2) ∧ x.t.c = -2147483648))
theorem E3.ok {B : Int} {x : Cons} (hB : B ≤ 274877906944) (h : E3 B x) : okC x = true := by
  obtain ⟨k, h1, h2, h3, _⟩ := h
  refine okT_spec.2 ⟨by omega, by omega, ?_, ?_⟩ <;> rw [h1] <;> cases k <;> first | rfl | decide
theorem E3.swap {B : Int} {x : Cons} (hB : B ≤ 137438953472) (h : E3 B x) (s : Sw) {d : Int} (hd : -B ≤ d ∧ d ≤ B) (hd0 : (s = .a0 ∨ s = .a1) → d = 0) : (swapX s.v d s.b x).2.2 = 0 ∧ E3 (2 * B) (swapC s.v d s.b x) := by
  obtain ⟨k, h1, h2, h3, h4, h5⟩ := h
  have hp := put_kd k s (c := x.t.c) (d := d) (by omega) (by omega)
  rw [← h1] at hp
  have hX : swapX s.v d s.b x = (x.t.c + kOf x.t.l s.v * d, (put3 s k).l, 0) := hp
  refine ⟨by rw [hX], put3 s k, by unfold swapC; rw [hX], ?_, ?_, ?_, ?_⟩
  · show -(2 * B) ≤ (swapX s.v d s.b x).1
    rw [hX, h1]
    show -(2 * B) ≤ x.t.c + kOf k.l s.v * d
    cases k <;> cases s <;> simp [Kd.l, Sw.v, kOf] <;> omega
  · show (swapX s.v d s.b x).1 ≤ 2 * B
    rw [hX, h1]
    show x.t.c + kOf k.l s.v * d ≤ 2 * B
    cases k <;> cases s <;> simp [Kd.l, Sw.v, kOf] <;> omega
  · intro he hk
    show (swapX s.v d s.b x).1 = 0
    rw [hX, h1]
    show x.t.c + kOf k.l s.v * d = 0
    have he' : x.eq = true := he
    cases k <;> cases s <;> simp [put3] at hk <;> simp [Kd.l, Sw.v, kOf] <;> first | exact h4 he' (by simp) | skip
  · intro he
    show _ ∨ (_ ∧ (swapX s.v d s.b x).1 = _) ∨ (_ ∧ (swapX s.v d s.b x).1 = _)
    rw [hX, h1]
    have he' : x.eq = false := he
    have h5' := h5 he'
    show _ ∨ (_ ∧ x.t.c + kOf k.l s.v * d = _) ∨ (_ ∧ x.t.c + kOf k.l s.v * d = _)
    cases k <;> cases s <;> simp [Kd.l, Sw.v, kOf, put3] at h5' ⊢ <;> first | exact h5' | (have := hd0 (by simp); omega)
def N3 (B : Int) (x : Cons) : Prop := E3 B x ∧ oneCx x = x ∧ oneW x = 0 ∧ (x.eq = true → x.t.l = Kd.v0.l ∨ x.t.l = Kd.v1.l ∨ x.t.l = Kd.p0.l ∨ x.t.l = Kd.p1.l ∨ x.t.l = Kd.p2.l)
theorem E3.one {B : Int} {x : Cons} (h : E3 B x) (hw : oneW x = 0) : N3 B (oneCx x) := by
  obtain ⟨⟨c, l⟩, q⟩ := x
  obtain ⟨k, h1, h2, h3, h4, h5⟩ := h
  simp only at h1 h2 h3 h4 h5
  subst h1
  cases q with
  | false =>
    have e : oneCx ⟨⟨c, k.l⟩, false⟩ = ⟨⟨c, k.l⟩, false⟩ := by
      cases k <;> first | (simp [oneW, Kd.l] at hw; done) | (simp [oneCx, sgC, gcdL, Kd.l, shM]; done) | skip
      all_goals (exfalso; unfold oneW at hw; rw [if_pos (by rfl)] at hw; split at hw <;> cases hw)
    rw [e]
    exact ⟨⟨k, rfl, h2, h3, fun h => (nomatch h), fun _ => h5 rfl⟩, e, hw, fun h => (nomatch h)⟩
  | true =>
    have h4' := h4 rfl
    have key : ∃ k' : Kd, ∃ c' : Int, oneCx ⟨⟨c, k.l⟩, true⟩ = ⟨⟨c', k'.l⟩, true⟩ ∧ -B ≤ c' ∧ c' ≤ B ∧ (k' = .v0 ∨ k' = .v1 ∨ k' = .p0 ∨ k' = .p1 ∨ k' = .p2) ∧ ((k' = .v0 ∨ k' = .v1) → c' = 0) := by
      cases k with
      | e => exfalso; unfold oneW at hw; rw [if_pos (by rfl)] at hw; split at hw <;> cases hw
      | p0 => exact ⟨.p0, c, by simp [oneCx, sgC, headK, gcdL, Kd.l, shM], h2, h3, by simp, by simp⟩
      | p1 => exact ⟨.p1, c, by simp [oneCx, sgC, headK, gcdL, Kd.l, shM], h2, h3, by simp, by simp⟩
      | p2 => exact ⟨.p2, c, by simp [oneCx, sgC, headK, gcdL, Kd.l, shM], h2, h3, by simp, by simp⟩
      | m0 => exact ⟨.p0, -c, by simp [oneCx, sgC, headK, gcdL, Kd.l, shM], by omega, by omega, by simp, by simp⟩
      | m1 => exact ⟨.p1, -c, by simp [oneCx, sgC, headK, gcdL, Kd.l, shM], by omega, by omega, by simp, by simp⟩
      | m2 => exact ⟨.p2, -c, by simp [oneCx, sgC, headK, gcdL, Kd.l, shM], by omega, by omega, by simp, by simp⟩
      | v0 => exact ⟨.v0, c, by simp [oneCx, sgC, headK, gcdL, Kd.l, shM], h2, h3, by simp, fun _ => h4' (by simp)⟩
      | v1 => exact ⟨.v1, c, by simp [oneCx, sgC, headK, gcdL, Kd.l, shM], h2, h3, by simp, fun _ => h4' (by simp)⟩
    obtain ⟨k', c', e, b1, b2, b3, b4⟩ := key
    rw [e]
    refine ⟨⟨k', rfl, b1, b2, fun _ => b4, fun h => (nomatch h)⟩, ?_, ?_, fun _ => by rcases b3 with rfl | rfl | rfl | rfl | rfl <;> simp⟩
    · rcases b3 with rfl | rfl | rfl | rfl | rfl <;> simp [oneCx, sgC, headK, gcdL, Kd.l, shM]
    · rcases b3 with rfl | rfl | rfl | rfl | rfl <;> simp [oneW, gcdL, Kd.l]
theorem consB_self (x : Cons) : consB x x = true := by
  have : ∀ l : List Mono, monoB l l = true := by
    intro l
    induction l with
    | nil => rfl
    | cons m l ih => simp [monoB, ih]
  simp [consB, this]
theorem allS_nodup (l : List Cons) : (allS l).Nodup := by
  have key : ∀ (l S : List Cons), S.Nodup → (l.foldl addSx S).Nodup := by
    intro l
    induction l with
    | nil => intro S h; exact h
    | cons x l ih =>
      intro S h
      rw [List.foldl_cons]
      apply ih
      unfold addSx
      split
      · split
        · exact h
        · rename_i ha
          rw [List.nodup_append]
          refine ⟨h, by simp, fun a ha1 b hb => ?_⟩
          have e := List.mem_singleton.1 hb
          subst e
          rintro rfl
          exact ha (List.any_eq_true.2 ⟨_, ha1, consB_self _⟩)
      · exact h
  exact key l [] List.nodup_nil
theorem allS_again {S : List Cons} (hn : S.Nodup) (h : ∀ x ∈ S, oneCx x = x ∧ oneW x = 0) : allS S = S := by
  have key : ∀ (l A : List Cons), (A ++ l).Nodup → (∀ x ∈ l, oneCx x = x ∧ oneW x = 0) → l.foldl addSx A = A ++ l := by
    intro l
    induction l with
    | nil => intro A _ _; simp
    | cons x l ih =>
      intro A hA hl
      obtain ⟨h1, h2⟩ := hl x List.mem_cons_self
      have hx : ¬ A.any (fun y => consB y x) = true := by
        intro ha
        obtain ⟨y, hy, hb⟩ := List.any_eq_true.1 ha
        have := consB_eq hb
        subst this
        exact (List.nodup_append.1 hA).2.2 y hy y List.mem_cons_self rfl
      have e : addSx A x = A ++ [x] := by unfold addSx; rw [if_pos h2, h1, if_neg hx]
      rw [List.foldl_cons, e, ih (A ++ [x]) (by simpa using hA) (fun y hy => hl y (List.mem_cons_of_mem _ hy))]
      simp
  simpa [allS] using key S [] (by simpa using hn) h
theorem all_count (p : Cons → Bool) (hp : ∀ x, p (oneCx x) = p x) (l : List Cons) : (allS l).countP p ≤ l.countP p ∧ (allS l).length ≤ l.length := by
  have key : ∀ (l S : List Cons), (l.foldl addSx S).countP p ≤ S.countP p + l.countP p ∧ (l.foldl addSx S).length ≤ S.length + l.length := by
    intro l
    induction l with
    | nil => intro S; simp
    | cons x l ih =>
      intro S
      rw [List.foldl_cons]
      have h := ih (addSx S x)
      have h2 : (addSx S x).countP p ≤ S.countP p + [x].countP p ∧ (addSx S x).length ≤ S.length + 1 := by
        unfold addSx
        split
        · split
          · omega
          · rw [List.countP_append, List.length_append]
            simp only [List.countP_cons, List.countP_nil, hp, List.length_cons, List.length_nil]
            omega
        · omega
      have e : (x :: l).countP p = [x].countP p + l.countP p := by rw [← List.singleton_append, List.countP_append]
      rw [e, List.length_cons]
      omega
  have := key l []
  simpa [allS] using this
theorem count_same {p : Cons → Bool} {a : Cons} : ∀ {S : List Cons}, S.Nodup → (∀ x ∈ S, p x = true → x = a) → S.countP p ≤ 1
  | [], _, _ => by simp
  | x :: S, hn, h => by
    obtain ⟨h1, h2⟩ := List.nodup_cons.1 hn
    have ih := count_same h2 fun y hy => h y (List.mem_cons_of_mem _ hy)
    rw [List.countP_cons]
    by_cases hx : p x = true
    · have e := h x List.mem_cons_self hx
      have h0 : S.countP p = 0 := count_zero fun y hy => by
        cases hq : p y with
        | false => rfl
        | true =>
          have := h y (List.mem_cons_of_mem _ hy) hq
          rw [this, ← e] at hy
          exact absurd hy h1
      rw [h0, if_pos hx]; omega
    · rw [if_neg hx]; omega
theorem erase_count {p : Cons → Bool} : ∀ {S : List Cons} {q : Nat} {x : Cons}, S[q]? = some x → p x = true → (S.eraseIdx q).countP p + 1 = S.countP p
  | [], q, x, h, _ => by simp at h
  | y :: S, 0, x, h, hp => by
    simp at h; subst h
    rw [List.eraseIdx_zero, List.tail_cons, List.countP_cons, if_pos hp]
  | y :: S, q + 1, x, h, hp => by
    have ih := erase_count (S := S) (q := q) (by simpa using h) hp
    rw [List.eraseIdx_cons_succ, List.countP_cons, List.countP_cons]; omega
theorem N3.shape {B : Int} {x : Cons} (h : N3 B x) (he : x.eq = false) : (∃ v : Nat, v < 3 ∧ x = highC v (-2147483647)) ∨ ∃ v : Nat, v < 3 ∧ x = lowC v (-2147483648) := by
  obtain ⟨⟨k, h1, _, _, _, h5⟩, _, h6, _⟩ := h
  obtain ⟨⟨c, l⟩, q⟩ := x
  simp only at h1 he
  subst h1; subst he
  rcases h5 rfl with rfl | ⟨hk, hc⟩ | ⟨hk, hc⟩
  · exact absurd h6 (by unfold oneW; rw [if_pos (by rfl)]; split <;> decide)
  · simp only at hc; subst hc
    rcases hk with rfl | rfl | rfl
    · exact .inl ⟨0, by omega, rfl⟩
    · exact .inl ⟨1, by omega, rfl⟩
    · exact .inl ⟨2, by omega, rfl⟩
  · simp only at hc; subst hc
    rcases hk with rfl | rfl | rfl
    · exact .inr ⟨0, by omega, rfl⟩
    · exact .inr ⟨1, by omega, rfl⟩
    · exact .inr ⟨2, by omega, rfl⟩
theorem sys_three {B : Int} {S : List Cons} (hn : S.Nodup) (h : ∀ x ∈ S, N3 B x) (he : ∀ x ∈ S, x.eq = false) : Sys 3 0 2 0 S := by
  have hs : ∀ x ∈ S, _ := fun x hx => (h x hx).shape (he x hx)
  have l1 : ∀ v, S.countP (isLowB v) ≤ 1 := fun v => count_same (a := lowC v (-2147483648)) hn fun x hx hp => by
    rcases hs x hx with ⟨w, _, rfl⟩ | ⟨w, _, rfl⟩
    · simp [isLowB, highC] at hp
    · simp [isLowB, lowC] at hp
      rw [show w = v by omega]
  have l2 : ∀ v, S.countP (isHighB v) ≤ 1 := fun v => count_same (a := highC v (-2147483647)) hn fun x hx hp => by
    rcases hs x hx with ⟨w, _, rfl⟩ | ⟨w, _, rfl⟩
    · have hp' : 0 < kOf (highC w (-2147483647)).t.l v := by simpa [isHighB] using hp
      rw [kOfH] at hp'
      by_cases e : (w : Int) = v
      · rw [show w = v by omega]
      · rw [if_neg e] at hp'; omega
    · have hp' : 0 < kOf (lowC w (-2147483648)).t.l v := by simpa [isHighB] using hp
      rw [kOfL] at hp'
      by_cases e : (w : Int) = v
      · rw [if_pos e] at hp'; omega
      · rw [if_neg e] at hp'; omega
  refine ⟨fun x hx => ?_, by have := l1 0; omega, fun v _ => by have := l1 v; omega, fun v _ => by have := l2 v; omega, fun v _ => ?_⟩
  · rcases hs x hx with ⟨w, hw, rfl⟩ | ⟨w, hw, rfl⟩
    · exact .high w _ (by omega) hw (by omega)
    · exact .low w _ (by omega) hw (by omega)
  · rw [count_zero]
    · exact Nat.le_refl _
    · intro x hx
      rcases hs x hx with ⟨w, hw, rfl⟩ | ⟨w, hw, rfl⟩ <;> rfl
theorem N3.unit {B : Int} {x : Cons} (hB : B ≤ 137438953472) (h : N3 B x) (he : x.eq = true) :
    ∃ s : Sw, unitX x = some s.v ∧ (equalR x s.v).1 = -x.t.c ∧ (equalR x s.v).2.1 = s.b ∧ ((s = .a0 ∨ s = .a1) → -x.t.c = 0) ∧ -B ≤ -x.t.c ∧ -x.t.c ≤ B := by
  obtain ⟨hE, _, _, h6⟩ := h
  have hok := hE.ok (by omega)
  obtain ⟨k, h1, h2, h3, h4, _⟩ := hE
  have gen : ∀ s : Sw, oneB (kOf x.t.l s.v) = true → kOf x.t.l s.v = 1 → (delM s.v x.t.l).map negM = s.b → (equalR x s.v).1 = -x.t.c ∧ (equalR x s.v).2.1 = s.b := by
    intro s hb hk hm
    have hr : rightB [x] s.v = true := by
      unfold rightB
      rw [List.all_cons, hok]
      cases s <;> rfl
    have e : equalR x s.v = scaleR (putR x.t.c x.t.l s.v 0 []).1 (putR x.t.c x.t.l s.v 0 []).2.1 (-(kOf x.t.l s.v)) := by
      unfold equalR
      rw [if_neg (by rw [hr]; simp), if_neg (by rw [he, hb]; simp)]
    rw [e, putR_nil hok, hk]
    simp only
    rw [scaleR_neg (okT_del s.v hok), hm]
    exact ⟨rfl, rfl⟩
  obtain ⟨⟨c, l⟩, q⟩ := x
  simp only at h1 he h2 h3 h4 h6 hok
  subst h1; subst he
  have hx : ∀ v : Int, unitM k.l = some v → unitX ⟨⟨c, k.l⟩, true⟩ = some v := fun v h => by unfold unitX; rw [if_pos rfl]; exact h
  rcases h6 rfl with e | e | e | e | e
  · rw [e] at gen hx ⊢
    have hk : k = .v0 := by cases k <;> simp [Kd.l] at e <;> rfl
    subst hk
    obtain ⟨g1, g2⟩ := gen .a0 rfl rfl (by simp [Kd.l, delM, Sw.v, Sw.b, negM])
    exact ⟨.a0, hx _ rfl, g1, g2, fun _ => by have := h4 rfl (.inl rfl); simp only; omega, by simp only; omega, by simp only; omega⟩
  · rw [e] at gen hx ⊢
    have hk : k = .v1 := by cases k <;> simp [Kd.l] at e <;> rfl
    subst hk
    obtain ⟨g1, g2⟩ := gen .a1 rfl rfl (by simp [Kd.l, delM, Sw.v, Sw.b, negM])
    exact ⟨.a1, hx _ rfl, g1, g2, fun _ => by have := h4 rfl (.inr rfl); simp only; omega, by simp only; omega, by simp only; omega⟩
  · rw [e] at gen hx ⊢
    obtain ⟨g1, g2⟩ := gen .c0 rfl rfl (by simp [Kd.l, delM, Sw.v, Sw.b, negM])
    exact ⟨.c0, hx _ rfl, g1, g2, by simp, by simp only; omega, by simp only; omega⟩
  · rw [e] at gen hx ⊢
    obtain ⟨g1, g2⟩ := gen .c1 rfl rfl (by simp [Kd.l, delM, Sw.v, Sw.b, negM])
    exact ⟨.c1, hx _ rfl, g1, g2, by simp, by simp only; omega, by simp only; omega⟩
  · rw [e] at gen hx ⊢
    obtain ⟨g1, g2⟩ := gen .c2 rfl rfl (by simp [Kd.l, delM, Sw.v, Sw.b, negM])
    exact ⟨.c2, hx _ rfl, g1, g2, by simp, by simp only; omega, by simp only; omega⟩
theorem pow_le {B K : Int} {n : Nat} (h0 : 0 ≤ B) (h : B * ((2 ^ n : Nat) : Int) ≤ K) : B ≤ K := by
  have h1 : (1 : Int) ≤ ((2 ^ n : Nat) : Int) := Int.ofNat_le.2 Nat.one_le_two_pow
  have h2 : B * 1 ≤ B * ((2 ^ n : Nat) : Int) := Int.mul_le_mul_of_nonneg_left h1 h0
  omega
theorem eq_sure : ∀ (M d left : Nat) (B : Int) (vals : List Int) (l : List Cons), (∀ x ∈ l, E3 B x) → l.countP (fun x => x.eq) ≤ M → B * (2 ^ M : Nat) ≤ 137438953472 → 0 ≤ B → M + 3 ≤ d → M + 12 ≤ left → l.length + 12 ≤ 240 → Sure (ansD (d + 1) left vals l) := by
  intro M
  induction M with
  | zero => ?_
  | succ M ih => ?_
  all_goals
    intro d left B vals l hE hM hB hB0 hd hleft hlen
    have hBB : B ≤ 137438953472 := pow_le hB0 hB
    by_cases h0 : allW l = 0
    case neg =>
      show Sure (stepD (ansD d) left vals l)
      unfold stepD
      rw [if_pos h0]
      rcases allW_spec l with ⟨h1, _⟩ | ⟨h1, _⟩ | ⟨h1, _⟩
      · exact .inl h1
      · exact .inr h1
      · exact absurd h1 h0
    have hN : ∀ x ∈ allS l, N3 B x := fun x hx => by
      obtain ⟨y, hy, hw, rfl⟩ := allS_mem hx
      exact (hE y hy).one hw
    have hnd := allS_nodup l
    obtain ⟨hc1, hc2⟩ := all_count (fun x => x.eq) (fun x => rfl) l
    have hne := allW_ne h0
    have noeq : (∀ x ∈ allS l, x.eq = false) → Sure (ansD (d + 1) left vals l) := by
      intro hq
      have hA : allS (allS l) = allS l := allS_again hnd fun x hx => ⟨(hN x hx).2.1, (hN x hx).2.2.1⟩
      have hW : allW (allS l) = 0 := by
        unfold allW
        have hnv : neverB (allS l) = false := by
          unfold neverB; rw [List.any_eq_false]; intro x hx; rw [(hN x hx).2.2.1]; decide
        rw [hnv, hA]
        cases hh : allS l with
        | nil => exact absurd hh hne
        | cons a t => rfl
      have e : ansD (d + 1) left vals l = ansD (d + 1) left vals (allS l) := by
        show stepD (ansD d) left vals l = stepD (ansD d) left vals (allS l)
        unfold stepD
        rw [hW, hA, h0]
      rw [e]
      exact sys_sure (n := 3) (c := 0) (by omega) d 0 2 left vals (allS l) (Nat.le_refl _) (sys_three hnd hN hq) (by omega) (by show 12 ≤ left; omega) (by show _ + 12 ≤ 240; omega)
  · refine noeq fun x hx => ?_
    have h0 := List.countP_eq_zero.1 (Nat.le_zero.1 (Nat.le_trans hc1 hM)) x hx
    simpa using h0
  · rcases unitOf_cases (allS l) 0 with ⟨hu, hnone⟩ | ⟨q, x, v, hu, hx, hux, _⟩
    · refine noeq fun x hx => ?_
      obtain ⟨j, hj⟩ := List.getElem?_of_mem hx
      cases he : x.eq with
      | false => rfl
      | true =>
        obtain ⟨s, h1, _⟩ := (hN x hx).unit hBB he
        rw [hnone j x hj] at h1; cases h1
    · have hxm := List.mem_of_getElem? hx
      have he : x.eq = true := by
        unfold unitX at hux
        by_cases h : x.eq = true
        · exact h
        · rw [if_neg h] at hux; cases hux
      obtain ⟨s, h1, h2, h3, h4, h5, h6⟩ := (hN x hxm).unit hBB he
      rw [hux] at h1; cases h1
      simp only [Int.natCast_zero, Nat.zero_add] at hu
      show Sure (stepD (ansD d) left vals l)
      unfold stepD
      rw [if_neg (by omega), if_neg (by omega), hu]
      show Sure (unitD (ansD d) left vals (allS l) q s.v)
      unfold unitD
      rw [if_neg (by omega), Int.toNat_natCast, hx]
      simp only [Option.getD_some]
      rw [h2, h3]
      have hes : ∀ y ∈ (allS l).eraseIdx q, (swapX s.v (-x.t.c) s.b y).2.2 = 0 ∧ E3 (2 * B) (swapC s.v (-x.t.c) s.b y) := fun y hy => ((hN y (List.mem_of_mem_eraseIdx hy)).1).swap hBB s ⟨h5, h6⟩ h4
      have hE0 : swapE ((allS l).eraseIdx q) s.v (-x.t.c) s.b = 0 := by
        unfold swapE
        have hr : rightB ((allS l).eraseIdx q) s.v = true := by
          unfold rightB
          rw [List.all_eq_true.2 fun y hy => ((hN y (List.mem_of_mem_eraseIdx hy)).1).ok (by omega)]
          cases s <;> rfl
        have ho : okT (-x.t.c) s.b = true := okT_spec.2 ⟨by omega, by omega, by cases s <;> decide, by cases s <;> rfl⟩
        have ha : ((allS l).eraseIdx q).any (fun x_1 => decide ((swapX s.v (-x.t.c) s.b x_1).2.2 ≠ 0)) = false := by
          rw [List.any_eq_false]; intro y hy; rw [(hes y hy).1]; decide
        rw [if_neg (by rw [hr, ho]; simp), ha]; rfl
      have hcm : (swapL ((allS l).eraseIdx q) s.v (-x.t.c) s.b).countP (fun x => x.eq) ≤ M := by
        have h1 := erase_count (p := fun x : Cons => x.eq) hx he
        unfold swapL
        rw [List.countP_map]
        have e : ((fun x : Cons => x.eq) ∘ swapC s.v (-x.t.c) s.b) = fun x : Cons => x.eq := rfl
        rw [e]; omega
      have hll : (swapL ((allS l).eraseIdx q) s.v (-x.t.c) s.b).length ≤ l.length := by
        unfold swapL; rw [List.length_map]
        have := List.length_eraseIdx_le (allS l) q
        omega
      obtain ⟨d', rfl⟩ : ∃ d', d = d' + 1 := ⟨d - 1, by omega⟩
      have hrec := ih d' (left - 1) (2 * B) vals (swapL ((allS l).eraseIdx q) s.v (-x.t.c) s.b) (fun y hy => by
          obtain ⟨z, hz, rfl⟩ := List.mem_map.1 hy
          exact (hes z hz).2) hcm (by
          have e : (2 : Int) * B * ((2 ^ M : Nat) : Int) = B * ((2 ^ (M + 1) : Nat) : Int) := by rw [Nat.pow_succ, Int.natCast_mul, Int.mul_comm 2 B, Int.mul_assoc, Int.mul_comm (2 : Int)]; rfl
          rw [e]; exact hB) (by omega) (by omega) (by omega) (by omega)
      unfold swapD
      rw [if_neg (by omega)]
      by_cases h22 : (ansD (d' + 1) (left - 1) vals (swapL ((allS l).eraseIdx q) s.v (-x.t.c) s.b)).1 = 2
      · rw [if_pos h22]; exact .inr rfl
      · rw [if_neg h22]; exact hrec
def sameC : Cons := ⟨⟨0, [⟨0, 1⟩, ⟨2, -1⟩]⟩, true⟩
def tooC : Cons := ⟨⟨0, [⟨1, 1⟩, ⟨2, -1⟩]⟩, true⟩
def told0 (a : Int) : Cons := ⟨⟨-a, [⟨0, 1⟩]⟩, true⟩
def told1 (b : Int) : Cons := ⟨⟨-b, [⟨1, 1⟩]⟩, true⟩
theorem E3.good {B : Int} {x : Cons} (hB : B ≤ 274877906944) (h : E3 B x) : goodX 3 x := by
  refine ⟨h.ok hB, fun w hw => ?_⟩
  obtain ⟨k, h1, _⟩ := h
  rw [h1] at hw
  have key : ∀ (l : List Mono), (∀ m ∈ l, m.v < 3) → kOf l w ≠ 0 → w < 3 := by
    intro l
    induction l with
    | nil => intro _ h; exact absurd rfl h
    | cons m l ih =>
      intro hl h
      rw [kOf] at h
      by_cases e : m.v = w
      · have := hl m List.mem_cons_self; omega
      · rw [if_neg e] at h
        exact ih (fun q hq => hl q (List.mem_cons_of_mem _ hq)) h
  refine key k.l ?_ hw
  cases k <;> simp [Kd.l]
theorem e3_same : E3 4294967296 sameC := ⟨.v0, rfl, by decide, by decide, fun _ _ => rfl, fun h => (nomatch h)⟩
theorem e3_too : E3 4294967296 tooC := ⟨.v1, rfl, by decide, by decide, fun _ _ => rfl, fun h => (nomatch h)⟩
theorem e3_told0 {a : Int} (ha : -2147483648 < a ∧ a < 2147483648) : E3 4294967296 (told0 a) := ⟨.p0, rfl, by show -4294967296 ≤ -a; omega, by show -a ≤ 4294967296; omega, fun _ h => by simp at h, fun h => (nomatch h)⟩
theorem e3_told1 {a : Int} (ha : -2147483648 < a ∧ a < 2147483648) : E3 4294967296 (told1 a) := ⟨.p1, rfl, by show -4294967296 ≤ -a; omega, by show -a ≤ 4294967296; omega, fun _ h => by simp at h, fun h => (nomatch h)⟩
theorem e3_box : ∀ x ∈ boxL 3, E3 4294967296 x := by
  intro x hx
  simp only [boxL, boxX, List.nil_append, List.cons_append, List.mem_cons, List.not_mem_nil, or_false] at hx
  rcases hx with rfl | rfl | rfl | rfl | rfl | rfl
  · exact ⟨.p0, rfl, by decide, by decide, fun h => (nomatch h), fun _ => .inr (.inl ⟨.inl rfl, rfl⟩)⟩
  · exact ⟨.m0, rfl, by decide, by decide, fun h => (nomatch h), fun _ => .inr (.inr ⟨.inl rfl, rfl⟩)⟩
  · exact ⟨.p1, rfl, by decide, by decide, fun h => (nomatch h), fun _ => .inr (.inl ⟨.inr (.inl rfl), rfl⟩)⟩
  · exact ⟨.m1, rfl, by decide, by decide, fun h => (nomatch h), fun _ => .inr (.inr ⟨.inr (.inl rfl), rfl⟩)⟩
  · exact ⟨.p2, rfl, by decide, by decide, fun h => (nomatch h), fun _ => .inr (.inl ⟨.inr (.inr rfl), rfl⟩)⟩
  · exact ⟨.m2, rfl, by decide, by decide, fun h => (nomatch h), fun _ => .inr (.inr ⟨.inr (.inr rfl), rfl⟩)⟩
theorem three_sure {l : List Cons} (h : ∀ x ∈ l, E3 4294967296 x) (hl : l.length ≤ 4) : Sure (solveA 3 l 100) := by
  refine eq_sure 4 100 100 4294967296 _ _ (fun x hx => (List.mem_append.1 hx).elim (h x) (e3_box x)) ?_ (by decide) (by decide) (by omega) (by omega) ?_
  · rw [List.countP_append]
    have h1 : l.countP (fun x => x.eq) ≤ l.length := List.countP_le_length
    have h2 : (boxL 3).countP (fun x => x.eq) = 0 := by decide
    omega
  · rw [List.length_append, boxL_len]; omega
theorem three_good {l : List Cons} (h : ∀ x ∈ l, E3 4294967296 x) (hl : l.length ≤ 4) : good 3 l := ⟨by omega, fun x hx => (h x hx).good (by decide)⟩
theorem hold_same (r : List Int) : holdX r sameC ↔ valOf r 0 = valOf r 2 := by
  unfold holdX
  rw [if_pos (show sameC.eq = true from rfl), ← val_eq (e3_same.ok (by decide)) r]
  show 0 + (1 * valOf r 0 + (-1 * valOf r 2 + 0)) = 0 ↔ _
  omega
theorem hold_too (r : List Int) : holdX r tooC ↔ valOf r 1 = valOf r 2 := by
  unfold holdX
  rw [if_pos (show tooC.eq = true from rfl), ← val_eq (e3_too.ok (by decide)) r]
  show 0 + (1 * valOf r 1 + (-1 * valOf r 2 + 0)) = 0 ↔ _
  omega
theorem hold_told0 {a : Int} (r : List Int) : holdX r (told0 a) ↔ valOf r 0 = a := by
  unfold holdX
  rw [if_pos (show (told0 a).eq = true from rfl)]
  show valF (-a) (kOf [⟨0, 1⟩]) r = 0 ↔ _
  rw [valF_one _ _ (by omega)]; omega
theorem hold_told1 {a : Int} (r : List Int) : holdX r (told1 a) ↔ valOf r 1 = a := by
  unfold holdX
  rw [if_pos (show (told1 a).eq = true from rfl)]
  show valF (-a) (kOf [⟨1, 1⟩]) r = 0 ↔ _
  rw [valF_one _ _ (by omega)]; omega
theorem mem_l1 {a : Int} (ha : -2147483648 < a ∧ a < 2147483648) : ∀ x ∈ [sameC, tooC, told0 a], E3 4294967296 x := by
  intro x hx
  simp only [List.mem_cons, List.not_mem_nil, or_false] at hx
  rcases hx with rfl | rfl | rfl
  · exact e3_same
  · exact e3_too
  · exact e3_told0 ha
theorem mem_l2 {a b : Int} (ha : -2147483648 < a ∧ a < 2147483648) (hb : -2147483648 < b ∧ b < 2147483648) : ∀ x ∈ [sameC, told0 a, tooC, told1 b], E3 4294967296 x := by
  intro x hx
  simp only [List.mem_cons, List.not_mem_nil, or_false] at hx
  rcases hx with rfl | rfl | rfl | rfl
  · exact e3_same
  · exact e3_told0 ha
  · exact e3_too
  · exact e3_told1 hb
theorem equal_one {a : Int} (ha : -2147483648 < a ∧ a < 2147483648) : (solveA 3 [sameC, tooC, told0 a] 100).1 = 2 ∧ (solveA 3 [sameC, tooC, told0 a] 100).2.2 = [a, a, a] := by
  have hg := three_good (mem_l1 ha) (by simp)
  have h : (solveA 3 [sameC, tooC, told0 a] 100).1 = 2 := by
    rcases three_sure (mem_l1 ha) (by simp) with h | h
    · refine absurd h (solveA_unsat (r := [a, a, a]) (by omega) (by simp) hg (by simp [in32, outB]; omega) fun x hx => ?_)
      simp only [List.mem_cons, List.not_mem_nil, or_false] at hx
      rcases hx with rfl | rfl | rfl
      · exact (hold_same _).2 rfl
      · exact (hold_too _).2 rfl
      · exact (hold_told0 _).2 rfl
    · exact h
  refine ⟨h, ?_⟩
  obtain ⟨a1, _, a3⟩ := solveA_sat (by omega) (by simp) hg h
  have q1 := (hold_same _).1 (a3 _ (by simp))
  have q2 := (hold_too _).1 (a3 _ (by simp))
  have q3 := (hold_told0 _).1 (a3 (told0 a) (by simp))
  generalize (solveA 3 [sameC, tooC, told0 a] 100).2.2 = r at a1 q1 q2 q3
  match r, a1 with
  | [x, y, z], _ =>
    have e0 : valOf [x, y, z] 0 = x := rfl
    have e1 : valOf [x, y, z] 1 = y := rfl
    have e2 : valOf [x, y, z] 2 = z := rfl
    rw [e0, e2] at q1; rw [e1, e2] at q2; rw [e0] at q3
    subst q3; subst q1; subst q2; rfl
theorem equal_two {a b : Int} (ha : -2147483648 < a ∧ a < 2147483648) (hb : -2147483648 < b ∧ b < 2147483648) :
    ((solveA 3 [sameC, told0 a, tooC, told1 b] 100).1 = 2 ∧ a = b) ∨ ((solveA 3 [sameC, told0 a, tooC, told1 b] 100).1 = 1 ∧ a ≠ b) := by
  have hg := three_good (mem_l2 ha hb) (by simp)
  rcases three_sure (mem_l2 ha hb) (by simp) with h | h
  · refine .inr ⟨h, ?_⟩
    rintro rfl
    refine solveA_unsat (r := [a, a, a]) (by omega) (by simp) hg (by simp [in32, outB]; omega) (fun x hx => ?_) h
    simp only [List.mem_cons, List.not_mem_nil, or_false] at hx
    rcases hx with rfl | rfl | rfl | rfl
    · exact (hold_same _).2 rfl
    · exact (hold_told0 _).2 rfl
    · exact (hold_too _).2 rfl
    · exact (hold_told1 _).2 rfl
  · refine .inl ⟨h, ?_⟩
    obtain ⟨_, _, a3⟩ := solveA_sat (by omega) (by simp) hg h
    have q1 := (hold_same _).1 (a3 _ (by simp))
    have q2 := (hold_too _).1 (a3 _ (by simp))
    have q3 := (hold_told0 _).1 (a3 (told0 a) (by simp))
    have q4 := (hold_told1 _).1 (a3 (told1 b) (by simp))
    omega
end Go.Proofs.Ythdlkpmhjbaplaa.Dx
namespace Go.Proofs.Ythdlkpmhjbaplaa.Dx
open Go
open Nat renaming reduceAdd → rdA, reduceMul → rdM, reduceLeDiff → rdL, reduceLT → rdT, reduceEqDiff → rdE
open Int renaming reduceNegSucc → rdN
attribute [local irreducible] wCall wLoop
attribute [local go_sem] decide_true decide_false Bool.and_true Bool.true_and Bool.and_self Bool.false_and Bool.and_false vMs vCs vIs Slots At Tr.get_z Tr.get_l Tr.get_r Tr.get_e Tr.set_z_e Tr.set_z_n Tr.set_l_e Tr.set_l_n Tr.set_r_e Tr.set_r_n eOs_n eOs_c eDs_n eDs_c ekOs ekDs ekPut ekBack ekSeq_n ekSeq_x ekSeq_r ekBlk_n ekBlk_x ekBlk_r eO_mk eO_gd eO_loc eO_locb eD_mk eD_loc eD_locb eD_gd eDr eC_skip eC_reg eC_drw eC_seq eC_cond eC_block eC_loop eC_exit eC_ret eRetW_n eRetW_r wk wkL eRet_n eRet_r ekLd_n ekLd_x ekLd_r ekLp_n ekLp_x ekLp_r wI wBin wBd vev vov vovs vplace vouter ofDV ofDVs vcells spl vfills vput vuse vuseP vback vbackP wOf vbare isVarV vkeep hget hset hdels hdel hkeys live vw vwL keysV keysL pureV pureL vsrc veqs vmx vmn vT cT vC cC VOb.cells vres vrsL vrs1 vone List.length_cons List.length_nil List.getElem?_cons_zero List.getElem?_cons_succ List.take_succ_cons List.take_zero List.drop_succ_cons List.drop_zero List.drop_nil List.take_nil List.nil_append List.cons_append List.append_nil Option.some.injEq Nat.zero_add Nat.add_zero if_true if_false ite_true ite_false true_and and_true false_and and_false true_implies implies_true false_implies Bool.true_eq_false Bool.false_eq_true Bool.not_true Bool.not_false eq_self_iff_true Int.toNat_natCast Int.ofNat_eq_natCast Int.ofNat_zero Int.ofNat_one Int.cast_ofNat_Int VV.int.injEq VV.bool.injEq cond_true cond_false
set_option maxHeartbeats 4000000 in
theorem Equal2_ok (a b : Int) : VPure FT p11 [.int .i64 a, .int .i64 b] (.bool true) := by
  refine FSem.view (fsem_of_csem (f := p11) (R := fun r' _ h' => vw h' r' = some (.bool true)) rfl rfl ?_)
  obtain ⟨c, hc⟩ : ∃ c, c = a.tmod 2147483648 := ⟨_, rfl⟩
  obtain ⟨d, hd⟩ : ∃ d, d = b.tmod 2147483648 := ⟨_, rfl⟩
  have hcb := modB a (m := 2147483648) (by omega)
  have hdb := modB b (m := 2147483648) (by omega)
  rw [← hc] at hcb
  rw [← hd] at hdb
  have z1 : ((2147483648 : Int) = 0) = False := by simp
  have w1 : IntKind.i64.wrap (-c) = -c := i64 (by omega)
  have w2 : IntKind.i64.wrap (-d) = -d := i64 (by omega)
  have hW := wakesS_ok
  have hS1 := Solve_ok 3 [sameC, tooC, told0 c] 100 (by omega) (by omega) (by simp) (three_good (mem_l1 hcb) (by simp))
  have hS2 := Solve_ok 3 [sameC, told0 c, tooC, told1 d] 100 (by omega) (by omega) (by simp) (three_good (mem_l2 hcb hdb) (by simp))
  obtain ⟨c1, c2⟩ := equal_one hcb
  have c3 := equal_two hcb hdb
  unfold solveV modelL at hS1 hS2
  rw [c1, if_pos rfl, c2] at hS1
  generalize (solveA 3 [sameC, tooC, told0 c] 100).2.1 = L1 at hS1
  generalize solveA 3 [sameC, told0 c, tooC, told1 d] 100 = A at hS2 c3
  obtain ⟨a2, l2, r2⟩ := A
  simp only at hS2 c3
  have hS1 : VPure FT p45 [.int .i64 3, .fz 3 none 3 [.int .i64 0, .fz 2 none 2 [.int .i64 0, .int .i64 1, .int .i64 2, .int .i64 (-1)], .bool true, .int .i64 0, .fz 2 none 2 [.int .i64 1, .int .i64 1, .int .i64 2, .int .i64 (-1)], .bool true, .int .i64 (-c), .fz 1 none 2 [.int .i64 0, .int .i64 1], .bool true], .int .i64 100]
    (.tup [.int .i64 2, .fz 3 none 1 [.int .i64 c, .int .i64 c, .int .i64 c], .int .i64 L1, .int .i64 0]) := hS1
  have hS2 : VPure FT p45 [.int .i64 3, .fz 4 none 3 [.int .i64 0, .fz 2 none 2 [.int .i64 0, .int .i64 1, .int .i64 2, .int .i64 (-1)], .bool true, .int .i64 (-c), .fz 1 none 2 [.int .i64 0, .int .i64 1], .bool true, .int .i64 0, .fz 2 none 2 [.int .i64 1, .int .i64 1, .int .i64 2, .int .i64 (-1)], .bool true, .int .i64 (-d), .fz 1 none 2 [.int .i64 1, .int .i64 1], .bool true], .int .i64 100]
    (.tup [.int .i64 a2, vIs (if a2 = 2 then r2 else []), .int .i64 l2, .int .i64 0]) := hS2
  generalize hM : (if a2 = 2 then r2 else []) = M2 at hS2
  have hI : VPure FT p47 [.fz 3 none 1 [.int .i64 c, .int .i64 c, .int .i64 c], .fz 3 none 1 [.int .i64 c, .int .i64 c, .int .i64 c]] (.bool true) := by
    have := Ints_ok [c, c, c] [c, c, c] (by simp) (by simp)
    rw [decide_eq_true rfl] at this
    exact this
  have hL1 := Line_is 0 1 (-c)
  have hL2 := Line_is 1 1 (-d)
  have x22 : decide ((2 : Int) = 2) = true := rfl
  have x12 : decide ((1 : Int) = 2) = false := rfl
  have x11 : decide ((1 : Int) = 1) = true := rfl
  have x00 : decide ((0 : Int) = 0) = true := rfl
  have u1 : (true == true) = true := rfl
  have u2 : (false == false) = true := rfl
  have u4 : (false != true) = true := rfl
  have u5 : (false != false) = false := rfl
  refine CSem.seqR (fun s' => s' = ?s1) ?a1 ?b1
  case a1 => simp (implicitDefEqProofs := false) only [go_sem, reduceCtorEq, rdA, rdM, rdL, rdT, rdE, rdN, ↓gTT, ↓gFF, ↓gTF, ↓gFT]; exact rfl
  case b1 =>
  rintro _ rfl
  refine CSem.seqR (fun s' => s' = ?s2) ?a2 ?b2
  case a2 => simp (implicitDefEqProofs := false) only [← hc, ← hd, z1, w1, w2, not_false_eq_true, ne_eq, go_sem, reduceCtorEq, rdA, rdM, rdL, rdT, rdE, rdN, ↓gTT, ↓gFF, ↓gTF, ↓gFT]; exact rfl
  case b2 =>
  rintro _ rfl
  refine CSem.seqR (fun s' => s' = ?s3) ?a3 ?b3
  case a3 => simp (implicitDefEqProofs := false) only [go_sem, reduceCtorEq, rdA, rdM, rdL, rdT, rdE, rdN, ↓gTT, ↓gFF, ↓gTF, ↓gFT]; exact rfl
  case b3 =>
  rintro _ rfl
  refine CSem.seqR (fun s' => s' = ?s4) ?a4 ?b4
  case a4 => simp (implicitDefEqProofs := false) only [go_sem, reduceCtorEq, rdA, rdM, rdL, rdT, rdE, rdN, ↓gTT, ↓gFF, ↓gTF, ↓gFT]; exact rfl
  case b4 =>
  rintro _ rfl
  refine CSem.frzV p5 1 (by simp (implicitDefEqProofs := false) only [go_sem, reduceCtorEq, rdA, rdM, rdL, rdT, rdE, rdN, ↓gTT, ↓gFF, ↓gTF, ↓gFT]; rfl) (by rfl) (by simp (implicitDefEqProofs := false) only [go_sem, reduceCtorEq, rdA, rdM, rdL, rdT, rdE, rdN, ↓gTT, ↓gFF, ↓gTF, ↓gFT]; rfl) ?_
  refine CSem.frzV p6 1 (by simp (implicitDefEqProofs := false) only [go_sem, reduceCtorEq, rdA, rdM, rdL, rdT, rdE, rdN, ↓gTT, ↓gFF, ↓gTF, ↓gFT]; rfl) (by rfl) (by simp (implicitDefEqProofs := false) only [go_sem, reduceCtorEq, rdA, rdM, rdL, rdT, rdE, rdN, ↓gTT, ↓gFF, ↓gTF, ↓gFT]; rfl) ?_
  refine wC_sound ?_
  simp (implicitDefEqProofs := false) only [w1, w2, go_sem, reduceCtorEq, rdA, rdM, rdL, rdT, rdE, rdN, ↓gTT, ↓gFF, ↓gTF, ↓gFT]
  rcases c3 with ⟨rfl, rfl⟩ | ⟨rfl, q⟩
  · have e1 : decide (c = c) = true := decide_eq_true rfl
    repeat' (first | (with_reducible refine And.intro ?_ ?_) | (with_reducible refine gs_t ?_ ?_) | (with_reducible refine gs_f ?_ ?_) | (intro _) | ((with_reducible apply wCall_any); (· (simp (implicitDefEqProofs := false) only [go_sem, reduceCtorEq, rdA, rdM, rdL, rdT, rdE, rdN, ↓gTT, ↓gFF, ↓gTF, ↓gFT] <;> rfl)); (· (first | exact hS1 | exact hS2 | exact hL1 | exact hL2 | exact hI | exact hW)); (· rfl); (· rfl); (· (first | exact Eq.refl true | exact Eq.refl false)); (simp (implicitDefEqProofs := false) only [w1, w2, x22, x12, x11, x00, u1, u2, u4, u5, eRetK_r, e1, vIs, Nat.mul_one, Bool.not_true, Bool.not_false, go_sem, reduceCtorEq, rdA, rdM, rdL, rdT, rdE, rdN, ↓gTT, ↓gFF, ↓gTF, ↓gFT])) | fail)
    all_goals (try omega)
  · have e1 : decide (c = d) = false := decide_eq_false q
    repeat' (first | (with_reducible refine And.intro ?_ ?_) | (with_reducible refine gs_t ?_ ?_) | (with_reducible refine gs_f ?_ ?_) | (intro _) | ((with_reducible apply wCall_any); (· (simp (implicitDefEqProofs := false) only [go_sem, reduceCtorEq, rdA, rdM, rdL, rdT, rdE, rdN, ↓gTT, ↓gFF, ↓gTF, ↓gFT] <;> rfl)); (· (first | exact hS1 | exact hS2 | exact hL1 | exact hL2 | exact hI | exact hW)); (· rfl); (· rfl); (· (first | exact Eq.refl true | exact Eq.refl false)); (simp (implicitDefEqProofs := false) only [w1, w2, x22, x12, x11, x00, u1, u2, u4, u5, eRetK_r, e1, vIs, Nat.mul_one, Bool.not_true, Bool.not_false, go_sem, reduceCtorEq, rdA, rdM, rdL, rdT, rdE, rdN, ↓gTT, ↓gFF, ↓gTF, ↓gFT])) | fail)
    all_goals (try omega)
end Go.Proofs.Ythdlkpmhjbaplaa.Dx
namespace Go.Proofs.Ythdlkpmhjbaplaa.Dx
open Go
inductive Img where | dead | at (b s c : Nat) | ro (b s : Nat)
abbrev J := P → Option Img
def capR (cp : Option Nat) (n cap : Nat) : Prop := n ≤ cap ∧ ∀ c, cp = some c → cap = c
def offR (cp : Option Nat) (n s o off : Nat) : Prop := (0 < n ∨ ∃ c, cp = some c ∧ 0 < c) → off = s + o
mutual
inductive VR (j : J) : DV → Value → Prop
  | unk (v : Value) : VR j .unk v
  | bool (b : Bool) : VR j (.bool b) (.bool b)
  | int (k : IntKind) (n : Int) : VR j (.int k n) (.int k n)
  | nilp : VR j .nilp (.pointer none)
  | ptrA {k : P} {o b s c : Nat} (h : j k = some (.at b s c)) : VR j (.ptr k o) (.pointer (some ⟨b, s + o, none⟩))
  | ptrO {k : P} {o b s : Nat} (h : j k = some (.ro b s)) : VR j (.ptr k o) (.pointer (some ⟨b, s + o, none⟩))
  | ptrD {k : P} {o : Nat} (a : Addr) (h : j k = some .dead) : VR j (.ptr k o) (.pointer (some a))
  | nils : VR j .nils (.slice none 0 0)
  | slA {k : P} {o n : Nat} {cp : Option Nat} {sz b s c off cap : Nat} (h : j k = some (.at b s c)) (ho : offR cp n s o off) (hc : capR cp n cap) (hs : s ≤ off) (he : off + cap * sz ≤ c) :
      VR j (.sl k o n cp sz) (.slice (some ⟨b, off, none⟩) n cap)
  | slO {k : P} {o n : Nat} {cp : Option Nat} {sz b s off cap : Nat} (h : j k = some (.ro b s)) (ho : offR cp n s o off) (hc : capR cp n cap) :
      VR j (.sl k o n cp sz) (.slice (some ⟨b, off, none⟩) n cap)
  | slD {k : P} {o n : Nat} {cp : Option Nat} {sz cap : Nat} (a : Addr) (h : j k = some .dead) (hc : capR cp n cap) : VR j (.sl k o n cp sz) (.slice (some a) n cap)
  | slE {k : P} {o : Nat} {cp : Option Nat} {sz cap b s : Nat} (a : Addr) (h : j k = some (.ro b s)) (hc : capR cp 0 cap) (h0 : ∀ c, cp = some c → c = 0) : VR j (.sl k o 0 cp sz) (.slice (some a) 0 cap)
  | fn {f : P} {cs : List DV} {cs' : List Value} (h : VRt j cs cs') : VR j (.fn f cs) (.func (.func f.n) #[] cs'.toArray)
  | nilf : VR j .nilf .nilFunc
  | ifc {t : Nat} {v : DV} {v' : Value} (h : VR j v v') : VR j (.ifc t v) (.iface t v')
  | nili : VR j .nili .nilIface
  | agg {l : List DV} {l' : List Value} (h : VRs j l l') : VR j (.agg l) (.agg l'.toArray)
  | tup {l : List DV} {l' : List Value} (h : VRt j l l') : VR j (.tup l) (.tuple l'.toArray)
  | nilm : VR j .nilm (.map none)
inductive VRs (j : J) : List DV → List Value → Prop
  | nil : VRs j [] []
  | cons {v : DV} {v' : Value} {l : List DV} {l' : List Value} (h : VR j v v') (h1 : v'.oneCell' = true) (t : VRs j l l') : VRs j (v :: l) (v' :: l')
inductive VRt (j : J) : List DV → List Value → Prop
  | nil : VRt j [] []
  | cons {v : DV} {v' : Value} {l : List DV} {l' : List Value} (h : VR j v v') (t : VRt j l l') : VRt j (v :: l) (v' :: l')
end
def Ext (j j' : J) : Prop := ∀ k i, j k = some i → j' k = some i ∨ j' k = some .dead
mutual
theorem VR.mono {j j' : J} (hj : Ext j j') : ∀ {v : DV} {v' : Value}, VR j v v' → VR j' v v'
  | _, _, .unk v => .unk v
  | _, _, .bool b => .bool b
  | _, _, .int k n => .int k n
  | _, _, .nilp => .nilp
  | _, _, .ptrA h => (hj _ _ h).elim .ptrA (.ptrD _)
  | _, _, .ptrO h => (hj _ _ h).elim .ptrO (.ptrD _)
  | _, _, .ptrD a h => (hj _ _ h).elim (.ptrD a) (.ptrD a)
  | _, _, .nils => .nils
  | _, _, .slA h ho hc hs he => (hj _ _ h).elim (fun h => .slA h ho hc hs he) (fun h => .slD _ h hc)
  | _, _, .slO h ho hc => (hj _ _ h).elim (fun h => .slO h ho hc) (fun h => .slD _ h hc)
  | _, _, .slD a h hc => (hj _ _ h).elim (fun h => .slD a h hc) (fun h => .slD a h hc)
  | _, _, .slE a h hc h0 => (hj _ _ h).elim (fun h => .slE a h hc h0) (fun h => .slD a h hc)
  | _, _, .fn h => .fn (VRt.mono hj h)
  | _, _, .nilf => .nilf
  | _, _, .ifc h => .ifc (VR.mono hj h)
  | _, _, .nili => .nili
  | _, _, .agg h => .agg (VRs.mono hj h)
  | _, _, .tup h => .tup (VRt.mono hj h)
  | _, _, .nilm => .nilm
theorem VRs.mono {j j' : J} (hj : Ext j j') : ∀ {l : List DV} {l' : List Value}, VRs j l l' → VRs j' l l'
  | _, _, .nil => .nil
  | _, _, .cons h h1 t => .cons (VR.mono hj h) h1 (VRs.mono hj t)
theorem VRt.mono {j j' : J} (hj : Ext j j') : ∀ {l : List DV} {l' : List Value}, VRt j l l' → VRt j' l l'
  | _, _, .nil => .nil
  | _, _, .cons h t => .cons (VR.mono hj h) (VRt.mono hj t)
end
theorem VRs.length {j : J} : ∀ {l : List DV} {l' : List Value}, VRs j l l' → l.length = l'.length
  | _, _, .nil => rfl
  | _, _, .cons _ _ t => by simp [VRs.length t]
theorem VRt.length {j : J} : ∀ {l : List DV} {l' : List Value}, VRt j l l' → l.length = l'.length
  | _, _, .nil => rfl
  | _, _, .cons _ t => by simp [VRt.length t]
theorem VRs.get {j : J} : ∀ {l : List DV} {l' : List Value}, VRs j l l' → ∀ (i : Nat) (v : DV), l[i]? = some v → ∃ v', l'[i]? = some v' ∧ VR j v v' ∧ v'.oneCell' = true
  | _, _, .nil, i, v, h => by simp at h
  | _, _, .cons hv h1 t, i, v, h => by
    cases i with
    | zero => simp at h; subst h; exact ⟨_, rfl, hv, h1⟩
    | succ i => simpa using VRs.get t i v (by simpa using h)
theorem VRt.get {j : J} : ∀ {l : List DV} {l' : List Value}, VRt j l l' → ∀ (i : Nat) (v : DV), l[i]? = some v → ∃ v', l'[i]? = some v' ∧ VR j v v'
  | _, _, .nil, i, v, h => by simp at h
  | _, _, .cons hv t, i, v, h => by
    cases i with
    | zero => simp at h; subst h; exact ⟨_, rfl, hv⟩
    | succ i => simpa using VRt.get t i v (by simpa using h)
theorem VRs.of_get {j : J} : ∀ {l : List DV} {l' : List Value}, l.length = l'.length → (∀ (i : Nat) (v : DV), l[i]? = some v → ∃ v', l'[i]? = some v' ∧ VR j v v' ∧ v'.oneCell' = true) → VRs j l l'
  | [], [], _, _ => .nil
  | [], _ :: _, h, _ => by simp at h
  | _ :: _, [], h, _ => by simp at h
  | v :: l, v' :: l', hl, h => by
    obtain ⟨w, hw, hr, h1⟩ := h 0 v rfl
    simp at hw; subst hw
    exact .cons hr h1 (VRs.of_get (by simpa using hl) fun i u hu => by simpa using h (i + 1) u (by simpa using hu))
theorem VRs.append {j : J} : ∀ {l : List DV} {l' : List Value} {m : List DV} {m' : List Value}, VRs j l l' → VRs j m m' → VRs j (l ++ m) (l' ++ m')
  | _, _, _, _, .nil, h => h
  | _, _, _, _, .cons hv h1 t, h => .cons hv h1 (VRs.append t h)
theorem VRt.append {j : J} : ∀ {l : List DV} {l' : List Value} {m : List DV} {m' : List Value}, VRt j l l' → VRt j m m' → VRt j (l ++ m) (l' ++ m')
  | _, _, _, _, .nil, h => h
  | _, _, _, _, .cons hv t, h => .cons hv (VRt.append t h)
theorem VRs.take {j : J} : ∀ {l : List DV} {l' : List Value} (n : Nat), VRs j l l' → VRs j (l.take n) (l'.take n)
  | _, _, 0, _ => by simpa using VRs.nil
  | _, _, n + 1, .nil => by simpa using VRs.nil
  | _, _, n + 1, .cons hv h1 t => by simpa using VRs.cons hv h1 (VRs.take n t)
theorem VRs.drop {j : J} : ∀ {l : List DV} {l' : List Value} (n : Nat), VRs j l l' → VRs j (l.drop n) (l'.drop n)
  | _, _, 0, h => by simpa using h
  | _, _, n + 1, .nil => by simpa using VRs.nil
  | _, _, n + 1, .cons _ _ t => by simpa using VRs.drop n t
theorem VRs.ones {j : J} : ∀ {l : List DV} {l' : List Value}, VRs j l l' → ∀ v ∈ l', v.oneCell' = true
  | _, _, .nil, v, h => by simp at h
  | _, _, .cons _ h1 t, v, h => by
    rcases List.mem_cons.1 h with rfl | h
    · exact h1
    · exact VRs.ones t v h
theorem VR.cells {j : J} {v : DV} {v' : Value} {l : List DV} (h : VR j v v') (hl : v.cells = some l) : VRs j l v'.cells.toList := by
  cases h <;> simp only [DV.cells, Option.some.injEq, reduceCtorEq] at hl <;> subst hl
  case agg l' h => exact h
  case fn cs cs' f h => exact .cons (.fn h) rfl .nil
  case ifc t v v' h => exact .cons (.ifc h) rfl .nil
  all_goals first
    | exact .cons (.bool _) rfl .nil
    | exact .cons (.int _ _) rfl .nil
    | exact .cons .nilp rfl .nil
    | exact .cons (.ptrA ‹_›) rfl .nil
    | exact .cons (.ptrO ‹_›) rfl .nil
    | exact .cons (.ptrD _ ‹_›) rfl .nil
    | exact .cons .nils rfl .nil
    | exact .cons (.slA ‹_› ‹_› ‹_› ‹_› ‹_›) rfl .nil
    | exact .cons (.slO ‹_› ‹_› ‹_›) rfl .nil
    | exact .cons (.slD _ ‹_› ‹_›) rfl .nil
    | exact .cons (.slE _ ‹_› ‹_› ‹_›) rfl .nil
    | exact .cons .nilf rfl .nil
    | exact .cons .nili rfl .nil
    | exact .cons .nilm rfl .nil
def CellsAt (j : J) (w : World) (b s : Nat) (l : List DV) : Prop := ∀ i v, l[i]? = some v → ∃ v', w.cell? ⟨b, s + i, none⟩ = some v' ∧ VR j v v' ∧ v'.oneCell' = true
theorem CellsAt.mono {j j' : J} {w : World} {b s : Nat} {l : List DV} (hj : Ext j j') (h : CellsAt j w b s l) : CellsAt j' w b s l :=
  fun i v hv => let ⟨v', a, r, o⟩ := h i v hv; ⟨v', a, r.mono hj, o⟩
theorem CellsAt.of_heap {j : J} {w w' : World} {b s : Nat} {l : List DV} (h : CellsAt j w b s l) (hb : w'.heap[b]? = w.heap[b]?) : CellsAt j w' b s l :=
  fun i v hv => let ⟨v', a, r, o⟩ := h i v hv; ⟨v', by unfold World.cell? at a ⊢; rw [hb]; exact a, r, o⟩
structure Lies (w : World) (b s c : Nat) : Prop where
  lt : b < w.heap.size
  cell : ∀ i, i < c → (w.cell? ⟨b, i, none⟩).isSome = true
  free : ∀ i, s ≤ i → i < c → w.frozen? ⟨b, i, none⟩ = false
def HR (j : J) (h : Hp) (w : World) (k : P) : Img → Prop
  | .dead => Tr.get? k h = some .dead
  | .at b s c => Lies w b s c ∧ ∃ l, Tr.get? k h = some (.cells l) ∧ s + l.length ≤ c ∧ CellsAt j w b s l
  | .ro b s => ∃ l, Tr.get? k h = some (.ro l) ∧ b < w.heap.size ∧ CellsAt j w b s l
def XD (j : J) (pv : P → Option Nat) (v : DV) (v' : Value) : Prop :=
  match v with
  | .var _ => False
  | .fld q o => ∃ b, pv q = some b ∧ v' = .pointer (some ⟨b, o, none⟩)
  | v => VR j v v'
def ER (j : J) (pv : P → Option Nat) (w : World) (tm : Array Value) (p : P) (v : DV) : Prop :=
  match v with
  | .var l => ∃ b, pv p = some b ∧ tm.getD p.n undef = .pointer (some ⟨b, 0, none⟩) ∧ Lies w b 0 l.length ∧ CellsAt j w b 0 l
  | v => XD j pv v (tm.getD p.n undef)
structure Rel (L : P → Prop) (N hi : Nat) (j : J) (pv : P → Option Nat) (e : Env) (nx : P) (h : Hp) (a : Act) (w : World) : Prop where
  fresh : ∀ k i, j k = some i → k.n < nx.n ∨ hi ≤ k.n
  heap : ∀ k i, j k = some i → k.n < nx.n → HR j h w k i
  inj : ∀ k k' b s c s' c', j k = some (.at b s c) → j k' = some (.at b s' c') → k = k'
  inr : ∀ k k' b s c s', j k = some (.at b s c) → j k' = some (.ro b s') → False
  env : ∀ p v, Tr.get? p e = some v → ER j pv w a.tmps p v
  pvv : ∀ p b, pv p = some b → ∃ l, Tr.get? p e = some (.var l)
  pin : ∀ p q b, pv p = some b → pv q = some b → p = q
  pfr : ∀ p b, pv p = some b → ∀ k s c, j k ≠ some (.at b s c)
  pfo : ∀ p b, pv p = some b → ∀ k s, j k ≠ some (.ro b s)
  loc : ∀ p l, Tr.get? p e = some (.var l) → L p
  size : a.tmps.size = N
  lt : ∀ k b s c, j k = some (.at b s c) → b < w.heap.size
  lr : ∀ k b s, j k = some (.ro b s) → b < w.heap.size
  top : ∀ k, nx.n ≤ k.n → Tr.get? k h = none
structure Fr (hi n : Nat) (j : J) (pv : P → Option Nat) (w : World) (j' : J) (pv' : P → Option Nat) (w' : World) : Prop where
  size : w.heap.size ≤ w'.heap.size
  os : w'.os = w.os
  output : w'.output = w.output
  same : ∀ x, x < w.heap.size → (∀ k s c, j k = some (.at x s c) → hi ≤ k.n) → (∀ p, pv p ≠ some x) → w'.heap[x]? = w.heap[x]?
  ext : Ext j j'
  old : ∀ k, hi ≤ k.n → j' k = j k
  more : ∀ k, j k = none → j' k ≠ none → n ≤ k.n
  new : ∀ k x s c, j' k = some (.at x s c) → k.n < hi → (∃ k0 s0 c0, j k0 = some (.at x s0 c0) ∧ k0.n < hi) ∨ w.heap.size ≤ x
  ro : ∀ k x s, j' k = some (.ro x s) → j k = some (.ro x s)
  pnew : ∀ p x, pv' p = some x → pv p = some x ∨ w.heap.size ≤ x
  froz : ∀ ad : Addr, ad.block < w.heap.size → w'.frozen? ad = w.frozen? ad
theorem Ext.refl (j : J) : Ext j j := fun _ _ h => .inl h
theorem Ext.trans {j j' j'' : J} (h : Ext j j') (h' : Ext j' j'') : Ext j j'' := fun k i hk => by
  rcases h k i hk with h1 | h1
  · exact h' k i h1
  · exact .inr ((h' k _ h1).elim id id)
theorem Fr.refl (hi n : Nat) (j : J) (pv : P → Option Nat) (w : World) : Fr hi n j pv w j pv w where
  size := Nat.le_refl _
  os := rfl
  output := rfl
  same := fun _ _ _ _ => rfl
  ext := Ext.refl j
  old := fun _ _ => rfl
  more := fun _ h h' => absurd h h'
  new := fun k _ s c h hk => .inl ⟨k, s, c, h, hk⟩
  ro := fun _ _ _ h => h
  pnew := fun _ _ h => .inl h
  froz := fun _ _ => rfl
theorem Fr.trans {hi n n' : Nat} {j j' j'' : J} {pv pv' pv'' : P → Option Nat} {w w' w'' : World} (h : Fr hi n j pv w j' pv' w') (h' : Fr hi n' j' pv' w' j'' pv'' w'') (hn : n ≤ n') :
    Fr hi n j pv w j'' pv'' w'' where
  size := Nat.le_trans h.size h'.size
  os := h'.os.trans h.os
  output := h'.output.trans h.output
  same := fun x hx hj hp => by
    rw [h'.same x (Nat.lt_of_lt_of_le hx h.size) ?_ ?_]
    · exact h.same x hx hj hp
    · intro k s c hk
      rcases Nat.lt_or_ge k.n hi with hlt | hge
      · rcases h.new k x s c hk hlt with ⟨k0, s0, c0, h0, hk0⟩ | h0
        · have := hj _ _ _ h0; omega
        · omega
      · exact hge
    · intro p hp'
      rcases h.pnew p x hp' with h0 | h0
      · exact hp _ h0
      · omega
  ext := h.ext.trans h'.ext
  old := fun k hk => (h'.old k hk).trans (h.old k hk)
  more := fun k hk hk' => by
    by_cases h0 : j' k = none
    · exact Nat.le_trans hn (h'.more k h0 hk')
    · exact h.more k hk h0
  new := fun k x s c hk hlt => by
    rcases h'.new k x s c hk hlt with ⟨k0, s0, c0, h0, hk0⟩ | h0
    · exact h.new k0 x s0 c0 h0 hk0
    · exact .inr (Nat.le_trans h.size h0)
  ro := fun k x s hk => h.ro k x s (h'.ro k x s hk)
  pnew := fun p x hp => by
    rcases h'.pnew p x hp with h0 | h0
    · exact h.pnew p x h0
    · exact .inr (Nat.le_trans h.size h0)
  froz := fun ad hl => (h'.froz ad (Nat.lt_of_lt_of_le hl h.size)).trans (h.froz ad hl)
mutual
def okCode : DV → Value → Bool
  | .unk, _ => true
  | .bool b, .bool b' => b == b'
  | .int k n, .int k' n' => sameK k k' && ieq n n'
  | .nilp, .pointer none => true
  | .nils, .slice none l c => Nat.beq l 0 && Nat.beq c 0
  | .nilf, .nilFunc => true
  | .nili, .nilIface => true
  | .nilm, .map none => true
  | .fn f [], .func (.func g) ⟨[]⟩ ⟨[]⟩ => Nat.beq f.n g
  | .agg l, .agg cs => okCs l cs.toList
  | _, _ => false
def okCs : List DV → List Value → Bool
  | [], [] => true
  | v :: l, v' :: l' => okCode v v' && v'.oneCell' && okCs l l'
  | _, _ => false
end
theorem okCs_step (j : J) {v : DV} {l : List DV} (hv : ∀ v', okCode v v' = true → VR j v v') (hl : ∀ l', okCs l l' = true → VRs j l l') : ∀ l', okCs (v :: l) l' = true → VRs j (v :: l) l' := by
  intro l' h
  cases l' with
  | nil => simp [okCs] at h
  | cons v' l' =>
    simp only [okCs, Bool.and_eq_true] at h
    exact .cons (hv v' h.1.1) h.1.2 (hl l' h.2)
theorem okCs_nil (j : J) : ∀ l', okCs [] l' = true → VRs j [] l' := by
  intro l' h
  cases l' with
  | nil => exact .nil
  | cons v' l' => simp [okCs] at h
theorem okC_sound (j : J) (v : DV) : ∀ v', okCode v v' = true → VR j v v' := by
  refine DV.rec (motive_1 := fun v => ∀ v', okCode v v' = true → VR j v v') (motive_2 := fun l => ∀ l', okCs l l' = true → VRs j l l') ?_ ?_ ?_ ?_ ?_ ?_ ?_ ?_ ?_ ?_ ?_ ?_ ?_ ?_ ?_ ?_ ?_ ?_ ?_ ?_ v
  case refine_1 => intro v' _; exact .unk _
  case refine_2 => intro b v' h; cases v' <;> simp [okCode] at h; subst h; exact .bool _
  case refine_3 =>
    intro k n v' h
    cases v' <;> simp only [okCode, Bool.and_eq_true, Bool.false_eq_true] at h
    rename_i k' n'
    obtain ⟨h1, h2⟩ := h
    rw [ieq_eq, decide_eq_true_eq] at h2
    rw [sameK_eq h1, h2]; exact .int _ _
  case refine_4 => intro n c v' h; cases v' <;> simp [okCode] at h
  case refine_5 => intro v' h; cases v' <;> try (simp [okCode] at h; done)
                   rename_i a; cases a <;> simp [okCode] at h; exact .nilp
  case refine_6 => intro k o v' h; cases v' <;> simp [okCode] at h
  case refine_7 => intro v' h; cases v' <;> try (simp [okCode] at h; done)
                   rename_i a l c; cases a <;> simp [okCode] at h; obtain ⟨rfl, rfl⟩ := h; exact .nils
  case refine_8 => intro k o n c sz v' h; cases v' <;> simp [okCode] at h
  case refine_9 =>
    intro f cs _ v' h
    cases cs with
    | cons _ _ => cases v' <;> simp [okCode] at h
    | nil =>
      cases v' <;> try (simp [okCode] at h; done)
      rename_i g a b
      cases g <;> try (simp [okCode] at h; done)
      rename_i g
      obtain ⟨a⟩ := a; obtain ⟨b⟩ := b
      cases a <;> cases b <;> simp [okCode] at h
      subst h
      exact VR.fn (cs := []) (cs' := []) .nil
  case refine_10 => intro v' h; cases v' <;> simp [okCode] at h; exact .nilf
  case refine_11 => intro t v _ v' h; cases v' <;> simp [okCode] at h
  case refine_12 => intro v' h; cases v' <;> simp [okCode] at h; exact .nili
  case refine_13 =>
    intro l ih v' h
    cases v' <;> try (simp [okCode] at h; done)
    rename_i cs
    exact VR.agg (l' := cs.toList) (ih cs.toList (by simpa [okCode] using h))
  case refine_14 => intro l _ v' h; cases v' <;> simp [okCode] at h
  case refine_15 => intro k v' h; cases v' <;> simp [okCode] at h
  case refine_16 => intro v' h; cases v' <;> try (simp [okCode] at h; done)
                    rename_i a; cases a <;> simp [okCode] at h; exact .nilm
  case refine_17 => intro l _ v' h; cases v' <;> simp [okCode] at h
  case refine_18 => intro p o v' h; cases v' <;> simp [okCode] at h
  case refine_19 => exact okCs_nil j
  case refine_20 => intro v l hv hl; exact okCs_step j hv hl
theorem okCs_sound (j : J) : ∀ (l : List DV) (l' : List Value), okCs l l' = true → VRs j l l'
  | [], l', h => okCs_nil j l' h
  | v :: l, l', h => okCs_step j (okC_sound j v) (okCs_sound j l) l' h
def chkOpd : Opd → Operand → Bool
  | .t p, .tmp t => Nat.beq p.n t
  | .c d, .const v => okCode d v
  | .c (.fn f []), .func g => Nat.beq f.n g
  | .c .unk, .global _ => true
  | _, _ => false
def chkOpds : List Opd → List Operand → Bool
  | [], [] => true
  | d :: l, x :: l' => chkOpd d x && chkOpds l l'
  | _, _ => false
theorem XD.of_VR {j : J} {pv : P → Option Nat} {v : DV} {v' : Value} (h : VR j v v') : XD j pv v v' := by
  cases v <;> first | exact h | (cases h)
def Reads (j : J) (pv : P → Option Nat) (e : Env) (ρ : Operand → Value) : Prop := ∀ d x, chkOpd d x = true → XD j pv (ev d e) (ρ x)
theorem reads_of {j : J} {pv : P → Option Nat} {e : Env} {a : Act} {w : World} (henv : ∀ p v, Tr.get? p e = some v → ER j pv w a.tmps p v) : Reads j pv e a.eval := by
  intro d x hc
  cases d with
  | t p =>
    cases x <;> simp only [chkOpd, Nat.beq_eq, Bool.false_eq_true] at hc
    subst hc
    show XD j pv (evT p e) (a.tmps.getD p.n undef)
    unfold evT
    cases hg : Tr.get? p e with
    | none => exact VR.unk _
    | some v =>
      have hr := henv p v hg
      show XD j pv (place v p) _
      rw [place_eq]
      cases v <;> try exact hr
      case var l =>
        obtain ⟨b, hb, ht, _⟩ := hr
        exact ⟨b, hb, ht⟩
  | c v =>
    cases x with
    | const v' => exact XD.of_VR (okC_sound j v v' (by simpa [chkOpd] using hc))
    | tmp t => simp [chkOpd] at hc
    | global g =>
      cases v <;> simp [chkOpd] at hc
      exact VR.unk _
    | func g =>
      cases v <;> simp [chkOpd] at hc
      rename_i f cs
      cases cs <;> simp [chkOpd] at hc
      subst hc
      exact VR.fn (cs := []) (cs' := []) .nil
theorem Rel.reads {L : P → Prop} {N hi : Nat} {j : J} {pv : P → Option Nat} {e : Env} {nx : P} {h : Hp} {a : Act} {w : World} (R : Rel L N hi j pv e nx h a w) : Reads j pv e a.eval := reads_of R.env
theorem XD.outer {j : J} {pv : P → Option Nat} {v : DV} {v' : Value} (h : XD j pv v v') : VR j (outer v ()) v' := by
  rw [outer_eq]
  cases v <;> first | exact h | exact VR.unk _
theorem Reads.ov {j : J} {pv : P → Option Nat} {e : Env} {ρ : Operand → Value} (h : Reads j pv e ρ) {d : Opd} {x : Operand} (hc : chkOpd d x = true) : VR j (ov d e) (ρ x) := (h d x hc).outer
theorem Reads.ovs {j : J} {pv : P → Option Nat} {e : Env} {ρ : Operand → Value} (h : Reads j pv e ρ) : ∀ (l : List Opd) (l' : List Operand), chkOpds l l' = true → VRt j (l.map fun o => Dx.ov o e) (l'.map ρ)
  | [], [], _ => .nil
  | d :: l, x :: l', hc => by
    simp only [chkOpds, Bool.and_eq_true] at hc
    exact .cons (h.ov hc.1) (h.ovs l l' hc.2)
  | [], _ :: _, hc => by simp [chkOpds] at hc
  | _ :: _, [], hc => by simp [chkOpds] at hc
section
variable {j : J} {pv : P → Option Nat} {v' : Value}
theorem XD.bool {b : Bool} (h : XD j pv (.bool b) v') : v' = .bool b := by cases (h : VR j _ _); rfl
theorem XD.int {k : IntKind} {n : Int} (h : XD j pv (.int k n) v') : v' = .int k n := by cases (h : VR j _ _); rfl
theorem XD.agg {l : List DV} (h : XD j pv (.agg l) v') : ∃ l' : List Value, v' = .agg l'.toArray ∧ VRs j l l' := by cases (h : VR j _ _); exact ⟨_, rfl, ‹_›⟩
theorem XD.tup {l : List DV} (h : XD j pv (.tup l) v') : ∃ l' : List Value, v' = .tuple l'.toArray ∧ VRt j l l' := by cases (h : VR j _ _); exact ⟨_, rfl, ‹_›⟩
theorem XD.fn {f : P} {l : List DV} (h : XD j pv (.fn f l) v') : ∃ l' : List Value, v' = .func (.func f.n) #[] l'.toArray ∧ VRt j l l' := by cases (h : VR j _ _); exact ⟨_, rfl, ‹_›⟩
theorem XD.ptr {k : P} {o : Nat} (h : XD j pv (.ptr k o) v') : ∃ a, v' = .pointer (some a) := by cases (h : VR j _ _) <;> exact ⟨_, rfl⟩
theorem XD.sl {k : P} {o n : Nat} {cp : Option Nat} {sz : Nat} (h : XD j pv (.sl k o n cp sz) v') : ∃ a cap, v' = .slice (some a) n cap ∧ capR cp n cap := by
  cases (h : VR j _ _) <;> exact ⟨_, _, rfl, ‹_›⟩
theorem XD.nils (h : XD j pv .nils v') : v' = .slice none 0 0 := by cases (h : VR j _ _); rfl
end
def binV (b : Bo) (j : IntKind) (x y : Int) : Option DV :=
  match b with
  | .add => some (.int j (j.wrap (x + y))) | .sub => some (.int j (j.wrap (x - y))) | .mul => some (.int j (j.wrap (x * y)))
  | .quo => if y = 0 then none else some (.int j (j.wrap (x.tdiv y)))
  | .rem => if y = 0 then none else some (.int j (x.tmod y))
  | .eq => some (.bool (decide (x = y))) | .ne => some (.bool (!decide (x = y))) | .lt => some (.bool (decide (x < y)))
  | .le => some (.bool (!decide (y < x))) | .gt => some (.bool (decide (y < x))) | .ge => some (.bool (!decide (x < y)))
theorem binK_eq (b : Bo) (j : IntKind) (x y : Int) (K : DV → Res) : binK b j x y K = match binV b j x y with | some v => K v | none => .fail := by
  have hq : ∀ A B : Res, (Bool.rec (motive := fun _ => Res) A B (ieq y (.ofNat (nat_lit 0)))) = if y = 0 then B else A := by
    intro A B
    have : ieq y (.ofNat (nat_lit 0)) = decide (y = 0) := ieq_eq y 0
    rw [this]
    by_cases h : y = 0
    · rw [if_pos h, decide_eq_true h]
    · rw [if_neg h, decide_eq_false h]
  cases b
  case add => show mkI _ _ _ = _; rw [mkI_eq, iadd_eq]; rfl
  case sub => show mkI _ _ _ = _; rw [mkI_eq, iadd_eq, ineg_eq]; rfl
  case mul => show mkI _ _ _ = _; rw [mkI_eq, imul_eq]; rfl
  case quo =>
    show Bool.rec (motive := fun _ => Res) (mkI j (idiv x y) K) .fail _ = _
    rw [hq, mkI_eq, idiv_eq]; simp only [binV]; split <;> rfl
  case rem =>
    show Bool.rec (motive := fun _ => Res) (mkI2 j (imod x y) K) .fail _ = _
    rw [hq]; unfold mkI2; rw [forceI_eq, imod_eq]; simp only [binV]; split <;> rfl
  case eq => show bl _ _ = _; rw [bl_eq, ieq_eq]; rfl
  case ne => show blN _ _ = _; rw [blN_eq, ieq_eq]; rfl
  case lt => show bl _ _ = _; rw [bl_eq, ilt_eq]; rfl
  case le => show blN _ _ = _; rw [blN_eq, ilt_eq]; rfl
  case gt => show bl _ _ = _; rw [bl_eq, ilt_eq]; rfl
  case ge => show blN _ _ = _; rw [blN_eq, ilt_eq]; rfl
def eq1V : Bool → DV → DV → Option Bool
  | false, .int k x, .int j y => if sameK k j then some (decide (x = y)) else none
  | true, .bool a, .bool b => some (a == b)
  | _, _, _ => none
theorem eq1_eq (k : Bool) (v w : DV) (F : Res) (K : Bool → Res) : eq1 k v w F K = match eq1V k v w with | some b => K b | none => F := by
  cases k with
  | true =>
    show asB v F (fun a => asB w F fun b => K (beqB a b)) = _
    rw [asB_eq]
    cases v <;> try rfl
    case bool a =>
      show asB w F (fun b => K (beqB a b)) = _
      rw [asB_eq]
      cases w <;> try rfl
      case bool b => cases a <;> cases b <;> rfl
  | false =>
    show asI v F (fun k x => asI w F fun j y => Bool.rec (motive := fun _ => Res) F (K (ieq x y)) (sameK k j)) = _
    rw [asI_eq]
    cases v <;> try rfl
    case int k x =>
      show asI w F (fun j y => Bool.rec (motive := fun _ => Res) F (K (ieq x y)) (sameK k j)) = _
      rw [asI_eq]
      cases w <;> try rfl
      case int j y =>
        show Bool.rec (motive := fun _ => Res) F (K (ieq x y)) (sameK k j) = _
        simp only [eq1V, ieq_eq]
        cases sameK k j <;> rfl
def eqsV : List Bool → List DV → List DV → Option Bool
  | [], [], [] => some true
  | k :: ks, v :: l, w :: m => match eq1V k v w with
    | some true => eqsV ks l m
    | some false => some false
    | none => none
  | _, _, _ => none
theorem eqsK_eq (ks : List Bool) : ∀ (l m : List DV) (F : Res) (K : Bool → Res), eqsK ks l m F K = match eqsV ks l m with | some b => K b | none => F := by
  induction ks with
  | nil => intro l m F K; cases l <;> cases m <;> rfl
  | cons k ks ih => intro l m F K; cases l with
    | nil => rfl
    | cons v l => cases m with
      | nil => rfl
      | cons w m =>
        show eq1 k v w F (fun b => Bool.rec (motive := fun _ => Res) (K false) (eqsK ks l m F K) b) = _
        rw [eq1_eq]; simp only [eqsV, ih]
        cases eq1V k v w with
        | none => rfl
        | some b => cases b <;> rfl
def nilV : DV → Option Bool
  | .nils => some true | .sl _ _ _ _ _ => some false | _ => none
def bdV (o : Option Opd) (d : Nat) (e : Env) (y : Nat) : Option Nat :=
  match o with
  | none => some d
  | some o => match ev o e with | .int _ x => if 0 ≤ x ∧ x.toNat ≤ y then some x.toNat else none | _ => none
theorem ble_if {α : Type} (a b : Nat) (A B : α) : (if Nat.ble a b = true then A else B) = if a ≤ b then A else B := by
  by_cases h : a ≤ b
  · rw [if_pos h, if_pos (Nat.ble_eq.mpr h)]
  · rw [if_neg h, if_neg (fun h' => h (Nat.ble_eq.mp h'))]
theorem bd_eq (o : Option Opd) (d : Nat) (e : Env) (y : Nat) (K : Nat → Res) : bd o d e y K = match bdV o d e y with | some n => K n | none => .fail := by
  cases o with
  | none => rfl
  | some o =>
    show asI (ev o e) .fail (fun _ x => natI x fun i => chk (Nat.ble i y) fun _ => K i) = _
    rw [asI_eq]; simp only [bdV]
    cases ev o e <;> try rfl
    case int k x =>
      show natI x (fun i => chk (Nat.ble i y) fun _ => K i) = _
      rw [natI_eq, chk_eq, ble_if]
      by_cases h1 : 0 ≤ x
      · by_cases h2 : x.toNat ≤ y
        · rw [if_pos h1, if_pos h2]; simp only [if_pos (And.intro h1 h2)]
        · rw [if_pos h1, if_neg h2]; simp only [if_neg (fun h : 0 ≤ x ∧ x.toNat ≤ y => h2 h.2)]
      · rw [if_neg h1]; simp only [if_neg (fun h : 0 ≤ x ∧ x.toNat ≤ y => h1 h.1)]
def slaV (sz : Nat) (x : DV) (lo hi mx : Option Opd) (e : Env) : Option DV :=
  match x with
  | .sl b o n cp s =>
    if s = sz then
      match mx with
      | none => match bdV hi n e (capOf cp n) with
        | some h => match bdV lo 0 e h with
          | some l => some (.sl b (o + l * sz) (h - l) (match cp with | none => none | some c => some (c - l)) sz)
          | none => none
        | none => none
      | some m => match bdV (some m) 0 e (capOf cp n) with
        | some m => match bdV hi n e m with
          | some h => if h ≤ m then match bdV lo 0 e h with
            | some l => some (.sl b (o + l * sz) (h - l) (some (m - l)) sz)
            | none => none else none
          | none => none
        | none => none
    else none
  | .nils => match bdV hi 0 e 0 with
    | some _ => match bdV lo 0 e 0 with
      | some _ => match bdV mx 0 e 0 with
        | some _ => some .nils
        | none => none
      | none => none
    | none => none
  | _ => none
theorem beq_if {α : Type} (a b : Nat) (A B : α) : (if Nat.beq a b = true then A else B) = if a = b then A else B := by
  by_cases h : a = b
  · rw [if_pos h, if_pos (Nat.beq_eq.mpr h)]
  · rw [if_neg h, if_neg (fun h' => h (Nat.beq_eq.mp h'))]
theorem slEnd_eq (e : Env) (nx : P) (h : Hp) (k : Kv) (b : P) (o sz l hi : Nat) (c : Option Nat) : slEnd e nx h k b o sz l hi c = k e (.sl b (o + l * sz) (hi - l) c sz) nx h := by
  unfold slEnd; rw [forceN_eq, forceN_eq]; rfl
theorem iSla_eq (sz : Nat) (x : Opd) (lo hi mx : Option Opd) (F : Tr Fd) (ih : Ih) (wm : Option P) (e : Env) (nx : P) (h : Hp) (k : Kv) :
    iSla sz x lo hi mx F ih wm e nx h k = match slaV sz (ev x e) lo hi mx e with | some v => k e v nx h | none => .fail := by
  show asSl (ev x e) _ (slSl sz lo hi mx e nx h k) = _
  rw [asSl_eq, nilsK_eq]
  cases hx : ev x e <;> simp only [slaV] <;> try rfl
  case nils =>
    show bd hi (nat_lit 0) e (nat_lit 0) (fun _ => bd lo (nat_lit 0) e (nat_lit 0) fun _ => bd mx (nat_lit 0) e (nat_lit 0) fun _ => evK x e fun v => k e v nx h) = _
    rw [bd_eq]
    show (match bdV hi 0 e 0 with | some _ => _ | none => _) = _
    cases bdV hi 0 e 0 with
    | none => rfl
    | some a =>
      show bd lo (nat_lit 0) e (nat_lit 0) (fun _ => bd mx (nat_lit 0) e (nat_lit 0) fun _ => evK x e fun v => k e v nx h) = _
      rw [bd_eq]
      show (match bdV lo 0 e 0 with | some _ => _ | none => _) = _
      cases bdV lo 0 e 0 with
      | none => rfl
      | some a =>
        show bd mx (nat_lit 0) e (nat_lit 0) (fun _ => evK x e fun v => k e v nx h) = _
        rw [bd_eq]
        show (match bdV mx 0 e 0 with | some _ => _ | none => _) = _
        cases bdV mx 0 e 0 with
        | none => rfl
        | some a => show evK x e (fun v => k e v nx h) = _; rw [evK_eq, hx]
  case sl b o n cp s =>
    show slSl sz lo hi mx e nx h k b o n cp s = _
    unfold slSl
    rw [chk_eq, beq_if]
    by_cases hs : s = sz
    · rw [if_pos hs, if_pos hs]
      cases mx with
      | none =>
        show bd hi n e (capOf cp n) (fun hi => bd lo (nat_lit 0) e hi fun l => Option.rec (motive := fun _ => Res) (slEnd e nx h k b o sz l hi none) (fun c => forceN (Nat.sub c l) fun c => slEnd e nx h k b o sz l hi (some c)) cp) = _
        rw [bd_eq]
        cases h1 : bdV hi n e (capOf cp n) with
        | none => rfl
        | some hh =>
          simp only []
          rw [bd_eq, show bdV lo (nat_lit 0) e hh = bdV lo 0 e hh from rfl]
          cases h2 : bdV lo 0 e hh with
          | none => simp only [h2]
          | some l =>
            simp only [h2]
            cases cp with
            | none => exact slEnd_eq _ _ _ _ _ _ _ _ _ _
            | some c => show forceN (Nat.sub c l) _ = _; rw [forceN_eq, slEnd_eq]; rfl
      | some m =>
        show bd (some m) (nat_lit 0) e (capOf cp n) (fun m => bd hi n e m fun hi => chk (Nat.ble hi m) fun _ => bd lo (nat_lit 0) e hi fun l => forceN (Nat.sub m l) fun c => slEnd e nx h k b o sz l hi (some c)) = _
        rw [bd_eq, show bdV (some m) (nat_lit 0) e (capOf cp n) = bdV (some m) 0 e (capOf cp n) from rfl]
        cases h0 : bdV (some m) 0 e (capOf cp n) with
        | none => simp only [h0]
        | some mm =>
          simp only [h0]
          rw [bd_eq]
          cases h1 : bdV hi n e mm with
          | none => simp only [h1]
          | some hh =>
            simp only [h1]
            rw [chk_eq, ble_if]
            by_cases hm : hh ≤ mm
            · simp only [if_pos hm]
              rw [bd_eq, show bdV lo (nat_lit 0) e hh = bdV lo 0 e hh from rfl]
              cases h2 : bdV lo 0 e hh with
              | none => simp only [h2]
              | some l => simp only [h2]; rw [forceN_eq, slEnd_eq]; rfl
            · simp only [if_neg hm]
    · rw [if_neg hs, if_neg hs]
def lenV : DV → Option Nat
  | .sl _ _ n _ _ => some n
  | .nils => some 0
  | _ => none
def capV : DV → Option Nat
  | .sl _ _ _ (some c) _ => some c
  | .nils => some 0
  | _ => none
def foldV (f : Int → Int → Bool) (e : Env) : List Opd → IntKind → Int → Option (IntKind × Int)
  | [], k, x => some (k, x)
  | o :: l, k, x => match ev o e with
    | .int j y => if sameK k j then foldV f e l k (if f x y then y else x) else none
    | _ => none
def solidV : DV → Option DV
  | .unk => none | .nilp => none | .nilf => none | .nili => none | .var _ => none | v => some v
def iaV (sz : Nat) : DV → DV → Option DV
  | .sl b o n _ s, .int _ x => if s = sz ∧ 0 ≤ x ∧ x.toNat < n then some (.ptr b (o + x.toNat * sz)) else none
  | _, _ => none
def faV (o : Nat) : DV → Option DV
  | .ptr b i => some (.ptr b (i + o)) | .fld p i => some (.fld p (i + o)) | _ => none
def fiV (o : Nat) : DV → Option DV
  | .agg l => l[o]? | _ => none
def fiaV (o n : Nat) : DV → Option DV
  | .agg l => if o ≤ l.length ∧ n ≤ (l.drop o).length then some (.agg ((l.drop o).take n)) else none | _ => none
def exV (i : Nat) : DV → Option DV
  | .tup l => l[i]? | _ => none
def pureDV (i : Ins) (e : Env) : Option DV :=
  match i with
  | .mv a => some (ev a e)
  | .pick c a b => match ev c e with | .bool t => some (if t then ev a e else ev b e) | _ => none
  | .bld z ps => (fills e ps z).map .agg
  | .nc a => solidV (ev a e)
  | .bin b x y => match ev x e, ev y e with | .int j x, .int k y => if sameK j k then binV b j x y else none | _, _ => none
  | .aeq ks neg x y => match ev x e, ev y e with | .agg a, .agg b => (eqsV ks a b).map fun t => .bool (neg != t) | _, _ => none
  | .beq neg x y => match ev x e, ev y e with | .bool a, .bool b => some (.bool (neg != (a == b))) | _, _ => none
  | .isnil neg x => (nilV (ev x e)).map fun t => .bool (neg != t)
  | .neg a => match ev a e with | .int j x => some (.int j (j.wrap (-x))) | _ => none
  | .shr x y => match ev x e, ev y e with | .int j a, .int _ n => if 0 ≤ n ∧ n.toNat ≤ j.bits then some (.int j (a.fdiv (2 ^ n.toNat))) else none | _, _ => none
  | .not a => match ev a e with | .bool b => some (.bool (!b)) | _ => none
  | .cv j a => match ev a e with | .int _ x => some (.int j (j.wrap x)) | _ => none
  | .mfn f cs => some (.fn f (cs.map fun o => ov o e))
  | .fa o a => faV o (ev a e)
  | .fi o a => fiV o (ev a e)
  | .fia o n a => fiaV o n (ev a e)
  | .ia sz a i => iaV sz (ev a e) (ev i e)
  | .sla sz x lo hi mx => slaV sz (ev x e) lo hi mx e
  | .ex a i => exV i (ev a e)
  | .len a => (lenV (ev a e)).map fun (n : Nat) => DV.int .i64 (Int.ofNat n)
  | .cap a => (capV (ev a e)).map fun (n : Nat) => DV.int .i64 (Int.ofNat n)
  | .mx a l => match ev a e with | .int j x => (foldV (fun x y => ilt x y) e l j x).map fun y => .int y.1 y.2 | _ => none
  | .mn a l => match ev a e with | .int j x => (foldV (fun x y => ilt y x) e l j x).map fun y => .int y.1 y.2 | _ => none
  | _ => none
def isPure : Ins → Bool
  | .mv _ | .pick .. | .bld .. | .nc _ | .bin .. | .aeq .. | .beq .. | .isnil .. | .neg _ | .not _ | .cv .. | .mfn .. | .fa .. | .fi .. | .fia .. | .ia .. | .sla .. | .ex .. | .len _ | .cap _ | .mx .. | .mn .. | .shr .. => true
  | _ => false
theorem brec_if (A B : Res) (t : Bool) : (Bool.rec (motive := fun _ => Res) A B t) = if t = true then B else A := by cases t <;> rfl
theorem mxK_eq (e : Env) (l : List Opd) : ∀ (k : IntKind) (x : Int) (K : IntKind → Int → Res), mxK l k x e K = match foldV (fun x y => ilt x y) e l k x with | some y => K y.1 y.2 | none => .fail := by
  induction l with
  | nil => intro k x K; rfl
  | cons o l ih =>
    intro k x K
    show asI (ev o e) .fail (fun j y => chk (sameK k j) fun _ => Bool.rec (motive := fun _ => Res) (mxK l k x e K) (mxK l k y e K) (ilt x y)) = _
    rw [asI_eq]; simp only [foldV]
    cases ev o e <;> try rfl
    case int j y =>
      show chk (sameK k j) (fun _ => Bool.rec (motive := fun _ => Res) (mxK l k x e K) (mxK l k y e K) (ilt x y)) = _
      rw [chk_eq]
      cases hs : sameK k j with
      | false => simp [hs]
      | true =>
        simp only [hs, if_true]
        rw [brec_if]
        by_cases ht : ilt x y = true
        · rw [if_pos ht, if_pos ht]; exact ih k y K
        · rw [if_neg ht, if_neg ht]; exact ih k x K
theorem mnK_eq (e : Env) (l : List Opd) : ∀ (k : IntKind) (x : Int) (K : IntKind → Int → Res), mnK l k x e K = match foldV (fun x y => ilt y x) e l k x with | some y => K y.1 y.2 | none => .fail := by
  induction l with
  | nil => intro k x K; rfl
  | cons o l ih =>
    intro k x K
    show asI (ev o e) .fail (fun j y => chk (sameK k j) fun _ => Bool.rec (motive := fun _ => Res) (mnK l k x e K) (mnK l k y e K) (ilt y x)) = _
    rw [asI_eq]; simp only [foldV]
    cases ev o e <;> try rfl
    case int j y =>
      show chk (sameK k j) (fun _ => Bool.rec (motive := fun _ => Res) (mnK l k x e K) (mnK l k y e K) (ilt y x)) = _
      rw [chk_eq]
      cases hs : sameK k j with
      | false => simp [hs]
      | true =>
        simp only [hs, if_true]
        rw [brec_if]
        by_cases ht : ilt y x = true
        · rw [if_pos ht, if_pos ht]; exact ih k y K
        · rw [if_neg ht, if_neg ht]; exact ih k x K
theorem insK_pure (i : Ins) (hp : isPure i = true) (F : Tr Fd) (ih : Ih) (wm : Option P) (e : Env) (nx : P) (h : Hp) (k : Kv) :
    insK i F ih wm e nx h k = match pureDV i e with | some v => k e v nx h | none => .fail := by
  cases i <;> simp only [isPure, Bool.false_eq_true] at hp <;> simp only [pureDV]
  case mv a => exact evK_eq _ _ _
  case pick c a b =>
    show asB (ev c e) .fail (fun t => Bool.rec (motive := fun _ => Res) (evK b e fun v => k e v nx h) (evK a e fun v => k e v nx h) t) = _
    rw [asB_eq]
    cases ev c e <;> try rfl
    case bool t => cases t <;> exact evK_eq _ _ _
  case bld z ps =>
    show fillK ps z e (fun l => k e (.agg l) nx h) = _
    rw [fillK_eq]; cases fills e ps z <;> rfl
  case nc a => show solid (ev a e) .fail (fun v => k e v nx h) = _; rw [solid_eq]; cases ev a e <;> rfl
  case bin b x y =>
    show asI (ev x e) .fail (fun j x => asI (ev y e) .fail fun k' y => chk (sameK j k') fun _ => binK b j x y fun v => k e v nx h) = _
    rw [asI_eq]
    cases ev x e <;> try rfl
    case int j x =>
      show asI (ev y e) .fail (fun k' y => chk (sameK j k') fun _ => binK b j x y fun v => k e v nx h) = _
      rw [asI_eq]
      cases ev y e <;> try rfl
      case int k' y =>
        show chk (sameK j k') (fun _ => binK b j x y fun v => k e v nx h) = _
        rw [chk_eq, binK_eq]
        simp only []
        by_cases hs : sameK j k' = true
        · simp only [if_pos hs]
        · simp only [if_neg hs]
  case aeq ks neg x y =>
    show asA (ev x e) .fail (fun a => asA (ev y e) .fail fun b => eqsK ks a b .fail fun t => negK neg t fun v => k e v nx h) = _
    rw [asA_eq]
    cases ev x e <;> try rfl
    case agg a =>
      show asA (ev y e) .fail (fun b => eqsK ks a b .fail fun t => negK neg t fun v => k e v nx h) = _
      rw [asA_eq]
      cases ev y e <;> try rfl
      case agg b =>
        show eqsK ks a b .fail (fun t => negK neg t fun v => k e v nx h) = _
        rw [eqsK_eq]
        simp only []
        cases eqsV ks a b with
        | none => rfl
        | some t => exact negK_eq _ _ _
  case beq neg x y =>
    show asB (ev x e) .fail (fun a => asB (ev y e) .fail fun b => negK neg (beqB a b) fun v => k e v nx h) = _
    rw [asB_eq]
    cases ev x e <;> try rfl
    case bool a =>
      show asB (ev y e) .fail (fun b => negK neg (beqB a b) fun v => k e v nx h) = _
      rw [asB_eq]
      cases ev y e <;> try rfl
      case bool b => show negK neg (beqB a b) _ = _; rw [negK_eq]; cases neg <;> cases a <;> cases b <;> rfl
  case isnil neg x =>
    show asSl (ev x e) (nilsK (ev x e) .fail fun _ => negK neg true fun v => k e v nx h) (fun _ _ _ _ _ => negK neg false fun v => k e v nx h) = _
    rw [asSl_eq, nilsK_eq]
    cases ev x e <;> try rfl
    case nils => exact negK_eq _ _ _
    case sl => exact negK_eq _ _ _
  case shr x y =>
    show asI (ev x e) .fail (fun j a => asI (ev y e) .fail fun _ n => natI n (shrN j a fun v => k e v nx h)) = _
    rw [asI_eq]
    cases ev x e <;> try rfl
    case int j a =>
      show asI (ev y e) .fail (fun _ n => natI n (shrN j a fun v => k e v nx h)) = _
      rw [asI_eq]
      cases ev y e <;> try rfl
      case int j' n =>
        simp only [natI_eq]
        by_cases h1 : 0 ≤ n
        · rw [if_pos h1]
          unfold shrN
          rw [chk_eq, bitsK_eq]
          by_cases h2 : n.toNat ≤ j.bits
          · rw [if_pos (by rw [Nat.ble_eq]; exact h2), if_pos ⟨h1, h2⟩, ishr_eq]; exact forceI_eq _ _
          · rw [if_neg (fun h => h2 (by rwa [Nat.ble_eq] at h)), if_neg (fun h => h2 h.2)]
        · rw [if_neg h1, if_neg (fun h => h1 h.1)]
  case neg a =>
    show asI (ev a e) .fail (fun j x => mkI j (ineg x) fun v => k e v nx h) = _
    rw [asI_eq]
    cases ev a e <;> try rfl
    case int j x => show mkI j (ineg x) _ = _; rw [mkI_eq, ineg_eq]
  case not a =>
    show asB (ev a e) .fail (fun b => blN b fun v => k e v nx h) = _
    rw [asB_eq]
    cases ev a e <;> try rfl
    case bool b => exact blN_eq _ _
  case cv j a =>
    show asI (ev a e) .fail (fun _ x => mkI j x fun v => k e v nx h) = _
    rw [asI_eq]
    cases ev a e <;> try rfl
    case int j' x => exact mkI_eq _ _ _
  case mfn f cs => exact ovsK_eq _ _ _
  case fa o a =>
    show asP (ev a e) (asFl (ev a e) .fail fun p i => forceN (Nat.add i o) fun i => k e (.fld p i) nx h) (fun b i => forceN (Nat.add i o) fun i => k e (.ptr b i) nx h) = _
    rw [asP_eq, asFl_eq]
    cases ev a e <;> try rfl
    case ptr => exact forceN_eq _ _
    case fld => exact forceN_eq _ _
  case fi o a =>
    show asA (ev a e) .fail (fun l => nthK l o .fail fun v => fV v fun v => k e v nx h) = _
    rw [asA_eq]
    cases ev a e <;> try rfl
    case agg l => show nthK l o .fail _ = _; rw [nthK_eq]; simp only [fV_eq, fiV]; cases l[o]? <;> rfl
  case fia o n a =>
    show asA (ev a e) .fail (fun l => dropK o l .fail fun t => takeK n t .fail fun r => k e (.agg r) nx h) = _
    rw [asA_eq]
    cases ev a e <;> try rfl
    case agg l =>
      show dropK o l .fail (fun t => takeK n t .fail fun r => k e (.agg r) nx h) = _
      rw [dropK_eq]; simp only [fiaV, takeK_eq]
      by_cases h1 : o ≤ l.length
      · rw [if_pos h1]
        by_cases h2 : n ≤ (l.drop o).length
        · rw [if_pos h2, if_pos ⟨h1, h2⟩]
        · rw [if_neg h2, if_neg (fun h => h2 h.2)]
      · rw [if_neg h1, if_neg (fun h => h1 h.1)]
  case ia sz a i =>
    show asSl (ev a e) .fail (fun b o n _ s => chk (Nat.beq s sz) fun _ => asI (ev i e) .fail fun _ x => natI x (iaAt sz e nx h k b o n)) = _
    rw [asSl_eq]
    cases ev a e <;> try rfl
    case sl b o n c s =>
      show chk (Nat.beq s sz) (fun _ => asI (ev i e) .fail fun _ x => natI x (iaAt sz e nx h k b o n)) = _
      rw [chk_eq, beq_if, asI_eq]
      cases ev i e
      case int k' x =>
        simp only [iaV, natI_eq]
        by_cases h1 : s = sz
        · rw [if_pos h1]
          by_cases h2 : 0 ≤ x
          · rw [if_pos h2]
            unfold iaAt
            rw [chk_eq, ble_if]
            by_cases h3 : x.toNat < n
            · rw [if_pos (show Nat.succ x.toNat ≤ n from h3), forceN_eq, if_pos ⟨h1, h2, h3⟩]; rfl
            · rw [if_neg (show ¬ Nat.succ x.toNat ≤ n from h3), if_neg (fun h => h3 h.2.2)]
          · rw [if_neg h2, if_neg (fun h => h2 h.2.1)]
        · rw [if_neg h1, if_neg (fun h => h1 h.1)]
      all_goals (simp only [iaV]; split <;> rfl)
  case sla sz x lo hi mx => exact iSla_eq sz x lo hi mx F ih wm e nx h k
  case ex a i =>
    show asT (ev a e) .fail (fun l => nthK l i .fail fun v => fV v fun v => k e v nx h) = _
    rw [asT_eq]
    cases ev a e <;> try rfl
    case tup l => show nthK l i .fail _ = _; rw [nthK_eq]; simp only [fV_eq, exV]; cases l[i]? <;> rfl
  case len a =>
    show asSl (ev a e) (nilsK (ev a e) .fail fun _ => lenOf (nat_lit 0) e nx h k) (fun _ _ n _ _ => lenOf n e nx h k) = _
    rw [asSl_eq]
    cases ev a e <;> try rfl
    case sl => exact forceN_eq _ _
  case cap a =>
    show asSl (ev a e) (nilsK (ev a e) .fail fun _ => lenOf (nat_lit 0) e nx h k) (fun _ _ n c _ => Option.rec (motive := fun _ => Res) .fail (fun c => lenOf c e nx h k) c) = _
    rw [asSl_eq]
    cases ev a e <;> try rfl
    case sl b o n c s => cases c <;> first | rfl | exact forceN_eq _ _
  case mx a l =>
    show asI (ev a e) .fail (fun j x => mxK l j x e fun j x => k e (.int j x) nx h) = _
    rw [asI_eq]
    cases ev a e <;> try rfl
    case int j x => show mxK l j x e _ = _; rw [mxK_eq]; simp only []; cases foldV (fun x y => ilt x y) e l j x <;> rfl
  case mn a l =>
    show asI (ev a e) .fail (fun j x => mnK l j x e fun j x => k e (.int j x) nx h) = _
    rw [asI_eq]
    cases ev a e <;> try rfl
    case int j x => show mnK l j x e _ = _; rw [mnK_eq]; simp only []; cases foldV (fun x y => ilt y x) e l j x <;> rfl
def sizeIs (P : Program) (t n : Nat) : Bool := match P.info? t with | some i => Nat.beq i.size n | none => false
theorem sizeIs_spec {P : Program} {t n : Nat} (h : sizeIs P t n = true) : ∃ i, P.info? t = some i ∧ i.size = n := by
  unfold sizeIs at h
  cases hi : P.info? t with
  | none => simp [hi] at h
  | some i => simp only [hi, Nat.beq_eq] at h; exact ⟨i, rfl, h⟩
def aggIs (P : Program) (t : Nat) (b : Bool) : Bool := match P.underlying t with
  | some (.struct _) => b
  | some (.array _ _) => b
  | some _ => !b
  | none => false
theorem aggIs_spec {P : Program} {t : Nat} {b : Bool} (h : aggIs P t b = true) (w : World) : (isAgg t).run P w = .ok b w := by
  unfold aggIs at h
  cases hu : P.underlying t with
  | none => simp [hu] at h
  | some d =>
    unfold isAgg
    rw [Sem.run_bind, run_underlying hu]
    cases d <;> simp [hu] at h <;> subst h <;> rfl
theorem get_foldl_set (off : Nat) : ∀ (l : List Value) (k : Nat) (cells : Array Value) (i : Nat),
    ((l.zipIdx k).foldl (fun cs x => cs.setIfInBounds (off + x.2) x.1) cells)[i]? = if off + k ≤ i ∧ i < off + k + l.length ∧ i < cells.size then l[i - off - k]? else cells[i]?
  | [], k, cells, i => by simp; intro h1 h2; omega
  | v :: l, k, cells, i => by
    simp only [List.zipIdx_cons, List.foldl_cons]
    rw [get_foldl_set off l (k + 1)]
    simp only [Array.size_setIfInBounds, List.length_cons, Array.getElem?_setIfInBounds]
    by_cases h1 : off + (k + 1) ≤ i ∧ i < off + (k + 1) + l.length ∧ i < cells.size
    · rw [if_pos h1, if_pos (by omega), show i - off - k = (i - off - (k + 1)) + 1 by omega]; rfl
    · rw [if_neg h1]
      by_cases h2 : off + k = i
      · subst h2
        by_cases h3 : off + k < cells.size
        · rw [if_pos rfl, if_pos h3, if_pos ⟨Nat.le_refl _, by omega, h3⟩, show off + k - off - k = 0 by omega]; rfl
        · rw [if_pos rfl, if_neg h3, if_neg (fun h => h3 h.2.2), Array.getElem?_eq_none (by omega)]
      · rw [if_neg h2, if_neg (by omega)]
theorem size_foldl_set (off : Nat) : ∀ (l : List (Value × Nat)) (cells : Array Value), (l.foldl (fun cs x => cs.setIfInBounds (off + x.2) x.1) cells).size = cells.size
  | [], _ => rfl
  | x :: l, cells => by simp only [List.foldl_cons]; rw [size_foldl_set off l]; simp
def chkParts (place : Nat → Option (Nat × Nat)) : List (Nat × Nat × Opd) → List (Nat × Operand) → Bool
  | [], [] => true
  | (off, sz, d) :: ps, (i, x) :: qs => (match place i with | some (o, s) => Nat.beq o off && Nat.beq s sz | none => false) && chkOpd d x && chkParts place ps qs
  | _, _ => false
theorem fill_sim {j : J} {pv : P → Option Nat} {e : Env} {ρ : Operand → Value} (hr : Reads j pv e ρ) (place : Nat → Option (Nat × Nat)) :
    ∀ (ps : List (Nat × Nat × Opd)) (qs : List (Nat × Operand)) (z z' : List DV) (cells : Array Value), chkParts place ps qs = true → VRs j z cells.toList → fills e ps z = some z' →
      ∃ cells', Instr.fill place cells (qs.map fun q => (q.1, ρ q.2)) = some cells' ∧ VRs j z' cells'.toList
  | [], [], z, z', cells, _, hz, hf => by simp only [fills, Option.some.injEq] at hf; subst hf; exact ⟨cells, rfl, hz⟩
  | [], _ :: _, _, _, _, hc, _, _ => by simp [chkParts] at hc
  | _ :: _, [], _, _, _, hc, _, _ => by simp [chkParts] at hc
  | (off, sz, d) :: ps, (i, x) :: qs, z, z', cells, hc, hz, hf => by
    simp only [chkParts, Bool.and_eq_true] at hc
    obtain ⟨⟨hp, hd⟩, hrest⟩ := hc
    simp only [fills] at hf
    cases hl : (ov d e).cells with
    | none => simp [hl] at hf
    | some l =>
      simp only [hl] at hf
      by_cases hcond : l.length = sz ∧ off + l.length ≤ z.length
      case neg => simp [if_neg hcond] at hf
      rw [if_pos hcond] at hf
      have hv := (hr.ov hd).cells hl
      cases hpl : place i with
      | none => simp [hpl] at hp
      | some q =>
        obtain ⟨o, s⟩ := q
        simp only [hpl, Bool.and_eq_true, Nat.beq_eq] at hp
        obtain ⟨rfl, rfl⟩ := hp
        have hlen := hv.length
        have hzl := hz.length
        simp only [Array.length_toList] at hlen hzl
        have hnew : VRs j (z.take o ++ l ++ z.drop (o + l.length)) (((ρ x).cells.zipIdx.foldl (fun cs (c, j) => cs.setIfInBounds (o + j) c) cells)).toList := by
          have hfold : ((ρ x).cells.zipIdx.foldl (fun cs (c, j) => cs.setIfInBounds (o + j) c) cells) = ((ρ x).cells.toList.zipIdx 0).foldl (fun cs x => cs.setIfInBounds (o + x.2) x.1) cells := by
            rw [← Array.foldl_toList, Array.toList_zipIdx]
          refine VRs.of_get ?_ ?_
          · rw [hfold]
            show _ = Array.size _
            rw [size_foldl_set]; simp; omega
          · intro i v hi
            rw [hfold, Array.getElem?_toList, get_foldl_set]
            simp only [Nat.add_zero, Nat.sub_zero, Array.length_toList]
            by_cases h1 : i < o
            · rw [if_neg (by omega)]
              rw [List.getElem?_append_left (by simp; omega), List.getElem?_append_left (by simp; omega), List.getElem?_take] at hi
              rw [if_pos h1] at hi
              obtain ⟨v', hv', hh⟩ := hz.get i v hi
              exact ⟨v', by simpa using hv', hh⟩
            · by_cases h2 : i < o + l.length
              · rw [if_pos (by omega)]
                rw [List.getElem?_append_left (by simp; omega), List.getElem?_append_right (by simp; omega)] at hi
                simp only [List.length_take, show min o z.length = o by omega] at hi
                exact hv.get _ v hi
              · rw [if_neg (by omega)]
                rw [List.getElem?_append_right (by simp; omega)] at hi
                simp only [List.length_append, List.length_take, show min o z.length = o by omega, List.getElem?_drop] at hi
                rw [show o + l.length + (i - (o + l.length)) = i by omega] at hi
                obtain ⟨v', hv', hh⟩ := hz.get i v hi
                exact ⟨v', by simpa using hv', hh⟩
        obtain ⟨c', hc', hr'⟩ := fill_sim hr place ps qs _ z' _ hrest hnew hf
        refine ⟨c', ?_, hr'⟩
        simp only [List.map_cons, Instr.fill, hpl]
        rw [if_neg (by simp only [Bool.or_eq_true, decide_eq_true_eq, not_or]; omega)]
        exact hc'
def kindOf (P : Program) (t : Nat) (k : IntKind) : Bool := match P.underlying t with | some (.int j) => sameK j k | _ => false
def boOf : Bo → BinOp
  | .add => .add | .sub => .sub | .mul => .mul | .quo => .quo | .rem => .rem | .eq => .eql | .ne => .neq | .lt => .lss | .le => .leq | .gt => .gtr | .ge => .geq
def sameBo : Bo → BinOp → Bool
  | .add, .add | .sub, .sub | .mul, .mul | .quo, .quo | .rem, .rem | .eq, .eql | .ne, .neq | .lt, .lss | .le, .leq | .gt, .gtr | .ge, .geq => true
  | _, _ => false
theorem sameBo_eq {b : Bo} {o : BinOp} (h : sameBo b o = true) : o = boOf b := by cases b <;> cases o <;> first | rfl | (simp [sameBo] at h)
def chkOO : Option Opd → Option Operand → Bool
  | none, none => true
  | some d, some x => chkOpd d x
  | _, _ => false
def flat1 (P : Program) (t : Nat) (k : Bool) : Bool := match P.underlying t, k with | some .bool, true => true | some (.int _), false => true | _, _ => false
def flatFields (P : Program) : List Field → Nat → List Bool → Bool
  | [], _, [] => true
  | f :: fs, n, k :: ks => !(f.name == "_") && Nat.beq f.offset n && flat1 P f.type k && flatFields P fs (n + 1) ks
  | _, _, _ => false
def flatType (P : Program) (t : Nat) (ks : List Bool) : Bool := match P.underlying t, ks with
  | some (.struct fs), ks => flatFields P fs.toList 0 ks && !P.stoodInHeld t && !P.eqGuardType P.depth t
  | _, _ => false
def placesOf (P : Program) (fs : Array Field) : Option (List (Nat × Nat)) := fs.toList.mapM fun f => (P.info? f.type).map fun i => (f.offset, i.size)
def chkBld (P : Program) (z : List DV) (ps : List (Nat × Nat × Opd)) (t : Nat) (qs : List (Nat × Operand)) : Bool :=
  match P.info? t, P.underlying t with
  | some it, some (.struct fs) => match it.zero, placesOf P fs with
    | some zv, some places => okCs z zv.cells.toList && chkParts (places.toArray[·]?) ps qs
    | _, _ => false
  | some it, some (.array _ e) => match it.zero, P.info? e with
    | some zv, some ie => okCs z zv.cells.toList && chkParts (fun i => some (i * ie.size, ie.size)) ps qs
    | _, _ => false
  | _, _ => false
def chkField (P : Program) (s f o : Nat) (n : Option Nat) : Bool :=
  match P.underlying s with
  | some (.struct fs) => match fs[f]? with
    | some fd => Nat.beq fd.offset o && (match P.info? fd.type with | some i => !Nat.beq i.size 0 && (match n with | none => true | some m => Nat.beq i.size m) | none => false) && aggIs P fd.type n.isSome
    | none => false
  | _ => false
def chkFieldA (P : Program) (s f o : Nat) : Bool :=
  match P.underlying s with
  | some (.struct fs) => match fs[f]? with
    | some fd => Nat.beq fd.offset o && (match P.info? fd.type with | some i => !Nat.beq i.size 0 | none => false)
    | none => false
  | _ => false
def sliceIs (P : Program) (t sz : Nat) : Bool := match P.underlying t with | some (.slice e) => sizeIs P e sz && !Nat.beq sz 0 | _ => false
def isSlice (P : Program) (t : Nat) : Bool := match P.underlying t with | some (.slice _) => true | _ => false
def isNilC : Operand → Bool
  | .const (.slice none _ _) => true
  | _ => false
def chkPure (P : Program) (i : Ins) (o : Go.Op) : Bool :=
  match i, o with
  | .mv d, .move x | .mv d, .assign x => chkOpd d x
  | .pick c a b, .pick x y z => chkOpd c x && chkOpd a y && chkOpd b z
  | .bld z ps, .build t qs => chkBld P z ps t qs.toList
  | .nc d, .nilCheck x => chkOpd d x
  | .bin b d d', .binOp op t x y _ => sameBo b op && chkOpd d x && chkOpd d' y && (match P.underlying t with | some (.int _) => true | _ => false)
  | .neg d, .unOp .neg _ x => chkOpd d x
  | .shr d d', .binOp .shr t x y _ => chkOpd d x && chkOpd d' y && (match P.underlying t with | some (.int _) => true | _ => false)
  | .not d, .unOp .not _ x => chkOpd d x
  | .cv k d, .convert s t x => chkOpd d x && kindOf P t k && (match P.underlying s with | some (.int _) => true | _ => false)
  | .mfn f cs, .makeFunc (.func g) ⟨[]⟩ xs => Nat.beq f.n g && chkOpds cs xs.toList
  | .fa n d, .fieldAddr s x f => chkOpd d x && chkFieldA P s f n
  | .fi n d, .field s x f => chkOpd d x && chkField P s f n none
  | .fia n m d, .field s x f => chkOpd d x && chkField P s f n (some m)
  | .ia sz d d', .indexAddr t x y => chkOpd d x && chkOpd d' y && sliceIs P t sz
  | .sla sz d lo hi mx, .slice t x l h m => chkOpd d x && chkOO lo l && chkOO hi h && chkOO mx m && sliceIs P t sz && (mx.isNone || hi.isSome)
  | .ex d n, .extract x m => chkOpd d x && Nat.beq n m
  | .len d, .call ⟨.builtin .len, ⟨[x]⟩, ⟨[t]⟩⟩ => chkOpd d x && isSlice P t
  | .cap d, .call ⟨.builtin .cap, ⟨[x]⟩, ⟨[t]⟩⟩ => chkOpd d x && isSlice P t
  | .mx d l, .call ⟨.builtin .max, ⟨x :: xs⟩, _⟩ => chkOpd d x && chkOpds l xs
  | .mn d l, .call ⟨.builtin .min, ⟨x :: xs⟩, _⟩ => chkOpd d x && chkOpds l xs
  | .aeq ks neg d d', .binOp op t x y _ => (match neg, op with | false, .eql => true | true, .neq => true | _, _ => false) && chkOpd d x && chkOpd d' y && flatType P t ks
  | .beq neg d d', .binOp op t x y _ => (match neg, op with | false, .eql => true | true, .neq => true | _, _ => false) && chkOpd d x && chkOpd d' y && (match P.underlying t with | some .bool => true | _ => false)
  | .isnil neg d, .binOp op t x y _ => (match neg, op with | false, .eql => true | true, .neq => true | _, _ => false) && isSlice P t && ((isNilC y && chkOpd d x) || (isNilC x && chkOpd d y))
  | _, _ => false
theorem eq1_sim {P : Program} {j : J} {v w : DV} {v' w' : Value} {b k : Bool} (hv : VR j v v') (hw : VR j w w') (h : eq1V k v w = some b) (d : Nat) (t : Nat)
    (ht : flat1 P t k = true) (W : World) : (Op.equalIn (d + 1) t v' w').run P W = .ok b W := by
  unfold flat1 at ht
  cases k with
  | true =>
    cases hv <;> simp only [eq1V, reduceCtorEq] at h
    cases hw <;> simp only [reduceCtorEq, Option.some.injEq] at h
    subst h
    cases hu : P.underlying t with
    | none => simp [hu] at ht
    | some dd =>
      cases dd <;> simp [hu] at ht
      exact run_equalIn_bool' W d t _ _ hu
  | false =>
    cases hv <;> simp only [eq1V, reduceCtorEq] at h
    cases hw <;> simp only [reduceCtorEq, Option.some.injEq] at h
    rename_i k n k' n'
    by_cases hs : sameK k k' = true
    · rw [if_pos hs] at h
      simp only [Option.some.injEq] at h
      have := sameK_eq hs
      subst this
      cases hu : P.underlying t with
      | none => simp [hu] at ht
      | some dd =>
        cases dd <;> simp [hu] at ht
        rename_i kk
        rw [run_equalIn_int W d t k kk n n' hu, ← h]
        congr 1
    · rw [if_neg hs] at h; cases h
theorem eqs_sim {P : Program} {j : J} (xs ys : Array Value) (d : Nat) (W : World) : ∀ (fs : List Field) (n : Nat) (ks : List Bool) (l m : List DV) (b : Bool), flatFields P fs n ks = true →
    VRs j l (xs.toList.drop n) → VRs j m (ys.toList.drop n) → eqsV ks l m = some b → (Op.eqFields (d + 1) xs ys fs).run P W = .ok b W
  | [], n, [], l, m, b, _, hl, hm, h => by
    cases l <;> cases m <;> simp [eqsV] at h
    subst h; rfl
  | [], _, _ :: _, _, _, _, hf, _, _, _ => by simp [flatFields] at hf
  | _ :: _, _, [], _, _, _, hf, _, _, _ => by simp [flatFields] at hf
  | f :: fs, n, k :: ks, l, m, b, hf, hl, hm, h => by
    simp only [flatFields, Bool.and_eq_true, Bool.not_eq_true', Nat.beq_eq] at hf
    obtain ⟨⟨⟨hname, hoff⟩, hflat⟩, hrest⟩ := hf
    cases l with
    | nil => simp [eqsV] at h
    | cons v l =>
      cases m with
      | nil => simp [eqsV] at h
      | cons w m =>
        obtain ⟨v', hv', hv, _⟩ := hl.get 0 v rfl
        obtain ⟨w', hw', hw, _⟩ := hm.get 0 w rfl
        have hl' : VRs j l (xs.toList.drop (n + 1)) := by have := hl.drop 1; simpa using this
        have hm' : VRs j m (ys.toList.drop (n + 1)) := by have := hm.drop 1; simpa using this
        have hagg : ∀ W : World, (isAgg f.type).run P W = .ok false W := by
          intro W
          unfold flat1 at hflat
          cases hu : P.underlying f.type with
          | none => simp [hu] at hflat
          | some dd => exact run_isAgg_plain hu (by cases dd <;> cases k <;> simp [hu] at hflat <;> rfl) W
        have hx : (part f.type xs f.offset).run P W = .ok v' W := by
          simp only [List.getElem?_drop, Nat.add_zero, Array.getElem?_toList] at hv'
          simp [part, hagg, hoff, hv']
        have hy : (part f.type ys f.offset).run P W = .ok w' W := by
          simp only [List.getElem?_drop, Nat.add_zero, Array.getElem?_toList] at hw'
          simp [part, hagg, hoff, hw']
        have hne : f.name ≠ "_" := by simpa using hname
        simp only [eqsV] at h
        simp only [Op.eqFields, if_pos hne, Sem.run_bind, hx, hy, Result.andThen_ok]
        cases h1 : eq1V k v w with
        | none => simp [h1] at h
        | some c =>
          rw [eq1_sim hv hw h1 d f.type hflat W]
          cases c with
          | false => simp [h1] at h; subst h; simp
          | true => simp only [h1] at h; simp; exact eqs_sim xs ys d W fs (n + 1) ks l m b hrest hl' hm' h
end Go.Proofs.Ythdlkpmhjbaplaa.Dx
