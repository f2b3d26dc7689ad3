/- Plain facts: a term's value by how many times it has each variable; what Put, Equal, Swap tell. No statement of this seat is proved here. -/
import Derived.Test.YthdlkpmhjbaplaaVyW
set_option autoImplicit false
set_option linter.unusedSimpArgs false
set_option linter.unusedVariables false
namespace Go.Proofs.Ythdlkpmhjbaplaa.Dx
open Go

def sumW (f : Int → Int) : Nat → Int
  | 0 => 0
  | n + 1 => sumW f n + f n
theorem sumW_add (f g : Int → Int) : ∀ n, sumW (fun w => f w + g w) n = sumW f n + sumW g n
  | 0 => rfl
  | n + 1 => by simp only [sumW, sumW_add f g n]; omega
theorem sumW_mul (f : Int → Int) (c : Int) : ∀ n, sumW (fun w => f w * c) n = sumW f n * c
  | 0 => by simp [sumW]
  | n + 1 => by simp only [sumW, sumW_mul f c n, Int.add_mul]
theorem sumW_congr {f g : Int → Int} : ∀ n : Nat, (∀ w : Int, 0 ≤ w → w < n → f w = g w) → sumW f n = sumW g n
  | 0, _ => rfl
  | n + 1, h => by rw [sumW, sumW, sumW_congr n fun w h0 hw => h w h0 (by omega), h n (by omega) (by omega)]
theorem sumW_one (v : Int) (x : Int) : ∀ n : Nat, 0 ≤ v → sumW (fun w => if w = v then x else 0) n = if v < n then x else 0
  | 0, h => by simp [sumW]; omega
  | n + 1, h => by
    rw [sumW, sumW_one v x n h]
    by_cases h1 : v < n
    · rw [if_pos h1, if_neg (by omega), if_pos (by omega)]; omega
    · by_cases h2 : (n : Int) = v
      · rw [if_neg h1, if_pos h2, if_pos (by omega)]; omega
      · rw [if_neg h1, if_neg h2, if_neg (by omega)]; rfl
theorem linV_eq (vals : List Int) : ∀ {l : List Mono} {p : Option Int}, okFrom p l = true → linV vals l = sumW (fun w => kOf l w * valOf vals w) 40
  | [], _, _ => by rw [sumW_congr (g := fun _ => 0 * 0) 40 (fun w _ _ => by simp [kOf])]; rfl
  | m :: l, p, h => by
    obtain ⟨h1, h2, h3⟩ := okFrom_cons.1 h
    have hm := okM_spec.1 h1
    rw [linV, linV_eq vals h3]
    have e : sumW (fun w => kOf (m :: l) w * valOf vals w) 40 = sumW (fun w => kOf l w * valOf vals w + (if w = m.v then m.k * valOf vals m.v else 0)) 40 := by
      refine sumW_congr 40 fun w _ _ => ?_
      by_cases hw : m.v = w
      · subst hw
        rw [kOf, if_pos rfl, kOf_low h3 (Int.le_refl _), if_pos rfl]; omega
      · rw [kOf, if_neg hw, if_neg (fun h => hw h.symm)]; omega
    rw [e, sumW_add, sumW_one _ _ _ hm.1, if_pos (by omega)]; omega
/-- What a term comes to, by its constant and how many times it has each variable. -/
def valF (c : Int) (f : Int → Int) (vals : List Int) : Int := c + sumW (fun w => f w * valOf vals w) 40
theorem val_eq {c : Int} {l : List Mono} (h : okT c l = true) (vals : List Int) : c + linV vals l = valF c (kOf l) vals := by
  unfold valF; rw [linV_eq vals (okT_spec.1 h).2.2.2]

theorem kOf_del (v w : Int) : ∀ l : List Mono, kOf (delM v l) w = if w = v then 0 else kOf l w
  | [] => by simp [delM, kOf]
  | m :: l => by
    have ih := kOf_del v w l
    unfold delM at ih ⊢
    by_cases hm : m.v = v
    · rw [List.filter_cons_of_neg (by simp [hm]), ih, kOf]
      by_cases hw : w = v
      · rw [if_pos hw, if_pos hw]
      · rw [if_neg hw, if_neg hw, if_neg (by omega)]
    · rw [List.filter_cons_of_pos (by simp [hm]), kOf, ih, kOf]
      by_cases hw : m.v = w
      · rw [if_pos hw, if_pos hw, if_neg (by omega)]
      · rw [if_neg hw, if_neg hw]
theorem okFrom_mono : ∀ {l : List Mono} {p q : Option Int}, okFrom p l = true → (∀ a, q = some a → ∀ m ∈ l, a < m.v) → okFrom q l = true
  | [], _, _, _, _ => rfl
  | m :: l, p, q, h, hq => by
    obtain ⟨h1, h2, h3⟩ := okFrom_cons.1 h
    exact okFrom_cons.2 ⟨h1, fun a ha => hq a ha m List.mem_cons_self, h3⟩
theorem okFrom_del (v : Int) : ∀ {l : List Mono} {p : Option Int}, okFrom p l = true → okFrom p (delM v l) = true
  | [], _, _ => rfl
  | m :: l, p, h => by
    obtain ⟨h1, h2, h3⟩ := okFrom_cons.1 h
    have ih := okFrom_del v h3
    unfold delM at ih ⊢
    by_cases hm : m.v = v
    · rw [List.filter_cons_of_neg (by simp [hm])]
      refine okFrom_mono ih fun a ha x hx => ?_
      have h4 := okFrom_lt h3 x (List.mem_filter.1 hx).1
      have h5 := h2 a ha
      omega
    · rw [List.filter_cons_of_pos (by simp [hm])]; exact okFrom_cons.2 ⟨h1, h2, ih⟩
theorem okT_del (v : Int) {c : Int} {l : List Mono} (h : okT c l = true) : okT c (delM v l) = true := by
  obtain ⟨h1, h2, h3, h4⟩ := okT_spec.1 h
  exact okT_spec.2 ⟨h1, h2, Nat.le_trans (delM_len v l) h3, okFrom_del v h4⟩
theorem addR_spec {c d : Int} {a b : List Mono} (h1 : okT c a = true) (h2 : okT d b = true) :
    ((addR c a d b).2.2 = 0 ∧ okT (addR c a d b).1 (addR c a d b).2.1 = true ∧ (addR c a d b).1 = c + d ∧ ∀ w, kOf (addR c a d b).2.1 w = kOf a w + kOf b w) ∨ (addR c a d b).2.2 = 12 := by
  obtain ⟨a1, a2, a3, a4⟩ := okT_spec.1 h1
  obtain ⟨b1, b2, b3, b4⟩ := okT_spec.1 h2
  unfold addR
  rw [if_neg (by simp [h1, h2])]
  split
  · rename_i ho
    refine .inl ⟨rfl, ho, i64 (by omega), fun w => kOf_sum w _ _ none none a4 b4⟩
  · exact .inr rfl
theorem putR_spec {c d v : Int} {a b : List Mono} (h1 : okT c a = true) (h2 : okT d b = true) :
    ((putR c a v d b).2.2 = 0 ∧ okT (putR c a v d b).1 (putR c a v d b).2.1 = true ∧ (putR c a v d b).1 = c + d * kOf a v ∧ ∀ w, kOf (putR c a v d b).2.1 w = (if w = v then 0 else kOf a w) + kOf b w * kOf a v) ∨ (putR c a v d b).2.2 = 12 := by
  unfold putR
  rw [if_neg (by simp [h1, h2])]
  rcases scaleR_spec (k := kOf a v) h2 with ⟨s1, s2, s3, s4⟩ | s1
  · rw [if_neg (by simp [s1])]
    rcases addR_spec (okT_del v h1) s2 with ⟨r1, r2, r3, r4⟩ | r1
    · refine .inl ⟨r1, r2, by rw [r3, s3], fun w => ?_⟩
      rw [r4, kOf_del, s4]
    · exact .inr r1
  · rw [if_pos (by simp [s1])]; exact .inr s1
theorem sumM_nil : ∀ {l : List Mono} {p : Option Int}, okFrom p l = true → sumM l [] = l
  | [], _, _ => by simp [sumM]
  | m :: l, p, h => by
    obtain ⟨h1, h2, h3⟩ := okFrom_cons.1 h
    rw [sumM, sumM_nil h3, keepM, if_neg (okM_spec.1 h1).2.2.1]
theorem putR_nil {c v : Int} {a : List Mono} (h : okT c a = true) : putR c a v 0 [] = (c, delM v a, 0) := by
  obtain ⟨a1, a2, a3, a4⟩ := okT_spec.1 h
  have h0 : okT 0 [] = true := rfl
  have hs : scaleR 0 [] (kOf a v) = (0, [], 0) := by
    unfold scaleR
    rw [if_neg (by simp [h0])]
    have : timesP 0 (kOf a v) 1099511627776 = (0, true) := by unfold timesP; rw [if_pos (.inl rfl)]
    rw [this]; rfl
  unfold putR
  rw [if_neg (by simp [h, h0]), hs, if_neg (by simp)]
  have hd := okT_del v h
  have hw : IntKind.i64.wrap (c + 0) = c := by rw [i64 (by omega)]; omega
  unfold addR
  rw [if_neg (by simp [hd, h0]), sumM_nil (okT_spec.1 hd).2.2.2, hw, if_pos hd]
theorem times_unit {a k most : Int} (hm : 1 ≤ most ∧ most ≤ 4611686018427387904) (ha : -most ≤ a ∧ a ≤ most) (hk : k = 1 ∨ k = -1) : (timesP a k most).2 = true := by
  unfold timesP
  split
  · rfl
  · rename_i h
    have h1 : roomB a most = true := by simp [roomB]; omega
    have h2 : roomB k most = true := by simp [roomB]; omega
    rw [if_neg (by rw [h1, h2]; simp)]
    have : max k (-k) = 1 := by omega
    rw [this, Int.tdiv_one]
    simp; omega
theorem equalR_spec {x : Cons} {v : Int} (hx : okC x = true) (hv : 0 ≤ v ∧ v < 40) (he : x.eq = true) (hk : oneB (kOf x.t.l v) = true) :
    (equalR x v).2.2 = 0 ∧ okT (equalR x v).1 (equalR x v).2.1 = true ∧ (equalR x v).1 = x.t.c * (-(kOf x.t.l v)) ∧ ∀ w, kOf (equalR x v).2.1 w = (if w = v then 0 else kOf x.t.l w) * (-(kOf x.t.l v)) := by
  have hr : rightB [x] v = true := by simp [rightB, hx, hv.1, hv.2]
  have hk' : kOf x.t.l v = 1 ∨ kOf x.t.l v = -1 := by simpa [oneB] using hk
  have ho : okT x.t.c x.t.l = true := hx
  unfold equalR
  rw [if_neg (by simp [hr]), if_neg (by simp [he, hk]), putR_nil ho]
  have hd := okT_del v ho
  obtain ⟨a1, a2, a3, a4⟩ := okT_spec.1 hd
  rcases scaleR_spec (k := -(kOf x.t.l v)) hd with ⟨s1, s2, s3, s4⟩ | s1
  · refine ⟨s1, s2, s3, fun w => ?_⟩
    rw [s4, kOf_del]
  · exfalso
    have : (scaleR x.t.c (delM v x.t.l) (-(kOf x.t.l v))).2.2 = 0 := by
      unfold scaleR
      rw [if_neg (by simp [hd]), if_pos]
      rw [Bool.and_eq_true]
      refine ⟨times_unit (by omega) ⟨a1, a2⟩ (by omega), ?_⟩
      unfold scaleB
      rw [List.all_eq_true]
      intro m hm
      have := okM_spec.1 (okFrom_ok a4 m hm)
      exact times_unit (by omega) (by omega) (by omega)
    rw [this] at s1; omega
end Go.Proofs.Ythdlkpmhjbaplaa.Dx
