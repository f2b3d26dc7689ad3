/- Sums of what remains of numbers: never far from nought. No statement of this seat is proved here. -/
import Derived.Test.YtnoekfkfinjfgaaGreatDoorYSwA
set_option autoImplicit false
set_option linter.unusedSectionVars false
noncomputable section
namespace Go.Proofs.YtnoekfkfinjfgaaGreatDoor.Dx
open Go

def sumTo (xs : List Int) : Nat → Int
  | 0 => 0
  | i + 1 => sumTo xs i + (xs.getD i 0).tmod 1000
theorem tmod_near (x : Int) : -1000 ≤ x.tmod 1000 ∧ x.tmod 1000 ≤ 1000 := by
  have h1 := Int.tmod_lt_of_pos x (show (0 : Int) < 1000 by decide)
  have h2 : -(1000 : Int) < x.tmod 1000 := by
    have := Int.tmod_lt_of_pos (-x) (show (0 : Int) < 1000 by decide)
    rw [Int.neg_tmod] at this
    omega
  omega
theorem sumTo_add (xs : List Int) (a : Nat) : ∀ k : Nat, -1000 * (k : Int) ≤ sumTo xs (a + k) - sumTo xs a ∧ sumTo xs (a + k) - sumTo xs a ≤ 1000 * (k : Int)
  | 0 => by simp
  | k + 1 => by
    have h := sumTo_add xs a k
    have h2 := tmod_near (xs.getD (a + k) 0)
    have e : sumTo xs (a + (k + 1)) = sumTo xs (a + k) + (xs.getD (a + k) 0).tmod 1000 := rfl
    rw [e]
    push_cast
    omega
theorem sumTo_top (xs : List Int) : ∀ i : Nat, xs.length ≤ i → sumTo xs i = sumTo xs xs.length
  | 0, h => by
    have : xs.length = 0 := by omega
    rw [this]
  | i + 1, h => by
    rcases Nat.eq_or_lt_of_le h with h1 | h1
    · rw [h1]
    · have h2 : xs.length ≤ i := by omega
      have e : sumTo xs (i + 1) = sumTo xs i + (xs.getD i 0).tmod 1000 := rfl
      rw [e, sumTo_top xs i h2]
      have : xs.getD i 0 = 0 := by
        rw [List.getD_eq_getElem?_getD, List.getElem?_eq_none (by omega)]; rfl
      rw [this]; simp
theorem sumTo_low (xs : List Int) (h : xs.length ≤ 20) (a b : Nat) (hab : a ≤ b) : -20000 ≤ sumTo xs b - sumTo xs a ∧ sumTo xs b - sumTo xs a ≤ 20000 := by
  have key : ∀ a b : Nat, a ≤ b → b ≤ 20 → -20000 ≤ sumTo xs b - sumTo xs a ∧ sumTo xs b - sumTo xs a ≤ 20000 := by
    intro a b h1 h2
    have h3 := sumTo_add xs a (b - a)
    have e : a + (b - a) = b := by omega
    rw [e] at h3
    have : ((b - a : Nat) : Int) ≤ 20 := by omega
    omega
  by_cases hb : b ≤ xs.length
  · exact key a b hab (by omega)
  · rw [sumTo_top xs b (by omega)]
    by_cases ha : a ≤ xs.length
    · exact key a _ ha h
    · rw [sumTo_top xs a (by omega)]; omega
/-- The numbers' sums. -/
abbrev rhoOf (xs : List Int) : Rho where
  S := sumTo (xs.take 20)
  near a b := by
    have h : (xs.take 20).length ≤ 20 := by simp; omega
    rcases Nat.le_total a b with hab | hab
    · exact sumTo_low _ h a b hab
    · have := sumTo_low _ h b a hab
      omega
theorem rho_hyp (xs : List Int) (h : xs.length ≤ 20) : @Hyp (rhoOf xs) xs := by
  intro i x hx
  show x.tmod 1000 = sumTo (xs.take 20) (i + 1) - sumTo (xs.take 20) i
  rw [List.take_of_length_le h]
  have e : sumTo xs (i + 1) = sumTo xs i + (xs.getD i 0).tmod 1000 := rfl
  have : xs.getD i 0 = x := by rw [List.getD_eq_getElem?_getD, hx]; rfl
  rw [e, this]; omega
end Go.Proofs.YtnoekfkfinjfgaaGreatDoor.Dx
