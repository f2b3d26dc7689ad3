/- The law's call, told by a run of the small machine on numbers of which sums alone are known. No statement of this seat is proved here. -/
import Derived.Test.YtnoekfkfinjfgaaGreatDoorYTbA
set_option autoImplicit false
set_option linter.unusedSectionVars false
set_option linter.unusedVariables false
noncomputable section
namespace Go.Proofs.YtnoekfkfinjfgaaGreatDoor.Dx
open Go
variable [Rho]

/-- A number that came in. -/
def raw (i : Nat) : DV := .sy false [(i, Nat.succ i)]
def raws (n : Nat) : Nat → List DV := Nat.rec (motive := fun _ => Nat → List DV) (fun _ => []) (fun _ ih i => raw i :: ih (Nat.succ i)) n
theorem raws_get : ∀ (n i k : Nat), (raws n i)[k]? = if k < n then some (raw (i + k)) else none
  | 0, i, k => by show ([] : List DV)[k]? = _; simp
  | n + 1, i, 0 => rfl
  | n + 1, i, k + 1 => by
    show (raws n (i + 1))[k]? = _
    rw [raws_get n (i + 1) k]
    have e : i + 1 + k = i + (k + 1) := by omega
    rw [e]
    by_cases h : k < n
    · rw [if_pos h, if_pos (by omega)]
    · rw [if_neg h, if_neg (by omega)]
def lawS (F : Tr Fd) (n : Nat) (v : P → DV) : Bool :=
  okT (glK gl .z .nl fun nx h => Tr.setK nx h (some (.ro (raws n (nat_lit 0)))) fun h => nx.sucK fun m => callK F (exec F 400) none p3 [v nx] .nl m h fun _ v _ _ => asB v .fail fun b => chk b fun _ => .ok .norm .nl .z .nl)
/-- Nothing that was there is another; more may be there; no place is frozen that was not. -/
def Left (w w' : World) : Prop := GrownO w w' ∧ ∀ i, i < w.heap.size → w'.heap[i]? = w.heap[i]?
/-- What remains of the numbers adds up so. -/
def Hyp (xs : List Int) : Prop := ∀ (i : Nat) (x : Int), xs[i]? = some x → x.tmod 1000 = Rho.S (i + 1) - Rho.S i
def SliceIs (w : World) (sv : Value) (xs : List Int) : Prop :=
  (sv = .slice none 0 0 ∧ xs = []) ∨ (∃ a cap, sv = .slice (some a) 0 cap ∧ xs = []) ∨ ∃ b off cap, sv = .slice (some ⟨b, off, none⟩) xs.length cap ∧ xs.length ≤ cap ∧ b < w.heap.size ∧ ∀ (i : Nat) (x : Int), xs[i]? = some x → w.cell? ⟨b, off + i, none⟩ = some (.int .i64 x)
def Good (xs : List Int) : Prop :=
  ∀ (w : World) (sv : Value) (j : J), Start (glH gl .z .nl).1 (glH gl .z .nl).2 j w → SliceIs w sv xs →
    Calls Tryz.prog 3 #[sv] w fun e w' => e = .returned (.bool true) ∧ Left w w'
theorem law_run {F : Tr Fd} (hF : FOk Tryz.prog F) {n : Nat} {v : P → DV} (H : lawS F n v = true) {w : World} {sv : Value} {j : J}
    (S : Start (glH gl .z .nl).1 (glH gl .z .nl).2 j w) {b s : Nat} (hb : b < w.heap.size) (hc : CellsAt j w b s (raws n 0)) (hv : VR (j.put (glH gl .z .nl).1 (.ro b s)) (v (glH gl .z .nl).1) sv) :
    Calls Tryz.prog 3 #[sv] w fun e w' => e = .returned (.bool true) ∧ Left w w' := by
  obtain ⟨_, S1⟩ := S.put hb hc
  unfold lawS at H
  rw [glK_eq, Tr.setK_eq, P.sucK_eq] at H
  generalize hr : callK F (exec F 400) none p3 [v (glH gl .z .nl).1] .nl (glH gl .z .nl).1.suc (Tr.set (glH gl .z .nl).1 (glH gl .z .nl).2 (some (.ro (raws n 0)))) (fun _ v _ _ => asB v .fail fun b => chk b fun _ => .ok .norm .nl .z .nl) = r at H
  cases r with
  | fail => cases H
  | ok out eo no ho' =>
    obtain ⟨v1, nx1, h1, hk1, hcall, _⟩ := call_sim hF (exec_sound hF mixed 400) hr
    rw [asB_eq] at hk1
    cases v1 <;> simp only [reduceCtorEq] at hk1
    replace hk1 := chkT hk1
    obtain ⟨rfl, _⟩ := hk1
    have hargs : VRt (j.put (glH gl .z .nl).1 (.ro b s)) [v (glH gl .z .nl).1] [sv] := .cons hv .nil
    refine (hcall _ _ nx1.n _ _ _ { tmps := #[], defers := [] } w S1.rel (Nat.le_refl _) _ hargs).mono ?_
    rintro e w' ⟨v', j', rfl, R', F', hv'⟩
    cases hv'
    have no : ∀ k i, (j.put (glH gl .z .nl).1 (.ro b s)) k = some i → ∃ b s, i = .ro b s := fun k i h => (S1.only k i h).2
    have same : ∀ i, i < w.heap.size → w'.heap[i]? = w.heap[i]? := fun i hi => F'.same i hi (fun k s c h => by obtain ⟨_, _, h1⟩ := no k _ h; cases h1) (fun p h => nomatch h) (fun k h => by obtain ⟨_, _, h1⟩ := no k _ h; cases h1)
    refine ⟨rfl, ⟨⟨F'.os, F'.output, fun i hi => ?_⟩, F'.froz, F'.size⟩, same⟩
    rw [same i hi]
    cases w.heap[i]? with
    | none => rfl
    | some ob => cases ob <;> simp
theorem raws_at {w : World} {j : J} {b off : Nat} {xs : List Int} {n : Nat} (hn : n ≤ xs.length) (hx : Hyp xs) (hc : ∀ (i : Nat) (x : Int), xs[i]? = some x → w.cell? ⟨b, off + i, none⟩ = some (.int .i64 x)) : CellsAt j w b off (raws n 0) := by
  intro i d hd
  rw [raws_get] at hd
  by_cases hi : i < n
  · rw [if_pos hi, Nat.zero_add] at hd
    cases hd
    have hg : xs[i]? = some xs[i] := List.getElem?_eq_getElem (by omega)
    exact ⟨_, hc i _ hg, .syi (hx i _ hg), rfl⟩
  · rw [if_neg hi] at hd; cases hd
theorem raws_none {w : World} {j : J} {b off : Nat} : CellsAt j w b off (raws 0 0) := by
  intro i d hd
  change ([] : List DV)[i]? = some d at hd
  simp at hd
/-- As many numbers as are known. -/
theorem good_n {F : Tr Fd} (hF : FOk Tryz.prog F) {n : Nat} (h0 : 0 < n) (H : lawS F n (fun nx => .sl nx 0 n none 1) = true) {xs : List Int} (hn : xs.length = n) (hx : Hyp xs) : Good xs := by
  intro w sv j S hs
  rcases hs with ⟨rfl, rfl⟩ | ⟨ad, cap, rfl, rfl⟩ | ⟨b, off, cap, rfl, hcap, hb, hc⟩
  · simp at hn; omega
  · simp at hn; omega
  · refine law_run hF H S hb (raws_at (by omega) hx hc) ?_
    subst hn
    exact .slO (J.put_self _ _ _) (fun _ => rfl) ⟨hcap, fun _ h => by cases h⟩
/-- None, or more than are looked at. -/
theorem good_far {F : Tr Fd} (hF : FOk Tryz.prog F) (H0 : lawS F 0 (fun _ => .nils) = true) (H1 : lawS F 0 (fun nx => .sl nx 0 0 none 1) = true) (H2 : ∀ m, lawS F 0 (fun nx => .sl nx 0 (m + 21) none 1) = true) {xs : List Int} (hn : xs.length = 0 ∨ 20 < xs.length) : Good xs := by
  intro w sv j S hs
  have hg : (P.z).n < GN := by decide
  obtain ⟨_, _, hb0, _⟩ := S.heap .z 0 0 (S.glo .z hg)
  rcases hs with ⟨rfl, rfl⟩ | ⟨ad, cap, rfl, rfl⟩ | ⟨b, off, cap, rfl, hcap, hb, hc⟩
  · exact law_run hF H0 S hb0 (s := 0) raws_none .nils
  · exact law_run hF H1 S hb0 (s := 0) raws_none (.slE ad (J.put_self _ _ _) ⟨Nat.zero_le _, fun _ h => by cases h⟩ (fun _ h => by cases h))
  · rcases hn with hn | hn
    · refine law_run hF H1 S hb (s := 0) raws_none ?_
      rw [hn]
      exact .slE _ (J.put_self _ _ _) ⟨Nat.zero_le _, fun _ h => by cases h⟩ (fun _ h => by cases h)
    · refine law_run hF (H2 (xs.length - 21)) S hb (s := off) raws_none ?_
      have : xs.length - 21 + 21 = xs.length := by omega
      show VR _ (.sl _ 0 (xs.length - 21 + 21) none 1) _
      rw [this]
      exact .slO (J.put_self _ _ _) (fun _ => rfl) ⟨hcap, fun _ h => by cases h⟩
end Go.Proofs.YtnoekfkfinjfgaaGreatDoor.Dx
