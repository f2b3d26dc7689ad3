/- The law's call, told by a run of the small machine on numbers of which remainders alone are known. No statement of this seat is proved here. -/
import Derived.Test.YtnoekfkfinjfgaaGreatDoorZTbA
set_option autoImplicit false
set_option linter.unusedVariables false
noncomputable section
namespace Go.Proofs.YtnoekfkfinjfgaaGreatDoor.Dx
open Go

/-- A number of which remainders are known. -/
def rem (p : Nat × Nat) : DV := .sy false [p]
def rems (l : List (Nat × Nat)) : List DV := List.rec (motive := fun _ => List DV) [] (fun p _ ih => rem p :: ih) l
theorem rems_get : ∀ (l : List (Nat × Nat)) (i : Nat), (rems l)[i]? = (l[i]?).map rem
  | [], i => by simp [rems]
  | p :: l, 0 => rfl
  | p :: l, i + 1 => by show (rems l)[i]? = _; rw [rems_get l i]; rfl
def lawR (F : Tr Fd) (K O : Nat) (l : List (Nat × Nat)) (v : P → DV) : Bool :=
  okT (glK gl .z .nl fun nx h => Tr.setK nx h (some (.ro (rems l))) fun h => nx.sucK fun n => callK F (exec F 400) none p4 [rem (4, K), rem (4, O), v nx] .nl n h fun _ v _ _ => asB v .fail fun b => chk b fun _ => .ok .norm .nl .z .nl)
/-- Nothing that was there is another; more may be there; no place is frozen that was not. -/
def Left (w w' : World) : Prop := GrownO w w' ∧ ∀ i, i < w.heap.size → w'.heap[i]? = w.heap[i]?
/-- The numbers are known so far. -/
def Hyp (xs : List Int) (l : List (Nat × Nat)) : Prop := ∀ (i : Nat) (p : Nat × Nat), l[i]? = some p → ∃ x, xs[i]? = some x ∧ (IntKind.u64.wrap x).tmod (Int.ofNat p.1) = Int.ofNat p.2
def SliceIs (w : World) (sv : Value) (xs : List Int) : Prop :=
  (sv = .slice none 0 0 ∧ xs = []) ∨ (∃ a cap, sv = .slice (some a) 0 cap ∧ xs = []) ∨ ∃ b off cap, sv = .slice (some ⟨b, off, none⟩) xs.length cap ∧ xs.length ≤ cap ∧ b < w.heap.size ∧ ∀ (i : Nat) (x : Int), xs[i]? = some x → w.cell? ⟨b, off + i, none⟩ = some (.int .i64 x)
def Good (K O : Nat) (xs : List Int) : Prop :=
  ∀ (w : World) (k o : Int) (sv : Value) (j : J), (IntKind.u64.wrap k).tmod 4 = Int.ofNat K → (IntKind.u64.wrap o).tmod 4 = Int.ofNat O → Start (glH gl .z .nl).1 (glH gl .z .nl).2 j w → SliceIs w sv xs →
    Calls Tryz.prog 4 #[.int .i64 k, .int .i64 o, sv] w fun e w' => e = .returned (.bool true) ∧ Left w w'
theorem law_run {F : Tr Fd} (hF : FOk Tryz.prog F) {K O : Nat} {l : List (Nat × Nat)} {v : P → DV} (H : lawR F K O l v = true) {w : World} {k o : Int} {sv : Value} {j : J} (hk : (IntKind.u64.wrap k).tmod 4 = Int.ofNat K) (ho : (IntKind.u64.wrap o).tmod 4 = Int.ofNat O)
    (S : Start (glH gl .z .nl).1 (glH gl .z .nl).2 j w) {b s : Nat} (hb : b < w.heap.size) (hc : CellsAt j w b s (rems l)) (hv : VR (j.put (glH gl .z .nl).1 (.ro b s)) (v (glH gl .z .nl).1) sv) :
    Calls Tryz.prog 4 #[.int .i64 k, .int .i64 o, sv] w fun e w' => e = .returned (.bool true) ∧ Left w w' := by
  obtain ⟨_, S1⟩ := S.put hb hc
  unfold lawR at H
  rw [glK_eq, Tr.setK_eq, P.sucK_eq] at H
  generalize hr : callK F (exec F 400) none p4 [rem (4, K), rem (4, O), v (glH gl .z .nl).1] .nl (glH gl .z .nl).1.suc (Tr.set (glH gl .z .nl).1 (glH gl .z .nl).2 (some (.ro (rems l)))) (fun _ v _ _ => asB v .fail fun b => chk b fun _ => .ok .norm .nl .z .nl) = r at H
  cases r with
  | fail => cases H
  | ok out eo no ho' =>
    obtain ⟨v1, nx1, h1, hk1, hcall, _⟩ := call_sim hF (exec_sound hF mixed 400) hr
    rw [asB_eq] at hk1
    cases v1 <;> simp only [reduceCtorEq] at hk1
    replace hk1 := chkT hk1
    obtain ⟨rfl, _⟩ := hk1
    have hargs : VRt (j.put (glH gl .z .nl).1 (.ro b s)) [rem (4, K), rem (4, O), v (glH gl .z .nl).1] [.int .i64 k, .int .i64 o, sv] :=
      .cons (.syi (fun p hp => by simp only [List.mem_singleton] at hp; subst hp; exact hk)) (.cons (.syi (fun p hp => by simp only [List.mem_singleton] at hp; subst hp; exact ho)) (.cons hv .nil))
    refine (hcall _ _ nx1.n _ _ _ { tmps := #[], defers := [] } w S1.rel (Nat.le_refl _) _ hargs).mono ?_
    rintro e w' ⟨v', j', rfl, R', F', hv'⟩
    cases hv'
    have no : ∀ k i, (j.put (glH gl .z .nl).1 (.ro b s)) k = some i → ∃ b s, i = .ro b s := fun k i h => (S1.only k i h).2
    have same : ∀ i, i < w.heap.size → w'.heap[i]? = w.heap[i]? := fun i hi => F'.same i hi (fun k s c h => by obtain ⟨_, _, h1⟩ := no k _ h; cases h1) (fun p h => nomatch h) (fun k h => by obtain ⟨_, _, h1⟩ := no k _ h; cases h1)
    refine ⟨rfl, ⟨⟨F'.os, F'.output, fun i hi => ?_⟩, F'.froz, F'.size⟩, same⟩
    rw [same i hi]
    cases w.heap[i]? with
    | none => rfl
    | some ob => cases ob <;> simp
theorem rems_at {w : World} {j : J} {b off : Nat} {xs : List Int} {l : List (Nat × Nat)} (hx : Hyp xs l) (hc : ∀ (i : Nat) (x : Int), xs[i]? = some x → w.cell? ⟨b, off + i, none⟩ = some (.int .i64 x)) : CellsAt j w b off (rems l) := by
  intro i d hd
  rw [rems_get] at hd
  cases hl : l[i]? with
  | none => rw [hl] at hd; cases hd
  | some p =>
    rw [hl] at hd
    cases hd
    obtain ⟨x, h1, h2⟩ := hx i p hl
    exact ⟨_, hc i x h1, .syi (fun q hq => by simp only [List.mem_singleton] at hq; subst hq; exact h2), rfl⟩
/-- As many numbers as are known. -/
theorem good_n {F : Tr Fd} (hF : FOk Tryz.prog F) {K O n : Nat} {l : List (Nat × Nat)} (H : lawR F K O l (fun nx => .sl nx 0 n none 1) = true) (H0 : n = 0 → lawR F K O [] (fun _ => .nils) = true) {xs : List Int} (hn : xs.length = n) (hx : Hyp xs l) : Good K O xs := by
  intro w k o sv j hk ho S hs
  have hg : (P.z).n < GN := by decide
  obtain ⟨_, _, hb0, _⟩ := S.heap .z 0 0 (S.glo .z hg)
  rcases hs with ⟨rfl, rfl⟩ | ⟨ad, cap, rfl, rfl⟩ | ⟨b, off, cap, rfl, hcap, hb, hc⟩
  · exact law_run hF (H0 (by simpa using hn.symm)) hk ho S hb0 (l := []) (s := 0) (fun i d hd => by simp [rems] at hd) .nils
  · refine law_run hF H hk ho S hb0 (s := 0) (rems_at hx (fun i x h => by simp at h)) ?_
    subst hn
    exact .slE ad (J.put_self _ _ _) ⟨Nat.zero_le _, fun _ h => by cases h⟩ (fun _ h => by cases h)
  · refine law_run hF H hk ho S hb (rems_at hx hc) ?_
    subst hn
    exact .slO (J.put_self _ _ _) (fun _ => rfl) ⟨hcap, fun _ h => by cases h⟩
/-- More numbers than are known. -/
theorem good_m {F : Tr Fd} (hF : FOk Tryz.prog F) {K O n : Nat} {l : List (Nat × Nat)} (H : ∀ m, lawR F K O l (fun nx => .sl nx 0 (m + n) none 1) = true) (h0 : 0 < n) {xs : List Int} (hn : n ≤ xs.length) (hx : Hyp xs l) : Good K O xs := by
  intro w k o sv j hk ho S hs
  rcases hs with ⟨rfl, rfl⟩ | ⟨ad, cap, rfl, rfl⟩ | ⟨b, off, cap, rfl, hcap, hb, hc⟩
  · simp at hn; omega
  · simp at hn; omega
  · refine law_run hF (H (xs.length - n)) hk ho S hb (rems_at hx hc) ?_
    have : xs.length - n + n = xs.length := by omega
    show VR _ (.sl _ 0 (xs.length - n + n) none 1) _
    rw [this]
    exact .slO (J.put_self _ _ _) (fun _ => rfl) ⟨hcap, fun _ h => by cases h⟩
theorem Hyp.nil (xs : List Int) : Hyp xs [] := fun i p h => by simp at h
theorem wrap_nonneg (x : Int) : 0 ≤ IntKind.u64.wrap x := by
  have : IntKind.u64.wrap x = x % 18446744073709551616 := by simp [IntKind.wrap, IntKind.signed, IntKind.bits]
  rw [this]; exact Int.emod_nonneg _ (by decide)
/-- One more number: its remainder is one of these. -/
theorem Hyp.step {xs : List Int} {l : List (Nat × Nat)} (h : Hyp xs l) (c : Nat) (hc : 0 < c) (hl : l.length < xs.length) : ∃ r, r < c ∧ Hyp xs (l ++ [(c, r)]) := by
  have hx : xs[l.length]? = some xs[l.length] := List.getElem?_eq_getElem hl
  have h0 := wrap_nonneg xs[l.length]
  have h1 : 0 ≤ (IntKind.u64.wrap xs[l.length]).tmod (Int.ofNat c) := Int.tmod_nonneg _ h0
  have h2 : (IntKind.u64.wrap xs[l.length]).tmod (Int.ofNat c) < Int.ofNat c := Int.tmod_lt_of_pos _ (by simpa using hc)
  refine ⟨((IntKind.u64.wrap xs[l.length]).tmod (Int.ofNat c)).toNat, by simp at h1 h2 ⊢; omega, ?_⟩
  intro i p hp
  rw [List.getElem?_append] at hp
  by_cases hi : i < l.length
  · rw [if_pos hi] at hp; exact h i p hp
  · rw [if_neg hi] at hp
    have : i = l.length := by
      have := (List.getElem?_eq_some_iff.1 hp).1
      simp at this; omega
    subst this
    simp at hp; subst hp
    exact ⟨_, hx, (Int.toNat_of_nonneg h1).symm⟩
end Go.Proofs.YtnoekfkfinjfgaaGreatDoor.Dx
