/- This program's types, as the value machine reads them. No statement of this seat is proved here. -/
import Derived.Test.YthdlkpmhjbaplaaVzA
import Derived.Test.YthdlkpmhjbaplaaCdB
import Derived.HandedShaped
set_option autoImplicit false
set_option linter.unusedSimpArgs false
set_option linter.unusedVariables false
set_option linter.constructorNameAsVariable false
namespace Go.Proofs.Ythdlkpmhjbaplaa.Dx
open Go Go.ChangeShapes Go.WideShapes

theorem encM_flat : ∀ l : List Mono, encM l = l.flatMap fun m => [.int .i64 m.v, .int .i64 m.k]
  | [] => rfl
  | m :: l => by rw [List.flatMap_cons, ← encM_flat l]; rfl
theorem encC_flat : ∀ l : List Cons, encC l = l.flatMap cC
  | [] => rfl
  | m :: l => by rw [List.flatMap_cons, ← encC_flat l]; rfl
theorem encI_flat : ∀ l : List Int, encI l = l.flatMap fun n => [.int .i64 n]
  | [] => rfl
  | m :: l => by rw [List.flatMap_cons, ← encI_flat l]; rfl

def okI (n : Int) : Prop := -9223372036854775808 ≤ n ∧ n ≤ 9223372036854775807
theorem okI_wf {n : Int} (h : (Lit.int .i64 n).wf = true) : okI n := by simpa [Lit.wf, IntKind.min, IntKind.max, IntKind.signed, IntKind.bits, okI] using h
def okMono (m : Mono) : Prop := okI m.v ∧ okI m.k
def okMonos (l : List Mono) : Prop := l.length ≤ maxLen ∧ ∀ x ∈ l, okMono x
def okTerm (t : Term) : Prop := okI t.c ∧ okMonos t.l
def okCon (x : Cons) : Prop := okTerm x.t
def okCons (l : List Cons) : Prop := l.length ≤ maxLen ∧ ∀ x ∈ l, okCon x
def okInts (l : List Int) : Prop := l.length ≤ maxLen ∧ ∀ x ∈ l, okI x

theorem cells29 : Try.prog.cellsOf 29 = 2 := by kernel_rfl
theorem cells3 : Try.prog.cellsOf 3 = 1 := by kernel_rfl
theorem cells4 : Try.prog.cellsOf 4 = 1 := by kernel_rfl
theorem cells27 : Try.prog.cellsOf 27 = 1 := by kernel_rfl
theorem cells31 : Try.prog.cellsOf 31 = 3 := by kernel_rfl
theorem cells33 : Try.prog.cellsOf 33 = 2 := by kernel_rfl

section
variable {H : Type} {enc : TypeId × Value → H} {w : World}
theorem rd3 : RdOk enc Try.prog w 3 1 (fun n : Int => [.int .i64 n]) okI := (RdOk.int Try.underlying3).map id (fun _ => rfl) (fun _ h => okI_wf h)
theorem rd33 : RdOk enc Try.prog w 33 2 (fun m : Mono => [.int .i64 m.v, .int .i64 m.k]) okMono :=
  (RdOk.pair Try.underlying33 rd3 rd3 rfl rfl cells3 cells3 cells33).map (fun x : Int × Int => (⟨x.1, x.2⟩ : Mono)) (fun _ => rfl) (fun _ h => h)
theorem rd27 (hw : 0 < w.heap.size) : RdOk enc Try.prog w 27 1 (fun l : List Mono => [vMs l]) okMonos :=
  (RdOk.slice Try.underlying27 rd33 cells33 (by decide) hw).map id (fun l => by unfold vMs; rw [encM_flat]; rfl) (fun _ h => h)
theorem rd29 (hw : 0 < w.heap.size) : RdOk enc Try.prog w 29 2 (fun t : Term => cT t) okTerm :=
  (RdOk.pair Try.underlying29 rd3 (rd27 hw) rfl rfl cells3 cells27 cells29).map (fun x : Int × List Mono => (⟨x.1, x.2⟩ : Term)) (fun _ => rfl) (fun _ h => h)
theorem rd31 (hw : 0 < w.heap.size) : RdOk enc Try.prog w 31 3 (fun x : Cons => cC x) okCon :=
  (RdOk.pair Try.underlying31 (rd29 hw) (RdOk.bool Try.underlying4) rfl rfl cells29 cells4 cells31).map (fun x : Term × Bool => (⟨x.1, x.2⟩ : Cons)) (fun _ => rfl) (fun _ h => h.1)
theorem rd22 (hw : 0 < w.heap.size) : RdOk enc Try.prog w 22 1 (fun l : List Cons => [vCs l]) okCons :=
  (RdOk.slice Try.underlying22 (rd31 hw) cells31 (by decide) hw).map id (fun l => by unfold vCs; rw [encC_flat]; rfl) (fun _ h => h)
theorem rd40 (hw : 0 < w.heap.size) : RdOk enc Try.prog w 40 1 (fun l : List Int => [vIs l]) okInts :=
  (RdOk.slice Try.underlying40 rd3 cells3 (by decide) hw).map id (fun l => by unfold vIs; rw [encI_flat]; rfl) (fun _ h => h)

/-! ### An argument -/

/-- One argument: told by 'v'. -/
def Arg1 (w : World) (v' : Value) {α : Type} (V : α → VV) (ok : α → Prop) : Prop :=
  ∃ a : α, ok a ∧ ∀ s, LayOk w s → ∃ s' d, LayOk w s' ∧ LayLe s s' ∧ VR s'.j d v' ∧ XRs s'.Z s'.h none [V a] [d]
/-- All arguments. -/
def ArgsL (w : World) (vs : List Value) (args : List VV) : Prop := ∀ s, LayOk w s → ∃ s' ds, LayOk w s' ∧ LayLe s s' ∧ VRt s'.j ds vs ∧ XRs s'.Z s'.h none args ds
theorem ArgsL.nil : ArgsL w [] [] := fun s hs => ⟨s, [], hs, LayLe.refl s, .nil, .nil⟩
theorem ArgsL.cons {v' : Value} {v : VV} {vs : List Value} {args : List VV} (h : ∀ s, LayOk w s → ∃ s' d, LayOk w s' ∧ LayLe s s' ∧ VR s'.j d v' ∧ XRs s'.Z s'.h none [v] [d]) (t : ArgsL w vs args) : ArgsL w (v' :: vs) (v :: args) := by
  intro s hs
  obtain ⟨s1, d, a1, a2, a3, a4⟩ := h s hs
  obtain ⟨s2, ds, b1, b2, b3, b4⟩ := t s1 a1
  exact ⟨s2, d :: ds, b1, a2.trans b2, .cons (a3.mono b2.ext) b3, (b2.xrs a4).append b4⟩
theorem arg_int {n : Int} : ∀ s, LayOk w s → ∃ s' d, LayOk w s' ∧ LayLe s s' ∧ VR s'.j d (.int .i64 n) ∧ XRs s'.Z s'.h none [.int .i64 n] [d] := fun s hs => ⟨s, .int .i64 n, hs, LayLe.refl s, .int _ _, .cons (.int _ _) .nil⟩
theorem arg_slice {t e : TypeId} {α : Type} {V : α → VV} {ok : α → Prop} (ht : Try.prog.underlying t = some (.slice e)) (R : RdOk enc Try.prog w t 1 (fun a => [V a]) ok) {r : Reach} {base : Nat} {v : Value} (hval : Value.okWide Try.prog w r base t v) {d : DataW H} {ps : List MemPlace}
    (hd : DataW.Trod enc Try.prog w 0 (fun _ => true) true t v d ps) : Arg1 w v V ok := by
  obtain ⟨fuel, hf⟩ := hd
  have hv : ∃ a n c, v = .slice a n c := by
    unfold Value.okWide at hval
    rw [ht] at hval
    simp only [] at hval
    unfold Cell.okWide at hval
    rw [ht] at hval
    split at hval <;> simp_all [Cell.ok]
    split at hval <;> simp_all
  obtain ⟨a, n, c, rfl⟩ := hv
  obtain ⟨x, hx, X⟩ := R _ _ _ hf
  refine ⟨x, hx, fun s hs => ?_⟩
  obtain ⟨s', ds, h1, h2, h3, h4, h5⟩ := X s hs
  have h3' : VRs s'.j ds [.slice a n c] := h3
  cases h3' with
  | cons g1 g2 g3 => cases g3; exact ⟨s', _, h1, h2, g1, h5⟩
theorem arg_struct {t : TypeId} {fs : Array Field} {sz : Nat} {α : Type} {E : α → List VV} {ok : α → Prop} (ht : Try.prog.underlying t = some (.struct fs)) (R : RdOk enc Try.prog w t sz E ok) {r : Reach} {base : Nat} {v : Value} (hval : Value.okWide Try.prog w r base t v) {d : DataW H} {ps : List MemPlace}
    (hd : DataW.Trod enc Try.prog w 0 (fun _ => true) true t v d ps) : Arg1 w v (fun a => .agg (E a)) ok := by
  obtain ⟨fuel, hf⟩ := hd
  have hv : ∃ cs, v = .agg cs := by
    unfold Value.okWide at hval
    rw [ht] at hval
    simp only [] at hval
    obtain ⟨cs, h, _⟩ := hval
    exact ⟨cs, h⟩
  obtain ⟨cs, rfl⟩ := hv
  obtain ⟨x, hx, X⟩ := R _ _ _ hf
  refine ⟨x, hx, fun s hs => ?_⟩
  obtain ⟨s', ds, h1, h2, h3, h4, h5⟩ := X s hs
  have h3' : VRs s'.j ds cs.toList := h3
  refine ⟨s', .agg ds, h1, h2, ?_, .cons (.agg h5) .nil⟩
  have := VR.agg h3'
  simpa using this
end

/-- A world of this program's has memory. -/
theorem some_heap : decide (Try.prog.globals.size < (begin Try.prog (fun _ _ => 0) default).world.heap.size) = true := by kernel_rfl
theorem heap_pos {w : World} (h : w.ShapedOpen Try.prog) : 0 < w.heap.size := by
  have h2 := h.2 Try.prog.globals.size (Nat.le_refl _) (of_decide_eq_true some_heap)
  obtain ⟨o, _, h3, _⟩ := h2
  have := (Array.getElem?_eq_some_iff.1 h3).1
  omega

/-! ### Read again -/

theorem kids : Kids Try.prog (· < Try.prog.types.size) := kids_rows (by kernel_rfl) (by kernel_rfl)
theorem slices_full : ∀ t e, t < Try.prog.types.size → Try.prog.underlying t = some (.slice e) → 0 < Try.prog.cellsOf e := slices_full_of Try.prog (by kernel_rfl)
end Go.Proofs.Ythdlkpmhjbaplaa.Dx
