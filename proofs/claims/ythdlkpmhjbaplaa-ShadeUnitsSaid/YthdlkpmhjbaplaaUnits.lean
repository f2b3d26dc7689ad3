/- The unit that is found is the first one, and where none is found there is none: the law ShadeUnits returns true, whatever it is given. No condition. -/
import Derived.Test.YthdlkpmhjbaplaaRows
import Derived.Test.YthdlkpmhjbaplaaVyP
import Derived.Test.YthdlkpmhjbaplaaVzB
import Derived.WalkKit
import Derived.ProofKit
import Derived.OpenShut
namespace Go.Proofs.Ythdlkpmhjbaplaa.shadeUnits
open Go.ChangeShapes Go.WideShapes Go.ChangeAt Go.RowKit
set_option linter.unusedVariables false

theorem own : ownKnob Try.prog.godebug = none := by kernel_rfl

set_option maxRecDepth 100000 in
theorem lifted (os : Os) (started : os.Started) (H : Type) (enc : TypeId × Value → H) :
    ReturnsInHanded {} Try.checked os 3 .any (Rows.shadeUnitsSpec.pre6 enc Try.prog Try.f3 Rows.shadeUnitsRow.domain false) (Rows.shadeUnitsSpec.post enc Try.prog Try.f3 false true false false) := by
  refine returnsInHanded_of_change_shaped (C := Try.checked) own started (by kernel_rfl) Try.func3
    (ChangeSpec.witness6 (enc := enc) (C := Try.checked) false ⟨#[], #[.slice none 0 0], []⟩ 8 (by kernel_rfl) (by kernel_rfl) (by kernel_rfl) (by kernel_rfl)) ?_
  intro W base args ds gs before hval0 hW hcnd _ hsh _
  have hval : ∀ (j : Nat) t v, Try.f3.params[j]? = some t → args[j]? = some v → Value.okWide Try.prog W .any base t v := hval0
  have hpos := Dx.heap_pos hsh
  have hW' := hW
  have hlt := hW.lt
  obtain ⟨p, q, hA0, hV, rfl, hfz, hnd⟩ := hW
  have hA : DataW.TrodAll enc Try.prog W 0 (fun _ => true) true Try.f3.params.toList args.toList ds p := hA0
  have hAk := hA
  rw [Try.params3] at hA hval
  obtain ⟨v0, vs0, d0, ds0, p0, q0, hargs, rfl, rfl, h0, r0⟩ := trodAll_cons hA
  obtain ⟨rfl, rfl, rfl⟩ := trodAll_nil r0
  obtain rfl : args = #[v0] := by cases args; simp_all
  obtain ⟨rfl, rfl⟩ := trodVars_none hV
  obtain ⟨l, _, X⟩ := Dx.arg_slice (α := List Dx.Cons) (V := fun l => Dx.vCs l) Try.underlying22 (Dx.rd22 hpos) (hval 0 22 v0 rfl rfl) h0
  obtain ⟨s, dd, hs, _, hv, hx⟩ := Dx.ArgsL.cons (v := Dx.vCs l) X Dx.ArgsL.nil Dx.Lay.nil (Dx.Lay.nil_ok W)
  clear hA0 hval0
  refine (Dx.law_calls Dx.fOk Dx.mixed (Dx.Units_ok l) hs hv hx).mono fun e W' ⟨he, hg, hsame⟩ => ?_
  subst he
  exact ⟨_, rfl, post_of_same (pv := []) hW' (fun _ _ _ => (trodAll_cons_mk (shut_bool Try.underlying4 _) trodAll_mk0))
    (fun sp hsp => Dx.stays Dx.kids Dx.slices_full (by rw [Try.params3]; decide) hAk (fun x hx => Dx.sameAt_of hsame (hlt x (by simpa using hx))) (fun x hx => hsp x (by simpa using hx))) (fun _ _ => rfl) rfl
    (hg.frame _) hg.2.1 (ok_one (by kernel_rfl) rfl (okWide_bool_mk Try.underlying4 _))⟩

theorem over : Rows.shadeUnitsRow.holds Try.pinned (OpenSpec.ofChange Rows.shadeUnitsSpec) :=
  OpenClaim.holds_of_wide 3 Try.f3 rfl rfl rfl rfl rfl rfl rfl ⟨rfl, rfl, rfl, rfl, rfl⟩ rfl rfl rfl rfl rfl (by kernel_rfl) Try.func3 (by kernel_rfl)
    (of_decide_eq_true (by kernel_rfl)) (by unfold Func.isWrapper; first | (rw [if_pos (by decide +kernel)]; kernel_rfl) | (rw [if_neg (by decide +kernel)]; exact ⟨rfl, rfl⟩))
    (fun os started H enc _ => lifted os started H enc)

/-- The statement. -/
theorem proved : Rows.ShadeUnitsSaid :=
  over
#print axioms proved
end Go.Proofs.Ythdlkpmhjbaplaa.shadeUnits
