/- Whether a variable is dropped exactly, what is left, its span, what is picked, the first unit, what is swapped, or why not, are the page's: the law ShadeExact returns true, whatever it is given. No condition. -/
import Derived.Test.YthdlkpmhjbaplaaRows
import Derived.Test.YthdlkpmhjbaplaaVwH
import Derived.Test.YthdlkpmhjbaplaaVzB
import Derived.WalkKit
import Derived.ProofKit
import Derived.OpenShut
namespace Go.Proofs.Ythdlkpmhjbaplaa.shadeExact
open Go.ChangeShapes Go.WideShapes Go.ChangeAt Go.RowKit
set_option linter.unusedVariables false

theorem own : ownKnob Try.prog.godebug = none := by kernel_rfl

set_option maxRecDepth 100000 in
theorem lifted (os : Os) (started : os.Started) (H : Type) (enc : TypeId × Value → H) :
    ReturnsInHanded {} Try.checked os 5 .any (Rows.shadeExactSpec.pre6 enc Try.prog Try.f5 Rows.shadeExactRow.domain false) (Rows.shadeExactSpec.post enc Try.prog Try.f5 false true false false) := by
  refine returnsInHanded_of_change_shaped (C := Try.checked) own started (by kernel_rfl) Try.func5
    (ChangeSpec.witness6 (enc := enc) (C := Try.checked) false ⟨#[], #[.slice none 0 0, .int .i64 0, .slice none 0 0, .agg #[.int .i64 0, .slice none 0 0], .int .i64 0], []⟩ 8 (by kernel_rfl) (by kernel_rfl) (by kernel_rfl) (by kernel_rfl)) ?_
  intro W base args ds gs before hval0 hW hcnd _ hsh _
  have hval : ∀ (j : Nat) t v, Try.f5.params[j]? = some t → args[j]? = some v → Value.okWide Try.prog W .any base t v := hval0
  have hpos := Dx.heap_pos hsh
  have hW' := hW
  have hlt := hW.lt
  obtain ⟨p, q, hA0, hV, rfl, hfz, hnd⟩ := hW
  have hA : DataW.TrodAll enc Try.prog W 0 (fun _ => true) true Try.f5.params.toList args.toList ds p := hA0
  have hAk := hA
  rw [Try.params5] at hA hval
  obtain ⟨v0, vs0, d0, ds0, p0, q0, hargs, rfl, rfl, h0, r0⟩ := trodAll_cons hA
  obtain ⟨v1, vs1, d1, ds1, p1, q1, rfl, rfl, rfl, h1, r1⟩ := trodAll_cons r0
  obtain ⟨v2, vs2, d2, ds2, p2, q2, rfl, rfl, rfl, h2, r2⟩ := trodAll_cons r1
  obtain ⟨v3, vs3, d3, ds3, p3, q3, rfl, rfl, rfl, h3, r3⟩ := trodAll_cons r2
  obtain ⟨v4, vs4, d4, ds4, p4, q4, rfl, rfl, rfl, h4, r4⟩ := trodAll_cons r3
  obtain ⟨rfl, rfl, rfl⟩ := trodAll_nil r4
  obtain rfl : args = #[v0, v1, v2, v3, v4] := by cases args; simp_all
  obtain ⟨rfl, rfl⟩ := trodVars_none hV
  obtain ⟨x0, _, X0⟩ := Dx.arg_slice (α := List Dx.Cons) (V := fun l => Dx.vCs l) Try.underlying22 (Dx.rd22 hpos) (hval 0 22 v0 rfl rfl) h0
  obtain ⟨x1, rfl, rfl, rfl, w1⟩ := open_int Try.underlying3 (hval 1 3 v1 rfl rfl) h1
  obtain ⟨x2, _, X2⟩ := Dx.arg_slice (α := List Int) (V := fun l => Dx.vIs l) Try.underlying40 (Dx.rd40 hpos) (hval 2 40 v2 rfl rfl) h2
  obtain ⟨x3, _, X3⟩ := Dx.arg_struct (α := Dx.Term) (E := fun x => Dx.cT x) Try.underlying29 (Dx.rd29 hpos) (hval 3 29 v3 rfl rfl) h3
  obtain ⟨x4, rfl, rfl, rfl, w4⟩ := open_int Try.underlying3 (hval 4 3 v4 rfl rfl) h4
  obtain ⟨s, dd, hs, _, hv, hx⟩ := Dx.ArgsL.cons (v := Dx.vCs x0) X0 (Dx.ArgsL.cons (Dx.arg_int (n := x1)) (Dx.ArgsL.cons (v := Dx.vIs x2) X2 (Dx.ArgsL.cons (v := .agg (Dx.cT x3)) X3 (Dx.ArgsL.cons (Dx.arg_int (n := x4)) Dx.ArgsL.nil)))) Dx.Lay.nil (Dx.Lay.nil_ok W)
  clear hA0 hval0
  refine (Dx.law_calls Dx.fOk Dx.mixed (Dx.ExactL_ok x0 x1 x2 x3.c x3.l x4) hs hv hx).mono fun e W' ⟨he, hg, hsame⟩ => ?_
  subst he
  exact ⟨_, rfl, post_of_same (pv := []) hW' (fun _ _ _ => (trodAll_cons_mk (shut_bool Try.underlying4 _) trodAll_mk0))
    (fun sp hsp => Dx.stays Dx.kids Dx.slices_full (by rw [Try.params5]; decide) hAk (fun x hx => Dx.sameAt_of hsame (hlt x (by simpa using hx))) (fun x hx => hsp x (by simpa using hx))) (fun _ _ => rfl) rfl
    (hg.frame _) hg.2.1 (ok_one (by kernel_rfl) rfl (okWide_bool_mk Try.underlying4 _))⟩

theorem over : Rows.shadeExactRow.holds Try.pinned (OpenSpec.ofChange Rows.shadeExactSpec) :=
  OpenClaim.holds_of_wide 5 Try.f5 rfl rfl rfl rfl rfl rfl rfl ⟨rfl, rfl, rfl, rfl, rfl⟩ rfl rfl rfl rfl rfl (by kernel_rfl) Try.func5 (by kernel_rfl)
    (of_decide_eq_true (by kernel_rfl)) (by unfold Func.isWrapper; first | (rw [if_pos (by decide +kernel)]; kernel_rfl) | (rw [if_neg (by decide +kernel)]; exact ⟨rfl, rfl⟩))
    (fun os started H enc _ => lifted os started H enc)

/-- The statement. -/
theorem proved : Rows.ShadeExactSaid :=
  over
#print axioms proved
end Go.Proofs.Ythdlkpmhjbaplaa.shadeExact
