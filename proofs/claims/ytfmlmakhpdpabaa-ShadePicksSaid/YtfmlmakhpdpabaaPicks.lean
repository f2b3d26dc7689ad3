/- What is picked is in the span, and no nearer number to nought is: the law ShadePicks returns true for all numbers. No condition. -/
import Derived.Test.YtfmlmakhpdpabaaRows
import Derived.Test.YtfmlmakhpdpabaaWkC
import Derived.WalkKit
import Derived.ProofKit
import Derived.OpenShut
namespace Go.Proofs.Ytfmlmakhpdpabaa.shadePicks
open Go.ChangeShapes Go.WideShapes Go.ChangeAt Go.RowKit
set_option linter.unusedVariables false

theorem own : ownKnob Try.prog.godebug = none := by kernel_rfl

theorem pick_no (x y : Int) (h : decide (y < x) = true) (w : World) : Calls Try.prog 8 #[.int .i64 x, .int .i64 y] w fun e w' => e = .returned (.tuple #[.int .i64 0, .bool false]) ∧ w' = w := by
  go_enter Try.func8, Try.ntmps8
  go_wp2
  go_ret2
  exact ⟨rfl, rfl⟩
theorem pick_yes (x y : Int) (h : decide (y < x) = false) (w : World) : Calls Try.prog 8 #[.int .i64 x, .int .i64 y] w fun e w' => ∃ p : Int, e = .returned (.tuple #[.int .i64 p, .bool true]) ∧ p = min (max 0 x) y ∧ w' = w := by
  go_enter Try.func8, Try.ntmps8
  go_wp2
  all_goals
    go_ret2
    exact ⟨_, rfl, by omega, rfl⟩

theorem walk_no (a0 : Int) (a1 : Int) (a2 : Int) (h : decide (a1.tmod 1099511627776 < a0.tmod 1099511627776) = true) (w : World) :
    Calls Try.prog 3 #[.int .i64 a0, .int .i64 a1, .int .i64 a2] w fun e w' => e = .returned (.bool true) ∧ Grown w w' := by
  go_enter Try.func3, Try.ntmps3
  go_wp2_with (first | (go_at_call 8; refine (pick_no _ _ h _).mono ?_; rintro e w' ⟨rfl, rfl⟩) | (go_at_call 9; refine (Dx.wakes _).mono ?_; rintro e w' ⟨rfl, hg⟩))
  go_ret
  exact ⟨rfl, hg⟩

theorem facts (a0 a1 a2 : Int) (h : decide (a1.tmod 1099511627776 < a0.tmod 1099511627776) = false) (X Y T : Int) (hX : X = a0.tmod 1099511627776) (hY : Y = a1.tmod 1099511627776) (hT : T = (IntKind.u64.wrap a2).tmod (Y - X + 1)) :
    (-1099511627776 < X) ∧ X < 1099511627776 ∧ (-1099511627776 < Y) ∧ Y < 1099511627776 ∧ X ≤ Y ∧ 0 ≤ T ∧ T < Y - X + 1 := by
  rw [← hX, ← hY] at h
  have h1 : -1099511627776 < X := by rw [hX]; exact Int.lt_tmod_of_pos a0 (by decide)
  have h2 : X < 1099511627776 := by rw [hX]; exact Int.tmod_lt_of_pos a0 (by decide)
  have h3 : -1099511627776 < Y := by rw [hY]; exact Int.lt_tmod_of_pos a1 (by decide)
  have h4 : Y < 1099511627776 := by rw [hY]; exact Int.tmod_lt_of_pos a1 (by decide)
  have h5 : X ≤ Y := by have : ¬ Y < X := by simpa using h
                        omega
  have h6 : 0 ≤ T := by rw [hT]; exact Int.tmod_nonneg _ (by rw [show IntKind.u64.wrap a2 = a2 % 18446744073709551616 from rfl]; exact Int.emod_nonneg _ (by decide))
  exact ⟨h1, h2, h3, h4, h5, h6, by rw [hT]; exact Int.tmod_lt_of_pos _ (by omega)⟩
set_option maxHeartbeats 4000000 in
theorem walk_yes (a0 : Int) (a1 : Int) (a2 : Int) (h : decide (a1.tmod 1099511627776 < a0.tmod 1099511627776) = false) (w : World) :
    Calls Try.prog 3 #[.int .i64 a0, .int .i64 a1, .int .i64 a2] w fun e w' => e = .returned (.bool true) ∧ Grown w w' := by
  obtain ⟨f1, f2, f3, f4, f5, f6, f7⟩ := facts a0 a1 a2 h _ _ _ rfl rfl rfl
  have hw : ∀ z : Int, -9223372036854775808 ≤ z → z < 9223372036854775808 → wrap64 z = z := fun z h1 h2 => by unfold wrap64; omega
  have e1 : wrap64 (a1.tmod 1099511627776 - a0.tmod 1099511627776) = a1.tmod 1099511627776 - a0.tmod 1099511627776 := hw _ (by omega) (by omega)
  have e2 : wrap64 (a1.tmod 1099511627776 - a0.tmod 1099511627776 + 1) = a1.tmod 1099511627776 - a0.tmod 1099511627776 + 1 := hw _ (by omega) (by omega)
  have e3 : IntKind.u64.wrap (a1.tmod 1099511627776 - a0.tmod 1099511627776 + 1) = a1.tmod 1099511627776 - a0.tmod 1099511627776 + 1 := by
    rw [show ∀ z, IntKind.u64.wrap z = z % 18446744073709551616 from fun _ => rfl]; omega
  have e4 : wrap64 ((IntKind.u64.wrap a2).tmod (a1.tmod 1099511627776 - a0.tmod 1099511627776 + 1)) = (IntKind.u64.wrap a2).tmod (a1.tmod 1099511627776 - a0.tmod 1099511627776 + 1) := hw _ (by omega) (by omega)
  have e5 : wrap64 (a0.tmod 1099511627776 + (IntKind.u64.wrap a2).tmod (a1.tmod 1099511627776 - a0.tmod 1099511627776 + 1)) = a0.tmod 1099511627776 + (IntKind.u64.wrap a2).tmod (a1.tmod 1099511627776 - a0.tmod 1099511627776 + 1) := hw _ (by omega) (by omega)
  have e6 : wrap64 (-min (max 0 (a0.tmod 1099511627776)) (a1.tmod 1099511627776)) = -min (max 0 (a0.tmod 1099511627776)) (a1.tmod 1099511627776) := hw _ (by omega) (by omega)
  have e7 : wrap64 (-(a0.tmod 1099511627776 + (IntKind.u64.wrap a2).tmod (a1.tmod 1099511627776 - a0.tmod 1099511627776 + 1))) = -(a0.tmod 1099511627776 + (IntKind.u64.wrap a2).tmod (a1.tmod 1099511627776 - a0.tmod 1099511627776 + 1)) := hw _ (by omega) (by omega)
  clear hw
  go_enter Try.func3, Try.ntmps3
  go_wp2_with (first | (go_at_call 8; refine (pick_yes _ _ h _).mono ?_; rintro e w' ⟨p, rfl, rfl, rfl⟩) | (go_at_call 9; refine (Dx.wakes _).mono ?_; rintro e w' ⟨rfl, hg⟩))
  all_goals first
    | (go_ret; exact ⟨rfl, hg⟩)
    | (exfalso; omega)
theorem walk (a0 : Int) (a1 : Int) (a2 : Int) (w0 : (Lit.int .i64 a0).wf = true) (w1 : (Lit.int .i64 a1).wf = true) (w2 : (Lit.int .i64 a2).wf = true) (w : World) :
    Calls Try.prog 3 #[.int .i64 a0, .int .i64 a1, .int .i64 a2] w fun e w' => e = .returned (.bool true) ∧ Grown w w' := by
  cases h : decide (a1.tmod 1099511627776 < a0.tmod 1099511627776) with
  | true => exact walk_no a0 a1 a2 h w
  | false => exact walk_yes a0 a1 a2 h w

set_option maxRecDepth 100000 in
theorem lifted (os : Os) (started : os.Started) (H : Type) (enc : TypeId × Value → H) :
    ReturnsInHanded {} Try.checked os 3 .any (Rows.shadePicksSpec.pre6 enc Try.prog Try.f3 Rows.shadePicksRow.domain false) (Rows.shadePicksSpec.post enc Try.prog Try.f3 false true false false) := by
  refine returnsInHanded_of_change (C := Try.checked) own started (by kernel_rfl) Try.func3
    (ChangeSpec.witness6 (enc := enc) (C := Try.checked) false ⟨#[], #[.int .i64 0, .int .i64 0, .int .i64 0], []⟩ 8 (by kernel_rfl) (by kernel_rfl) (by kernel_rfl) (by kernel_rfl)) ?_
  intro W base args ds gs before hval0 hW hcnd _
  have hval : ∀ (j : Nat) t v, Try.f3.params[j]? = some t → args[j]? = some v → Value.okWide Try.prog W .any base t v := hval0
  have hW' := hW
  obtain ⟨p, q, hA0, hV, rfl, hfz, hnd⟩ := hW
  have hA : DataW.TrodAll enc Try.prog W 0 (fun _ => true) true Try.f3.params.toList args.toList ds p := hA0
  rw [Try.params3] at hA hval
  obtain ⟨v0, vs0, d0, ds0, p0, q0, hargs, rfl, rfl, h0, r0⟩ := trodAll_cons hA
  obtain ⟨v1, vs1, d1, ds1, p1, q1, rfl, rfl, rfl, h1, r1⟩ := trodAll_cons r0
  obtain ⟨v2, vs2, d2, ds2, p2, q2, rfl, rfl, rfl, h2, r2⟩ := trodAll_cons r1
  obtain ⟨rfl, rfl, rfl⟩ := trodAll_nil r2
  obtain rfl : args = #[v0, v1, v2] := by cases args; simp_all
  obtain ⟨rfl, rfl⟩ := trodVars_none hV
  obtain ⟨a0, rfl, rfl, rfl, w0⟩ := open_int Try.underlying3 (hval 0 3 v0 rfl rfl) h0
  obtain ⟨a1, rfl, rfl, rfl, w1⟩ := open_int Try.underlying3 (hval 1 3 v1 rfl rfl) h1
  obtain ⟨a2, rfl, rfl, rfl, w2⟩ := open_int Try.underlying3 (hval 2 3 v2 rfl rfl) h2
  clear hA0 hval0
  simp only [List.append_nil] at hW'
  refine (walk a0 a1 a2 w0 w1 w2 W).mono fun e W' ⟨he, hg⟩ => ?_
  subst he
  exact ⟨_, rfl, post_of_same (pa := []) (pv := []) hW' (fun _ _ _ => (trodAll_cons_mk (shut_bool Try.underlying4 _) trodAll_mk0)) (fun sp _ => (trodAll_cons_mk (shut_int Try.underlying3 w0) (trodAll_cons_mk (shut_int Try.underlying3 w1) (trodAll_cons_mk (shut_int Try.underlying3 w2) trodAll_mk0)))) (fun _ _ => rfl) rfl
    (hg.frame _) hg.2.1 (ok_one (by kernel_rfl) rfl (okWide_bool_mk Try.underlying4 _))⟩

theorem over : Rows.shadePicksRow.holds Try.pinned (OpenSpec.ofChange Rows.shadePicksSpec) :=
  OpenClaim.holds_of_wide 3 Try.f3 rfl rfl rfl rfl rfl rfl rfl ⟨rfl, rfl, rfl, rfl, rfl⟩ rfl rfl rfl rfl rfl (by kernel_rfl) Try.func3 (by kernel_rfl)
    (of_decide_eq_true (by kernel_rfl)) (by unfold Func.isWrapper; first | (rw [if_pos (by decide +kernel)]; kernel_rfl) | (rw [if_neg (by decide +kernel)]; exact ⟨rfl, rfl⟩))
    (fun os started H enc _ => lifted os started H enc)

/-- The statement. -/
theorem proved : Rows.ShadePicksSaid :=
  over
#print axioms proved
end Go.Proofs.Ytfmlmakhpdpabaa.shadePicks
