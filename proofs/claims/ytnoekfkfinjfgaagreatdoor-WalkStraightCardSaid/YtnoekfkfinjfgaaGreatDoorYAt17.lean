/- Calls of walk.At, told by runs of the small machine. No statement of this seat is proved here. -/
import Derived.Test.YtnoekfkfinjfgaaGreatDoorYTbA
import Derived.KernelRfl
set_option autoImplicit false
set_option linter.unusedSectionVars false
set_option maxRecDepth 100000
noncomputable section
namespace Go.Proofs.YtnoekfkfinjfgaaGreatDoor.Dx
open Go

variable [Rho]
theorem a20_31 : TabOk Tryz.prog p7 gl (en 42 20 31).1 (en 42 20 31).2 := told_tab fOk20 mixed (fuel := 400) (by kernel_rfl)
theorem a19_34 : TabOk Tryz.prog p7 gl (en 40 19 34).1 (en 40 19 34).2 := told_tab fOk19 mixed (fuel := 400) (by kernel_rfl)
theorem a20_25 : TabOk Tryz.prog p7 gl (en 42 20 25).1 (en 42 20 25).2 := told_tab fOk20 mixed (fuel := 400) (by kernel_rfl)
theorem a16_33 : TabOk Tryz.prog p7 gl (en 34 16 33).1 (en 34 16 33).2 := told_tab fOk16 mixed (fuel := 400) (by kernel_rfl)
theorem a20_15 : TabOk Tryz.prog p7 gl (en 42 20 15).1 (en 42 20 15).2 := told_tab fOk20 mixed (fuel := 400) (by kernel_rfl)
theorem a20_13 : TabOk Tryz.prog p7 gl (en 42 20 13).1 (en 42 20 13).2 := told_tab fOk20 mixed (fuel := 400) (by kernel_rfl)
theorem a14_29 : TabOk Tryz.prog p7 gl (en 30 14 29).1 (en 30 14 29).2 := told_tab fOk14 mixed (fuel := 400) (by kernel_rfl)
theorem a20_7 : TabOk Tryz.prog p7 gl (en 42 20 7).1 (en 42 20 7).2 := told_tab fOk20 mixed (fuel := 400) (by kernel_rfl)
theorem a17_15 : TabOk Tryz.prog p7 gl (en 36 17 15).1 (en 36 17 15).2 := told_tab fOk17 mixed (fuel := 400) (by kernel_rfl)
theorem a19_6 : TabOk Tryz.prog p7 gl (en 40 19 6).1 (en 40 19 6).2 := told_tab fOk19 mixed (fuel := 400) (by kernel_rfl)
theorem a17_10 : TabOk Tryz.prog p7 gl (en 36 17 10).1 (en 36 17 10).2 := told_tab fOk17 mixed (fuel := 400) (by kernel_rfl)
theorem a12_24 : TabOk Tryz.prog p7 gl (en 26 12 24).1 (en 26 12 24).2 := told_tab fOk12 mixed (fuel := 400) (by kernel_rfl)
theorem a12_22 : TabOk Tryz.prog p7 gl (en 26 12 22).1 (en 26 12 22).2 := told_tab fOk12 mixed (fuel := 400) (by kernel_rfl)
theorem a11_22 : TabOk Tryz.prog p7 gl (en 24 11 22).1 (en 24 11 22).2 := told_tab fOk11 mixed (fuel := 400) (by kernel_rfl)
theorem a11_21 : TabOk Tryz.prog p7 gl (en 24 11 21).1 (en 24 11 21).2 := told_tab fOk11 mixed (fuel := 400) (by kernel_rfl)
theorem a13_11 : TabOk Tryz.prog p7 gl (en 28 13 11).1 (en 28 13 11).2 := told_tab fOk13 mixed (fuel := 400) (by kernel_rfl)
theorem a14_7 : TabOk Tryz.prog p7 gl (en 30 14 7).1 (en 30 14 7).2 := told_tab fOk14 mixed (fuel := 400) (by kernel_rfl)
theorem a14_3 : TabOk Tryz.prog p7 gl (en 30 14 3).1 (en 30 14 3).2 := told_tab fOk14 mixed (fuel := 400) (by kernel_rfl)
theorem a14_1 : TabOk Tryz.prog p7 gl (en 30 14 1).1 (en 30 14 1).2 := told_tab fOk14 mixed (fuel := 400) (by kernel_rfl)
theorem a13_1 : TabOk Tryz.prog p7 gl (en 28 13 1).1 (en 28 13 1).2 := told_tab fOk13 mixed (fuel := 400) (by kernel_rfl)
theorem a12_1 : TabOk Tryz.prog p7 gl (en 26 12 1).1 (en 26 12 1).2 := told_tab fOk12 mixed (fuel := 400) (by kernel_rfl)
theorem a8_9 : TabOk Tryz.prog p7 gl (en 18 8 9).1 (en 18 8 9).2 := told_tab fOk8 mixed (fuel := 400) (by kernel_rfl)
theorem a9_3 : TabOk Tryz.prog p7 gl (en 20 9 3).1 (en 20 9 3).2 := told_tab fOk9 mixed (fuel := 400) (by kernel_rfl)
theorem a8_3 : TabOk Tryz.prog p7 gl (en 18 8 3).1 (en 18 8 3).2 := told_tab fOk8 mixed (fuel := 400) (by kernel_rfl)
theorem a4_7 : TabOk Tryz.prog p7 gl (en 10 4 7).1 (en 10 4 7).2 := told_tab fOk4 mixed (fuel := 400) (by kernel_rfl)
theorem a5_2 : TabOk Tryz.prog p7 gl (en 12 5 2).1 (en 12 5 2).2 := told_tab fOk5 mixed (fuel := 400) (by kernel_rfl)
end Go.Proofs.YtnoekfkfinjfgaaGreatDoor.Dx
