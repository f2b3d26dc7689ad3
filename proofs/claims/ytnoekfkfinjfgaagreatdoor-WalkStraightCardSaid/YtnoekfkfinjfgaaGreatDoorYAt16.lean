/- Calls of walk.At, told by runs of the small machine. No statement of this seat is proved here. -/
import Derived.Test.YtnoekfkfinjfgaaGreatDoorYTbA
import Derived.KernelRfl
set_option autoImplicit false
set_option linter.unusedSectionVars false
set_option maxRecDepth 100000
noncomputable section
namespace Go.Proofs.YtnoekfkfinjfgaaGreatDoor.Dx
open Go

variable [Rho]
theorem a19_35 : TabOk Tryz.prog p7 gl (en 40 19 35).1 (en 40 19 35).2 := told_tab fOk19 mixed (fuel := 400) (by kernel_rfl)
theorem a18_38 : TabOk Tryz.prog p7 gl (ef 38 18).1 (ef 38 18).2 := told_tab fOk18 mixed (fuel := 400) (by kernel_rfl)
theorem a17_36 : TabOk Tryz.prog p7 gl (ef 36 17).1 (ef 36 17).2 := told_tab fOk17 mixed (fuel := 400) (by kernel_rfl)
theorem a19_23 : TabOk Tryz.prog p7 gl (en 40 19 23).1 (en 40 19 23).2 := told_tab fOk19 mixed (fuel := 400) (by kernel_rfl)
theorem a18_22 : TabOk Tryz.prog p7 gl (en 38 18 22).1 (en 38 18 22).2 := told_tab fOk18 mixed (fuel := 400) (by kernel_rfl)
theorem a20_12 : TabOk Tryz.prog p7 gl (en 42 20 12).1 (en 42 20 12).2 := told_tab fOk20 mixed (fuel := 400) (by kernel_rfl)
theorem a18_17 : TabOk Tryz.prog p7 gl (en 38 18 17).1 (en 38 18 17).2 := told_tab fOk18 mixed (fuel := 400) (by kernel_rfl)
theorem a17_17 : TabOk Tryz.prog p7 gl (en 36 17 17).1 (en 36 17 17).2 := told_tab fOk17 mixed (fuel := 400) (by kernel_rfl)
theorem a20_5 : TabOk Tryz.prog p7 gl (en 42 20 5).1 (en 42 20 5).2 := told_tab fOk20 mixed (fuel := 400) (by kernel_rfl)
theorem a15_19 : TabOk Tryz.prog p7 gl (en 32 15 19).1 (en 32 15 19).2 := told_tab fOk15 mixed (fuel := 400) (by kernel_rfl)
theorem a20_0 : TabOk Tryz.prog p7 gl (en 42 20 0).1 (en 42 20 0).2 := told_tab fOk20 mixed (fuel := 400) (by kernel_rfl)
theorem a14_18 : TabOk Tryz.prog p7 gl (en 30 14 18).1 (en 30 14 18).2 := told_tab fOk14 mixed (fuel := 400) (by kernel_rfl)
theorem a17_6 : TabOk Tryz.prog p7 gl (en 36 17 6).1 (en 36 17 6).2 := told_tab fOk17 mixed (fuel := 400) (by kernel_rfl)
theorem a13_16 : TabOk Tryz.prog p7 gl (en 28 13 16).1 (en 28 13 16).2 := told_tab fOk13 mixed (fuel := 400) (by kernel_rfl)
theorem a15_8 : TabOk Tryz.prog p7 gl (en 32 15 8).1 (en 32 15 8).2 := told_tab fOk15 mixed (fuel := 400) (by kernel_rfl)
theorem a14_8 : TabOk Tryz.prog p7 gl (en 30 14 8).1 (en 30 14 8).2 := told_tab fOk14 mixed (fuel := 400) (by kernel_rfl)
theorem a11_16 : TabOk Tryz.prog p7 gl (en 24 11 16).1 (en 24 11 16).2 := told_tab fOk11 mixed (fuel := 400) (by kernel_rfl)
theorem a12_9 : TabOk Tryz.prog p7 gl (en 26 12 9).1 (en 26 12 9).2 := told_tab fOk12 mixed (fuel := 400) (by kernel_rfl)
theorem a13_5 : TabOk Tryz.prog p7 gl (en 28 13 5).1 (en 28 13 5).2 := told_tab fOk13 mixed (fuel := 400) (by kernel_rfl)
theorem a12_3 : TabOk Tryz.prog p7 gl (en 26 12 3).1 (en 26 12 3).2 := told_tab fOk12 mixed (fuel := 400) (by kernel_rfl)
theorem a11_4 : TabOk Tryz.prog p7 gl (en 24 11 4).1 (en 24 11 4).2 := told_tab fOk11 mixed (fuel := 400) (by kernel_rfl)
theorem a7_12 : TabOk Tryz.prog p7 gl (en 16 7 12).1 (en 16 7 12).2 := told_tab fOk7 mixed (fuel := 400) (by kernel_rfl)
theorem a6_11 : TabOk Tryz.prog p7 gl (en 14 6 11).1 (en 14 6 11).2 := told_tab fOk6 mixed (fuel := 400) (by kernel_rfl)
theorem a8_2 : TabOk Tryz.prog p7 gl (en 18 8 2).1 (en 18 8 2).2 := told_tab fOk8 mixed (fuel := 400) (by kernel_rfl)
theorem a4_8 : TabOk Tryz.prog p7 gl (en 10 4 8).1 (en 10 4 8).2 := told_tab fOk4 mixed (fuel := 400) (by kernel_rfl)
theorem a3_5 : TabOk Tryz.prog p7 gl (en 8 3 5).1 (en 8 3 5).2 := told_tab fOk3 mixed (fuel := 400) (by kernel_rfl)
theorem a1_4 : TabOk Tryz.prog p7 gl (ef 4 1).1 (ef 4 1).2 := told_tab fOk1 mixed (fuel := 400) (by kernel_rfl)
end Go.Proofs.YtnoekfkfinjfgaaGreatDoor.Dx
