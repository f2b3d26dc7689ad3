/- Calls of walk.At, told by runs of the small machine. No statement of this seat is proved here. -/
import Derived.Test.YtnoekfkfinjfgaaGreatDoorYTbA
import Derived.KernelRfl
set_option autoImplicit false
set_option linter.unusedSectionVars false
set_option maxRecDepth 100000
noncomputable section
namespace Go.Proofs.YtnoekfkfinjfgaaGreatDoor.Dx
open Go

variable [Rho]
theorem a20_35 : TabOk Tryz.prog p7 gl (en 42 20 35).1 (en 42 20 35).2 := told_tab fOk20 mixed (fuel := 400) (by kernel_rfl)
theorem a20_28 : TabOk Tryz.prog p7 gl (en 42 20 28).1 (en 42 20 28).2 := told_tab fOk20 mixed (fuel := 400) (by kernel_rfl)
theorem a17_34 : TabOk Tryz.prog p7 gl (en 36 17 34).1 (en 36 17 34).2 := told_tab fOk17 mixed (fuel := 400) (by kernel_rfl)
theorem a16_32 : TabOk Tryz.prog p7 gl (en 34 16 32).1 (en 34 16 32).2 := told_tab fOk16 mixed (fuel := 400) (by kernel_rfl)
theorem a16_30 : TabOk Tryz.prog p7 gl (en 34 16 30).1 (en 34 16 30).2 := told_tab fOk16 mixed (fuel := 400) (by kernel_rfl)
theorem a17_22 : TabOk Tryz.prog p7 gl (en 36 17 22).1 (en 36 17 22).2 := told_tab fOk17 mixed (fuel := 400) (by kernel_rfl)
theorem a17_20 : TabOk Tryz.prog p7 gl (en 36 17 20).1 (en 36 17 20).2 := told_tab fOk17 mixed (fuel := 400) (by kernel_rfl)
theorem a14_27 : TabOk Tryz.prog p7 gl (en 30 14 27).1 (en 30 14 27).2 := told_tab fOk14 mixed (fuel := 400) (by kernel_rfl)
theorem a14_25 : TabOk Tryz.prog p7 gl (en 30 14 25).1 (en 30 14 25).2 := told_tab fOk14 mixed (fuel := 400) (by kernel_rfl)
theorem a20_2 : TabOk Tryz.prog p7 gl (en 42 20 2).1 (en 42 20 2).2 := told_tab fOk20 mixed (fuel := 400) (by kernel_rfl)
theorem a14_20 : TabOk Tryz.prog p7 gl (en 30 14 20).1 (en 30 14 20).2 := told_tab fOk14 mixed (fuel := 400) (by kernel_rfl)
theorem a16_12 : TabOk Tryz.prog p7 gl (en 34 16 12).1 (en 34 16 12).2 := told_tab fOk16 mixed (fuel := 400) (by kernel_rfl)
theorem a15_12 : TabOk Tryz.prog p7 gl (en 32 15 12).1 (en 32 15 12).2 := told_tab fOk15 mixed (fuel := 400) (by kernel_rfl)
theorem a13_17 : TabOk Tryz.prog p7 gl (en 28 13 17).1 (en 28 13 17).2 := told_tab fOk13 mixed (fuel := 400) (by kernel_rfl)
theorem a17_0 : TabOk Tryz.prog p7 gl (en 36 17 0).1 (en 36 17 0).2 := told_tab fOk17 mixed (fuel := 400) (by kernel_rfl)
theorem a13_13 : TabOk Tryz.prog p7 gl (en 28 13 13).1 (en 28 13 13).2 := told_tab fOk13 mixed (fuel := 400) (by kernel_rfl)
theorem a13_8 : TabOk Tryz.prog p7 gl (en 28 13 8).1 (en 28 13 8).2 := told_tab fOk13 mixed (fuel := 400) (by kernel_rfl)
theorem a12_11 : TabOk Tryz.prog p7 gl (en 26 12 11).1 (en 26 12 11).2 := told_tab fOk12 mixed (fuel := 400) (by kernel_rfl)
theorem a8_17 : TabOk Tryz.prog p7 gl (en 18 8 17).1 (en 18 8 17).2 := told_tab fOk8 mixed (fuel := 400) (by kernel_rfl)
theorem a13_2 : TabOk Tryz.prog p7 gl (en 28 13 2).1 (en 28 13 2).2 := told_tab fOk13 mixed (fuel := 400) (by kernel_rfl)
theorem a11_3 : TabOk Tryz.prog p7 gl (en 24 11 3).1 (en 24 11 3).2 := told_tab fOk11 mixed (fuel := 400) (by kernel_rfl)
theorem a7_13 : TabOk Tryz.prog p7 gl (en 16 7 13).1 (en 16 7 13).2 := told_tab fOk7 mixed (fuel := 400) (by kernel_rfl)
theorem a6_10 : TabOk Tryz.prog p7 gl (en 14 6 10).1 (en 14 6 10).2 := told_tab fOk6 mixed (fuel := 400) (by kernel_rfl)
theorem a6_8 : TabOk Tryz.prog p7 gl (en 14 6 8).1 (en 14 6 8).2 := told_tab fOk6 mixed (fuel := 400) (by kernel_rfl)
theorem a6_2 : TabOk Tryz.prog p7 gl (en 14 6 2).1 (en 14 6 2).2 := told_tab fOk6 mixed (fuel := 400) (by kernel_rfl)
theorem a4_4 : TabOk Tryz.prog p7 gl (en 10 4 4).1 (en 10 4 4).2 := told_tab fOk4 mixed (fuel := 400) (by kernel_rfl)
end Go.Proofs.YtnoekfkfinjfgaaGreatDoor.Dx
