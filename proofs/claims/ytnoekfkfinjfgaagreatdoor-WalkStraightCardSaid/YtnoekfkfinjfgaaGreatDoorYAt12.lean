/- Calls of walk.At, told by runs of the small machine. No statement of this seat is proved here. -/
import Derived.Test.YtnoekfkfinjfgaaGreatDoorYTbA
import Derived.KernelRfl
set_option autoImplicit false
set_option linter.unusedSectionVars false
set_option maxRecDepth 100000
noncomputable section
namespace Go.Proofs.YtnoekfkfinjfgaaGreatDoor.Dx
open Go

variable [Rho]
theorem a19_37 : TabOk Tryz.prog p7 gl (en 40 19 37).1 (en 40 19 37).2 := told_tab fOk19 mixed (fuel := 400) (by kernel_rfl)
theorem a18_36 : TabOk Tryz.prog p7 gl (en 38 18 36).1 (en 38 18 36).2 := told_tab fOk18 mixed (fuel := 400) (by kernel_rfl)
theorem a20_24 : TabOk Tryz.prog p7 gl (en 42 20 24).1 (en 42 20 24).2 := told_tab fOk20 mixed (fuel := 400) (by kernel_rfl)
theorem a20_19 : TabOk Tryz.prog p7 gl (en 42 20 19).1 (en 42 20 19).2 := told_tab fOk20 mixed (fuel := 400) (by kernel_rfl)
theorem a19_19 : TabOk Tryz.prog p7 gl (en 40 19 19).1 (en 40 19 19).2 := told_tab fOk19 mixed (fuel := 400) (by kernel_rfl)
theorem a17_23 : TabOk Tryz.prog p7 gl (en 36 17 23).1 (en 36 17 23).2 := told_tab fOk17 mixed (fuel := 400) (by kernel_rfl)
theorem a16_23 : TabOk Tryz.prog p7 gl (en 34 16 23).1 (en 34 16 23).2 := told_tab fOk16 mixed (fuel := 400) (by kernel_rfl)
theorem a20_8 : TabOk Tryz.prog p7 gl (en 42 20 8).1 (en 42 20 8).2 := told_tab fOk20 mixed (fuel := 400) (by kernel_rfl)
theorem a19_7 : TabOk Tryz.prog p7 gl (en 40 19 7).1 (en 40 19 7).2 := told_tab fOk19 mixed (fuel := 400) (by kernel_rfl)
theorem a15_20 : TabOk Tryz.prog p7 gl (en 32 15 20).1 (en 32 15 20).2 := told_tab fOk15 mixed (fuel := 400) (by kernel_rfl)
theorem a12_26 : TabOk Tryz.prog p7 gl (ef 26 12).1 (ef 26 12).2 := told_tab fOk12 mixed (fuel := 400) (by kernel_rfl)
theorem a12_25 : TabOk Tryz.prog p7 gl (en 26 12 25).1 (en 26 12 25).2 := told_tab fOk12 mixed (fuel := 400) (by kernel_rfl)
theorem a16_8 : TabOk Tryz.prog p7 gl (en 34 16 8).1 (en 34 16 8).2 := told_tab fOk16 mixed (fuel := 400) (by kernel_rfl)
theorem a11_24 : TabOk Tryz.prog p7 gl (ef 24 11).1 (ef 24 11).2 := told_tab fOk11 mixed (fuel := 400) (by kernel_rfl)
theorem a17_1 : TabOk Tryz.prog p7 gl (en 36 17 1).1 (en 36 17 1).2 := told_tab fOk17 mixed (fuel := 400) (by kernel_rfl)
theorem a13_12 : TabOk Tryz.prog p7 gl (en 28 13 12).1 (en 28 13 12).2 := told_tab fOk13 mixed (fuel := 400) (by kernel_rfl)
theorem a15_2 : TabOk Tryz.prog p7 gl (en 32 15 2).1 (en 32 15 2).2 := told_tab fOk15 mixed (fuel := 400) (by kernel_rfl)
theorem a15_1 : TabOk Tryz.prog p7 gl (en 32 15 1).1 (en 32 15 1).2 := told_tab fOk15 mixed (fuel := 400) (by kernel_rfl)
theorem a10_12 : TabOk Tryz.prog p7 gl (en 22 10 12).1 (en 22 10 12).2 := told_tab fOk10 mixed (fuel := 400) (by kernel_rfl)
theorem a10_10 : TabOk Tryz.prog p7 gl (en 22 10 10).1 (en 22 10 10).2 := told_tab fOk10 mixed (fuel := 400) (by kernel_rfl)
theorem a7_15 : TabOk Tryz.prog p7 gl (en 16 7 15).1 (en 16 7 15).2 := told_tab fOk7 mixed (fuel := 400) (by kernel_rfl)
theorem a9_6 : TabOk Tryz.prog p7 gl (en 20 9 6).1 (en 20 9 6).2 := told_tab fOk9 mixed (fuel := 400) (by kernel_rfl)
theorem a8_6 : TabOk Tryz.prog p7 gl (en 18 8 6).1 (en 18 8 6).2 := told_tab fOk8 mixed (fuel := 400) (by kernel_rfl)
theorem a7_4 : TabOk Tryz.prog p7 gl (en 16 7 4).1 (en 16 7 4).2 := told_tab fOk7 mixed (fuel := 400) (by kernel_rfl)
theorem a5_6 : TabOk Tryz.prog p7 gl (en 12 5 6).1 (en 12 5 6).2 := told_tab fOk5 mixed (fuel := 400) (by kernel_rfl)
theorem a4_3 : TabOk Tryz.prog p7 gl (en 10 4 3).1 (en 10 4 3).2 := told_tab fOk4 mixed (fuel := 400) (by kernel_rfl)
theorem a1_3 : TabOk Tryz.prog p7 gl (en 4 1 3).1 (en 4 1 3).2 := told_tab fOk1 mixed (fuel := 400) (by kernel_rfl)
end Go.Proofs.YtnoekfkfinjfgaaGreatDoor.Dx
