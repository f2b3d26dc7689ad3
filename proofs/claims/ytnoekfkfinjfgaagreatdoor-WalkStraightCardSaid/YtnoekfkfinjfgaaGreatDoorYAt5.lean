/- Calls of walk.At, told by runs of the small machine. No statement of this seat is proved here. -/
import Derived.Test.YtnoekfkfinjfgaaGreatDoorYTbA
import Derived.KernelRfl
set_option autoImplicit false
set_option linter.unusedSectionVars false
set_option maxRecDepth 100000
noncomputable section
namespace Go.Proofs.YtnoekfkfinjfgaaGreatDoor.Dx
open Go

variable [Rho]
theorem a20_37 : TabOk Tryz.prog p7 gl (en 42 20 37).1 (en 42 20 37).2 := told_tab fOk20 mixed (fuel := 400) (by kernel_rfl)
theorem a20_27 : TabOk Tryz.prog p7 gl (en 42 20 27).1 (en 42 20 27).2 := told_tab fOk20 mixed (fuel := 400) (by kernel_rfl)
theorem a20_22 : TabOk Tryz.prog p7 gl (en 42 20 22).1 (en 42 20 22).2 := told_tab fOk20 mixed (fuel := 400) (by kernel_rfl)
theorem a17_31 : TabOk Tryz.prog p7 gl (en 36 17 31).1 (en 36 17 31).2 := told_tab fOk17 mixed (fuel := 400) (by kernel_rfl)
theorem a15_31 : TabOk Tryz.prog p7 gl (en 32 15 31).1 (en 32 15 31).2 := told_tab fOk15 mixed (fuel := 400) (by kernel_rfl)
theorem a15_30 : TabOk Tryz.prog p7 gl (en 32 15 30).1 (en 32 15 30).2 := told_tab fOk15 mixed (fuel := 400) (by kernel_rfl)
theorem a20_9 : TabOk Tryz.prog p7 gl (en 42 20 9).1 (en 42 20 9).2 := told_tab fOk20 mixed (fuel := 400) (by kernel_rfl)
theorem a16_21 : TabOk Tryz.prog p7 gl (en 34 16 21).1 (en 34 16 21).2 := told_tab fOk16 mixed (fuel := 400) (by kernel_rfl)
theorem a16_18 : TabOk Tryz.prog p7 gl (en 34 16 18).1 (en 34 16 18).2 := told_tab fOk16 mixed (fuel := 400) (by kernel_rfl)
theorem a14_23 : TabOk Tryz.prog p7 gl (en 30 14 23).1 (en 30 14 23).2 := told_tab fOk14 mixed (fuel := 400) (by kernel_rfl)
theorem a13_23 : TabOk Tryz.prog p7 gl (en 28 13 23).1 (en 28 13 23).2 := told_tab fOk13 mixed (fuel := 400) (by kernel_rfl)
theorem a18_5 : TabOk Tryz.prog p7 gl (en 38 18 5).1 (en 38 18 5).2 := told_tab fOk18 mixed (fuel := 400) (by kernel_rfl)
theorem a16_9 : TabOk Tryz.prog p7 gl (en 34 16 9).1 (en 34 16 9).2 := told_tab fOk16 mixed (fuel := 400) (by kernel_rfl)
theorem a18_1 : TabOk Tryz.prog p7 gl (en 38 18 1).1 (en 38 18 1).2 := told_tab fOk18 mixed (fuel := 400) (by kernel_rfl)
theorem a15_7 : TabOk Tryz.prog p7 gl (en 32 15 7).1 (en 32 15 7).2 := told_tab fOk15 mixed (fuel := 400) (by kernel_rfl)
theorem a16_3 : TabOk Tryz.prog p7 gl (en 34 16 3).1 (en 34 16 3).2 := told_tab fOk16 mixed (fuel := 400) (by kernel_rfl)
theorem a12_12 : TabOk Tryz.prog p7 gl (en 26 12 12).1 (en 26 12 12).2 := told_tab fOk12 mixed (fuel := 400) (by kernel_rfl)
theorem a13_7 : TabOk Tryz.prog p7 gl (en 28 13 7).1 (en 28 13 7).2 := told_tab fOk13 mixed (fuel := 400) (by kernel_rfl)
theorem a12_6 : TabOk Tryz.prog p7 gl (en 26 12 6).1 (en 26 12 6).2 := told_tab fOk12 mixed (fuel := 400) (by kernel_rfl)
theorem a9_13 : TabOk Tryz.prog p7 gl (en 20 9 13).1 (en 20 9 13).2 := told_tab fOk9 mixed (fuel := 400) (by kernel_rfl)
theorem a7_16 : TabOk Tryz.prog p7 gl (ef 16 7).1 (ef 16 7).2 := told_tab fOk7 mixed (fuel := 400) (by kernel_rfl)
theorem a11_1 : TabOk Tryz.prog p7 gl (en 24 11 1).1 (en 24 11 1).2 := told_tab fOk11 mixed (fuel := 400) (by kernel_rfl)
theorem a10_0 : TabOk Tryz.prog p7 gl (en 22 10 0).1 (en 22 10 0).2 := told_tab fOk10 mixed (fuel := 400) (by kernel_rfl)
theorem a6_7 : TabOk Tryz.prog p7 gl (en 14 6 7).1 (en 14 6 7).2 := told_tab fOk6 mixed (fuel := 400) (by kernel_rfl)
theorem a7_1 : TabOk Tryz.prog p7 gl (en 16 7 1).1 (en 16 7 1).2 := told_tab fOk7 mixed (fuel := 400) (by kernel_rfl)
theorem a5_0 : TabOk Tryz.prog p7 gl (en 12 5 0).1 (en 12 5 0).2 := told_tab fOk5 mixed (fuel := 400) (by kernel_rfl)
theorem a2_2 : TabOk Tryz.prog p7 gl (en 6 2 2).1 (en 6 2 2).2 := told_tab fOk2 mixed (fuel := 400) (by kernel_rfl)
end Go.Proofs.YtnoekfkfinjfgaaGreatDoor.Dx
