/- Calls of walk.At, told by runs of the small machine. No statement of this seat is proved here. -/
import Derived.Test.YtnoekfkfinjfgaaGreatDoorYTbA
import Derived.KernelRfl
set_option autoImplicit false
set_option linter.unusedSectionVars false
set_option maxRecDepth 100000
noncomputable section
namespace Go.Proofs.YtnoekfkfinjfgaaGreatDoor.Dx
open Go

variable [Rho]
theorem a20_40 : TabOk Tryz.prog p7 gl (en 42 20 40).1 (en 42 20 40).2 := told_tab fOk20 mixed (fuel := 400) (by kernel_rfl)
theorem a18_33 : TabOk Tryz.prog p7 gl (en 38 18 33).1 (en 38 18 33).2 := told_tab fOk18 mixed (fuel := 400) (by kernel_rfl)
theorem a19_25 : TabOk Tryz.prog p7 gl (en 40 19 25).1 (en 40 19 25).2 := told_tab fOk19 mixed (fuel := 400) (by kernel_rfl)
theorem a17_28 : TabOk Tryz.prog p7 gl (en 36 17 28).1 (en 36 17 28).2 := told_tab fOk17 mixed (fuel := 400) (by kernel_rfl)
theorem a17_27 : TabOk Tryz.prog p7 gl (en 36 17 27).1 (en 36 17 27).2 := told_tab fOk17 mixed (fuel := 400) (by kernel_rfl)
theorem a19_15 : TabOk Tryz.prog p7 gl (en 40 19 15).1 (en 40 19 15).2 := told_tab fOk19 mixed (fuel := 400) (by kernel_rfl)
theorem a19_14 : TabOk Tryz.prog p7 gl (en 40 19 14).1 (en 40 19 14).2 := told_tab fOk19 mixed (fuel := 400) (by kernel_rfl)
theorem a18_13 : TabOk Tryz.prog p7 gl (en 38 18 13).1 (en 38 18 13).2 := told_tab fOk18 mixed (fuel := 400) (by kernel_rfl)
theorem a19_9 : TabOk Tryz.prog p7 gl (en 40 19 9).1 (en 40 19 9).2 := told_tab fOk19 mixed (fuel := 400) (by kernel_rfl)
theorem a16_15 : TabOk Tryz.prog p7 gl (en 34 16 15).1 (en 34 16 15).2 := told_tab fOk16 mixed (fuel := 400) (by kernel_rfl)
theorem a15_18 : TabOk Tryz.prog p7 gl (en 32 15 18).1 (en 32 15 18).2 := told_tab fOk15 mixed (fuel := 400) (by kernel_rfl)
theorem a14_17 : TabOk Tryz.prog p7 gl (en 30 14 17).1 (en 30 14 17).2 := told_tab fOk14 mixed (fuel := 400) (by kernel_rfl)
theorem a19_0 : TabOk Tryz.prog p7 gl (en 40 19 0).1 (en 40 19 0).2 := told_tab fOk19 mixed (fuel := 400) (by kernel_rfl)
theorem a12_19 : TabOk Tryz.prog p7 gl (en 26 12 19).1 (en 26 12 19).2 := told_tab fOk12 mixed (fuel := 400) (by kernel_rfl)
theorem a12_18 : TabOk Tryz.prog p7 gl (en 26 12 18).1 (en 26 12 18).2 := told_tab fOk12 mixed (fuel := 400) (by kernel_rfl)
theorem a16_1 : TabOk Tryz.prog p7 gl (en 34 16 1).1 (en 34 16 1).2 := told_tab fOk16 mixed (fuel := 400) (by kernel_rfl)
theorem a15_4 : TabOk Tryz.prog p7 gl (en 32 15 4).1 (en 32 15 4).2 := told_tab fOk15 mixed (fuel := 400) (by kernel_rfl)
theorem a10_14 : TabOk Tryz.prog p7 gl (en 22 10 14).1 (en 22 10 14).2 := told_tab fOk10 mixed (fuel := 400) (by kernel_rfl)
theorem a12_8 : TabOk Tryz.prog p7 gl (en 26 12 8).1 (en 26 12 8).2 := told_tab fOk12 mixed (fuel := 400) (by kernel_rfl)
theorem a13_0 : TabOk Tryz.prog p7 gl (en 28 13 0).1 (en 28 13 0).2 := told_tab fOk13 mixed (fuel := 400) (by kernel_rfl)
theorem a11_5 : TabOk Tryz.prog p7 gl (en 24 11 5).1 (en 24 11 5).2 := told_tab fOk11 mixed (fuel := 400) (by kernel_rfl)
theorem a8_8 : TabOk Tryz.prog p7 gl (en 18 8 8).1 (en 18 8 8).2 := told_tab fOk8 mixed (fuel := 400) (by kernel_rfl)
theorem a6_12 : TabOk Tryz.prog p7 gl (en 14 6 12).1 (en 14 6 12).2 := told_tab fOk6 mixed (fuel := 400) (by kernel_rfl)
theorem a6_6 : TabOk Tryz.prog p7 gl (en 14 6 6).1 (en 14 6 6).2 := told_tab fOk6 mixed (fuel := 400) (by kernel_rfl)
theorem a4_9 : TabOk Tryz.prog p7 gl (en 10 4 9).1 (en 10 4 9).2 := told_tab fOk4 mixed (fuel := 400) (by kernel_rfl)
theorem a2_6 : TabOk Tryz.prog p7 gl (ef 6 2).1 (ef 6 2).2 := told_tab fOk2 mixed (fuel := 400) (by kernel_rfl)
theorem a4_0 : TabOk Tryz.prog p7 gl (en 10 4 0).1 (en 10 4 0).2 := told_tab fOk4 mixed (fuel := 400) (by kernel_rfl)
end Go.Proofs.YtnoekfkfinjfgaaGreatDoor.Dx
