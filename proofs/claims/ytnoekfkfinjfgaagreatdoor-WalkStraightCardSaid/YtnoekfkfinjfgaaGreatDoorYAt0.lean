/- Calls of walk.At, told by runs of the small machine. No statement of this seat is proved here. -/
import Derived.Test.YtnoekfkfinjfgaaGreatDoorYTbA
import Derived.KernelRfl
set_option autoImplicit false
set_option linter.unusedSectionVars false
set_option maxRecDepth 100000
noncomputable section
namespace Go.Proofs.YtnoekfkfinjfgaaGreatDoor.Dx
open Go

variable [Rho]
theorem a20_42 : TabOk Tryz.prog p7 gl (ef 42 20).1 (ef 42 20).2 := told_tab fOk20 mixed (fuel := 400) (by kernel_rfl)
theorem a18_32 : TabOk Tryz.prog p7 gl (en 38 18 32).1 (en 38 18 32).2 := told_tab fOk18 mixed (fuel := 400) (by kernel_rfl)
theorem a18_28 : TabOk Tryz.prog p7 gl (en 38 18 28).1 (en 38 18 28).2 := told_tab fOk18 mixed (fuel := 400) (by kernel_rfl)
theorem a19_21 : TabOk Tryz.prog p7 gl (en 40 19 21).1 (en 40 19 21).2 := told_tab fOk19 mixed (fuel := 400) (by kernel_rfl)
theorem a20_17 : TabOk Tryz.prog p7 gl (en 42 20 17).1 (en 42 20 17).2 := told_tab fOk20 mixed (fuel := 400) (by kernel_rfl)
theorem a15_28 : TabOk Tryz.prog p7 gl (en 32 15 28).1 (en 32 15 28).2 := told_tab fOk15 mixed (fuel := 400) (by kernel_rfl)
theorem a17_21 : TabOk Tryz.prog p7 gl (en 36 17 21).1 (en 36 17 21).2 := told_tab fOk17 mixed (fuel := 400) (by kernel_rfl)
theorem a14_26 : TabOk Tryz.prog p7 gl (en 30 14 26).1 (en 30 14 26).2 := told_tab fOk14 mixed (fuel := 400) (by kernel_rfl)
theorem a17_16 : TabOk Tryz.prog p7 gl (en 36 17 16).1 (en 36 17 16).2 := told_tab fOk17 mixed (fuel := 400) (by kernel_rfl)
theorem a18_8 : TabOk Tryz.prog p7 gl (en 38 18 8).1 (en 38 18 8).2 := told_tab fOk18 mixed (fuel := 400) (by kernel_rfl)
theorem a13_24 : TabOk Tryz.prog p7 gl (en 28 13 24).1 (en 28 13 24).2 := told_tab fOk13 mixed (fuel := 400) (by kernel_rfl)
theorem a13_20 : TabOk Tryz.prog p7 gl (en 28 13 20).1 (en 28 13 20).2 := told_tab fOk13 mixed (fuel := 400) (by kernel_rfl)
theorem a12_23 : TabOk Tryz.prog p7 gl (en 26 12 23).1 (en 26 12 23).2 := told_tab fOk12 mixed (fuel := 400) (by kernel_rfl)
theorem a17_3 : TabOk Tryz.prog p7 gl (en 36 17 3).1 (en 36 17 3).2 := told_tab fOk17 mixed (fuel := 400) (by kernel_rfl)
theorem a17_2 : TabOk Tryz.prog p7 gl (en 36 17 2).1 (en 36 17 2).2 := told_tab fOk17 mixed (fuel := 400) (by kernel_rfl)
theorem a11_17 : TabOk Tryz.prog p7 gl (en 24 11 17).1 (en 24 11 17).2 := told_tab fOk11 mixed (fuel := 400) (by kernel_rfl)
theorem a10_19 : TabOk Tryz.prog p7 gl (en 22 10 19).1 (en 22 10 19).2 := told_tab fOk10 mixed (fuel := 400) (by kernel_rfl)
theorem a10_15 : TabOk Tryz.prog p7 gl (en 22 10 15).1 (en 22 10 15).2 := told_tab fOk10 mixed (fuel := 400) (by kernel_rfl)
theorem a9_16 : TabOk Tryz.prog p7 gl (en 20 9 16).1 (en 20 9 16).2 := told_tab fOk9 mixed (fuel := 400) (by kernel_rfl)
theorem a11_6 : TabOk Tryz.prog p7 gl (en 24 11 6).1 (en 24 11 6).2 := told_tab fOk11 mixed (fuel := 400) (by kernel_rfl)
theorem a12_2 : TabOk Tryz.prog p7 gl (en 26 12 2).1 (en 26 12 2).2 := told_tab fOk12 mixed (fuel := 400) (by kernel_rfl)
theorem a6_13 : TabOk Tryz.prog p7 gl (en 14 6 13).1 (en 14 6 13).2 := told_tab fOk6 mixed (fuel := 400) (by kernel_rfl)
theorem a10_1 : TabOk Tryz.prog p7 gl (en 22 10 1).1 (en 22 10 1).2 := told_tab fOk10 mixed (fuel := 400) (by kernel_rfl)
theorem a5_9 : TabOk Tryz.prog p7 gl (en 12 5 9).1 (en 12 5 9).2 := told_tab fOk5 mixed (fuel := 400) (by kernel_rfl)
theorem a4_10 : TabOk Tryz.prog p7 gl (ef 10 4).1 (ef 10 4).2 := told_tab fOk4 mixed (fuel := 400) (by kernel_rfl)
theorem a4_1 : TabOk Tryz.prog p7 gl (en 10 4 1).1 (en 10 4 1).2 := told_tab fOk4 mixed (fuel := 400) (by kernel_rfl)
theorem a3_1 : TabOk Tryz.prog p7 gl (en 8 3 1).1 (en 8 3 1).2 := told_tab fOk3 mixed (fuel := 400) (by kernel_rfl)
end Go.Proofs.YtnoekfkfinjfgaaGreatDoor.Dx
