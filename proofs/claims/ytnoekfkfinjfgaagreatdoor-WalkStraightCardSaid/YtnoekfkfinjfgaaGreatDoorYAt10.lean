/- Calls of walk.At, told by runs of the small machine. No statement of this seat is proved here. -/
import Derived.Test.YtnoekfkfinjfgaaGreatDoorYTbA
import Derived.KernelRfl
set_option autoImplicit false
set_option linter.unusedSectionVars false
set_option maxRecDepth 100000
noncomputable section
namespace Go.Proofs.YtnoekfkfinjfgaaGreatDoor.Dx
open Go

variable [Rho]
theorem a19_38 : TabOk Tryz.prog p7 gl (en 40 19 38).1 (en 40 19 38).2 := told_tab fOk19 mixed (fuel := 400) (by kernel_rfl)
theorem a19_32 : TabOk Tryz.prog p7 gl (en 40 19 32).1 (en 40 19 32).2 := told_tab fOk19 mixed (fuel := 400) (by kernel_rfl)
theorem a20_23 : TabOk Tryz.prog p7 gl (en 42 20 23).1 (en 42 20 23).2 := told_tab fOk20 mixed (fuel := 400) (by kernel_rfl)
theorem a20_20 : TabOk Tryz.prog p7 gl (en 42 20 20).1 (en 42 20 20).2 := told_tab fOk20 mixed (fuel := 400) (by kernel_rfl)
theorem a15_32 : TabOk Tryz.prog p7 gl (ef 32 15).1 (ef 32 15).2 := told_tab fOk15 mixed (fuel := 400) (by kernel_rfl)
theorem a19_17 : TabOk Tryz.prog p7 gl (en 40 19 17).1 (en 40 19 17).2 := told_tab fOk19 mixed (fuel := 400) (by kernel_rfl)
theorem a19_12 : TabOk Tryz.prog p7 gl (en 40 19 12).1 (en 40 19 12).2 := told_tab fOk19 mixed (fuel := 400) (by kernel_rfl)
theorem a14_28 : TabOk Tryz.prog p7 gl (en 30 14 28).1 (en 30 14 28).2 := told_tab fOk14 mixed (fuel := 400) (by kernel_rfl)
theorem a18_11 : TabOk Tryz.prog p7 gl (en 38 18 11).1 (en 38 18 11).2 := told_tab fOk18 mixed (fuel := 400) (by kernel_rfl)
theorem a14_22 : TabOk Tryz.prog p7 gl (en 30 14 22).1 (en 30 14 22).2 := told_tab fOk14 mixed (fuel := 400) (by kernel_rfl)
theorem a19_4 : TabOk Tryz.prog p7 gl (en 40 19 4).1 (en 40 19 4).2 := told_tab fOk19 mixed (fuel := 400) (by kernel_rfl)
theorem a16_11 : TabOk Tryz.prog p7 gl (en 34 16 11).1 (en 34 16 11).2 := told_tab fOk16 mixed (fuel := 400) (by kernel_rfl)
theorem a17_7 : TabOk Tryz.prog p7 gl (en 36 17 7).1 (en 36 17 7).2 := told_tab fOk17 mixed (fuel := 400) (by kernel_rfl)
theorem a14_12 : TabOk Tryz.prog p7 gl (en 30 14 12).1 (en 30 14 12).2 := told_tab fOk14 mixed (fuel := 400) (by kernel_rfl)
theorem a15_9 : TabOk Tryz.prog p7 gl (en 32 15 9).1 (en 32 15 9).2 := told_tab fOk15 mixed (fuel := 400) (by kernel_rfl)
theorem a10_20 : TabOk Tryz.prog p7 gl (en 22 10 20).1 (en 22 10 20).2 := told_tab fOk10 mixed (fuel := 400) (by kernel_rfl)
theorem a16_0 : TabOk Tryz.prog p7 gl (en 34 16 0).1 (en 34 16 0).2 := told_tab fOk16 mixed (fuel := 400) (by kernel_rfl)
theorem a13_6 : TabOk Tryz.prog p7 gl (en 28 13 6).1 (en 28 13 6).2 := told_tab fOk13 mixed (fuel := 400) (by kernel_rfl)
theorem a11_11 : TabOk Tryz.prog p7 gl (en 24 11 11).1 (en 24 11 11).2 := told_tab fOk11 mixed (fuel := 400) (by kernel_rfl)
theorem a8_14 : TabOk Tryz.prog p7 gl (en 18 8 14).1 (en 18 8 14).2 := told_tab fOk8 mixed (fuel := 400) (by kernel_rfl)
theorem a9_11 : TabOk Tryz.prog p7 gl (en 20 9 11).1 (en 20 9 11).2 := told_tab fOk9 mixed (fuel := 400) (by kernel_rfl)
theorem a6_14 : TabOk Tryz.prog p7 gl (ef 14 6).1 (ef 14 6).2 := told_tab fOk6 mixed (fuel := 400) (by kernel_rfl)
theorem a7_9 : TabOk Tryz.prog p7 gl (en 16 7 9).1 (en 16 7 9).2 := told_tab fOk7 mixed (fuel := 400) (by kernel_rfl)
theorem a7_5 : TabOk Tryz.prog p7 gl (en 16 7 5).1 (en 16 7 5).2 := told_tab fOk7 mixed (fuel := 400) (by kernel_rfl)
theorem a7_0 : TabOk Tryz.prog p7 gl (en 16 7 0).1 (en 16 7 0).2 := told_tab fOk7 mixed (fuel := 400) (by kernel_rfl)
theorem a3_6 : TabOk Tryz.prog p7 gl (en 8 3 6).1 (en 8 3 6).2 := told_tab fOk3 mixed (fuel := 400) (by kernel_rfl)
theorem a1_2 : TabOk Tryz.prog p7 gl (en 4 1 2).1 (en 4 1 2).2 := told_tab fOk1 mixed (fuel := 400) (by kernel_rfl)
end Go.Proofs.YtnoekfkfinjfgaaGreatDoor.Dx
