/- Calls of walk.At, told by runs of the small machine. No statement of this seat is proved here. -/
import Derived.Test.YtnoekfkfinjfgaaGreatDoorYTbA
import Derived.KernelRfl
set_option autoImplicit false
set_option linter.unusedSectionVars false
set_option maxRecDepth 100000
noncomputable section
namespace Go.Proofs.YtnoekfkfinjfgaaGreatDoor.Dx
open Go

variable [Rho]
theorem a20_36 : TabOk Tryz.prog p7 gl (en 42 20 36).1 (en 42 20 36).2 := told_tab fOk20 mixed (fuel := 400) (by kernel_rfl)
theorem a18_34 : TabOk Tryz.prog p7 gl (en 38 18 34).1 (en 38 18 34).2 := told_tab fOk18 mixed (fuel := 400) (by kernel_rfl)
theorem a19_26 : TabOk Tryz.prog p7 gl (en 40 19 26).1 (en 40 19 26).2 := told_tab fOk19 mixed (fuel := 400) (by kernel_rfl)
theorem a19_24 : TabOk Tryz.prog p7 gl (en 40 19 24).1 (en 40 19 24).2 := told_tab fOk19 mixed (fuel := 400) (by kernel_rfl)
theorem a20_14 : TabOk Tryz.prog p7 gl (en 42 20 14).1 (en 42 20 14).2 := told_tab fOk20 mixed (fuel := 400) (by kernel_rfl)
theorem a18_20 : TabOk Tryz.prog p7 gl (en 38 18 20).1 (en 38 18 20).2 := told_tab fOk18 mixed (fuel := 400) (by kernel_rfl)
theorem a14_30 : TabOk Tryz.prog p7 gl (ef 30 14).1 (ef 30 14).2 := told_tab fOk14 mixed (fuel := 400) (by kernel_rfl)
theorem a15_24 : TabOk Tryz.prog p7 gl (en 32 15 24).1 (en 32 15 24).2 := told_tab fOk15 mixed (fuel := 400) (by kernel_rfl)
theorem a13_28 : TabOk Tryz.prog p7 gl (ef 28 13).1 (ef 28 13).2 := told_tab fOk13 mixed (fuel := 400) (by kernel_rfl)
theorem a16_17 : TabOk Tryz.prog p7 gl (en 34 16 17).1 (en 34 16 17).2 := told_tab fOk16 mixed (fuel := 400) (by kernel_rfl)
theorem a18_6 : TabOk Tryz.prog p7 gl (en 38 18 6).1 (en 38 18 6).2 := told_tab fOk18 mixed (fuel := 400) (by kernel_rfl)
theorem a14_19 : TabOk Tryz.prog p7 gl (en 30 14 19).1 (en 30 14 19).2 := told_tab fOk14 mixed (fuel := 400) (by kernel_rfl)
theorem a12_21 : TabOk Tryz.prog p7 gl (en 26 12 21).1 (en 26 12 21).2 := told_tab fOk12 mixed (fuel := 400) (by kernel_rfl)
theorem a11_23 : TabOk Tryz.prog p7 gl (en 24 11 23).1 (en 24 11 23).2 := told_tab fOk11 mixed (fuel := 400) (by kernel_rfl)
theorem a12_17 : TabOk Tryz.prog p7 gl (en 26 12 17).1 (en 26 12 17).2 := told_tab fOk12 mixed (fuel := 400) (by kernel_rfl)
theorem a12_15 : TabOk Tryz.prog p7 gl (en 26 12 15).1 (en 26 12 15).2 := told_tab fOk12 mixed (fuel := 400) (by kernel_rfl)
theorem a14_6 : TabOk Tryz.prog p7 gl (en 30 14 6).1 (en 30 14 6).2 := told_tab fOk14 mixed (fuel := 400) (by kernel_rfl)
theorem a9_18 : TabOk Tryz.prog p7 gl (en 20 9 18).1 (en 20 9 18).2 := told_tab fOk9 mixed (fuel := 400) (by kernel_rfl)
theorem a13_4 : TabOk Tryz.prog p7 gl (en 28 13 4).1 (en 28 13 4).2 := told_tab fOk13 mixed (fuel := 400) (by kernel_rfl)
theorem a8_15 : TabOk Tryz.prog p7 gl (en 18 8 15).1 (en 18 8 15).2 := told_tab fOk8 mixed (fuel := 400) (by kernel_rfl)
theorem a8_13 : TabOk Tryz.prog p7 gl (en 18 8 13).1 (en 18 8 13).2 := told_tab fOk8 mixed (fuel := 400) (by kernel_rfl)
theorem a10_3 : TabOk Tryz.prog p7 gl (en 22 10 3).1 (en 22 10 3).2 := told_tab fOk10 mixed (fuel := 400) (by kernel_rfl)
theorem a9_4 : TabOk Tryz.prog p7 gl (en 20 9 4).1 (en 20 9 4).2 := told_tab fOk9 mixed (fuel := 400) (by kernel_rfl)
theorem a8_1 : TabOk Tryz.prog p7 gl (en 18 8 1).1 (en 18 8 1).2 := told_tab fOk8 mixed (fuel := 400) (by kernel_rfl)
theorem a6_4 : TabOk Tryz.prog p7 gl (en 14 6 4).1 (en 14 6 4).2 := told_tab fOk6 mixed (fuel := 400) (by kernel_rfl)
theorem a3_4 : TabOk Tryz.prog p7 gl (en 8 3 4).1 (en 8 3 4).2 := told_tab fOk3 mixed (fuel := 400) (by kernel_rfl)
theorem a2_3 : TabOk Tryz.prog p7 gl (en 6 2 3).1 (en 6 2 3).2 := told_tab fOk2 mixed (fuel := 400) (by kernel_rfl)
end Go.Proofs.YtnoekfkfinjfgaaGreatDoor.Dx
