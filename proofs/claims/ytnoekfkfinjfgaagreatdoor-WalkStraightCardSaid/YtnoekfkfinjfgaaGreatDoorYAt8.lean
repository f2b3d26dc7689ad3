/- Calls of walk.At, told by runs of the small machine. No statement of this seat is proved here. -/
import Derived.Test.YtnoekfkfinjfgaaGreatDoorYTbA
import Derived.KernelRfl
set_option autoImplicit false
set_option linter.unusedSectionVars false
set_option maxRecDepth 100000
noncomputable section
namespace Go.Proofs.YtnoekfkfinjfgaaGreatDoor.Dx
open Go

variable [Rho]
theorem a19_39 : TabOk Tryz.prog p7 gl (en 40 19 39).1 (en 40 19 39).2 := told_tab fOk19 mixed (fuel := 400) (by kernel_rfl)
theorem a18_35 : TabOk Tryz.prog p7 gl (en 38 18 35).1 (en 38 18 35).2 := told_tab fOk18 mixed (fuel := 400) (by kernel_rfl)
theorem a17_33 : TabOk Tryz.prog p7 gl (en 36 17 33).1 (en 36 17 33).2 := told_tab fOk17 mixed (fuel := 400) (by kernel_rfl)
theorem a18_27 : TabOk Tryz.prog p7 gl (en 38 18 27).1 (en 38 18 27).2 := told_tab fOk18 mixed (fuel := 400) (by kernel_rfl)
theorem a16_28 : TabOk Tryz.prog p7 gl (en 34 16 28).1 (en 34 16 28).2 := told_tab fOk16 mixed (fuel := 400) (by kernel_rfl)
theorem a18_21 : TabOk Tryz.prog p7 gl (en 38 18 21).1 (en 38 18 21).2 := told_tab fOk18 mixed (fuel := 400) (by kernel_rfl)
theorem a16_22 : TabOk Tryz.prog p7 gl (en 34 16 22).1 (en 34 16 22).2 := told_tab fOk16 mixed (fuel := 400) (by kernel_rfl)
theorem a15_25 : TabOk Tryz.prog p7 gl (en 32 15 25).1 (en 32 15 25).2 := told_tab fOk15 mixed (fuel := 400) (by kernel_rfl)
theorem a17_14 : TabOk Tryz.prog p7 gl (en 36 17 14).1 (en 36 17 14).2 := told_tab fOk17 mixed (fuel := 400) (by kernel_rfl)
theorem a13_26 : TabOk Tryz.prog p7 gl (en 28 13 26).1 (en 28 13 26).2 := told_tab fOk13 mixed (fuel := 400) (by kernel_rfl)
theorem a19_3 : TabOk Tryz.prog p7 gl (en 40 19 3).1 (en 40 19 3).2 := told_tab fOk19 mixed (fuel := 400) (by kernel_rfl)
theorem a17_9 : TabOk Tryz.prog p7 gl (en 36 17 9).1 (en 36 17 9).2 := told_tab fOk17 mixed (fuel := 400) (by kernel_rfl)
theorem a13_18 : TabOk Tryz.prog p7 gl (en 28 13 18).1 (en 28 13 18).2 := told_tab fOk13 mixed (fuel := 400) (by kernel_rfl)
theorem a17_4 : TabOk Tryz.prog p7 gl (en 36 17 4).1 (en 36 17 4).2 := told_tab fOk17 mixed (fuel := 400) (by kernel_rfl)
theorem a14_10 : TabOk Tryz.prog p7 gl (en 30 14 10).1 (en 30 14 10).2 := told_tab fOk14 mixed (fuel := 400) (by kernel_rfl)
theorem a15_6 : TabOk Tryz.prog p7 gl (en 32 15 6).1 (en 32 15 6).2 := told_tab fOk15 mixed (fuel := 400) (by kernel_rfl)
theorem a10_18 : TabOk Tryz.prog p7 gl (en 22 10 18).1 (en 22 10 18).2 := told_tab fOk10 mixed (fuel := 400) (by kernel_rfl)
theorem a15_0 : TabOk Tryz.prog p7 gl (en 32 15 0).1 (en 32 15 0).2 := told_tab fOk15 mixed (fuel := 400) (by kernel_rfl)
theorem a11_10 : TabOk Tryz.prog p7 gl (en 24 11 10).1 (en 24 11 10).2 := told_tab fOk11 mixed (fuel := 400) (by kernel_rfl)
theorem a9_12 : TabOk Tryz.prog p7 gl (en 20 9 12).1 (en 20 9 12).2 := told_tab fOk9 mixed (fuel := 400) (by kernel_rfl)
theorem a9_10 : TabOk Tryz.prog p7 gl (en 20 9 10).1 (en 20 9 10).2 := told_tab fOk9 mixed (fuel := 400) (by kernel_rfl)
theorem a11_0 : TabOk Tryz.prog p7 gl (en 24 11 0).1 (en 24 11 0).2 := told_tab fOk11 mixed (fuel := 400) (by kernel_rfl)
theorem a8_7 : TabOk Tryz.prog p7 gl (en 18 8 7).1 (en 18 8 7).2 := told_tab fOk8 mixed (fuel := 400) (by kernel_rfl)
theorem a5_8 : TabOk Tryz.prog p7 gl (en 12 5 8).1 (en 12 5 8).2 := told_tab fOk5 mixed (fuel := 400) (by kernel_rfl)
theorem a6_5 : TabOk Tryz.prog p7 gl (en 14 6 5).1 (en 14 6 5).2 := told_tab fOk6 mixed (fuel := 400) (by kernel_rfl)
theorem a2_5 : TabOk Tryz.prog p7 gl (en 6 2 5).1 (en 6 2 5).2 := told_tab fOk2 mixed (fuel := 400) (by kernel_rfl)
theorem a3_2 : TabOk Tryz.prog p7 gl (en 8 3 2).1 (en 8 3 2).2 := told_tab fOk3 mixed (fuel := 400) (by kernel_rfl)
end Go.Proofs.YtnoekfkfinjfgaaGreatDoor.Dx
