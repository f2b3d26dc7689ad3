/- Calls of walk.At, told by runs of the small machine. No statement of this seat is proved here. -/
import Derived.Test.YtnoekfkfinjfgaaGreatDoorYTbA
import Derived.KernelRfl
set_option autoImplicit false
set_option linter.unusedSectionVars false
set_option maxRecDepth 100000
noncomputable section
namespace Go.Proofs.YtnoekfkfinjfgaaGreatDoor.Dx
open Go

variable [Rho]
theorem a19_36 : TabOk Tryz.prog p7 gl (en 40 19 36).1 (en 40 19 36).2 := told_tab fOk19 mixed (fuel := 400) (by kernel_rfl)
theorem a20_30 : TabOk Tryz.prog p7 gl (en 42 20 30).1 (en 42 20 30).2 := told_tab fOk20 mixed (fuel := 400) (by kernel_rfl)
theorem a18_31 : TabOk Tryz.prog p7 gl (en 38 18 31).1 (en 38 18 31).2 := told_tab fOk18 mixed (fuel := 400) (by kernel_rfl)
theorem a19_22 : TabOk Tryz.prog p7 gl (en 40 19 22).1 (en 40 19 22).2 := told_tab fOk19 mixed (fuel := 400) (by kernel_rfl)
theorem a18_23 : TabOk Tryz.prog p7 gl (en 38 18 23).1 (en 38 18 23).2 := told_tab fOk18 mixed (fuel := 400) (by kernel_rfl)
theorem a18_19 : TabOk Tryz.prog p7 gl (en 38 18 19).1 (en 38 18 19).2 := told_tab fOk18 mixed (fuel := 400) (by kernel_rfl)
theorem a20_10 : TabOk Tryz.prog p7 gl (en 42 20 10).1 (en 42 20 10).2 := told_tab fOk20 mixed (fuel := 400) (by kernel_rfl)
theorem a16_20 : TabOk Tryz.prog p7 gl (en 34 16 20).1 (en 34 16 20).2 := told_tab fOk16 mixed (fuel := 400) (by kernel_rfl)
theorem a18_12 : TabOk Tryz.prog p7 gl (en 38 18 12).1 (en 38 18 12).2 := told_tab fOk18 mixed (fuel := 400) (by kernel_rfl)
theorem a13_25 : TabOk Tryz.prog p7 gl (en 28 13 25).1 (en 28 13 25).2 := told_tab fOk13 mixed (fuel := 400) (by kernel_rfl)
theorem a14_21 : TabOk Tryz.prog p7 gl (en 30 14 21).1 (en 30 14 21).2 := told_tab fOk14 mixed (fuel := 400) (by kernel_rfl)
theorem a18_4 : TabOk Tryz.prog p7 gl (en 38 18 4).1 (en 38 18 4).2 := told_tab fOk18 mixed (fuel := 400) (by kernel_rfl)
theorem a16_10 : TabOk Tryz.prog p7 gl (en 34 16 10).1 (en 34 16 10).2 := told_tab fOk16 mixed (fuel := 400) (by kernel_rfl)
theorem a16_6 : TabOk Tryz.prog p7 gl (en 34 16 6).1 (en 34 16 6).2 := told_tab fOk16 mixed (fuel := 400) (by kernel_rfl)
theorem a13_15 : TabOk Tryz.prog p7 gl (en 28 13 15).1 (en 28 13 15).2 := told_tab fOk13 mixed (fuel := 400) (by kernel_rfl)
theorem a12_14 : TabOk Tryz.prog p7 gl (en 26 12 14).1 (en 26 12 14).2 := told_tab fOk12 mixed (fuel := 400) (by kernel_rfl)
theorem a12_13 : TabOk Tryz.prog p7 gl (en 26 12 13).1 (en 26 12 13).2 := told_tab fOk12 mixed (fuel := 400) (by kernel_rfl)
theorem a11_12 : TabOk Tryz.prog p7 gl (en 24 11 12).1 (en 24 11 12).2 := told_tab fOk11 mixed (fuel := 400) (by kernel_rfl)
theorem a10_13 : TabOk Tryz.prog p7 gl (en 22 10 13).1 (en 22 10 13).2 := told_tab fOk10 mixed (fuel := 400) (by kernel_rfl)
theorem a11_7 : TabOk Tryz.prog p7 gl (en 24 11 7).1 (en 24 11 7).2 := told_tab fOk11 mixed (fuel := 400) (by kernel_rfl)
theorem a10_7 : TabOk Tryz.prog p7 gl (en 22 10 7).1 (en 22 10 7).2 := told_tab fOk10 mixed (fuel := 400) (by kernel_rfl)
theorem a7_11 : TabOk Tryz.prog p7 gl (en 16 7 11).1 (en 16 7 11).2 := told_tab fOk7 mixed (fuel := 400) (by kernel_rfl)
theorem a9_5 : TabOk Tryz.prog p7 gl (en 20 9 5).1 (en 20 9 5).2 := told_tab fOk9 mixed (fuel := 400) (by kernel_rfl)
theorem a7_3 : TabOk Tryz.prog p7 gl (en 16 7 3).1 (en 16 7 3).2 := told_tab fOk7 mixed (fuel := 400) (by kernel_rfl)
theorem a5_7 : TabOk Tryz.prog p7 gl (en 12 5 7).1 (en 12 5 7).2 := told_tab fOk5 mixed (fuel := 400) (by kernel_rfl)
theorem a4_2 : TabOk Tryz.prog p7 gl (en 10 4 2).1 (en 10 4 2).2 := told_tab fOk4 mixed (fuel := 400) (by kernel_rfl)
theorem a3_0 : TabOk Tryz.prog p7 gl (en 8 3 0).1 (en 8 3 0).2 := told_tab fOk3 mixed (fuel := 400) (by kernel_rfl)
end Go.Proofs.YtnoekfkfinjfgaaGreatDoor.Dx
