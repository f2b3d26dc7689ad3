/- Calls of walk.At, told by runs of the small machine. No statement of this seat is proved here. -/
import Derived.Test.YtnoekfkfinjfgaaGreatDoorYTbA
import Derived.KernelRfl
set_option autoImplicit false
set_option linter.unusedSectionVars false
set_option maxRecDepth 100000
noncomputable section
namespace Go.Proofs.YtnoekfkfinjfgaaGreatDoor.Dx
open Go

variable [Rho]
theorem a20_39 : TabOk Tryz.prog p7 gl (en 42 20 39).1 (en 42 20 39).2 := told_tab fOk20 mixed (fuel := 400) (by kernel_rfl)
theorem a20_26 : TabOk Tryz.prog p7 gl (en 42 20 26).1 (en 42 20 26).2 := told_tab fOk20 mixed (fuel := 400) (by kernel_rfl)
theorem a17_32 : TabOk Tryz.prog p7 gl (en 36 17 32).1 (en 36 17 32).2 := told_tab fOk17 mixed (fuel := 400) (by kernel_rfl)
theorem a17_29 : TabOk Tryz.prog p7 gl (en 36 17 29).1 (en 36 17 29).2 := told_tab fOk17 mixed (fuel := 400) (by kernel_rfl)
theorem a17_26 : TabOk Tryz.prog p7 gl (en 36 17 26).1 (en 36 17 26).2 := told_tab fOk17 mixed (fuel := 400) (by kernel_rfl)
theorem a16_26 : TabOk Tryz.prog p7 gl (en 34 16 26).1 (en 34 16 26).2 := told_tab fOk16 mixed (fuel := 400) (by kernel_rfl)
theorem a19_13 : TabOk Tryz.prog p7 gl (en 40 19 13).1 (en 40 19 13).2 := told_tab fOk19 mixed (fuel := 400) (by kernel_rfl)
theorem a19_11 : TabOk Tryz.prog p7 gl (en 40 19 11).1 (en 40 19 11).2 := told_tab fOk19 mixed (fuel := 400) (by kernel_rfl)
theorem a13_27 : TabOk Tryz.prog p7 gl (en 28 13 27).1 (en 28 13 27).2 := told_tab fOk13 mixed (fuel := 400) (by kernel_rfl)
theorem a18_10 : TabOk Tryz.prog p7 gl (en 38 18 10).1 (en 38 18 10).2 := told_tab fOk18 mixed (fuel := 400) (by kernel_rfl)
theorem a15_16 : TabOk Tryz.prog p7 gl (en 32 15 16).1 (en 32 15 16).2 := told_tab fOk15 mixed (fuel := 400) (by kernel_rfl)
theorem a19_2 : TabOk Tryz.prog p7 gl (en 40 19 2).1 (en 40 19 2).2 := told_tab fOk19 mixed (fuel := 400) (by kernel_rfl)
theorem a14_15 : TabOk Tryz.prog p7 gl (en 30 14 15).1 (en 30 14 15).2 := told_tab fOk14 mixed (fuel := 400) (by kernel_rfl)
theorem a15_11 : TabOk Tryz.prog p7 gl (en 32 15 11).1 (en 32 15 11).2 := told_tab fOk15 mixed (fuel := 400) (by kernel_rfl)
theorem a12_16 : TabOk Tryz.prog p7 gl (en 26 12 16).1 (en 26 12 16).2 := told_tab fOk12 mixed (fuel := 400) (by kernel_rfl)
theorem a11_19 : TabOk Tryz.prog p7 gl (en 24 11 19).1 (en 24 11 19).2 := told_tab fOk11 mixed (fuel := 400) (by kernel_rfl)
theorem a11_14 : TabOk Tryz.prog p7 gl (en 24 11 14).1 (en 24 11 14).2 := told_tab fOk11 mixed (fuel := 400) (by kernel_rfl)
theorem a9_19 : TabOk Tryz.prog p7 gl (en 20 9 19).1 (en 20 9 19).2 := told_tab fOk9 mixed (fuel := 400) (by kernel_rfl)
theorem a9_15 : TabOk Tryz.prog p7 gl (en 20 9 15).1 (en 20 9 15).2 := told_tab fOk9 mixed (fuel := 400) (by kernel_rfl)
theorem a12_5 : TabOk Tryz.prog p7 gl (en 26 12 5).1 (en 26 12 5).2 := told_tab fOk12 mixed (fuel := 400) (by kernel_rfl)
theorem a9_9 : TabOk Tryz.prog p7 gl (en 20 9 9).1 (en 20 9 9).2 := told_tab fOk9 mixed (fuel := 400) (by kernel_rfl)
theorem a10_4 : TabOk Tryz.prog p7 gl (en 22 10 4).1 (en 22 10 4).2 := told_tab fOk10 mixed (fuel := 400) (by kernel_rfl)
theorem a7_8 : TabOk Tryz.prog p7 gl (en 16 7 8).1 (en 16 7 8).2 := told_tab fOk7 mixed (fuel := 400) (by kernel_rfl)
theorem a5_10 : TabOk Tryz.prog p7 gl (en 12 5 10).1 (en 12 5 10).2 := told_tab fOk5 mixed (fuel := 400) (by kernel_rfl)
theorem a6_3 : TabOk Tryz.prog p7 gl (en 14 6 3).1 (en 14 6 3).2 := told_tab fOk6 mixed (fuel := 400) (by kernel_rfl)
theorem a5_1 : TabOk Tryz.prog p7 gl (en 12 5 1).1 (en 12 5 1).2 := told_tab fOk5 mixed (fuel := 400) (by kernel_rfl)
theorem a2_0 : TabOk Tryz.prog p7 gl (en 6 2 0).1 (en 6 2 0).2 := told_tab fOk2 mixed (fuel := 400) (by kernel_rfl)
end Go.Proofs.YtnoekfkfinjfgaaGreatDoor.Dx
