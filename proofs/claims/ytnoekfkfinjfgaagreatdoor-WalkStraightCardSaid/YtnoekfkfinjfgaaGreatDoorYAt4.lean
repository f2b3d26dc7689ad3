/- Calls of walk.At, told by runs of the small machine. No statement of this seat is proved here. -/
import Derived.Test.YtnoekfkfinjfgaaGreatDoorYTbA
import Derived.KernelRfl
set_option autoImplicit false
set_option linter.unusedSectionVars false
set_option maxRecDepth 100000
noncomputable section
namespace Go.Proofs.YtnoekfkfinjfgaaGreatDoor.Dx
open Go

variable [Rho]
theorem a20_38 : TabOk Tryz.prog p7 gl (en 42 20 38).1 (en 42 20 38).2 := told_tab fOk20 mixed (fuel := 400) (by kernel_rfl)
theorem a19_30 : TabOk Tryz.prog p7 gl (en 40 19 30).1 (en 40 19 30).2 := told_tab fOk19 mixed (fuel := 400) (by kernel_rfl)
theorem a18_29 : TabOk Tryz.prog p7 gl (en 38 18 29).1 (en 38 18 29).2 := told_tab fOk18 mixed (fuel := 400) (by kernel_rfl)
theorem a18_26 : TabOk Tryz.prog p7 gl (en 38 18 26).1 (en 38 18 26).2 := told_tab fOk18 mixed (fuel := 400) (by kernel_rfl)
theorem a16_29 : TabOk Tryz.prog p7 gl (en 34 16 29).1 (en 34 16 29).2 := told_tab fOk16 mixed (fuel := 400) (by kernel_rfl)
theorem a19_16 : TabOk Tryz.prog p7 gl (en 40 19 16).1 (en 40 19 16).2 := told_tab fOk19 mixed (fuel := 400) (by kernel_rfl)
theorem a18_16 : TabOk Tryz.prog p7 gl (en 38 18 16).1 (en 38 18 16).2 := told_tab fOk18 mixed (fuel := 400) (by kernel_rfl)
theorem a18_15 : TabOk Tryz.prog p7 gl (en 38 18 15).1 (en 38 18 15).2 := told_tab fOk18 mixed (fuel := 400) (by kernel_rfl)
theorem a15_21 : TabOk Tryz.prog p7 gl (en 32 15 21).1 (en 32 15 21).2 := told_tab fOk15 mixed (fuel := 400) (by kernel_rfl)
theorem a18_9 : TabOk Tryz.prog p7 gl (en 38 18 9).1 (en 38 18 9).2 := told_tab fOk18 mixed (fuel := 400) (by kernel_rfl)
theorem a17_11 : TabOk Tryz.prog p7 gl (en 36 17 11).1 (en 36 17 11).2 := told_tab fOk17 mixed (fuel := 400) (by kernel_rfl)
theorem a19_1 : TabOk Tryz.prog p7 gl (en 40 19 1).1 (en 40 19 1).2 := told_tab fOk19 mixed (fuel := 400) (by kernel_rfl)
theorem a18_3 : TabOk Tryz.prog p7 gl (en 38 18 3).1 (en 38 18 3).2 := told_tab fOk18 mixed (fuel := 400) (by kernel_rfl)
theorem a18_0 : TabOk Tryz.prog p7 gl (en 38 18 0).1 (en 38 18 0).2 := told_tab fOk18 mixed (fuel := 400) (by kernel_rfl)
theorem a13_14 : TabOk Tryz.prog p7 gl (en 28 13 14).1 (en 28 13 14).2 := told_tab fOk13 mixed (fuel := 400) (by kernel_rfl)
theorem a14_9 : TabOk Tryz.prog p7 gl (en 30 14 9).1 (en 30 14 9).2 := told_tab fOk14 mixed (fuel := 400) (by kernel_rfl)
theorem a13_9 : TabOk Tryz.prog p7 gl (en 28 13 9).1 (en 28 13 9).2 := told_tab fOk13 mixed (fuel := 400) (by kernel_rfl)
theorem a10_16 : TabOk Tryz.prog p7 gl (en 22 10 16).1 (en 22 10 16).2 := told_tab fOk10 mixed (fuel := 400) (by kernel_rfl)
theorem a8_18 : TabOk Tryz.prog p7 gl (ef 18 8).1 (ef 18 8).2 := told_tab fOk8 mixed (fuel := 400) (by kernel_rfl)
theorem a11_8 : TabOk Tryz.prog p7 gl (en 24 11 8).1 (en 24 11 8).2 := told_tab fOk11 mixed (fuel := 400) (by kernel_rfl)
theorem a7_14 : TabOk Tryz.prog p7 gl (en 16 7 14).1 (en 16 7 14).2 := told_tab fOk7 mixed (fuel := 400) (by kernel_rfl)
theorem a8_10 : TabOk Tryz.prog p7 gl (en 18 8 10).1 (en 18 8 10).2 := told_tab fOk8 mixed (fuel := 400) (by kernel_rfl)
theorem a8_5 : TabOk Tryz.prog p7 gl (en 18 8 5).1 (en 18 8 5).2 := told_tab fOk8 mixed (fuel := 400) (by kernel_rfl)
theorem a9_0 : TabOk Tryz.prog p7 gl (en 20 9 0).1 (en 20 9 0).2 := told_tab fOk9 mixed (fuel := 400) (by kernel_rfl)
theorem a5_4 : TabOk Tryz.prog p7 gl (en 12 5 4).1 (en 12 5 4).2 := told_tab fOk5 mixed (fuel := 400) (by kernel_rfl)
theorem a3_7 : TabOk Tryz.prog p7 gl (en 8 3 7).1 (en 8 3 7).2 := told_tab fOk3 mixed (fuel := 400) (by kernel_rfl)
end Go.Proofs.YtnoekfkfinjfgaaGreatDoor.Dx
