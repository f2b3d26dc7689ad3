/- Calls of walk.At, told by runs of the small machine. No statement of this seat is proved here. -/
import Derived.Test.YtnoekfkfinjfgaaGreatDoorYTbA
import Derived.KernelRfl
set_option autoImplicit false
set_option linter.unusedSectionVars false
set_option maxRecDepth 100000
noncomputable section
namespace Go.Proofs.YtnoekfkfinjfgaaGreatDoor.Dx
open Go

variable [Rho]
theorem a20_34 : TabOk Tryz.prog p7 gl (en 42 20 34).1 (en 42 20 34).2 := told_tab fOk20 mixed (fuel := 400) (by kernel_rfl)
theorem a20_29 : TabOk Tryz.prog p7 gl (en 42 20 29).1 (en 42 20 29).2 := told_tab fOk20 mixed (fuel := 400) (by kernel_rfl)
theorem a19_27 : TabOk Tryz.prog p7 gl (en 40 19 27).1 (en 40 19 27).2 := told_tab fOk19 mixed (fuel := 400) (by kernel_rfl)
theorem a16_34 : TabOk Tryz.prog p7 gl (ef 34 16).1 (ef 34 16).2 := told_tab fOk16 mixed (fuel := 400) (by kernel_rfl)
theorem a17_25 : TabOk Tryz.prog p7 gl (en 36 17 25).1 (en 36 17 25).2 := told_tab fOk17 mixed (fuel := 400) (by kernel_rfl)
theorem a17_24 : TabOk Tryz.prog p7 gl (en 36 17 24).1 (en 36 17 24).2 := told_tab fOk17 mixed (fuel := 400) (by kernel_rfl)
theorem a17_19 : TabOk Tryz.prog p7 gl (en 36 17 19).1 (en 36 17 19).2 := told_tab fOk17 mixed (fuel := 400) (by kernel_rfl)
theorem a17_18 : TabOk Tryz.prog p7 gl (en 36 17 18).1 (en 36 17 18).2 := told_tab fOk17 mixed (fuel := 400) (by kernel_rfl)
theorem a14_24 : TabOk Tryz.prog p7 gl (en 30 14 24).1 (en 30 14 24).2 := told_tab fOk14 mixed (fuel := 400) (by kernel_rfl)
theorem a17_13 : TabOk Tryz.prog p7 gl (en 36 17 13).1 (en 36 17 13).2 := told_tab fOk17 mixed (fuel := 400) (by kernel_rfl)
theorem a15_17 : TabOk Tryz.prog p7 gl (en 32 15 17).1 (en 32 15 17).2 := told_tab fOk15 mixed (fuel := 400) (by kernel_rfl)
theorem a17_8 : TabOk Tryz.prog p7 gl (en 36 17 8).1 (en 36 17 8).2 := told_tab fOk17 mixed (fuel := 400) (by kernel_rfl)
theorem a13_19 : TabOk Tryz.prog p7 gl (en 28 13 19).1 (en 28 13 19).2 := told_tab fOk13 mixed (fuel := 400) (by kernel_rfl)
theorem a16_7 : TabOk Tryz.prog p7 gl (en 34 16 7).1 (en 34 16 7).2 := told_tab fOk16 mixed (fuel := 400) (by kernel_rfl)
theorem a11_20 : TabOk Tryz.prog p7 gl (en 24 11 20).1 (en 24 11 20).2 := told_tab fOk11 mixed (fuel := 400) (by kernel_rfl)
theorem a11_18 : TabOk Tryz.prog p7 gl (en 24 11 18).1 (en 24 11 18).2 := told_tab fOk11 mixed (fuel := 400) (by kernel_rfl)
theorem a11_15 : TabOk Tryz.prog p7 gl (en 24 11 15).1 (en 24 11 15).2 := told_tab fOk11 mixed (fuel := 400) (by kernel_rfl)
theorem a12_10 : TabOk Tryz.prog p7 gl (en 26 12 10).1 (en 26 12 10).2 := told_tab fOk12 mixed (fuel := 400) (by kernel_rfl)
theorem a11_9 : TabOk Tryz.prog p7 gl (en 24 11 9).1 (en 24 11 9).2 := told_tab fOk11 mixed (fuel := 400) (by kernel_rfl)
theorem a10_11 : TabOk Tryz.prog p7 gl (en 22 10 11).1 (en 22 10 11).2 := told_tab fOk10 mixed (fuel := 400) (by kernel_rfl)
theorem a12_0 : TabOk Tryz.prog p7 gl (en 26 12 0).1 (en 26 12 0).2 := told_tab fOk12 mixed (fuel := 400) (by kernel_rfl)
theorem a10_5 : TabOk Tryz.prog p7 gl (en 22 10 5).1 (en 22 10 5).2 := told_tab fOk10 mixed (fuel := 400) (by kernel_rfl)
theorem a7_7 : TabOk Tryz.prog p7 gl (en 16 7 7).1 (en 16 7 7).2 := told_tab fOk7 mixed (fuel := 400) (by kernel_rfl)
theorem a7_6 : TabOk Tryz.prog p7 gl (en 16 7 6).1 (en 16 7 6).2 := told_tab fOk7 mixed (fuel := 400) (by kernel_rfl)
theorem a4_6 : TabOk Tryz.prog p7 gl (en 10 4 6).1 (en 10 4 6).2 := told_tab fOk4 mixed (fuel := 400) (by kernel_rfl)
theorem a4_5 : TabOk Tryz.prog p7 gl (en 10 4 5).1 (en 10 4 5).2 := told_tab fOk4 mixed (fuel := 400) (by kernel_rfl)
end Go.Proofs.YtnoekfkfinjfgaaGreatDoor.Dx
