/- Calls of walk.At, told by runs of the small machine. No statement of this seat is proved here. -/
import Derived.Test.YtnoekfkfinjfgaaGreatDoorYTbA
import Derived.KernelRfl
set_option autoImplicit false
set_option linter.unusedSectionVars false
set_option maxRecDepth 100000
noncomputable section
namespace Go.Proofs.YtnoekfkfinjfgaaGreatDoor.Dx
open Go

variable [Rho]
theorem a20_41 : TabOk Tryz.prog p7 gl (en 42 20 41).1 (en 42 20 41).2 := told_tab fOk20 mixed (fuel := 400) (by kernel_rfl)
theorem a19_29 : TabOk Tryz.prog p7 gl (en 40 19 29).1 (en 40 19 29).2 := told_tab fOk19 mixed (fuel := 400) (by kernel_rfl)
theorem a20_21 : TabOk Tryz.prog p7 gl (en 42 20 21).1 (en 42 20 21).2 := told_tab fOk20 mixed (fuel := 400) (by kernel_rfl)
theorem a16_31 : TabOk Tryz.prog p7 gl (en 34 16 31).1 (en 34 16 31).2 := told_tab fOk16 mixed (fuel := 400) (by kernel_rfl)
theorem a18_24 : TabOk Tryz.prog p7 gl (en 38 18 24).1 (en 38 18 24).2 := told_tab fOk18 mixed (fuel := 400) (by kernel_rfl)
theorem a18_18 : TabOk Tryz.prog p7 gl (en 38 18 18).1 (en 38 18 18).2 := told_tab fOk18 mixed (fuel := 400) (by kernel_rfl)
theorem a16_24 : TabOk Tryz.prog p7 gl (en 34 16 24).1 (en 34 16 24).2 := told_tab fOk16 mixed (fuel := 400) (by kernel_rfl)
theorem a20_6 : TabOk Tryz.prog p7 gl (en 42 20 6).1 (en 42 20 6).2 := told_tab fOk20 mixed (fuel := 400) (by kernel_rfl)
theorem a16_19 : TabOk Tryz.prog p7 gl (en 34 16 19).1 (en 34 16 19).2 := told_tab fOk16 mixed (fuel := 400) (by kernel_rfl)
theorem a17_12 : TabOk Tryz.prog p7 gl (en 36 17 12).1 (en 36 17 12).2 := told_tab fOk17 mixed (fuel := 400) (by kernel_rfl)
theorem a16_14 : TabOk Tryz.prog p7 gl (en 34 16 14).1 (en 34 16 14).2 := told_tab fOk16 mixed (fuel := 400) (by kernel_rfl)
theorem a13_21 : TabOk Tryz.prog p7 gl (en 28 13 21).1 (en 28 13 21).2 := told_tab fOk13 mixed (fuel := 400) (by kernel_rfl)
theorem a15_13 : TabOk Tryz.prog p7 gl (en 32 15 13).1 (en 32 15 13).2 := told_tab fOk15 mixed (fuel := 400) (by kernel_rfl)
theorem a14_13 : TabOk Tryz.prog p7 gl (en 30 14 13).1 (en 30 14 13).2 := told_tab fOk14 mixed (fuel := 400) (by kernel_rfl)
theorem a16_5 : TabOk Tryz.prog p7 gl (en 34 16 5).1 (en 34 16 5).2 := told_tab fOk16 mixed (fuel := 400) (by kernel_rfl)
theorem a15_5 : TabOk Tryz.prog p7 gl (en 32 15 5).1 (en 32 15 5).2 := told_tab fOk15 mixed (fuel := 400) (by kernel_rfl)
theorem a13_10 : TabOk Tryz.prog p7 gl (en 28 13 10).1 (en 28 13 10).2 := told_tab fOk13 mixed (fuel := 400) (by kernel_rfl)
theorem a14_2 : TabOk Tryz.prog p7 gl (en 30 14 2).1 (en 30 14 2).2 := told_tab fOk14 mixed (fuel := 400) (by kernel_rfl)
theorem a9_17 : TabOk Tryz.prog p7 gl (en 20 9 17).1 (en 20 9 17).2 := told_tab fOk9 mixed (fuel := 400) (by kernel_rfl)
theorem a10_9 : TabOk Tryz.prog p7 gl (en 22 10 9).1 (en 22 10 9).2 := told_tab fOk10 mixed (fuel := 400) (by kernel_rfl)
theorem a10_8 : TabOk Tryz.prog p7 gl (en 22 10 8).1 (en 22 10 8).2 := told_tab fOk10 mixed (fuel := 400) (by kernel_rfl)
theorem a10_2 : TabOk Tryz.prog p7 gl (en 22 10 2).1 (en 22 10 2).2 := told_tab fOk10 mixed (fuel := 400) (by kernel_rfl)
theorem a7_10 : TabOk Tryz.prog p7 gl (en 16 7 10).1 (en 16 7 10).2 := told_tab fOk7 mixed (fuel := 400) (by kernel_rfl)
theorem a8_0 : TabOk Tryz.prog p7 gl (en 18 8 0).1 (en 18 8 0).2 := told_tab fOk8 mixed (fuel := 400) (by kernel_rfl)
theorem a7_2 : TabOk Tryz.prog p7 gl (en 16 7 2).1 (en 16 7 2).2 := told_tab fOk7 mixed (fuel := 400) (by kernel_rfl)
theorem a3_3 : TabOk Tryz.prog p7 gl (en 8 3 3).1 (en 8 3 3).2 := told_tab fOk3 mixed (fuel := 400) (by kernel_rfl)
theorem a2_4 : TabOk Tryz.prog p7 gl (en 6 2 4).1 (en 6 2 4).2 := told_tab fOk2 mixed (fuel := 400) (by kernel_rfl)
end Go.Proofs.YtnoekfkfinjfgaaGreatDoor.Dx
