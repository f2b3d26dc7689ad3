/- Calls of walk.At, told by runs of the small machine. No statement of this seat is proved here. -/
import Derived.Test.YtnoekfkfinjfgaaGreatDoorYTbA
import Derived.KernelRfl
set_option autoImplicit false
set_option linter.unusedSectionVars false
set_option maxRecDepth 100000
noncomputable section
namespace Go.Proofs.YtnoekfkfinjfgaaGreatDoor.Dx
open Go

variable [Rho]
theorem a19_40 : TabOk Tryz.prog p7 gl (ef 40 19).1 (ef 40 19).2 := told_tab fOk19 mixed (fuel := 400) (by kernel_rfl)
theorem a19_31 : TabOk Tryz.prog p7 gl (en 40 19 31).1 (en 40 19 31).2 := told_tab fOk19 mixed (fuel := 400) (by kernel_rfl)
theorem a18_30 : TabOk Tryz.prog p7 gl (en 38 18 30).1 (en 38 18 30).2 := told_tab fOk18 mixed (fuel := 400) (by kernel_rfl)
theorem a17_30 : TabOk Tryz.prog p7 gl (en 36 17 30).1 (en 36 17 30).2 := told_tab fOk17 mixed (fuel := 400) (by kernel_rfl)
theorem a19_18 : TabOk Tryz.prog p7 gl (en 40 19 18).1 (en 40 19 18).2 := told_tab fOk19 mixed (fuel := 400) (by kernel_rfl)
theorem a16_27 : TabOk Tryz.prog p7 gl (en 34 16 27).1 (en 34 16 27).2 := told_tab fOk16 mixed (fuel := 400) (by kernel_rfl)
theorem a15_26 : TabOk Tryz.prog p7 gl (en 32 15 26).1 (en 32 15 26).2 := told_tab fOk15 mixed (fuel := 400) (by kernel_rfl)
theorem a18_14 : TabOk Tryz.prog p7 gl (en 38 18 14).1 (en 38 18 14).2 := told_tab fOk18 mixed (fuel := 400) (by kernel_rfl)
theorem a20_4 : TabOk Tryz.prog p7 gl (en 42 20 4).1 (en 42 20 4).2 := told_tab fOk20 mixed (fuel := 400) (by kernel_rfl)
theorem a20_3 : TabOk Tryz.prog p7 gl (en 42 20 3).1 (en 42 20 3).2 := told_tab fOk20 mixed (fuel := 400) (by kernel_rfl)
theorem a16_13 : TabOk Tryz.prog p7 gl (en 34 16 13).1 (en 34 16 13).2 := told_tab fOk16 mixed (fuel := 400) (by kernel_rfl)
theorem a13_22 : TabOk Tryz.prog p7 gl (en 28 13 22).1 (en 28 13 22).2 := told_tab fOk13 mixed (fuel := 400) (by kernel_rfl)
theorem a17_5 : TabOk Tryz.prog p7 gl (en 36 17 5).1 (en 36 17 5).2 := told_tab fOk17 mixed (fuel := 400) (by kernel_rfl)
theorem a14_14 : TabOk Tryz.prog p7 gl (en 30 14 14).1 (en 30 14 14).2 := told_tab fOk14 mixed (fuel := 400) (by kernel_rfl)
theorem a16_4 : TabOk Tryz.prog p7 gl (en 34 16 4).1 (en 34 16 4).2 := told_tab fOk16 mixed (fuel := 400) (by kernel_rfl)
theorem a10_22 : TabOk Tryz.prog p7 gl (ef 22 10).1 (ef 22 10).2 := told_tab fOk10 mixed (fuel := 400) (by kernel_rfl)
theorem a14_5 : TabOk Tryz.prog p7 gl (en 30 14 5).1 (en 30 14 5).2 := told_tab fOk14 mixed (fuel := 400) (by kernel_rfl)
theorem a14_4 : TabOk Tryz.prog p7 gl (en 30 14 4).1 (en 30 14 4).2 := told_tab fOk14 mixed (fuel := 400) (by kernel_rfl)
theorem a12_7 : TabOk Tryz.prog p7 gl (en 26 12 7).1 (en 26 12 7).2 := told_tab fOk12 mixed (fuel := 400) (by kernel_rfl)
theorem a12_4 : TabOk Tryz.prog p7 gl (en 26 12 4).1 (en 26 12 4).2 := told_tab fOk12 mixed (fuel := 400) (by kernel_rfl)
theorem a8_12 : TabOk Tryz.prog p7 gl (en 18 8 12).1 (en 18 8 12).2 := told_tab fOk8 mixed (fuel := 400) (by kernel_rfl)
theorem a9_7 : TabOk Tryz.prog p7 gl (en 20 9 7).1 (en 20 9 7).2 := told_tab fOk9 mixed (fuel := 400) (by kernel_rfl)
theorem a9_2 : TabOk Tryz.prog p7 gl (en 20 9 2).1 (en 20 9 2).2 := told_tab fOk9 mixed (fuel := 400) (by kernel_rfl)
theorem a5_11 : TabOk Tryz.prog p7 gl (en 12 5 11).1 (en 12 5 11).2 := told_tab fOk5 mixed (fuel := 400) (by kernel_rfl)
theorem a5_3 : TabOk Tryz.prog p7 gl (en 12 5 3).1 (en 12 5 3).2 := told_tab fOk5 mixed (fuel := 400) (by kernel_rfl)
theorem a6_0 : TabOk Tryz.prog p7 gl (en 14 6 0).1 (en 14 6 0).2 := told_tab fOk6 mixed (fuel := 400) (by kernel_rfl)
theorem a2_1 : TabOk Tryz.prog p7 gl (en 6 2 1).1 (en 6 2 1).2 := told_tab fOk2 mixed (fuel := 400) (by kernel_rfl)
end Go.Proofs.YtnoekfkfinjfgaaGreatDoor.Dx
