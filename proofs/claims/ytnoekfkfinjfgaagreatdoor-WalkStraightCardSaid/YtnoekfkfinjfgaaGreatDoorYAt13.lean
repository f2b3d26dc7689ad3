/- Calls of walk.At, told by runs of the small machine. No statement of this seat is proved here. -/
import Derived.Test.YtnoekfkfinjfgaaGreatDoorYTbA
import Derived.KernelRfl
set_option autoImplicit false
set_option linter.unusedSectionVars false
set_option maxRecDepth 100000
noncomputable section
namespace Go.Proofs.YtnoekfkfinjfgaaGreatDoor.Dx
open Go

variable [Rho]
theorem a20_33 : TabOk Tryz.prog p7 gl (en 42 20 33).1 (en 42 20 33).2 := told_tab fOk20 mixed (fuel := 400) (by kernel_rfl)
theorem a19_33 : TabOk Tryz.prog p7 gl (en 40 19 33).1 (en 40 19 33).2 := told_tab fOk19 mixed (fuel := 400) (by kernel_rfl)
theorem a17_35 : TabOk Tryz.prog p7 gl (en 36 17 35).1 (en 36 17 35).2 := told_tab fOk17 mixed (fuel := 400) (by kernel_rfl)
theorem a18_25 : TabOk Tryz.prog p7 gl (en 38 18 25).1 (en 38 18 25).2 := told_tab fOk18 mixed (fuel := 400) (by kernel_rfl)
theorem a19_20 : TabOk Tryz.prog p7 gl (en 40 19 20).1 (en 40 19 20).2 := told_tab fOk19 mixed (fuel := 400) (by kernel_rfl)
theorem a16_25 : TabOk Tryz.prog p7 gl (en 34 16 25).1 (en 34 16 25).2 := told_tab fOk16 mixed (fuel := 400) (by kernel_rfl)
theorem a20_11 : TabOk Tryz.prog p7 gl (en 42 20 11).1 (en 42 20 11).2 := told_tab fOk20 mixed (fuel := 400) (by kernel_rfl)
theorem a15_23 : TabOk Tryz.prog p7 gl (en 32 15 23).1 (en 32 15 23).2 := told_tab fOk15 mixed (fuel := 400) (by kernel_rfl)
theorem a15_22 : TabOk Tryz.prog p7 gl (en 32 15 22).1 (en 32 15 22).2 := told_tab fOk15 mixed (fuel := 400) (by kernel_rfl)
theorem a19_5 : TabOk Tryz.prog p7 gl (en 40 19 5).1 (en 40 19 5).2 := told_tab fOk19 mixed (fuel := 400) (by kernel_rfl)
theorem a20_1 : TabOk Tryz.prog p7 gl (en 42 20 1).1 (en 42 20 1).2 := told_tab fOk20 mixed (fuel := 400) (by kernel_rfl)
theorem a15_14 : TabOk Tryz.prog p7 gl (en 32 15 14).1 (en 32 15 14).2 := told_tab fOk15 mixed (fuel := 400) (by kernel_rfl)
theorem a14_16 : TabOk Tryz.prog p7 gl (en 30 14 16).1 (en 30 14 16).2 := told_tab fOk14 mixed (fuel := 400) (by kernel_rfl)
theorem a15_10 : TabOk Tryz.prog p7 gl (en 32 15 10).1 (en 32 15 10).2 := told_tab fOk15 mixed (fuel := 400) (by kernel_rfl)
theorem a14_11 : TabOk Tryz.prog p7 gl (en 30 14 11).1 (en 30 14 11).2 := told_tab fOk14 mixed (fuel := 400) (by kernel_rfl)
theorem a10_21 : TabOk Tryz.prog p7 gl (en 22 10 21).1 (en 22 10 21).2 := told_tab fOk10 mixed (fuel := 400) (by kernel_rfl)
theorem a10_17 : TabOk Tryz.prog p7 gl (en 22 10 17).1 (en 22 10 17).2 := told_tab fOk10 mixed (fuel := 400) (by kernel_rfl)
theorem a9_20 : TabOk Tryz.prog p7 gl (ef 20 9).1 (ef 20 9).2 := told_tab fOk9 mixed (fuel := 400) (by kernel_rfl)
theorem a14_0 : TabOk Tryz.prog p7 gl (en 30 14 0).1 (en 30 14 0).2 := told_tab fOk14 mixed (fuel := 400) (by kernel_rfl)
theorem a8_16 : TabOk Tryz.prog p7 gl (en 18 8 16).1 (en 18 8 16).2 := told_tab fOk8 mixed (fuel := 400) (by kernel_rfl)
theorem a10_6 : TabOk Tryz.prog p7 gl (en 22 10 6).1 (en 22 10 6).2 := told_tab fOk10 mixed (fuel := 400) (by kernel_rfl)
theorem a11_2 : TabOk Tryz.prog p7 gl (en 24 11 2).1 (en 24 11 2).2 := told_tab fOk11 mixed (fuel := 400) (by kernel_rfl)
theorem a8_4 : TabOk Tryz.prog p7 gl (en 18 8 4).1 (en 18 8 4).2 := told_tab fOk8 mixed (fuel := 400) (by kernel_rfl)
theorem a5_12 : TabOk Tryz.prog p7 gl (ef 12 5).1 (ef 12 5).2 := told_tab fOk5 mixed (fuel := 400) (by kernel_rfl)
theorem a6_1 : TabOk Tryz.prog p7 gl (en 14 6 1).1 (en 14 6 1).2 := told_tab fOk6 mixed (fuel := 400) (by kernel_rfl)
theorem a3_8 : TabOk Tryz.prog p7 gl (ef 8 3).1 (ef 8 3).2 := told_tab fOk3 mixed (fuel := 400) (by kernel_rfl)
theorem a1_1 : TabOk Tryz.prog p7 gl (en 4 1 1).1 (en 4 1 1).2 := told_tab fOk1 mixed (fuel := 400) (by kernel_rfl)
end Go.Proofs.YtnoekfkfinjfgaaGreatDoor.Dx
