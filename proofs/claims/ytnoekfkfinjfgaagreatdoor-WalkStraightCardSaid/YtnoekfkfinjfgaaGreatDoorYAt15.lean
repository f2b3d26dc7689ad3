/- Calls of walk.At, told by runs of the small machine. No statement of this seat is proved here. -/
import Derived.Test.YtnoekfkfinjfgaaGreatDoorYTbA
import Derived.KernelRfl
set_option autoImplicit false
set_option linter.unusedSectionVars false
set_option maxRecDepth 100000
noncomputable section
namespace Go.Proofs.YtnoekfkfinjfgaaGreatDoor.Dx
open Go

variable [Rho]
theorem a20_32 : TabOk Tryz.prog p7 gl (en 42 20 32).1 (en 42 20 32).2 := told_tab fOk20 mixed (fuel := 400) (by kernel_rfl)
theorem a18_37 : TabOk Tryz.prog p7 gl (en 38 18 37).1 (en 38 18 37).2 := told_tab fOk18 mixed (fuel := 400) (by kernel_rfl)
theorem a19_28 : TabOk Tryz.prog p7 gl (en 40 19 28).1 (en 40 19 28).2 := told_tab fOk19 mixed (fuel := 400) (by kernel_rfl)
theorem a20_18 : TabOk Tryz.prog p7 gl (en 42 20 18).1 (en 42 20 18).2 := told_tab fOk20 mixed (fuel := 400) (by kernel_rfl)
theorem a20_16 : TabOk Tryz.prog p7 gl (en 42 20 16).1 (en 42 20 16).2 := told_tab fOk20 mixed (fuel := 400) (by kernel_rfl)
theorem a15_29 : TabOk Tryz.prog p7 gl (en 32 15 29).1 (en 32 15 29).2 := told_tab fOk15 mixed (fuel := 400) (by kernel_rfl)
theorem a15_27 : TabOk Tryz.prog p7 gl (en 32 15 27).1 (en 32 15 27).2 := told_tab fOk15 mixed (fuel := 400) (by kernel_rfl)
theorem a19_10 : TabOk Tryz.prog p7 gl (en 40 19 10).1 (en 40 19 10).2 := told_tab fOk19 mixed (fuel := 400) (by kernel_rfl)
theorem a19_8 : TabOk Tryz.prog p7 gl (en 40 19 8).1 (en 40 19 8).2 := told_tab fOk19 mixed (fuel := 400) (by kernel_rfl)
theorem a16_16 : TabOk Tryz.prog p7 gl (en 34 16 16).1 (en 34 16 16).2 := told_tab fOk16 mixed (fuel := 400) (by kernel_rfl)
theorem a18_7 : TabOk Tryz.prog p7 gl (en 38 18 7).1 (en 38 18 7).2 := told_tab fOk18 mixed (fuel := 400) (by kernel_rfl)
theorem a15_15 : TabOk Tryz.prog p7 gl (en 32 15 15).1 (en 32 15 15).2 := told_tab fOk15 mixed (fuel := 400) (by kernel_rfl)
theorem a18_2 : TabOk Tryz.prog p7 gl (en 38 18 2).1 (en 38 18 2).2 := told_tab fOk18 mixed (fuel := 400) (by kernel_rfl)
theorem a12_20 : TabOk Tryz.prog p7 gl (en 26 12 20).1 (en 26 12 20).2 := told_tab fOk12 mixed (fuel := 400) (by kernel_rfl)
theorem wk_ok : TabOk Tryz.prog p8 gl wke.1 wke.2 := told_tab fOkA mixed (fuel := 400) (by kernel_rfl)
theorem a16_2 : TabOk Tryz.prog p7 gl (en 34 16 2).1 (en 34 16 2).2 := told_tab fOk16 mixed (fuel := 400) (by kernel_rfl)
theorem a15_3 : TabOk Tryz.prog p7 gl (en 32 15 3).1 (en 32 15 3).2 := told_tab fOk15 mixed (fuel := 400) (by kernel_rfl)
theorem a11_13 : TabOk Tryz.prog p7 gl (en 24 11 13).1 (en 24 11 13).2 := told_tab fOk11 mixed (fuel := 400) (by kernel_rfl)
theorem a13_3 : TabOk Tryz.prog p7 gl (en 28 13 3).1 (en 28 13 3).2 := told_tab fOk13 mixed (fuel := 400) (by kernel_rfl)
theorem a9_14 : TabOk Tryz.prog p7 gl (en 20 9 14).1 (en 20 9 14).2 := told_tab fOk9 mixed (fuel := 400) (by kernel_rfl)
theorem a9_8 : TabOk Tryz.prog p7 gl (en 20 9 8).1 (en 20 9 8).2 := told_tab fOk9 mixed (fuel := 400) (by kernel_rfl)
theorem a8_11 : TabOk Tryz.prog p7 gl (en 18 8 11).1 (en 18 8 11).2 := told_tab fOk8 mixed (fuel := 400) (by kernel_rfl)
theorem a9_1 : TabOk Tryz.prog p7 gl (en 20 9 1).1 (en 20 9 1).2 := told_tab fOk9 mixed (fuel := 400) (by kernel_rfl)
theorem a6_9 : TabOk Tryz.prog p7 gl (en 14 6 9).1 (en 14 6 9).2 := told_tab fOk6 mixed (fuel := 400) (by kernel_rfl)
theorem a5_5 : TabOk Tryz.prog p7 gl (en 12 5 5).1 (en 12 5 5).2 := told_tab fOk5 mixed (fuel := 400) (by kernel_rfl)
theorem a1_0 : TabOk Tryz.prog p7 gl (en 4 1 0).1 (en 4 1 0).2 := told_tab fOk1 mixed (fuel := 400) (by kernel_rfl)
end Go.Proofs.YtnoekfkfinjfgaaGreatDoor.Dx
