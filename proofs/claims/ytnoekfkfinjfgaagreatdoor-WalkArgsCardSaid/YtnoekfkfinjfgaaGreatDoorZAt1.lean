/- Calls of walk.At, lazy.Ways, told by runs of the small machine. No statement of this seat is proved here. -/
import Derived.Test.YtnoekfkfinjfgaaGreatDoorZTbA
import Derived.KernelRfl
set_option autoImplicit false
set_option maxRecDepth 100000
noncomputable section
namespace Go.Proofs.YtnoekfkfinjfgaaGreatDoor.Dx
open Go

theorem e43_1_2_1_3_ok : TabOk Tryz.prog p7 gl e43_1_2_1_3.1 e43_1_2_1_3.2 := told_tab fOkA mixed (fuel := 400) (by kernel_rfl)
theorem e43_1_1_2_3_ok : TabOk Tryz.prog p7 gl e43_1_1_2_3.1 e43_1_1_2_3.2 := told_tab fOkA mixed (fuel := 400) (by kernel_rfl)
theorem e43_1_1_2_2_ok : TabOk Tryz.prog p7 gl e43_1_1_2_2.1 e43_1_1_2_2.2 := told_tab fOkA mixed (fuel := 400) (by kernel_rfl)
theorem e42_1_1_1_1_ok : TabOk Tryz.prog p7 gl e42_1_1_1_1.1 e42_1_1_1_1.2 := told_tab fOkA mixed (fuel := 400) (by kernel_rfl)
theorem e43_1_0_1_1_ok : TabOk Tryz.prog p7 gl e43_1_0_1_1.1 e43_1_0_1_1.2 := told_tab fOkA mixed (fuel := 400) (by kernel_rfl)
theorem e42_1_2_1_0_ok : TabOk Tryz.prog p7 gl e42_1_2_1_0.1 e42_1_2_1_0.2 := told_tab fOkA mixed (fuel := 400) (by kernel_rfl)
theorem e42_1_2_0_0_ok : TabOk Tryz.prog p7 gl e42_1_2_0_0.1 e42_1_2_0_0.2 := told_tab fOkA mixed (fuel := 400) (by kernel_rfl)
theorem e42_1_0_2_ok : TabOk Tryz.prog p7 gl e42_1_0_2.1 e42_1_0_2.2 := told_tab fOkA mixed (fuel := 400) (by kernel_rfl)
theorem e43_0_1_0_ok : TabOk Tryz.prog p7 gl e43_0_1_0.1 e43_0_1_0.2 := told_tab fOkA mixed (fuel := 400) (by kernel_rfl)
theorem e33_1_2_2_ok : TabOk Tryz.prog p7 gl e33_1_2_2.1 e33_1_2_2.2 := told_tab fOkA mixed (fuel := 400) (by kernel_rfl)
theorem e42_0_0_0_1_ok : TabOk Tryz.prog p7 gl e42_0_0_0_1.1 e42_0_0_0_1.2 := told_tab fOkA mixed (fuel := 400) (by kernel_rfl)
theorem e32_1_1_1_ok : TabOk Tryz.prog p7 gl e32_1_1_1.1 e32_1_1_1.2 := told_tab fOkA mixed (fuel := 400) (by kernel_rfl)
theorem e32_1_2_1_ok : TabOk Tryz.prog p7 gl e32_1_2_1.1 e32_1_2_1.2 := told_tab fOkA mixed (fuel := 400) (by kernel_rfl)
theorem e41_1_1_1_0_ok : TabOk Tryz.prog p7 gl e41_1_1_1_0.1 e41_1_1_1_0.2 := told_tab fOkA mixed (fuel := 400) (by kernel_rfl)
theorem e32_0_1_2_ok : TabOk Tryz.prog p7 gl e32_0_1_2.1 e32_0_1_2.2 := told_tab fOkA mixed (fuel := 400) (by kernel_rfl)
theorem e41_1_0_0_ok : TabOk Tryz.prog p7 gl e41_1_0_0.1 e41_1_0_0.2 := told_tab fOkA mixed (fuel := 400) (by kernel_rfl)
theorem e31_1_1_0_ok : TabOk Tryz.prog p7 gl e31_1_1_0.1 e31_1_1_0.2 := told_tab fOkA mixed (fuel := 400) (by kernel_rfl)
theorem e10_ok : TabOk Tryz.prog p7 gl e10.1 e10.2 := told_tab fOkA mixed (fuel := 400) (by kernel_rfl)
theorem e42_0_ok : TabOk Tryz.prog p7 gl e42_0.1 e42_0.2 := told_tab fOkA mixed (fuel := 400) (by kernel_rfl)
theorem e22_0_1_ok : TabOk Tryz.prog p7 gl e22_0_1.1 e22_0_1.2 := told_tab fOkA mixed (fuel := 400) (by kernel_rfl)
theorem e21_0_ok : TabOk Tryz.prog p7 gl e21_0.1 e21_0.2 := told_tab fOkA mixed (fuel := 400) (by kernel_rfl)
theorem e40_0_ok : TabOk Tryz.prog p7 gl e40_0.1 e40_0.2 := told_tab fOkA mixed (fuel := 400) (by kernel_rfl)
theorem e40_ok : TabOk Tryz.prog p7 gl e40.1 e40.2 := told_tab fOkA mixed (fuel := 400) (by kernel_rfl)
theorem w40_0_ok : TabOk Tryz.prog p10 gl w40_0.1 w40_0.2 := told_tab fOkA mixed (fuel := 400) (by kernel_rfl)
theorem w21_0_ok : TabOk Tryz.prog p10 gl w21_0.1 w21_0.2 := told_tab fOkA mixed (fuel := 400) (by kernel_rfl)
theorem w12_0_ok : TabOk Tryz.prog p10 gl w12_0.1 w12_0.2 := told_tab fOkA mixed (fuel := 400) (by kernel_rfl)
end Go.Proofs.YtnoekfkfinjfgaaGreatDoor.Dx
