/- Calls of walk.At, lazy.Ways, told by runs of the small machine. No statement of this seat is proved here. -/
import Derived.Test.YtnoekfkfinjfgaaGreatDoorZTbA
import Derived.KernelRfl
set_option autoImplicit false
set_option maxRecDepth 100000
noncomputable section
namespace Go.Proofs.YtnoekfkfinjfgaaGreatDoor.Dx
open Go

theorem e43_1_2_2_3_ok : TabOk Tryz.prog p7 gl e43_1_2_2_3.1 e43_1_2_2_3.2 := told_tab fOkA mixed (fuel := 400) (by kernel_rfl)
theorem e43_1_0_2_3_ok : TabOk Tryz.prog p7 gl e43_1_0_2_3.1 e43_1_0_2_3.2 := told_tab fOkA mixed (fuel := 400) (by kernel_rfl)
theorem e43_1_1_2_1_ok : TabOk Tryz.prog p7 gl e43_1_1_2_1.1 e43_1_1_2_1.2 := told_tab fOkA mixed (fuel := 400) (by kernel_rfl)
theorem e43_1_0_1_2_ok : TabOk Tryz.prog p7 gl e43_1_0_1_2.1 e43_1_0_1_2.2 := told_tab fOkA mixed (fuel := 400) (by kernel_rfl)
theorem e43_1_0_1_0_ok : TabOk Tryz.prog p7 gl e43_1_0_1_0.1 e43_1_0_1_0.2 := told_tab fOkA mixed (fuel := 400) (by kernel_rfl)
theorem e42_1_0_2_0_ok : TabOk Tryz.prog p7 gl e42_1_0_2_0.1 e42_1_0_2_0.2 := told_tab fOkA mixed (fuel := 400) (by kernel_rfl)
theorem e42_1_2_0_1_ok : TabOk Tryz.prog p7 gl e42_1_2_0_1.1 e42_1_2_0_1.2 := told_tab fOkA mixed (fuel := 400) (by kernel_rfl)
theorem e42_0_1_1_0_ok : TabOk Tryz.prog p7 gl e42_0_1_1_0.1 e42_0_1_1_0.2 := told_tab fOkA mixed (fuel := 400) (by kernel_rfl)
theorem e42_0_1_0_0_ok : TabOk Tryz.prog p7 gl e42_0_1_0_0.1 e42_0_1_0_0.2 := told_tab fOkA mixed (fuel := 400) (by kernel_rfl)
theorem e42_0_0_1_1_ok : TabOk Tryz.prog p7 gl e42_0_0_1_1.1 e42_0_0_1_1.2 := told_tab fOkA mixed (fuel := 400) (by kernel_rfl)
theorem e32_1_1_2_ok : TabOk Tryz.prog p7 gl e32_1_1_2.1 e32_1_1_2.2 := told_tab fOkA mixed (fuel := 400) (by kernel_rfl)
theorem e33_1_0_1_ok : TabOk Tryz.prog p7 gl e33_1_0_1.1 e33_1_0_1.2 := told_tab fOkA mixed (fuel := 400) (by kernel_rfl)
theorem e41_0_1_0_0_ok : TabOk Tryz.prog p7 gl e41_0_1_0_0.1 e41_0_1_0_0.2 := told_tab fOkA mixed (fuel := 400) (by kernel_rfl)
theorem e43_0_0_0_ok : TabOk Tryz.prog p7 gl e43_0_0_0.1 e43_0_0_0.2 := told_tab fOkA mixed (fuel := 400) (by kernel_rfl)
theorem e41_0_1_1_ok : TabOk Tryz.prog p7 gl e41_0_1_1.1 e41_0_1_1.2 := told_tab fOkA mixed (fuel := 400) (by kernel_rfl)
theorem e32_0_1_ok : TabOk Tryz.prog p7 gl e32_0_1.1 e32_0_1.2 := told_tab fOkA mixed (fuel := 400) (by kernel_rfl)
theorem e31_0_1_0_ok : TabOk Tryz.prog p7 gl e31_0_1_0.1 e31_0_1_0.2 := told_tab fOkA mixed (fuel := 400) (by kernel_rfl)
theorem e42_1_ok : TabOk Tryz.prog p7 gl e42_1.1 e42_1.2 := told_tab fOkA mixed (fuel := 400) (by kernel_rfl)
theorem e22_1_ok : TabOk Tryz.prog p7 gl e22_1.1 e22_1.2 := told_tab fOkA mixed (fuel := 400) (by kernel_rfl)
theorem e40_0_0_0_0_ok : TabOk Tryz.prog p7 gl e40_0_0_0_0.1 e40_0_0_0_0.2 := told_tab fOkA mixed (fuel := 400) (by kernel_rfl)
theorem e40_0_0_0_ok : TabOk Tryz.prog p7 gl e40_0_0_0.1 e40_0_0_0.2 := told_tab fOkA mixed (fuel := 400) (by kernel_rfl)
theorem e12_0_ok : TabOk Tryz.prog p7 gl e12_0.1 e12_0.2 := told_tab fOkA mixed (fuel := 400) (by kernel_rfl)
theorem e20_ok : TabOk Tryz.prog p7 gl e20.1 e20.2 := told_tab fOkA mixed (fuel := 400) (by kernel_rfl)
theorem w42_1_ok : TabOk Tryz.prog p10 gl w42_1.1 w42_1.2 := told_tab fOkA mixed (fuel := 400) (by kernel_rfl)
theorem w31_0_ok : TabOk Tryz.prog p10 gl w31_0.1 w31_0.2 := told_tab fOkA mixed (fuel := 400) (by kernel_rfl)
theorem w11_0_ok : TabOk Tryz.prog p10 gl w11_0.1 w11_0.2 := told_tab fOkA mixed (fuel := 400) (by kernel_rfl)
end Go.Proofs.YtnoekfkfinjfgaaGreatDoor.Dx
