/- Calls of walk.At, lazy.Ways, told by runs of the small machine. No statement of this seat is proved here. -/
import Derived.Test.YtnoekfkfinjfgaaGreatDoorZTbA
import Derived.KernelRfl
set_option autoImplicit false
set_option maxRecDepth 100000
noncomputable section
namespace Go.Proofs.YtnoekfkfinjfgaaGreatDoor.Dx
open Go

theorem e43_1_2_1_1_ok : TabOk Tryz.prog p7 gl e43_1_2_1_1.1 e43_1_2_1_1.2 := told_tab fOkA mixed (fuel := 400) (by kernel_rfl)
theorem e43_1_2_3_2_ok : TabOk Tryz.prog p7 gl e43_1_2_3_2.1 e43_1_2_3_2.2 := told_tab fOkA mixed (fuel := 400) (by kernel_rfl)
theorem e43_0_1_2_0_ok : TabOk Tryz.prog p7 gl e43_0_1_2_0.1 e43_0_1_2_0.2 := told_tab fOkA mixed (fuel := 400) (by kernel_rfl)
theorem e43_1_1_1_2_ok : TabOk Tryz.prog p7 gl e43_1_1_1_2.1 e43_1_1_1_2.2 := told_tab fOkA mixed (fuel := 400) (by kernel_rfl)
theorem e42_1_0_1_0_ok : TabOk Tryz.prog p7 gl e42_1_0_1_0.1 e42_1_0_1_0.2 := told_tab fOkA mixed (fuel := 400) (by kernel_rfl)
theorem e42_1_1_2_1_ok : TabOk Tryz.prog p7 gl e42_1_1_2_1.1 e42_1_1_2_1.2 := told_tab fOkA mixed (fuel := 400) (by kernel_rfl)
theorem e42_1_1_0_ok : TabOk Tryz.prog p7 gl e42_1_1_0.1 e42_1_1_0.2 := told_tab fOkA mixed (fuel := 400) (by kernel_rfl)
theorem e42_1_2_2_ok : TabOk Tryz.prog p7 gl e42_1_2_2.1 e42_1_2_2.2 := told_tab fOkA mixed (fuel := 400) (by kernel_rfl)
theorem e42_0_1_0_ok : TabOk Tryz.prog p7 gl e42_0_1_0.1 e42_0_1_0.2 := told_tab fOkA mixed (fuel := 400) (by kernel_rfl)
theorem e33_1_2_3_ok : TabOk Tryz.prog p7 gl e33_1_2_3.1 e33_1_2_3.2 := told_tab fOkA mixed (fuel := 400) (by kernel_rfl)
theorem e41_0_0_0_1_ok : TabOk Tryz.prog p7 gl e41_0_0_0_1.1 e41_0_0_0_1.2 := told_tab fOkA mixed (fuel := 400) (by kernel_rfl)
theorem e32_1_1_0_ok : TabOk Tryz.prog p7 gl e32_1_1_0.1 e32_1_1_0.2 := told_tab fOkA mixed (fuel := 400) (by kernel_rfl)
theorem e32_1_2_0_ok : TabOk Tryz.prog p7 gl e32_1_2_0.1 e32_1_2_0.2 := told_tab fOkA mixed (fuel := 400) (by kernel_rfl)
theorem e33_1_0_ok : TabOk Tryz.prog p7 gl e33_1_0.1 e33_1_0.2 := told_tab fOkA mixed (fuel := 400) (by kernel_rfl)
theorem e41_0_1_0_ok : TabOk Tryz.prog p7 gl e41_0_1_0.1 e41_0_1_0.2 := told_tab fOkA mixed (fuel := 400) (by kernel_rfl)
theorem e43_0_1_ok : TabOk Tryz.prog p7 gl e43_0_1.1 e43_0_1.2 := told_tab fOkA mixed (fuel := 400) (by kernel_rfl)
theorem e31_1_0_1_ok : TabOk Tryz.prog p7 gl e31_1_0_1.1 e31_1_0_1.2 := told_tab fOkA mixed (fuel := 400) (by kernel_rfl)
theorem e23_1_2_ok : TabOk Tryz.prog p7 gl e23_1_2.1 e23_1_2.2 := told_tab fOkA mixed (fuel := 400) (by kernel_rfl)
theorem e33_1_ok : TabOk Tryz.prog p7 gl e33_1.1 e33_1.2 := told_tab fOkA mixed (fuel := 400) (by kernel_rfl)
theorem e32_0_ok : TabOk Tryz.prog p7 gl e32_0.1 e32_0.2 := told_tab fOkA mixed (fuel := 400) (by kernel_rfl)
theorem e43_ok : TabOk Tryz.prog p7 gl e43.1 e43.2 := told_tab fOkA mixed (fuel := 400) (by kernel_rfl)
theorem e33_ok : TabOk Tryz.prog p7 gl e33.1 e33.2 := told_tab fOkA mixed (fuel := 400) (by kernel_rfl)
theorem e30_0_ok : TabOk Tryz.prog p7 gl e30_0.1 e30_0.2 := told_tab fOkA mixed (fuel := 400) (by kernel_rfl)
theorem w42_0_ok : TabOk Tryz.prog p10 gl w42_0.1 w42_0.2 := told_tab fOkA mixed (fuel := 400) (by kernel_rfl)
theorem w22_1_ok : TabOk Tryz.prog p10 gl w22_1.1 w22_1.2 := told_tab fOkA mixed (fuel := 400) (by kernel_rfl)
end Go.Proofs.YtnoekfkfinjfgaaGreatDoor.Dx
