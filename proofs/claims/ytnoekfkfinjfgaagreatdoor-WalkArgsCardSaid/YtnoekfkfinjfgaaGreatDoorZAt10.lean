/- Calls of walk.At, lazy.Ways, told by runs of the small machine. No statement of this seat is proved here. -/
import Derived.Test.YtnoekfkfinjfgaaGreatDoorZTbA
import Derived.KernelRfl
set_option autoImplicit false
set_option maxRecDepth 100000
noncomputable section
namespace Go.Proofs.YtnoekfkfinjfgaaGreatDoor.Dx
open Go

theorem e43_1_2_0_0_ok : TabOk Tryz.prog p7 gl e43_1_2_0_0.1 e43_1_2_0_0.2 := told_tab fOkA mixed (fuel := 400) (by kernel_rfl)
theorem e43_1_2_0_2_ok : TabOk Tryz.prog p7 gl e43_1_2_0_2.1 e43_1_2_0_2.2 := told_tab fOkA mixed (fuel := 400) (by kernel_rfl)
theorem e43_0_1_2_2_ok : TabOk Tryz.prog p7 gl e43_0_1_2_2.1 e43_0_1_2_2.2 := told_tab fOkA mixed (fuel := 400) (by kernel_rfl)
theorem e43_1_1_0_2_ok : TabOk Tryz.prog p7 gl e43_1_1_0_2.1 e43_1_1_0_2.2 := told_tab fOkA mixed (fuel := 400) (by kernel_rfl)
theorem e43_1_1_0_0_ok : TabOk Tryz.prog p7 gl e43_1_1_0_0.1 e43_1_1_0_0.2 := told_tab fOkA mixed (fuel := 400) (by kernel_rfl)
theorem e42_1_0_2_1_ok : TabOk Tryz.prog p7 gl e42_1_0_2_1.1 e42_1_0_2_1.2 := told_tab fOkA mixed (fuel := 400) (by kernel_rfl)
theorem e42_1_1_1_ok : TabOk Tryz.prog p7 gl e42_1_1_1.1 e42_1_1_1.2 := told_tab fOkA mixed (fuel := 400) (by kernel_rfl)
theorem e43_0_1_1_2_ok : TabOk Tryz.prog p7 gl e43_0_1_1_2.1 e43_0_1_1_2.2 := told_tab fOkA mixed (fuel := 400) (by kernel_rfl)
theorem e42_0_1_1_ok : TabOk Tryz.prog p7 gl e42_0_1_1.1 e42_0_1_1.2 := told_tab fOkA mixed (fuel := 400) (by kernel_rfl)
theorem e33_1_2_0_ok : TabOk Tryz.prog p7 gl e33_1_2_0.1 e33_1_2_0.2 := told_tab fOkA mixed (fuel := 400) (by kernel_rfl)
theorem e42_0_0_1_ok : TabOk Tryz.prog p7 gl e42_0_0_1.1 e42_0_0_1.2 := told_tab fOkA mixed (fuel := 400) (by kernel_rfl)
theorem e43_1_1_ok : TabOk Tryz.prog p7 gl e43_1_1.1 e43_1_1.2 := told_tab fOkA mixed (fuel := 400) (by kernel_rfl)
theorem e41_0_0_0_ok : TabOk Tryz.prog p7 gl e41_0_0_0.1 e41_0_0_0.2 := told_tab fOkA mixed (fuel := 400) (by kernel_rfl)
theorem e41_1_0_1_0_ok : TabOk Tryz.prog p7 gl e41_1_0_1_0.1 e41_1_0_1_0.2 := told_tab fOkA mixed (fuel := 400) (by kernel_rfl)
theorem e33_0_1_0_ok : TabOk Tryz.prog p7 gl e33_0_1_0.1 e33_0_1_0.2 := told_tab fOkA mixed (fuel := 400) (by kernel_rfl)
theorem e42_0_1_ok : TabOk Tryz.prog p7 gl e42_0_1.1 e42_0_1.2 := told_tab fOkA mixed (fuel := 400) (by kernel_rfl)
theorem e31_1_0_0_ok : TabOk Tryz.prog p7 gl e31_1_0_0.1 e31_1_0_0.2 := told_tab fOkA mixed (fuel := 400) (by kernel_rfl)
theorem e31_0_1_ok : TabOk Tryz.prog p7 gl e31_0_1.1 e31_0_1.2 := told_tab fOkA mixed (fuel := 400) (by kernel_rfl)
theorem e43_0_ok : TabOk Tryz.prog p7 gl e43_0.1 e43_0.2 := told_tab fOkA mixed (fuel := 400) (by kernel_rfl)
theorem e23_0_1_ok : TabOk Tryz.prog p7 gl e23_0_1.1 e23_0_1.2 := told_tab fOkA mixed (fuel := 400) (by kernel_rfl)
theorem e22_0_ok : TabOk Tryz.prog p7 gl e22_0.1 e22_0.2 := told_tab fOkA mixed (fuel := 400) (by kernel_rfl)
theorem e11_0_ok : TabOk Tryz.prog p7 gl e11_0.1 e11_0.2 := told_tab fOkA mixed (fuel := 400) (by kernel_rfl)
theorem e30_ok : TabOk Tryz.prog p7 gl e30.1 e30.2 := told_tab fOkA mixed (fuel := 400) (by kernel_rfl)
theorem w42_2_ok : TabOk Tryz.prog p10 gl w42_2.1 w42_2.2 := told_tab fOkA mixed (fuel := 400) (by kernel_rfl)
theorem w33_0_ok : TabOk Tryz.prog p10 gl w33_0.1 w33_0.2 := told_tab fOkA mixed (fuel := 400) (by kernel_rfl)
theorem w10_0_ok : TabOk Tryz.prog p10 gl w10_0.1 w10_0.2 := told_tab fOkA mixed (fuel := 400) (by kernel_rfl)
end Go.Proofs.YtnoekfkfinjfgaaGreatDoor.Dx
