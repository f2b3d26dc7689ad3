/- Calls of walk.At, lazy.Ways, told by runs of the small machine. No statement of this seat is proved here. -/
import Derived.Test.YtnoekfkfinjfgaaGreatDoorZTbA
import Derived.KernelRfl
set_option autoImplicit false
set_option maxRecDepth 100000
noncomputable section
namespace Go.Proofs.YtnoekfkfinjfgaaGreatDoor.Dx
open Go

theorem wk_ok : TabOk Tryz.prog p8 gl wke.1 wke.2 := told_tab fOkA mixed (fuel := 400) (by kernel_rfl)
theorem e43_1_1_2_0_ok : TabOk Tryz.prog p7 gl e43_1_1_2_0.1 e43_1_1_2_0.2 := told_tab fOkA mixed (fuel := 400) (by kernel_rfl)
theorem e42_1_1_1_2_ok : TabOk Tryz.prog p7 gl e42_1_1_1_2.1 e42_1_1_1_2.2 := told_tab fOkA mixed (fuel := 400) (by kernel_rfl)
theorem e42_1_1_0_0_ok : TabOk Tryz.prog p7 gl e42_1_1_0_0.1 e42_1_1_0_0.2 := told_tab fOkA mixed (fuel := 400) (by kernel_rfl)
theorem e42_1_1_2_0_ok : TabOk Tryz.prog p7 gl e42_1_1_2_0.1 e42_1_1_2_0.2 := told_tab fOkA mixed (fuel := 400) (by kernel_rfl)
theorem e42_1_2_2_2_ok : TabOk Tryz.prog p7 gl e42_1_2_2_2.1 e42_1_2_2_2.2 := told_tab fOkA mixed (fuel := 400) (by kernel_rfl)
theorem e42_1_1_2_ok : TabOk Tryz.prog p7 gl e42_1_1_2.1 e42_1_1_2.2 := told_tab fOkA mixed (fuel := 400) (by kernel_rfl)
theorem e43_0_1_1_1_ok : TabOk Tryz.prog p7 gl e43_0_1_1_1.1 e43_0_1_1_1.2 := told_tab fOkA mixed (fuel := 400) (by kernel_rfl)
theorem e42_0_1_2_ok : TabOk Tryz.prog p7 gl e42_0_1_2.1 e42_0_1_2.2 := told_tab fOkA mixed (fuel := 400) (by kernel_rfl)
theorem e33_1_2_ok : TabOk Tryz.prog p7 gl e33_1_2.1 e33_1_2.2 := told_tab fOkA mixed (fuel := 400) (by kernel_rfl)
theorem e43_0_0_0_0_ok : TabOk Tryz.prog p7 gl e43_0_0_0_0.1 e43_0_0_0_0.2 := told_tab fOkA mixed (fuel := 400) (by kernel_rfl)
theorem e43_1_0_ok : TabOk Tryz.prog p7 gl e43_1_0.1 e43_1_0.2 := told_tab fOkA mixed (fuel := 400) (by kernel_rfl)
theorem e42_0_0_0_ok : TabOk Tryz.prog p7 gl e42_0_0_0.1 e42_0_0_0.2 := told_tab fOkA mixed (fuel := 400) (by kernel_rfl)
theorem e41_1_0_0_0_ok : TabOk Tryz.prog p7 gl e41_1_0_0_0.1 e41_1_0_0_0.2 := told_tab fOkA mixed (fuel := 400) (by kernel_rfl)
theorem e41_1_1_1_ok : TabOk Tryz.prog p7 gl e41_1_1_1.1 e41_1_1_1.2 := told_tab fOkA mixed (fuel := 400) (by kernel_rfl)
theorem e42_0_0_ok : TabOk Tryz.prog p7 gl e42_0_0.1 e42_0_0.2 := told_tab fOkA mixed (fuel := 400) (by kernel_rfl)
theorem e41_1_1_ok : TabOk Tryz.prog p7 gl e41_1_1.1 e41_1_1.2 := told_tab fOkA mixed (fuel := 400) (by kernel_rfl)
theorem e31_1_0_ok : TabOk Tryz.prog p7 gl e31_1_0.1 e31_1_0.2 := told_tab fOkA mixed (fuel := 400) (by kernel_rfl)
theorem e41_1_ok : TabOk Tryz.prog p7 gl e41_1.1 e41_1.2 := told_tab fOkA mixed (fuel := 400) (by kernel_rfl)
theorem e33_0_ok : TabOk Tryz.prog p7 gl e33_0.1 e33_0.2 := told_tab fOkA mixed (fuel := 400) (by kernel_rfl)
theorem e30_0_0_ok : TabOk Tryz.prog p7 gl e30_0_0.1 e30_0_0.2 := told_tab fOkA mixed (fuel := 400) (by kernel_rfl)
theorem e13_1_ok : TabOk Tryz.prog p7 gl e13_1.1 e13_1.2 := told_tab fOkA mixed (fuel := 400) (by kernel_rfl)
theorem e10_0_ok : TabOk Tryz.prog p7 gl e10_0.1 e10_0.2 := told_tab fOkA mixed (fuel := 400) (by kernel_rfl)
theorem w43_1_ok : TabOk Tryz.prog p10 gl w43_1.1 w43_1.2 := told_tab fOkA mixed (fuel := 400) (by kernel_rfl)
theorem w32_0_ok : TabOk Tryz.prog p10 gl w32_0.1 w32_0.2 := told_tab fOkA mixed (fuel := 400) (by kernel_rfl)
theorem w13_0_ok : TabOk Tryz.prog p10 gl w13_0.1 w13_0.2 := told_tab fOkA mixed (fuel := 400) (by kernel_rfl)
end Go.Proofs.YtnoekfkfinjfgaaGreatDoor.Dx
