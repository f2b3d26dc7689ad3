/- Calls of walk.At, lazy.Ways, told by runs of the small machine. No statement of this seat is proved here. -/
import Derived.Test.YtnoekfkfinjfgaaGreatDoorZTbA
import Derived.KernelRfl
set_option autoImplicit false
set_option maxRecDepth 100000
noncomputable section
namespace Go.Proofs.YtnoekfkfinjfgaaGreatDoor.Dx
open Go

theorem e43_1_2_1_2_ok : TabOk Tryz.prog p7 gl e43_1_2_1_2.1 e43_1_2_1_2.2 := told_tab fOkA mixed (fuel := 400) (by kernel_rfl)
theorem e43_1_2_3_3_ok : TabOk Tryz.prog p7 gl e43_1_2_3_3.1 e43_1_2_3_3.2 := told_tab fOkA mixed (fuel := 400) (by kernel_rfl)
theorem e43_0_1_2_1_ok : TabOk Tryz.prog p7 gl e43_0_1_2_1.1 e43_0_1_2_1.2 := told_tab fOkA mixed (fuel := 400) (by kernel_rfl)
theorem e42_1_1_0_2_ok : TabOk Tryz.prog p7 gl e42_1_1_0_2.1 e42_1_1_0_2.2 := told_tab fOkA mixed (fuel := 400) (by kernel_rfl)
theorem e42_1_1_0_1_ok : TabOk Tryz.prog p7 gl e42_1_1_0_1.1 e42_1_1_0_1.2 := told_tab fOkA mixed (fuel := 400) (by kernel_rfl)
theorem e42_1_1_2_2_ok : TabOk Tryz.prog p7 gl e42_1_1_2_2.1 e42_1_1_2_2.2 := told_tab fOkA mixed (fuel := 400) (by kernel_rfl)
theorem e43_1_1_0_ok : TabOk Tryz.prog p7 gl e43_1_1_0.1 e43_1_1_0.2 := told_tab fOkA mixed (fuel := 400) (by kernel_rfl)
theorem e42_0_1_1_2_ok : TabOk Tryz.prog p7 gl e42_0_1_1_2.1 e42_0_1_1_2.2 := told_tab fOkA mixed (fuel := 400) (by kernel_rfl)
theorem e42_0_1_2_2_ok : TabOk Tryz.prog p7 gl e42_0_1_2_2.1 e42_0_1_2_2.2 := told_tab fOkA mixed (fuel := 400) (by kernel_rfl)
theorem e42_0_0_1_0_ok : TabOk Tryz.prog p7 gl e42_0_0_1_0.1 e42_0_0_1_0.2 := told_tab fOkA mixed (fuel := 400) (by kernel_rfl)
theorem e43_0_0_0_1_ok : TabOk Tryz.prog p7 gl e43_0_0_0_1.1 e43_0_0_0_1.2 := told_tab fOkA mixed (fuel := 400) (by kernel_rfl)
theorem e32_1_0_0_ok : TabOk Tryz.prog p7 gl e32_1_0_0.1 e32_1_0_0.2 := told_tab fOkA mixed (fuel := 400) (by kernel_rfl)
theorem e32_1_2_2_ok : TabOk Tryz.prog p7 gl e32_1_2_2.1 e32_1_2_2.2 := told_tab fOkA mixed (fuel := 400) (by kernel_rfl)
theorem e41_1_1_1_1_ok : TabOk Tryz.prog p7 gl e41_1_1_1_1.1 e41_1_1_1_1.2 := told_tab fOkA mixed (fuel := 400) (by kernel_rfl)
theorem e32_0_1_1_ok : TabOk Tryz.prog p7 gl e32_0_1_1.1 e32_0_1_1.2 := told_tab fOkA mixed (fuel := 400) (by kernel_rfl)
theorem e41_1_0_1_ok : TabOk Tryz.prog p7 gl e41_1_0_1.1 e41_1_0_1.2 := told_tab fOkA mixed (fuel := 400) (by kernel_rfl)
theorem e41_0_1_ok : TabOk Tryz.prog p7 gl e41_0_1.1 e41_0_1.2 := told_tab fOkA mixed (fuel := 400) (by kernel_rfl)
theorem e31_1_1_ok : TabOk Tryz.prog p7 gl e31_1_1.1 e31_1_1.2 := told_tab fOkA mixed (fuel := 400) (by kernel_rfl)
theorem e41_0_ok : TabOk Tryz.prog p7 gl e41_0.1 e41_0.2 := told_tab fOkA mixed (fuel := 400) (by kernel_rfl)
theorem e21_0_1_ok : TabOk Tryz.prog p7 gl e21_0_1.1 e21_0_1.2 := told_tab fOkA mixed (fuel := 400) (by kernel_rfl)
theorem e31_1_ok : TabOk Tryz.prog p7 gl e31_1.1 e31_1.2 := told_tab fOkA mixed (fuel := 400) (by kernel_rfl)
theorem e13_0_ok : TabOk Tryz.prog p7 gl e13_0.1 e13_0.2 := told_tab fOkA mixed (fuel := 400) (by kernel_rfl)
theorem w43_2_ok : TabOk Tryz.prog p10 gl w43_2.1 w43_2.2 := told_tab fOkA mixed (fuel := 400) (by kernel_rfl)
theorem w43_3_ok : TabOk Tryz.prog p10 gl w43_3.1 w43_3.2 := told_tab fOkA mixed (fuel := 400) (by kernel_rfl)
theorem w32_2_ok : TabOk Tryz.prog p10 gl w32_2.1 w32_2.2 := told_tab fOkA mixed (fuel := 400) (by kernel_rfl)
theorem w20_0_ok : TabOk Tryz.prog p10 gl w20_0.1 w20_0.2 := told_tab fOkA mixed (fuel := 400) (by kernel_rfl)
end Go.Proofs.YtnoekfkfinjfgaaGreatDoor.Dx
