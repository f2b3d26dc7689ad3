/- WalkArgs comes to true, whatever the numbers. No statement of this seat is proved here. -/
import Derived.Test.YtnoekfkfinjfgaaGreatDoorZLw0
import Derived.Test.YtnoekfkfinjfgaaGreatDoorZLw1
import Derived.Test.YtnoekfkfinjfgaaGreatDoorZLw2
import Derived.Test.YtnoekfkfinjfgaaGreatDoorZLw3
import Derived.Test.YtnoekfkfinjfgaaGreatDoorZLw4
import Derived.Test.YtnoekfkfinjfgaaGreatDoorZLw5
import Derived.Test.YtnoekfkfinjfgaaGreatDoorZAt0
import Derived.Test.YtnoekfkfinjfgaaGreatDoorZAt1
import Derived.Test.YtnoekfkfinjfgaaGreatDoorZAt2
import Derived.Test.YtnoekfkfinjfgaaGreatDoorZAt3
import Derived.Test.YtnoekfkfinjfgaaGreatDoorZAt4
import Derived.Test.YtnoekfkfinjfgaaGreatDoorZAt5
import Derived.Test.YtnoekfkfinjfgaaGreatDoorZAt6
import Derived.Test.YtnoekfkfinjfgaaGreatDoorZAt7
import Derived.Test.YtnoekfkfinjfgaaGreatDoorZAt8
import Derived.Test.YtnoekfkfinjfgaaGreatDoorZAt9
import Derived.Test.YtnoekfkfinjfgaaGreatDoorZAt10
import Derived.Test.YtnoekfkfinjfgaaGreatDoorZAt11
import Derived.KernelRfl
set_option autoImplicit false
set_option maxRecDepth 100000
noncomputable section
namespace Go.Proofs.YtnoekfkfinjfgaaGreatDoor.Dx
open Go

theorem o10_0 : FOk Tryz.prog F10_0 := ((fOkA.set (tabs (f := p7) (n := 7) rfl Tryz.func7 (by kernel_rfl) (by kernel_rfl) (tab_cons e10_ok (tab_cons e10_0_ok tab_nil)))).set (tabs (f := p10) (n := 10) rfl Tryz.func10 (by kernel_rfl) (by kernel_rfl) (tab_cons w10_0_ok tab_nil))).set (tabs (f := p8) (n := 8) rfl Tryz.func8 (by kernel_rfl) (by kernel_rfl) (tab_cons wk_ok tab_nil))
theorem o11_0 : FOk Tryz.prog F11_0 := ((fOkA.set (tabs (f := p7) (n := 7) rfl Tryz.func7 (by kernel_rfl) (by kernel_rfl) (tab_cons e11_ok (tab_cons e11_0_ok tab_nil)))).set (tabs (f := p10) (n := 10) rfl Tryz.func10 (by kernel_rfl) (by kernel_rfl) (tab_cons w11_0_ok tab_nil))).set (tabs (f := p8) (n := 8) rfl Tryz.func8 (by kernel_rfl) (by kernel_rfl) (tab_cons wk_ok tab_nil))
theorem o11_1 : FOk Tryz.prog F11_1 := ((fOkA.set (tabs (f := p7) (n := 7) rfl Tryz.func7 (by kernel_rfl) (by kernel_rfl) (tab_cons e11_ok (tab_cons e11_1_ok tab_nil)))).set (tabs (f := p10) (n := 10) rfl Tryz.func10 (by kernel_rfl) (by kernel_rfl) (tab_cons w11_0_ok tab_nil))).set (tabs (f := p8) (n := 8) rfl Tryz.func8 (by kernel_rfl) (by kernel_rfl) (tab_cons wk_ok tab_nil))
theorem o12_0 : FOk Tryz.prog F12_0 := ((fOkA.set (tabs (f := p7) (n := 7) rfl Tryz.func7 (by kernel_rfl) (by kernel_rfl) (tab_cons e12_ok (tab_cons e12_0_ok tab_nil)))).set (tabs (f := p10) (n := 10) rfl Tryz.func10 (by kernel_rfl) (by kernel_rfl) (tab_cons w12_0_ok tab_nil))).set (tabs (f := p8) (n := 8) rfl Tryz.func8 (by kernel_rfl) (by kernel_rfl) (tab_cons wk_ok tab_nil))
theorem o12_1 : FOk Tryz.prog F12_1 := ((fOkA.set (tabs (f := p7) (n := 7) rfl Tryz.func7 (by kernel_rfl) (by kernel_rfl) (tab_cons e12_ok (tab_cons e12_1_ok tab_nil)))).set (tabs (f := p10) (n := 10) rfl Tryz.func10 (by kernel_rfl) (by kernel_rfl) (tab_cons w12_0_ok tab_nil))).set (tabs (f := p8) (n := 8) rfl Tryz.func8 (by kernel_rfl) (by kernel_rfl) (tab_cons wk_ok tab_nil))
theorem o13_0 : FOk Tryz.prog F13_0 := ((fOkA.set (tabs (f := p7) (n := 7) rfl Tryz.func7 (by kernel_rfl) (by kernel_rfl) (tab_cons e13_ok (tab_cons e13_0_ok tab_nil)))).set (tabs (f := p10) (n := 10) rfl Tryz.func10 (by kernel_rfl) (by kernel_rfl) (tab_cons w13_0_ok tab_nil))).set (tabs (f := p8) (n := 8) rfl Tryz.func8 (by kernel_rfl) (by kernel_rfl) (tab_cons wk_ok tab_nil))
theorem o13_1 : FOk Tryz.prog F13_1 := ((fOkA.set (tabs (f := p7) (n := 7) rfl Tryz.func7 (by kernel_rfl) (by kernel_rfl) (tab_cons e13_ok (tab_cons e13_1_ok tab_nil)))).set (tabs (f := p10) (n := 10) rfl Tryz.func10 (by kernel_rfl) (by kernel_rfl) (tab_cons w13_0_ok tab_nil))).set (tabs (f := p8) (n := 8) rfl Tryz.func8 (by kernel_rfl) (by kernel_rfl) (tab_cons wk_ok tab_nil))
theorem o20_0_0 : FOk Tryz.prog F20_0_0 := ((fOkA.set (tabs (f := p7) (n := 7) rfl Tryz.func7 (by kernel_rfl) (by kernel_rfl) (tab_cons e20_ok (tab_cons e20_0_ok (tab_cons e20_0_0_ok tab_nil))))).set (tabs (f := p10) (n := 10) rfl Tryz.func10 (by kernel_rfl) (by kernel_rfl) (tab_cons w20_0_ok tab_nil))).set (tabs (f := p8) (n := 8) rfl Tryz.func8 (by kernel_rfl) (by kernel_rfl) (tab_cons wk_ok tab_nil))
theorem o21_0_0 : FOk Tryz.prog F21_0_0 := ((fOkA.set (tabs (f := p7) (n := 7) rfl Tryz.func7 (by kernel_rfl) (by kernel_rfl) (tab_cons e21_ok (tab_cons e21_0_ok (tab_cons e21_0_0_ok tab_nil))))).set (tabs (f := p10) (n := 10) rfl Tryz.func10 (by kernel_rfl) (by kernel_rfl) (tab_cons w21_0_ok tab_nil))).set (tabs (f := p8) (n := 8) rfl Tryz.func8 (by kernel_rfl) (by kernel_rfl) (tab_cons wk_ok tab_nil))
theorem o21_0_1 : FOk Tryz.prog F21_0_1 := ((fOkA.set (tabs (f := p7) (n := 7) rfl Tryz.func7 (by kernel_rfl) (by kernel_rfl) (tab_cons e21_ok (tab_cons e21_0_ok (tab_cons e21_0_1_ok tab_nil))))).set (tabs (f := p10) (n := 10) rfl Tryz.func10 (by kernel_rfl) (by kernel_rfl) (tab_cons w21_0_ok tab_nil))).set (tabs (f := p8) (n := 8) rfl Tryz.func8 (by kernel_rfl) (by kernel_rfl) (tab_cons wk_ok tab_nil))
theorem o21_1_0 : FOk Tryz.prog F21_1_0 := ((fOkA.set (tabs (f := p7) (n := 7) rfl Tryz.func7 (by kernel_rfl) (by kernel_rfl) (tab_cons e21_ok (tab_cons e21_1_ok (tab_cons e21_1_0_ok tab_nil))))).set (tabs (f := p10) (n := 10) rfl Tryz.func10 (by kernel_rfl) (by kernel_rfl) (tab_cons w21_0_ok (tab_cons w21_1_ok tab_nil)))).set (tabs (f := p8) (n := 8) rfl Tryz.func8 (by kernel_rfl) (by kernel_rfl) (tab_cons wk_ok tab_nil))
theorem o21_1_1 : FOk Tryz.prog F21_1_1 := ((fOkA.set (tabs (f := p7) (n := 7) rfl Tryz.func7 (by kernel_rfl) (by kernel_rfl) (tab_cons e21_ok (tab_cons e21_1_ok (tab_cons e21_1_1_ok tab_nil))))).set (tabs (f := p10) (n := 10) rfl Tryz.func10 (by kernel_rfl) (by kernel_rfl) (tab_cons w21_0_ok (tab_cons w21_1_ok tab_nil)))).set (tabs (f := p8) (n := 8) rfl Tryz.func8 (by kernel_rfl) (by kernel_rfl) (tab_cons wk_ok tab_nil))
theorem o22_0_0 : FOk Tryz.prog F22_0_0 := ((fOkA.set (tabs (f := p7) (n := 7) rfl Tryz.func7 (by kernel_rfl) (by kernel_rfl) (tab_cons e22_ok (tab_cons e22_0_ok (tab_cons e22_0_0_ok tab_nil))))).set (tabs (f := p10) (n := 10) rfl Tryz.func10 (by kernel_rfl) (by kernel_rfl) (tab_cons w22_0_ok tab_nil))).set (tabs (f := p8) (n := 8) rfl Tryz.func8 (by kernel_rfl) (by kernel_rfl) (tab_cons wk_ok tab_nil))
theorem o22_0_1 : FOk Tryz.prog F22_0_1 := ((fOkA.set (tabs (f := p7) (n := 7) rfl Tryz.func7 (by kernel_rfl) (by kernel_rfl) (tab_cons e22_ok (tab_cons e22_0_ok (tab_cons e22_0_1_ok tab_nil))))).set (tabs (f := p10) (n := 10) rfl Tryz.func10 (by kernel_rfl) (by kernel_rfl) (tab_cons w22_0_ok tab_nil))).set (tabs (f := p8) (n := 8) rfl Tryz.func8 (by kernel_rfl) (by kernel_rfl) (tab_cons wk_ok tab_nil))
theorem o22_1_0 : FOk Tryz.prog F22_1_0 := ((fOkA.set (tabs (f := p7) (n := 7) rfl Tryz.func7 (by kernel_rfl) (by kernel_rfl) (tab_cons e22_ok (tab_cons e22_1_ok (tab_cons e22_1_0_ok tab_nil))))).set (tabs (f := p10) (n := 10) rfl Tryz.func10 (by kernel_rfl) (by kernel_rfl) (tab_cons w22_0_ok (tab_cons w22_1_ok tab_nil)))).set (tabs (f := p8) (n := 8) rfl Tryz.func8 (by kernel_rfl) (by kernel_rfl) (tab_cons wk_ok tab_nil))
theorem o22_1_1 : FOk Tryz.prog F22_1_1 := ((fOkA.set (tabs (f := p7) (n := 7) rfl Tryz.func7 (by kernel_rfl) (by kernel_rfl) (tab_cons e22_ok (tab_cons e22_1_ok (tab_cons e22_1_1_ok tab_nil))))).set (tabs (f := p10) (n := 10) rfl Tryz.func10 (by kernel_rfl) (by kernel_rfl) (tab_cons w22_0_ok (tab_cons w22_1_ok tab_nil)))).set (tabs (f := p8) (n := 8) rfl Tryz.func8 (by kernel_rfl) (by kernel_rfl) (tab_cons wk_ok tab_nil))
theorem o22_1_2 : FOk Tryz.prog F22_1_2 := ((fOkA.set (tabs (f := p7) (n := 7) rfl Tryz.func7 (by kernel_rfl) (by kernel_rfl) (tab_cons e22_ok (tab_cons e22_1_ok (tab_cons e22_1_2_ok tab_nil))))).set (tabs (f := p10) (n := 10) rfl Tryz.func10 (by kernel_rfl) (by kernel_rfl) (tab_cons w22_0_ok (tab_cons w22_1_ok tab_nil)))).set (tabs (f := p8) (n := 8) rfl Tryz.func8 (by kernel_rfl) (by kernel_rfl) (tab_cons wk_ok tab_nil))
theorem o23_0_0 : FOk Tryz.prog F23_0_0 := ((fOkA.set (tabs (f := p7) (n := 7) rfl Tryz.func7 (by kernel_rfl) (by kernel_rfl) (tab_cons e23_ok (tab_cons e23_0_ok (tab_cons e23_0_0_ok tab_nil))))).set (tabs (f := p10) (n := 10) rfl Tryz.func10 (by kernel_rfl) (by kernel_rfl) (tab_cons w23_0_ok tab_nil))).set (tabs (f := p8) (n := 8) rfl Tryz.func8 (by kernel_rfl) (by kernel_rfl) (tab_cons wk_ok tab_nil))
theorem o23_0_1 : FOk Tryz.prog F23_0_1 := ((fOkA.set (tabs (f := p7) (n := 7) rfl Tryz.func7 (by kernel_rfl) (by kernel_rfl) (tab_cons e23_ok (tab_cons e23_0_ok (tab_cons e23_0_1_ok tab_nil))))).set (tabs (f := p10) (n := 10) rfl Tryz.func10 (by kernel_rfl) (by kernel_rfl) (tab_cons w23_0_ok tab_nil))).set (tabs (f := p8) (n := 8) rfl Tryz.func8 (by kernel_rfl) (by kernel_rfl) (tab_cons wk_ok tab_nil))
theorem o23_1_0 : FOk Tryz.prog F23_1_0 := ((fOkA.set (tabs (f := p7) (n := 7) rfl Tryz.func7 (by kernel_rfl) (by kernel_rfl) (tab_cons e23_ok (tab_cons e23_1_ok (tab_cons e23_1_0_ok tab_nil))))).set (tabs (f := p10) (n := 10) rfl Tryz.func10 (by kernel_rfl) (by kernel_rfl) (tab_cons w23_0_ok (tab_cons w23_1_ok tab_nil)))).set (tabs (f := p8) (n := 8) rfl Tryz.func8 (by kernel_rfl) (by kernel_rfl) (tab_cons wk_ok tab_nil))
theorem o23_1_1 : FOk Tryz.prog F23_1_1 := ((fOkA.set (tabs (f := p7) (n := 7) rfl Tryz.func7 (by kernel_rfl) (by kernel_rfl) (tab_cons e23_ok (tab_cons e23_1_ok (tab_cons e23_1_1_ok tab_nil))))).set (tabs (f := p10) (n := 10) rfl Tryz.func10 (by kernel_rfl) (by kernel_rfl) (tab_cons w23_0_ok (tab_cons w23_1_ok tab_nil)))).set (tabs (f := p8) (n := 8) rfl Tryz.func8 (by kernel_rfl) (by kernel_rfl) (tab_cons wk_ok tab_nil))
theorem o23_1_2 : FOk Tryz.prog F23_1_2 := ((fOkA.set (tabs (f := p7) (n := 7) rfl Tryz.func7 (by kernel_rfl) (by kernel_rfl) (tab_cons e23_ok (tab_cons e23_1_ok (tab_cons e23_1_2_ok tab_nil))))).set (tabs (f := p10) (n := 10) rfl Tryz.func10 (by kernel_rfl) (by kernel_rfl) (tab_cons w23_0_ok (tab_cons w23_1_ok tab_nil)))).set (tabs (f := p8) (n := 8) rfl Tryz.func8 (by kernel_rfl) (by kernel_rfl) (tab_cons wk_ok tab_nil))
theorem o30_0_0_0 : FOk Tryz.prog F30_0_0_0 := ((fOkA.set (tabs (f := p7) (n := 7) rfl Tryz.func7 (by kernel_rfl) (by kernel_rfl) (tab_cons e30_ok (tab_cons e30_0_ok (tab_cons e30_0_0_ok (tab_cons e30_0_0_0_ok tab_nil)))))).set (tabs (f := p10) (n := 10) rfl Tryz.func10 (by kernel_rfl) (by kernel_rfl) (tab_cons w30_0_ok tab_nil))).set (tabs (f := p8) (n := 8) rfl Tryz.func8 (by kernel_rfl) (by kernel_rfl) (tab_cons wk_ok tab_nil))
theorem o31_0_0_0 : FOk Tryz.prog F31_0_0_0 := ((fOkA.set (tabs (f := p7) (n := 7) rfl Tryz.func7 (by kernel_rfl) (by kernel_rfl) (tab_cons e31_ok (tab_cons e31_0_ok (tab_cons e31_0_0_ok (tab_cons e31_0_0_0_ok tab_nil)))))).set (tabs (f := p10) (n := 10) rfl Tryz.func10 (by kernel_rfl) (by kernel_rfl) (tab_cons w31_0_ok tab_nil))).set (tabs (f := p8) (n := 8) rfl Tryz.func8 (by kernel_rfl) (by kernel_rfl) (tab_cons wk_ok tab_nil))
theorem o31_0_0_1 : FOk Tryz.prog F31_0_0_1 := ((fOkA.set (tabs (f := p7) (n := 7) rfl Tryz.func7 (by kernel_rfl) (by kernel_rfl) (tab_cons e31_ok (tab_cons e31_0_ok (tab_cons e31_0_0_ok (tab_cons e31_0_0_1_ok tab_nil)))))).set (tabs (f := p10) (n := 10) rfl Tryz.func10 (by kernel_rfl) (by kernel_rfl) (tab_cons w31_0_ok tab_nil))).set (tabs (f := p8) (n := 8) rfl Tryz.func8 (by kernel_rfl) (by kernel_rfl) (tab_cons wk_ok tab_nil))
theorem o31_0_1_0 : FOk Tryz.prog F31_0_1_0 := ((fOkA.set (tabs (f := p7) (n := 7) rfl Tryz.func7 (by kernel_rfl) (by kernel_rfl) (tab_cons e31_ok (tab_cons e31_0_ok (tab_cons e31_0_1_ok (tab_cons e31_0_1_0_ok tab_nil)))))).set (tabs (f := p10) (n := 10) rfl Tryz.func10 (by kernel_rfl) (by kernel_rfl) (tab_cons w31_0_ok (tab_cons w31_1_ok tab_nil)))).set (tabs (f := p8) (n := 8) rfl Tryz.func8 (by kernel_rfl) (by kernel_rfl) (tab_cons wk_ok tab_nil))
theorem o31_0_1_1 : FOk Tryz.prog F31_0_1_1 := ((fOkA.set (tabs (f := p7) (n := 7) rfl Tryz.func7 (by kernel_rfl) (by kernel_rfl) (tab_cons e31_ok (tab_cons e31_0_ok (tab_cons e31_0_1_ok (tab_cons e31_0_1_1_ok tab_nil)))))).set (tabs (f := p10) (n := 10) rfl Tryz.func10 (by kernel_rfl) (by kernel_rfl) (tab_cons w31_0_ok (tab_cons w31_1_ok tab_nil)))).set (tabs (f := p8) (n := 8) rfl Tryz.func8 (by kernel_rfl) (by kernel_rfl) (tab_cons wk_ok tab_nil))
theorem o31_1_0_0 : FOk Tryz.prog F31_1_0_0 := ((fOkA.set (tabs (f := p7) (n := 7) rfl Tryz.func7 (by kernel_rfl) (by kernel_rfl) (tab_cons e31_ok (tab_cons e31_1_ok (tab_cons e31_1_0_ok (tab_cons e31_1_0_0_ok tab_nil)))))).set (tabs (f := p10) (n := 10) rfl Tryz.func10 (by kernel_rfl) (by kernel_rfl) (tab_cons w31_0_ok (tab_cons w31_1_ok tab_nil)))).set (tabs (f := p8) (n := 8) rfl Tryz.func8 (by kernel_rfl) (by kernel_rfl) (tab_cons wk_ok tab_nil))
theorem o31_1_0_1 : FOk Tryz.prog F31_1_0_1 := ((fOkA.set (tabs (f := p7) (n := 7) rfl Tryz.func7 (by kernel_rfl) (by kernel_rfl) (tab_cons e31_ok (tab_cons e31_1_ok (tab_cons e31_1_0_ok (tab_cons e31_1_0_1_ok tab_nil)))))).set (tabs (f := p10) (n := 10) rfl Tryz.func10 (by kernel_rfl) (by kernel_rfl) (tab_cons w31_0_ok (tab_cons w31_1_ok tab_nil)))).set (tabs (f := p8) (n := 8) rfl Tryz.func8 (by kernel_rfl) (by kernel_rfl) (tab_cons wk_ok tab_nil))
theorem o31_1_1_0 : FOk Tryz.prog F31_1_1_0 := ((fOkA.set (tabs (f := p7) (n := 7) rfl Tryz.func7 (by kernel_rfl) (by kernel_rfl) (tab_cons e31_ok (tab_cons e31_1_ok (tab_cons e31_1_1_ok (tab_cons e31_1_1_0_ok tab_nil)))))).set (tabs (f := p10) (n := 10) rfl Tryz.func10 (by kernel_rfl) (by kernel_rfl) (tab_cons w31_0_ok (tab_cons w31_1_ok tab_nil)))).set (tabs (f := p8) (n := 8) rfl Tryz.func8 (by kernel_rfl) (by kernel_rfl) (tab_cons wk_ok tab_nil))
theorem o31_1_1_1 : FOk Tryz.prog F31_1_1_1 := ((fOkA.set (tabs (f := p7) (n := 7) rfl Tryz.func7 (by kernel_rfl) (by kernel_rfl) (tab_cons e31_ok (tab_cons e31_1_ok (tab_cons e31_1_1_ok (tab_cons e31_1_1_1_ok tab_nil)))))).set (tabs (f := p10) (n := 10) rfl Tryz.func10 (by kernel_rfl) (by kernel_rfl) (tab_cons w31_0_ok (tab_cons w31_1_ok tab_nil)))).set (tabs (f := p8) (n := 8) rfl Tryz.func8 (by kernel_rfl) (by kernel_rfl) (tab_cons wk_ok tab_nil))
theorem o32_0_0_0 : FOk Tryz.prog F32_0_0_0 := ((fOkA.set (tabs (f := p7) (n := 7) rfl Tryz.func7 (by kernel_rfl) (by kernel_rfl) (tab_cons e32_ok (tab_cons e32_0_ok (tab_cons e32_0_0_ok (tab_cons e32_0_0_0_ok tab_nil)))))).set (tabs (f := p10) (n := 10) rfl Tryz.func10 (by kernel_rfl) (by kernel_rfl) (tab_cons w32_0_ok tab_nil))).set (tabs (f := p8) (n := 8) rfl Tryz.func8 (by kernel_rfl) (by kernel_rfl) (tab_cons wk_ok tab_nil))
theorem o32_0_0_1 : FOk Tryz.prog F32_0_0_1 := ((fOkA.set (tabs (f := p7) (n := 7) rfl Tryz.func7 (by kernel_rfl) (by kernel_rfl) (tab_cons e32_ok (tab_cons e32_0_ok (tab_cons e32_0_0_ok (tab_cons e32_0_0_1_ok tab_nil)))))).set (tabs (f := p10) (n := 10) rfl Tryz.func10 (by kernel_rfl) (by kernel_rfl) (tab_cons w32_0_ok tab_nil))).set (tabs (f := p8) (n := 8) rfl Tryz.func8 (by kernel_rfl) (by kernel_rfl) (tab_cons wk_ok tab_nil))
theorem o32_0_1_0 : FOk Tryz.prog F32_0_1_0 := ((fOkA.set (tabs (f := p7) (n := 7) rfl Tryz.func7 (by kernel_rfl) (by kernel_rfl) (tab_cons e32_ok (tab_cons e32_0_ok (tab_cons e32_0_1_ok (tab_cons e32_0_1_0_ok tab_nil)))))).set (tabs (f := p10) (n := 10) rfl Tryz.func10 (by kernel_rfl) (by kernel_rfl) (tab_cons w32_0_ok (tab_cons w32_1_ok tab_nil)))).set (tabs (f := p8) (n := 8) rfl Tryz.func8 (by kernel_rfl) (by kernel_rfl) (tab_cons wk_ok tab_nil))
theorem o32_0_1_1 : FOk Tryz.prog F32_0_1_1 := ((fOkA.set (tabs (f := p7) (n := 7) rfl Tryz.func7 (by kernel_rfl) (by kernel_rfl) (tab_cons e32_ok (tab_cons e32_0_ok (tab_cons e32_0_1_ok (tab_cons e32_0_1_1_ok tab_nil)))))).set (tabs (f := p10) (n := 10) rfl Tryz.func10 (by kernel_rfl) (by kernel_rfl) (tab_cons w32_0_ok (tab_cons w32_1_ok tab_nil)))).set (tabs (f := p8) (n := 8) rfl Tryz.func8 (by kernel_rfl) (by kernel_rfl) (tab_cons wk_ok tab_nil))
theorem o32_0_1_2 : FOk Tryz.prog F32_0_1_2 := ((fOkA.set (tabs (f := p7) (n := 7) rfl Tryz.func7 (by kernel_rfl) (by kernel_rfl) (tab_cons e32_ok (tab_cons e32_0_ok (tab_cons e32_0_1_ok (tab_cons e32_0_1_2_ok tab_nil)))))).set (tabs (f := p10) (n := 10) rfl Tryz.func10 (by kernel_rfl) (by kernel_rfl) (tab_cons w32_0_ok (tab_cons w32_1_ok tab_nil)))).set (tabs (f := p8) (n := 8) rfl Tryz.func8 (by kernel_rfl) (by kernel_rfl) (tab_cons wk_ok tab_nil))
theorem o32_1_0_0 : FOk Tryz.prog F32_1_0_0 := ((fOkA.set (tabs (f := p7) (n := 7) rfl Tryz.func7 (by kernel_rfl) (by kernel_rfl) (tab_cons e32_ok (tab_cons e32_1_ok (tab_cons e32_1_0_ok (tab_cons e32_1_0_0_ok tab_nil)))))).set (tabs (f := p10) (n := 10) rfl Tryz.func10 (by kernel_rfl) (by kernel_rfl) (tab_cons w32_0_ok (tab_cons w32_1_ok tab_nil)))).set (tabs (f := p8) (n := 8) rfl Tryz.func8 (by kernel_rfl) (by kernel_rfl) (tab_cons wk_ok tab_nil))
theorem o32_1_0_1 : FOk Tryz.prog F32_1_0_1 := ((fOkA.set (tabs (f := p7) (n := 7) rfl Tryz.func7 (by kernel_rfl) (by kernel_rfl) (tab_cons e32_ok (tab_cons e32_1_ok (tab_cons e32_1_0_ok (tab_cons e32_1_0_1_ok tab_nil)))))).set (tabs (f := p10) (n := 10) rfl Tryz.func10 (by kernel_rfl) (by kernel_rfl) (tab_cons w32_0_ok (tab_cons w32_1_ok tab_nil)))).set (tabs (f := p8) (n := 8) rfl Tryz.func8 (by kernel_rfl) (by kernel_rfl) (tab_cons wk_ok tab_nil))
theorem o32_1_0_2 : FOk Tryz.prog F32_1_0_2 := ((fOkA.set (tabs (f := p7) (n := 7) rfl Tryz.func7 (by kernel_rfl) (by kernel_rfl) (tab_cons e32_ok (tab_cons e32_1_ok (tab_cons e32_1_0_ok (tab_cons e32_1_0_2_ok tab_nil)))))).set (tabs (f := p10) (n := 10) rfl Tryz.func10 (by kernel_rfl) (by kernel_rfl) (tab_cons w32_0_ok (tab_cons w32_1_ok tab_nil)))).set (tabs (f := p8) (n := 8) rfl Tryz.func8 (by kernel_rfl) (by kernel_rfl) (tab_cons wk_ok tab_nil))
theorem o32_1_1_0 : FOk Tryz.prog F32_1_1_0 := ((fOkA.set (tabs (f := p7) (n := 7) rfl Tryz.func7 (by kernel_rfl) (by kernel_rfl) (tab_cons e32_ok (tab_cons e32_1_ok (tab_cons e32_1_1_ok (tab_cons e32_1_1_0_ok tab_nil)))))).set (tabs (f := p10) (n := 10) rfl Tryz.func10 (by kernel_rfl) (by kernel_rfl) (tab_cons w32_0_ok (tab_cons w32_1_ok tab_nil)))).set (tabs (f := p8) (n := 8) rfl Tryz.func8 (by kernel_rfl) (by kernel_rfl) (tab_cons wk_ok tab_nil))
theorem o32_1_1_1 : FOk Tryz.prog F32_1_1_1 := ((fOkA.set (tabs (f := p7) (n := 7) rfl Tryz.func7 (by kernel_rfl) (by kernel_rfl) (tab_cons e32_ok (tab_cons e32_1_ok (tab_cons e32_1_1_ok (tab_cons e32_1_1_1_ok tab_nil)))))).set (tabs (f := p10) (n := 10) rfl Tryz.func10 (by kernel_rfl) (by kernel_rfl) (tab_cons w32_0_ok (tab_cons w32_1_ok tab_nil)))).set (tabs (f := p8) (n := 8) rfl Tryz.func8 (by kernel_rfl) (by kernel_rfl) (tab_cons wk_ok tab_nil))
theorem o32_1_1_2 : FOk Tryz.prog F32_1_1_2 := ((fOkA.set (tabs (f := p7) (n := 7) rfl Tryz.func7 (by kernel_rfl) (by kernel_rfl) (tab_cons e32_ok (tab_cons e32_1_ok (tab_cons e32_1_1_ok (tab_cons e32_1_1_2_ok tab_nil)))))).set (tabs (f := p10) (n := 10) rfl Tryz.func10 (by kernel_rfl) (by kernel_rfl) (tab_cons w32_0_ok (tab_cons w32_1_ok tab_nil)))).set (tabs (f := p8) (n := 8) rfl Tryz.func8 (by kernel_rfl) (by kernel_rfl) (tab_cons wk_ok tab_nil))
theorem o32_1_2_0 : FOk Tryz.prog F32_1_2_0 := ((fOkA.set (tabs (f := p7) (n := 7) rfl Tryz.func7 (by kernel_rfl) (by kernel_rfl) (tab_cons e32_ok (tab_cons e32_1_ok (tab_cons e32_1_2_ok (tab_cons e32_1_2_0_ok tab_nil)))))).set (tabs (f := p10) (n := 10) rfl Tryz.func10 (by kernel_rfl) (by kernel_rfl) (tab_cons w32_0_ok (tab_cons w32_1_ok (tab_cons w32_2_ok tab_nil))))).set (tabs (f := p8) (n := 8) rfl Tryz.func8 (by kernel_rfl) (by kernel_rfl) (tab_cons wk_ok tab_nil))
theorem o32_1_2_1 : FOk Tryz.prog F32_1_2_1 := ((fOkA.set (tabs (f := p7) (n := 7) rfl Tryz.func7 (by kernel_rfl) (by kernel_rfl) (tab_cons e32_ok (tab_cons e32_1_ok (tab_cons e32_1_2_ok (tab_cons e32_1_2_1_ok tab_nil)))))).set (tabs (f := p10) (n := 10) rfl Tryz.func10 (by kernel_rfl) (by kernel_rfl) (tab_cons w32_0_ok (tab_cons w32_1_ok (tab_cons w32_2_ok tab_nil))))).set (tabs (f := p8) (n := 8) rfl Tryz.func8 (by kernel_rfl) (by kernel_rfl) (tab_cons wk_ok tab_nil))
theorem o32_1_2_2 : FOk Tryz.prog F32_1_2_2 := ((fOkA.set (tabs (f := p7) (n := 7) rfl Tryz.func7 (by kernel_rfl) (by kernel_rfl) (tab_cons e32_ok (tab_cons e32_1_ok (tab_cons e32_1_2_ok (tab_cons e32_1_2_2_ok tab_nil)))))).set (tabs (f := p10) (n := 10) rfl Tryz.func10 (by kernel_rfl) (by kernel_rfl) (tab_cons w32_0_ok (tab_cons w32_1_ok (tab_cons w32_2_ok tab_nil))))).set (tabs (f := p8) (n := 8) rfl Tryz.func8 (by kernel_rfl) (by kernel_rfl) (tab_cons wk_ok tab_nil))
theorem o33_0_0_0 : FOk Tryz.prog F33_0_0_0 := ((fOkA.set (tabs (f := p7) (n := 7) rfl Tryz.func7 (by kernel_rfl) (by kernel_rfl) (tab_cons e33_ok (tab_cons e33_0_ok (tab_cons e33_0_0_ok (tab_cons e33_0_0_0_ok tab_nil)))))).set (tabs (f := p10) (n := 10) rfl Tryz.func10 (by kernel_rfl) (by kernel_rfl) (tab_cons w33_0_ok tab_nil))).set (tabs (f := p8) (n := 8) rfl Tryz.func8 (by kernel_rfl) (by kernel_rfl) (tab_cons wk_ok tab_nil))
theorem o33_0_0_1 : FOk Tryz.prog F33_0_0_1 := ((fOkA.set (tabs (f := p7) (n := 7) rfl Tryz.func7 (by kernel_rfl) (by kernel_rfl) (tab_cons e33_ok (tab_cons e33_0_ok (tab_cons e33_0_0_ok (tab_cons e33_0_0_1_ok tab_nil)))))).set (tabs (f := p10) (n := 10) rfl Tryz.func10 (by kernel_rfl) (by kernel_rfl) (tab_cons w33_0_ok tab_nil))).set (tabs (f := p8) (n := 8) rfl Tryz.func8 (by kernel_rfl) (by kernel_rfl) (tab_cons wk_ok tab_nil))
theorem o33_0_1_0 : FOk Tryz.prog F33_0_1_0 := ((fOkA.set (tabs (f := p7) (n := 7) rfl Tryz.func7 (by kernel_rfl) (by kernel_rfl) (tab_cons e33_ok (tab_cons e33_0_ok (tab_cons e33_0_1_ok (tab_cons e33_0_1_0_ok tab_nil)))))).set (tabs (f := p10) (n := 10) rfl Tryz.func10 (by kernel_rfl) (by kernel_rfl) (tab_cons w33_0_ok (tab_cons w33_1_ok tab_nil)))).set (tabs (f := p8) (n := 8) rfl Tryz.func8 (by kernel_rfl) (by kernel_rfl) (tab_cons wk_ok tab_nil))
theorem o33_0_1_1 : FOk Tryz.prog F33_0_1_1 := ((fOkA.set (tabs (f := p7) (n := 7) rfl Tryz.func7 (by kernel_rfl) (by kernel_rfl) (tab_cons e33_ok (tab_cons e33_0_ok (tab_cons e33_0_1_ok (tab_cons e33_0_1_1_ok tab_nil)))))).set (tabs (f := p10) (n := 10) rfl Tryz.func10 (by kernel_rfl) (by kernel_rfl) (tab_cons w33_0_ok (tab_cons w33_1_ok tab_nil)))).set (tabs (f := p8) (n := 8) rfl Tryz.func8 (by kernel_rfl) (by kernel_rfl) (tab_cons wk_ok tab_nil))
theorem o33_0_1_2 : FOk Tryz.prog F33_0_1_2 := ((fOkA.set (tabs (f := p7) (n := 7) rfl Tryz.func7 (by kernel_rfl) (by kernel_rfl) (tab_cons e33_ok (tab_cons e33_0_ok (tab_cons e33_0_1_ok (tab_cons e33_0_1_2_ok tab_nil)))))).set (tabs (f := p10) (n := 10) rfl Tryz.func10 (by kernel_rfl) (by kernel_rfl) (tab_cons w33_0_ok (tab_cons w33_1_ok tab_nil)))).set (tabs (f := p8) (n := 8) rfl Tryz.func8 (by kernel_rfl) (by kernel_rfl) (tab_cons wk_ok tab_nil))
theorem o33_1_0_0 : FOk Tryz.prog F33_1_0_0 := ((fOkA.set (tabs (f := p7) (n := 7) rfl Tryz.func7 (by kernel_rfl) (by kernel_rfl) (tab_cons e33_ok (tab_cons e33_1_ok (tab_cons e33_1_0_ok (tab_cons e33_1_0_0_ok tab_nil)))))).set (tabs (f := p10) (n := 10) rfl Tryz.func10 (by kernel_rfl) (by kernel_rfl) (tab_cons w33_0_ok (tab_cons w33_1_ok tab_nil)))).set (tabs (f := p8) (n := 8) rfl Tryz.func8 (by kernel_rfl) (by kernel_rfl) (tab_cons wk_ok tab_nil))
theorem o33_1_0_1 : FOk Tryz.prog F33_1_0_1 := ((fOkA.set (tabs (f := p7) (n := 7) rfl Tryz.func7 (by kernel_rfl) (by kernel_rfl) (tab_cons e33_ok (tab_cons e33_1_ok (tab_cons e33_1_0_ok (tab_cons e33_1_0_1_ok tab_nil)))))).set (tabs (f := p10) (n := 10) rfl Tryz.func10 (by kernel_rfl) (by kernel_rfl) (tab_cons w33_0_ok (tab_cons w33_1_ok tab_nil)))).set (tabs (f := p8) (n := 8) rfl Tryz.func8 (by kernel_rfl) (by kernel_rfl) (tab_cons wk_ok tab_nil))
theorem o33_1_0_2 : FOk Tryz.prog F33_1_0_2 := ((fOkA.set (tabs (f := p7) (n := 7) rfl Tryz.func7 (by kernel_rfl) (by kernel_rfl) (tab_cons e33_ok (tab_cons e33_1_ok (tab_cons e33_1_0_ok (tab_cons e33_1_0_2_ok tab_nil)))))).set (tabs (f := p10) (n := 10) rfl Tryz.func10 (by kernel_rfl) (by kernel_rfl) (tab_cons w33_0_ok (tab_cons w33_1_ok tab_nil)))).set (tabs (f := p8) (n := 8) rfl Tryz.func8 (by kernel_rfl) (by kernel_rfl) (tab_cons wk_ok tab_nil))
theorem o33_1_1_0 : FOk Tryz.prog F33_1_1_0 := ((fOkA.set (tabs (f := p7) (n := 7) rfl Tryz.func7 (by kernel_rfl) (by kernel_rfl) (tab_cons e33_ok (tab_cons e33_1_ok (tab_cons e33_1_1_ok (tab_cons e33_1_1_0_ok tab_nil)))))).set (tabs (f := p10) (n := 10) rfl Tryz.func10 (by kernel_rfl) (by kernel_rfl) (tab_cons w33_0_ok (tab_cons w33_1_ok tab_nil)))).set (tabs (f := p8) (n := 8) rfl Tryz.func8 (by kernel_rfl) (by kernel_rfl) (tab_cons wk_ok tab_nil))
theorem o33_1_1_1 : FOk Tryz.prog F33_1_1_1 := ((fOkA.set (tabs (f := p7) (n := 7) rfl Tryz.func7 (by kernel_rfl) (by kernel_rfl) (tab_cons e33_ok (tab_cons e33_1_ok (tab_cons e33_1_1_ok (tab_cons e33_1_1_1_ok tab_nil)))))).set (tabs (f := p10) (n := 10) rfl Tryz.func10 (by kernel_rfl) (by kernel_rfl) (tab_cons w33_0_ok (tab_cons w33_1_ok tab_nil)))).set (tabs (f := p8) (n := 8) rfl Tryz.func8 (by kernel_rfl) (by kernel_rfl) (tab_cons wk_ok tab_nil))
theorem o33_1_1_2 : FOk Tryz.prog F33_1_1_2 := ((fOkA.set (tabs (f := p7) (n := 7) rfl Tryz.func7 (by kernel_rfl) (by kernel_rfl) (tab_cons e33_ok (tab_cons e33_1_ok (tab_cons e33_1_1_ok (tab_cons e33_1_1_2_ok tab_nil)))))).set (tabs (f := p10) (n := 10) rfl Tryz.func10 (by kernel_rfl) (by kernel_rfl) (tab_cons w33_0_ok (tab_cons w33_1_ok tab_nil)))).set (tabs (f := p8) (n := 8) rfl Tryz.func8 (by kernel_rfl) (by kernel_rfl) (tab_cons wk_ok tab_nil))
theorem o33_1_2_0 : FOk Tryz.prog F33_1_2_0 := ((fOkA.set (tabs (f := p7) (n := 7) rfl Tryz.func7 (by kernel_rfl) (by kernel_rfl) (tab_cons e33_ok (tab_cons e33_1_ok (tab_cons e33_1_2_ok (tab_cons e33_1_2_0_ok tab_nil)))))).set (tabs (f := p10) (n := 10) rfl Tryz.func10 (by kernel_rfl) (by kernel_rfl) (tab_cons w33_0_ok (tab_cons w33_1_ok (tab_cons w33_2_ok tab_nil))))).set (tabs (f := p8) (n := 8) rfl Tryz.func8 (by kernel_rfl) (by kernel_rfl) (tab_cons wk_ok tab_nil))
theorem o33_1_2_1 : FOk Tryz.prog F33_1_2_1 := ((fOkA.set (tabs (f := p7) (n := 7) rfl Tryz.func7 (by kernel_rfl) (by kernel_rfl) (tab_cons e33_ok (tab_cons e33_1_ok (tab_cons e33_1_2_ok (tab_cons e33_1_2_1_ok tab_nil)))))).set (tabs (f := p10) (n := 10) rfl Tryz.func10 (by kernel_rfl) (by kernel_rfl) (tab_cons w33_0_ok (tab_cons w33_1_ok (tab_cons w33_2_ok tab_nil))))).set (tabs (f := p8) (n := 8) rfl Tryz.func8 (by kernel_rfl) (by kernel_rfl) (tab_cons wk_ok tab_nil))
theorem o33_1_2_2 : FOk Tryz.prog F33_1_2_2 := ((fOkA.set (tabs (f := p7) (n := 7) rfl Tryz.func7 (by kernel_rfl) (by kernel_rfl) (tab_cons e33_ok (tab_cons e33_1_ok (tab_cons e33_1_2_ok (tab_cons e33_1_2_2_ok tab_nil)))))).set (tabs (f := p10) (n := 10) rfl Tryz.func10 (by kernel_rfl) (by kernel_rfl) (tab_cons w33_0_ok (tab_cons w33_1_ok (tab_cons w33_2_ok tab_nil))))).set (tabs (f := p8) (n := 8) rfl Tryz.func8 (by kernel_rfl) (by kernel_rfl) (tab_cons wk_ok tab_nil))
theorem o33_1_2_3 : FOk Tryz.prog F33_1_2_3 := ((fOkA.set (tabs (f := p7) (n := 7) rfl Tryz.func7 (by kernel_rfl) (by kernel_rfl) (tab_cons e33_ok (tab_cons e33_1_ok (tab_cons e33_1_2_ok (tab_cons e33_1_2_3_ok tab_nil)))))).set (tabs (f := p10) (n := 10) rfl Tryz.func10 (by kernel_rfl) (by kernel_rfl) (tab_cons w33_0_ok (tab_cons w33_1_ok (tab_cons w33_2_ok tab_nil))))).set (tabs (f := p8) (n := 8) rfl Tryz.func8 (by kernel_rfl) (by kernel_rfl) (tab_cons wk_ok tab_nil))
theorem o40_0_0_0_0 : FOk Tryz.prog F40_0_0_0_0 := ((fOkA.set (tabs (f := p7) (n := 7) rfl Tryz.func7 (by kernel_rfl) (by kernel_rfl) (tab_cons e40_ok (tab_cons e40_0_ok (tab_cons e40_0_0_ok (tab_cons e40_0_0_0_ok (tab_cons e40_0_0_0_0_ok tab_nil))))))).set (tabs (f := p10) (n := 10) rfl Tryz.func10 (by kernel_rfl) (by kernel_rfl) (tab_cons w40_0_ok tab_nil))).set (tabs (f := p8) (n := 8) rfl Tryz.func8 (by kernel_rfl) (by kernel_rfl) (tab_cons wk_ok tab_nil))
theorem o41_0_0_0_0 : FOk Tryz.prog F41_0_0_0_0 := ((fOkA.set (tabs (f := p7) (n := 7) rfl Tryz.func7 (by kernel_rfl) (by kernel_rfl) (tab_cons e41_ok (tab_cons e41_0_ok (tab_cons e41_0_0_ok (tab_cons e41_0_0_0_ok (tab_cons e41_0_0_0_0_ok tab_nil))))))).set (tabs (f := p10) (n := 10) rfl Tryz.func10 (by kernel_rfl) (by kernel_rfl) (tab_cons w41_0_ok tab_nil))).set (tabs (f := p8) (n := 8) rfl Tryz.func8 (by kernel_rfl) (by kernel_rfl) (tab_cons wk_ok tab_nil))
theorem o41_0_0_0_1 : FOk Tryz.prog F41_0_0_0_1 := ((fOkA.set (tabs (f := p7) (n := 7) rfl Tryz.func7 (by kernel_rfl) (by kernel_rfl) (tab_cons e41_ok (tab_cons e41_0_ok (tab_cons e41_0_0_ok (tab_cons e41_0_0_0_ok (tab_cons e41_0_0_0_1_ok tab_nil))))))).set (tabs (f := p10) (n := 10) rfl Tryz.func10 (by kernel_rfl) (by kernel_rfl) (tab_cons w41_0_ok tab_nil))).set (tabs (f := p8) (n := 8) rfl Tryz.func8 (by kernel_rfl) (by kernel_rfl) (tab_cons wk_ok tab_nil))
theorem o41_0_0_1_0 : FOk Tryz.prog F41_0_0_1_0 := ((fOkA.set (tabs (f := p7) (n := 7) rfl Tryz.func7 (by kernel_rfl) (by kernel_rfl) (tab_cons e41_ok (tab_cons e41_0_ok (tab_cons e41_0_0_ok (tab_cons e41_0_0_1_ok (tab_cons e41_0_0_1_0_ok tab_nil))))))).set (tabs (f := p10) (n := 10) rfl Tryz.func10 (by kernel_rfl) (by kernel_rfl) (tab_cons w41_0_ok (tab_cons w41_1_ok tab_nil)))).set (tabs (f := p8) (n := 8) rfl Tryz.func8 (by kernel_rfl) (by kernel_rfl) (tab_cons wk_ok tab_nil))
theorem o41_0_0_1_1 : FOk Tryz.prog F41_0_0_1_1 := ((fOkA.set (tabs (f := p7) (n := 7) rfl Tryz.func7 (by kernel_rfl) (by kernel_rfl) (tab_cons e41_ok (tab_cons e41_0_ok (tab_cons e41_0_0_ok (tab_cons e41_0_0_1_ok (tab_cons e41_0_0_1_1_ok tab_nil))))))).set (tabs (f := p10) (n := 10) rfl Tryz.func10 (by kernel_rfl) (by kernel_rfl) (tab_cons w41_0_ok (tab_cons w41_1_ok tab_nil)))).set (tabs (f := p8) (n := 8) rfl Tryz.func8 (by kernel_rfl) (by kernel_rfl) (tab_cons wk_ok tab_nil))
theorem o41_0_1_0_0 : FOk Tryz.prog F41_0_1_0_0 := ((fOkA.set (tabs (f := p7) (n := 7) rfl Tryz.func7 (by kernel_rfl) (by kernel_rfl) (tab_cons e41_ok (tab_cons e41_0_ok (tab_cons e41_0_1_ok (tab_cons e41_0_1_0_ok (tab_cons e41_0_1_0_0_ok tab_nil))))))).set (tabs (f := p10) (n := 10) rfl Tryz.func10 (by kernel_rfl) (by kernel_rfl) (tab_cons w41_0_ok (tab_cons w41_1_ok tab_nil)))).set (tabs (f := p8) (n := 8) rfl Tryz.func8 (by kernel_rfl) (by kernel_rfl) (tab_cons wk_ok tab_nil))
theorem o41_0_1_0_1 : FOk Tryz.prog F41_0_1_0_1 := ((fOkA.set (tabs (f := p7) (n := 7) rfl Tryz.func7 (by kernel_rfl) (by kernel_rfl) (tab_cons e41_ok (tab_cons e41_0_ok (tab_cons e41_0_1_ok (tab_cons e41_0_1_0_ok (tab_cons e41_0_1_0_1_ok tab_nil))))))).set (tabs (f := p10) (n := 10) rfl Tryz.func10 (by kernel_rfl) (by kernel_rfl) (tab_cons w41_0_ok (tab_cons w41_1_ok tab_nil)))).set (tabs (f := p8) (n := 8) rfl Tryz.func8 (by kernel_rfl) (by kernel_rfl) (tab_cons wk_ok tab_nil))
theorem o41_0_1_1_0 : FOk Tryz.prog F41_0_1_1_0 := ((fOkA.set (tabs (f := p7) (n := 7) rfl Tryz.func7 (by kernel_rfl) (by kernel_rfl) (tab_cons e41_ok (tab_cons e41_0_ok (tab_cons e41_0_1_ok (tab_cons e41_0_1_1_ok (tab_cons e41_0_1_1_0_ok tab_nil))))))).set (tabs (f := p10) (n := 10) rfl Tryz.func10 (by kernel_rfl) (by kernel_rfl) (tab_cons w41_0_ok (tab_cons w41_1_ok tab_nil)))).set (tabs (f := p8) (n := 8) rfl Tryz.func8 (by kernel_rfl) (by kernel_rfl) (tab_cons wk_ok tab_nil))
theorem o41_0_1_1_1 : FOk Tryz.prog F41_0_1_1_1 := ((fOkA.set (tabs (f := p7) (n := 7) rfl Tryz.func7 (by kernel_rfl) (by kernel_rfl) (tab_cons e41_ok (tab_cons e41_0_ok (tab_cons e41_0_1_ok (tab_cons e41_0_1_1_ok (tab_cons e41_0_1_1_1_ok tab_nil))))))).set (tabs (f := p10) (n := 10) rfl Tryz.func10 (by kernel_rfl) (by kernel_rfl) (tab_cons w41_0_ok (tab_cons w41_1_ok tab_nil)))).set (tabs (f := p8) (n := 8) rfl Tryz.func8 (by kernel_rfl) (by kernel_rfl) (tab_cons wk_ok tab_nil))
theorem o41_1_0_0_0 : FOk Tryz.prog F41_1_0_0_0 := ((fOkA.set (tabs (f := p7) (n := 7) rfl Tryz.func7 (by kernel_rfl) (by kernel_rfl) (tab_cons e41_ok (tab_cons e41_1_ok (tab_cons e41_1_0_ok (tab_cons e41_1_0_0_ok (tab_cons e41_1_0_0_0_ok tab_nil))))))).set (tabs (f := p10) (n := 10) rfl Tryz.func10 (by kernel_rfl) (by kernel_rfl) (tab_cons w41_0_ok (tab_cons w41_1_ok tab_nil)))).set (tabs (f := p8) (n := 8) rfl Tryz.func8 (by kernel_rfl) (by kernel_rfl) (tab_cons wk_ok tab_nil))
theorem o41_1_0_0_1 : FOk Tryz.prog F41_1_0_0_1 := ((fOkA.set (tabs (f := p7) (n := 7) rfl Tryz.func7 (by kernel_rfl) (by kernel_rfl) (tab_cons e41_ok (tab_cons e41_1_ok (tab_cons e41_1_0_ok (tab_cons e41_1_0_0_ok (tab_cons e41_1_0_0_1_ok tab_nil))))))).set (tabs (f := p10) (n := 10) rfl Tryz.func10 (by kernel_rfl) (by kernel_rfl) (tab_cons w41_0_ok (tab_cons w41_1_ok tab_nil)))).set (tabs (f := p8) (n := 8) rfl Tryz.func8 (by kernel_rfl) (by kernel_rfl) (tab_cons wk_ok tab_nil))
theorem o41_1_0_1_0 : FOk Tryz.prog F41_1_0_1_0 := ((fOkA.set (tabs (f := p7) (n := 7) rfl Tryz.func7 (by kernel_rfl) (by kernel_rfl) (tab_cons e41_ok (tab_cons e41_1_ok (tab_cons e41_1_0_ok (tab_cons e41_1_0_1_ok (tab_cons e41_1_0_1_0_ok tab_nil))))))).set (tabs (f := p10) (n := 10) rfl Tryz.func10 (by kernel_rfl) (by kernel_rfl) (tab_cons w41_0_ok (tab_cons w41_1_ok tab_nil)))).set (tabs (f := p8) (n := 8) rfl Tryz.func8 (by kernel_rfl) (by kernel_rfl) (tab_cons wk_ok tab_nil))
theorem o41_1_0_1_1 : FOk Tryz.prog F41_1_0_1_1 := ((fOkA.set (tabs (f := p7) (n := 7) rfl Tryz.func7 (by kernel_rfl) (by kernel_rfl) (tab_cons e41_ok (tab_cons e41_1_ok (tab_cons e41_1_0_ok (tab_cons e41_1_0_1_ok (tab_cons e41_1_0_1_1_ok tab_nil))))))).set (tabs (f := p10) (n := 10) rfl Tryz.func10 (by kernel_rfl) (by kernel_rfl) (tab_cons w41_0_ok (tab_cons w41_1_ok tab_nil)))).set (tabs (f := p8) (n := 8) rfl Tryz.func8 (by kernel_rfl) (by kernel_rfl) (tab_cons wk_ok tab_nil))
theorem o41_1_1_0_0 : FOk Tryz.prog F41_1_1_0_0 := ((fOkA.set (tabs (f := p7) (n := 7) rfl Tryz.func7 (by kernel_rfl) (by kernel_rfl) (tab_cons e41_ok (tab_cons e41_1_ok (tab_cons e41_1_1_ok (tab_cons e41_1_1_0_ok (tab_cons e41_1_1_0_0_ok tab_nil))))))).set (tabs (f := p10) (n := 10) rfl Tryz.func10 (by kernel_rfl) (by kernel_rfl) (tab_cons w41_0_ok (tab_cons w41_1_ok tab_nil)))).set (tabs (f := p8) (n := 8) rfl Tryz.func8 (by kernel_rfl) (by kernel_rfl) (tab_cons wk_ok tab_nil))
theorem o41_1_1_0_1 : FOk Tryz.prog F41_1_1_0_1 := ((fOkA.set (tabs (f := p7) (n := 7) rfl Tryz.func7 (by kernel_rfl) (by kernel_rfl) (tab_cons e41_ok (tab_cons e41_1_ok (tab_cons e41_1_1_ok (tab_cons e41_1_1_0_ok (tab_cons e41_1_1_0_1_ok tab_nil))))))).set (tabs (f := p10) (n := 10) rfl Tryz.func10 (by kernel_rfl) (by kernel_rfl) (tab_cons w41_0_ok (tab_cons w41_1_ok tab_nil)))).set (tabs (f := p8) (n := 8) rfl Tryz.func8 (by kernel_rfl) (by kernel_rfl) (tab_cons wk_ok tab_nil))
theorem o41_1_1_1_0 : FOk Tryz.prog F41_1_1_1_0 := ((fOkA.set (tabs (f := p7) (n := 7) rfl Tryz.func7 (by kernel_rfl) (by kernel_rfl) (tab_cons e41_ok (tab_cons e41_1_ok (tab_cons e41_1_1_ok (tab_cons e41_1_1_1_ok (tab_cons e41_1_1_1_0_ok tab_nil))))))).set (tabs (f := p10) (n := 10) rfl Tryz.func10 (by kernel_rfl) (by kernel_rfl) (tab_cons w41_0_ok (tab_cons w41_1_ok tab_nil)))).set (tabs (f := p8) (n := 8) rfl Tryz.func8 (by kernel_rfl) (by kernel_rfl) (tab_cons wk_ok tab_nil))
theorem o41_1_1_1_1 : FOk Tryz.prog F41_1_1_1_1 := ((fOkA.set (tabs (f := p7) (n := 7) rfl Tryz.func7 (by kernel_rfl) (by kernel_rfl) (tab_cons e41_ok (tab_cons e41_1_ok (tab_cons e41_1_1_ok (tab_cons e41_1_1_1_ok (tab_cons e41_1_1_1_1_ok tab_nil))))))).set (tabs (f := p10) (n := 10) rfl Tryz.func10 (by kernel_rfl) (by kernel_rfl) (tab_cons w41_0_ok (tab_cons w41_1_ok tab_nil)))).set (tabs (f := p8) (n := 8) rfl Tryz.func8 (by kernel_rfl) (by kernel_rfl) (tab_cons wk_ok tab_nil))
theorem o42_0_0_0_0 : FOk Tryz.prog F42_0_0_0_0 := ((fOkA.set (tabs (f := p7) (n := 7) rfl Tryz.func7 (by kernel_rfl) (by kernel_rfl) (tab_cons e42_ok (tab_cons e42_0_ok (tab_cons e42_0_0_ok (tab_cons e42_0_0_0_ok (tab_cons e42_0_0_0_0_ok tab_nil))))))).set (tabs (f := p10) (n := 10) rfl Tryz.func10 (by kernel_rfl) (by kernel_rfl) (tab_cons w42_0_ok tab_nil))).set (tabs (f := p8) (n := 8) rfl Tryz.func8 (by kernel_rfl) (by kernel_rfl) (tab_cons wk_ok tab_nil))
theorem o42_0_0_0_1 : FOk Tryz.prog F42_0_0_0_1 := ((fOkA.set (tabs (f := p7) (n := 7) rfl Tryz.func7 (by kernel_rfl) (by kernel_rfl) (tab_cons e42_ok (tab_cons e42_0_ok (tab_cons e42_0_0_ok (tab_cons e42_0_0_0_ok (tab_cons e42_0_0_0_1_ok tab_nil))))))).set (tabs (f := p10) (n := 10) rfl Tryz.func10 (by kernel_rfl) (by kernel_rfl) (tab_cons w42_0_ok tab_nil))).set (tabs (f := p8) (n := 8) rfl Tryz.func8 (by kernel_rfl) (by kernel_rfl) (tab_cons wk_ok tab_nil))
theorem o42_0_0_1_0 : FOk Tryz.prog F42_0_0_1_0 := ((fOkA.set (tabs (f := p7) (n := 7) rfl Tryz.func7 (by kernel_rfl) (by kernel_rfl) (tab_cons e42_ok (tab_cons e42_0_ok (tab_cons e42_0_0_ok (tab_cons e42_0_0_1_ok (tab_cons e42_0_0_1_0_ok tab_nil))))))).set (tabs (f := p10) (n := 10) rfl Tryz.func10 (by kernel_rfl) (by kernel_rfl) (tab_cons w42_0_ok (tab_cons w42_1_ok tab_nil)))).set (tabs (f := p8) (n := 8) rfl Tryz.func8 (by kernel_rfl) (by kernel_rfl) (tab_cons wk_ok tab_nil))
theorem o42_0_0_1_1 : FOk Tryz.prog F42_0_0_1_1 := ((fOkA.set (tabs (f := p7) (n := 7) rfl Tryz.func7 (by kernel_rfl) (by kernel_rfl) (tab_cons e42_ok (tab_cons e42_0_ok (tab_cons e42_0_0_ok (tab_cons e42_0_0_1_ok (tab_cons e42_0_0_1_1_ok tab_nil))))))).set (tabs (f := p10) (n := 10) rfl Tryz.func10 (by kernel_rfl) (by kernel_rfl) (tab_cons w42_0_ok (tab_cons w42_1_ok tab_nil)))).set (tabs (f := p8) (n := 8) rfl Tryz.func8 (by kernel_rfl) (by kernel_rfl) (tab_cons wk_ok tab_nil))
theorem o42_0_0_1_2 : FOk Tryz.prog F42_0_0_1_2 := ((fOkA.set (tabs (f := p7) (n := 7) rfl Tryz.func7 (by kernel_rfl) (by kernel_rfl) (tab_cons e42_ok (tab_cons e42_0_ok (tab_cons e42_0_0_ok (tab_cons e42_0_0_1_ok (tab_cons e42_0_0_1_2_ok tab_nil))))))).set (tabs (f := p10) (n := 10) rfl Tryz.func10 (by kernel_rfl) (by kernel_rfl) (tab_cons w42_0_ok (tab_cons w42_1_ok tab_nil)))).set (tabs (f := p8) (n := 8) rfl Tryz.func8 (by kernel_rfl) (by kernel_rfl) (tab_cons wk_ok tab_nil))
theorem o42_0_1_0_0 : FOk Tryz.prog F42_0_1_0_0 := ((fOkA.set (tabs (f := p7) (n := 7) rfl Tryz.func7 (by kernel_rfl) (by kernel_rfl) (tab_cons e42_ok (tab_cons e42_0_ok (tab_cons e42_0_1_ok (tab_cons e42_0_1_0_ok (tab_cons e42_0_1_0_0_ok tab_nil))))))).set (tabs (f := p10) (n := 10) rfl Tryz.func10 (by kernel_rfl) (by kernel_rfl) (tab_cons w42_0_ok (tab_cons w42_1_ok tab_nil)))).set (tabs (f := p8) (n := 8) rfl Tryz.func8 (by kernel_rfl) (by kernel_rfl) (tab_cons wk_ok tab_nil))
theorem o42_0_1_0_1 : FOk Tryz.prog F42_0_1_0_1 := ((fOkA.set (tabs (f := p7) (n := 7) rfl Tryz.func7 (by kernel_rfl) (by kernel_rfl) (tab_cons e42_ok (tab_cons e42_0_ok (tab_cons e42_0_1_ok (tab_cons e42_0_1_0_ok (tab_cons e42_0_1_0_1_ok tab_nil))))))).set (tabs (f := p10) (n := 10) rfl Tryz.func10 (by kernel_rfl) (by kernel_rfl) (tab_cons w42_0_ok (tab_cons w42_1_ok tab_nil)))).set (tabs (f := p8) (n := 8) rfl Tryz.func8 (by kernel_rfl) (by kernel_rfl) (tab_cons wk_ok tab_nil))
theorem o42_0_1_0_2 : FOk Tryz.prog F42_0_1_0_2 := ((fOkA.set (tabs (f := p7) (n := 7) rfl Tryz.func7 (by kernel_rfl) (by kernel_rfl) (tab_cons e42_ok (tab_cons e42_0_ok (tab_cons e42_0_1_ok (tab_cons e42_0_1_0_ok (tab_cons e42_0_1_0_2_ok tab_nil))))))).set (tabs (f := p10) (n := 10) rfl Tryz.func10 (by kernel_rfl) (by kernel_rfl) (tab_cons w42_0_ok (tab_cons w42_1_ok tab_nil)))).set (tabs (f := p8) (n := 8) rfl Tryz.func8 (by kernel_rfl) (by kernel_rfl) (tab_cons wk_ok tab_nil))
theorem o42_0_1_1_0 : FOk Tryz.prog F42_0_1_1_0 := ((fOkA.set (tabs (f := p7) (n := 7) rfl Tryz.func7 (by kernel_rfl) (by kernel_rfl) (tab_cons e42_ok (tab_cons e42_0_ok (tab_cons e42_0_1_ok (tab_cons e42_0_1_1_ok (tab_cons e42_0_1_1_0_ok tab_nil))))))).set (tabs (f := p10) (n := 10) rfl Tryz.func10 (by kernel_rfl) (by kernel_rfl) (tab_cons w42_0_ok (tab_cons w42_1_ok tab_nil)))).set (tabs (f := p8) (n := 8) rfl Tryz.func8 (by kernel_rfl) (by kernel_rfl) (tab_cons wk_ok tab_nil))
theorem o42_0_1_1_1 : FOk Tryz.prog F42_0_1_1_1 := ((fOkA.set (tabs (f := p7) (n := 7) rfl Tryz.func7 (by kernel_rfl) (by kernel_rfl) (tab_cons e42_ok (tab_cons e42_0_ok (tab_cons e42_0_1_ok (tab_cons e42_0_1_1_ok (tab_cons e42_0_1_1_1_ok tab_nil))))))).set (tabs (f := p10) (n := 10) rfl Tryz.func10 (by kernel_rfl) (by kernel_rfl) (tab_cons w42_0_ok (tab_cons w42_1_ok tab_nil)))).set (tabs (f := p8) (n := 8) rfl Tryz.func8 (by kernel_rfl) (by kernel_rfl) (tab_cons wk_ok tab_nil))
theorem o42_0_1_1_2 : FOk Tryz.prog F42_0_1_1_2 := ((fOkA.set (tabs (f := p7) (n := 7) rfl Tryz.func7 (by kernel_rfl) (by kernel_rfl) (tab_cons e42_ok (tab_cons e42_0_ok (tab_cons e42_0_1_ok (tab_cons e42_0_1_1_ok (tab_cons e42_0_1_1_2_ok tab_nil))))))).set (tabs (f := p10) (n := 10) rfl Tryz.func10 (by kernel_rfl) (by kernel_rfl) (tab_cons w42_0_ok (tab_cons w42_1_ok tab_nil)))).set (tabs (f := p8) (n := 8) rfl Tryz.func8 (by kernel_rfl) (by kernel_rfl) (tab_cons wk_ok tab_nil))
theorem o42_0_1_2_0 : FOk Tryz.prog F42_0_1_2_0 := ((fOkA.set (tabs (f := p7) (n := 7) rfl Tryz.func7 (by kernel_rfl) (by kernel_rfl) (tab_cons e42_ok (tab_cons e42_0_ok (tab_cons e42_0_1_ok (tab_cons e42_0_1_2_ok (tab_cons e42_0_1_2_0_ok tab_nil))))))).set (tabs (f := p10) (n := 10) rfl Tryz.func10 (by kernel_rfl) (by kernel_rfl) (tab_cons w42_0_ok (tab_cons w42_1_ok (tab_cons w42_2_ok tab_nil))))).set (tabs (f := p8) (n := 8) rfl Tryz.func8 (by kernel_rfl) (by kernel_rfl) (tab_cons wk_ok tab_nil))
theorem o42_0_1_2_1 : FOk Tryz.prog F42_0_1_2_1 := ((fOkA.set (tabs (f := p7) (n := 7) rfl Tryz.func7 (by kernel_rfl) (by kernel_rfl) (tab_cons e42_ok (tab_cons e42_0_ok (tab_cons e42_0_1_ok (tab_cons e42_0_1_2_ok (tab_cons e42_0_1_2_1_ok tab_nil))))))).set (tabs (f := p10) (n := 10) rfl Tryz.func10 (by kernel_rfl) (by kernel_rfl) (tab_cons w42_0_ok (tab_cons w42_1_ok (tab_cons w42_2_ok tab_nil))))).set (tabs (f := p8) (n := 8) rfl Tryz.func8 (by kernel_rfl) (by kernel_rfl) (tab_cons wk_ok tab_nil))
theorem o42_0_1_2_2 : FOk Tryz.prog F42_0_1_2_2 := ((fOkA.set (tabs (f := p7) (n := 7) rfl Tryz.func7 (by kernel_rfl) (by kernel_rfl) (tab_cons e42_ok (tab_cons e42_0_ok (tab_cons e42_0_1_ok (tab_cons e42_0_1_2_ok (tab_cons e42_0_1_2_2_ok tab_nil))))))).set (tabs (f := p10) (n := 10) rfl Tryz.func10 (by kernel_rfl) (by kernel_rfl) (tab_cons w42_0_ok (tab_cons w42_1_ok (tab_cons w42_2_ok tab_nil))))).set (tabs (f := p8) (n := 8) rfl Tryz.func8 (by kernel_rfl) (by kernel_rfl) (tab_cons wk_ok tab_nil))
theorem o42_1_0_0_0 : FOk Tryz.prog F42_1_0_0_0 := ((fOkA.set (tabs (f := p7) (n := 7) rfl Tryz.func7 (by kernel_rfl) (by kernel_rfl) (tab_cons e42_ok (tab_cons e42_1_ok (tab_cons e42_1_0_ok (tab_cons e42_1_0_0_ok (tab_cons e42_1_0_0_0_ok tab_nil))))))).set (tabs (f := p10) (n := 10) rfl Tryz.func10 (by kernel_rfl) (by kernel_rfl) (tab_cons w42_0_ok (tab_cons w42_1_ok tab_nil)))).set (tabs (f := p8) (n := 8) rfl Tryz.func8 (by kernel_rfl) (by kernel_rfl) (tab_cons wk_ok tab_nil))
theorem o42_1_0_0_1 : FOk Tryz.prog F42_1_0_0_1 := ((fOkA.set (tabs (f := p7) (n := 7) rfl Tryz.func7 (by kernel_rfl) (by kernel_rfl) (tab_cons e42_ok (tab_cons e42_1_ok (tab_cons e42_1_0_ok (tab_cons e42_1_0_0_ok (tab_cons e42_1_0_0_1_ok tab_nil))))))).set (tabs (f := p10) (n := 10) rfl Tryz.func10 (by kernel_rfl) (by kernel_rfl) (tab_cons w42_0_ok (tab_cons w42_1_ok tab_nil)))).set (tabs (f := p8) (n := 8) rfl Tryz.func8 (by kernel_rfl) (by kernel_rfl) (tab_cons wk_ok tab_nil))
theorem o42_1_0_0_2 : FOk Tryz.prog F42_1_0_0_2 := ((fOkA.set (tabs (f := p7) (n := 7) rfl Tryz.func7 (by kernel_rfl) (by kernel_rfl) (tab_cons e42_ok (tab_cons e42_1_ok (tab_cons e42_1_0_ok (tab_cons e42_1_0_0_ok (tab_cons e42_1_0_0_2_ok tab_nil))))))).set (tabs (f := p10) (n := 10) rfl Tryz.func10 (by kernel_rfl) (by kernel_rfl) (tab_cons w42_0_ok (tab_cons w42_1_ok tab_nil)))).set (tabs (f := p8) (n := 8) rfl Tryz.func8 (by kernel_rfl) (by kernel_rfl) (tab_cons wk_ok tab_nil))
theorem o42_1_0_1_0 : FOk Tryz.prog F42_1_0_1_0 := ((fOkA.set (tabs (f := p7) (n := 7) rfl Tryz.func7 (by kernel_rfl) (by kernel_rfl) (tab_cons e42_ok (tab_cons e42_1_ok (tab_cons e42_1_0_ok (tab_cons e42_1_0_1_ok (tab_cons e42_1_0_1_0_ok tab_nil))))))).set (tabs (f := p10) (n := 10) rfl Tryz.func10 (by kernel_rfl) (by kernel_rfl) (tab_cons w42_0_ok (tab_cons w42_1_ok tab_nil)))).set (tabs (f := p8) (n := 8) rfl Tryz.func8 (by kernel_rfl) (by kernel_rfl) (tab_cons wk_ok tab_nil))
theorem o42_1_0_1_1 : FOk Tryz.prog F42_1_0_1_1 := ((fOkA.set (tabs (f := p7) (n := 7) rfl Tryz.func7 (by kernel_rfl) (by kernel_rfl) (tab_cons e42_ok (tab_cons e42_1_ok (tab_cons e42_1_0_ok (tab_cons e42_1_0_1_ok (tab_cons e42_1_0_1_1_ok tab_nil))))))).set (tabs (f := p10) (n := 10) rfl Tryz.func10 (by kernel_rfl) (by kernel_rfl) (tab_cons w42_0_ok (tab_cons w42_1_ok tab_nil)))).set (tabs (f := p8) (n := 8) rfl Tryz.func8 (by kernel_rfl) (by kernel_rfl) (tab_cons wk_ok tab_nil))
theorem o42_1_0_1_2 : FOk Tryz.prog F42_1_0_1_2 := ((fOkA.set (tabs (f := p7) (n := 7) rfl Tryz.func7 (by kernel_rfl) (by kernel_rfl) (tab_cons e42_ok (tab_cons e42_1_ok (tab_cons e42_1_0_ok (tab_cons e42_1_0_1_ok (tab_cons e42_1_0_1_2_ok tab_nil))))))).set (tabs (f := p10) (n := 10) rfl Tryz.func10 (by kernel_rfl) (by kernel_rfl) (tab_cons w42_0_ok (tab_cons w42_1_ok tab_nil)))).set (tabs (f := p8) (n := 8) rfl Tryz.func8 (by kernel_rfl) (by kernel_rfl) (tab_cons wk_ok tab_nil))
theorem o42_1_0_2_0 : FOk Tryz.prog F42_1_0_2_0 := ((fOkA.set (tabs (f := p7) (n := 7) rfl Tryz.func7 (by kernel_rfl) (by kernel_rfl) (tab_cons e42_ok (tab_cons e42_1_ok (tab_cons e42_1_0_ok (tab_cons e42_1_0_2_ok (tab_cons e42_1_0_2_0_ok tab_nil))))))).set (tabs (f := p10) (n := 10) rfl Tryz.func10 (by kernel_rfl) (by kernel_rfl) (tab_cons w42_0_ok (tab_cons w42_1_ok (tab_cons w42_2_ok tab_nil))))).set (tabs (f := p8) (n := 8) rfl Tryz.func8 (by kernel_rfl) (by kernel_rfl) (tab_cons wk_ok tab_nil))
theorem o42_1_0_2_1 : FOk Tryz.prog F42_1_0_2_1 := ((fOkA.set (tabs (f := p7) (n := 7) rfl Tryz.func7 (by kernel_rfl) (by kernel_rfl) (tab_cons e42_ok (tab_cons e42_1_ok (tab_cons e42_1_0_ok (tab_cons e42_1_0_2_ok (tab_cons e42_1_0_2_1_ok tab_nil))))))).set (tabs (f := p10) (n := 10) rfl Tryz.func10 (by kernel_rfl) (by kernel_rfl) (tab_cons w42_0_ok (tab_cons w42_1_ok (tab_cons w42_2_ok tab_nil))))).set (tabs (f := p8) (n := 8) rfl Tryz.func8 (by kernel_rfl) (by kernel_rfl) (tab_cons wk_ok tab_nil))
theorem o42_1_0_2_2 : FOk Tryz.prog F42_1_0_2_2 := ((fOkA.set (tabs (f := p7) (n := 7) rfl Tryz.func7 (by kernel_rfl) (by kernel_rfl) (tab_cons e42_ok (tab_cons e42_1_ok (tab_cons e42_1_0_ok (tab_cons e42_1_0_2_ok (tab_cons e42_1_0_2_2_ok tab_nil))))))).set (tabs (f := p10) (n := 10) rfl Tryz.func10 (by kernel_rfl) (by kernel_rfl) (tab_cons w42_0_ok (tab_cons w42_1_ok (tab_cons w42_2_ok tab_nil))))).set (tabs (f := p8) (n := 8) rfl Tryz.func8 (by kernel_rfl) (by kernel_rfl) (tab_cons wk_ok tab_nil))
theorem o42_1_1_0_0 : FOk Tryz.prog F42_1_1_0_0 := ((fOkA.set (tabs (f := p7) (n := 7) rfl Tryz.func7 (by kernel_rfl) (by kernel_rfl) (tab_cons e42_ok (tab_cons e42_1_ok (tab_cons e42_1_1_ok (tab_cons e42_1_1_0_ok (tab_cons e42_1_1_0_0_ok tab_nil))))))).set (tabs (f := p10) (n := 10) rfl Tryz.func10 (by kernel_rfl) (by kernel_rfl) (tab_cons w42_0_ok (tab_cons w42_1_ok tab_nil)))).set (tabs (f := p8) (n := 8) rfl Tryz.func8 (by kernel_rfl) (by kernel_rfl) (tab_cons wk_ok tab_nil))
theorem o42_1_1_0_1 : FOk Tryz.prog F42_1_1_0_1 := ((fOkA.set (tabs (f := p7) (n := 7) rfl Tryz.func7 (by kernel_rfl) (by kernel_rfl) (tab_cons e42_ok (tab_cons e42_1_ok (tab_cons e42_1_1_ok (tab_cons e42_1_1_0_ok (tab_cons e42_1_1_0_1_ok tab_nil))))))).set (tabs (f := p10) (n := 10) rfl Tryz.func10 (by kernel_rfl) (by kernel_rfl) (tab_cons w42_0_ok (tab_cons w42_1_ok tab_nil)))).set (tabs (f := p8) (n := 8) rfl Tryz.func8 (by kernel_rfl) (by kernel_rfl) (tab_cons wk_ok tab_nil))
theorem o42_1_1_0_2 : FOk Tryz.prog F42_1_1_0_2 := ((fOkA.set (tabs (f := p7) (n := 7) rfl Tryz.func7 (by kernel_rfl) (by kernel_rfl) (tab_cons e42_ok (tab_cons e42_1_ok (tab_cons e42_1_1_ok (tab_cons e42_1_1_0_ok (tab_cons e42_1_1_0_2_ok tab_nil))))))).set (tabs (f := p10) (n := 10) rfl Tryz.func10 (by kernel_rfl) (by kernel_rfl) (tab_cons w42_0_ok (tab_cons w42_1_ok tab_nil)))).set (tabs (f := p8) (n := 8) rfl Tryz.func8 (by kernel_rfl) (by kernel_rfl) (tab_cons wk_ok tab_nil))
theorem o42_1_1_1_0 : FOk Tryz.prog F42_1_1_1_0 := ((fOkA.set (tabs (f := p7) (n := 7) rfl Tryz.func7 (by kernel_rfl) (by kernel_rfl) (tab_cons e42_ok (tab_cons e42_1_ok (tab_cons e42_1_1_ok (tab_cons e42_1_1_1_ok (tab_cons e42_1_1_1_0_ok tab_nil))))))).set (tabs (f := p10) (n := 10) rfl Tryz.func10 (by kernel_rfl) (by kernel_rfl) (tab_cons w42_0_ok (tab_cons w42_1_ok tab_nil)))).set (tabs (f := p8) (n := 8) rfl Tryz.func8 (by kernel_rfl) (by kernel_rfl) (tab_cons wk_ok tab_nil))
theorem o42_1_1_1_1 : FOk Tryz.prog F42_1_1_1_1 := ((fOkA.set (tabs (f := p7) (n := 7) rfl Tryz.func7 (by kernel_rfl) (by kernel_rfl) (tab_cons e42_ok (tab_cons e42_1_ok (tab_cons e42_1_1_ok (tab_cons e42_1_1_1_ok (tab_cons e42_1_1_1_1_ok tab_nil))))))).set (tabs (f := p10) (n := 10) rfl Tryz.func10 (by kernel_rfl) (by kernel_rfl) (tab_cons w42_0_ok (tab_cons w42_1_ok tab_nil)))).set (tabs (f := p8) (n := 8) rfl Tryz.func8 (by kernel_rfl) (by kernel_rfl) (tab_cons wk_ok tab_nil))
theorem o42_1_1_1_2 : FOk Tryz.prog F42_1_1_1_2 := ((fOkA.set (tabs (f := p7) (n := 7) rfl Tryz.func7 (by kernel_rfl) (by kernel_rfl) (tab_cons e42_ok (tab_cons e42_1_ok (tab_cons e42_1_1_ok (tab_cons e42_1_1_1_ok (tab_cons e42_1_1_1_2_ok tab_nil))))))).set (tabs (f := p10) (n := 10) rfl Tryz.func10 (by kernel_rfl) (by kernel_rfl) (tab_cons w42_0_ok (tab_cons w42_1_ok tab_nil)))).set (tabs (f := p8) (n := 8) rfl Tryz.func8 (by kernel_rfl) (by kernel_rfl) (tab_cons wk_ok tab_nil))
theorem o42_1_1_2_0 : FOk Tryz.prog F42_1_1_2_0 := ((fOkA.set (tabs (f := p7) (n := 7) rfl Tryz.func7 (by kernel_rfl) (by kernel_rfl) (tab_cons e42_ok (tab_cons e42_1_ok (tab_cons e42_1_1_ok (tab_cons e42_1_1_2_ok (tab_cons e42_1_1_2_0_ok tab_nil))))))).set (tabs (f := p10) (n := 10) rfl Tryz.func10 (by kernel_rfl) (by kernel_rfl) (tab_cons w42_0_ok (tab_cons w42_1_ok (tab_cons w42_2_ok tab_nil))))).set (tabs (f := p8) (n := 8) rfl Tryz.func8 (by kernel_rfl) (by kernel_rfl) (tab_cons wk_ok tab_nil))
theorem o42_1_1_2_1 : FOk Tryz.prog F42_1_1_2_1 := ((fOkA.set (tabs (f := p7) (n := 7) rfl Tryz.func7 (by kernel_rfl) (by kernel_rfl) (tab_cons e42_ok (tab_cons e42_1_ok (tab_cons e42_1_1_ok (tab_cons e42_1_1_2_ok (tab_cons e42_1_1_2_1_ok tab_nil))))))).set (tabs (f := p10) (n := 10) rfl Tryz.func10 (by kernel_rfl) (by kernel_rfl) (tab_cons w42_0_ok (tab_cons w42_1_ok (tab_cons w42_2_ok tab_nil))))).set (tabs (f := p8) (n := 8) rfl Tryz.func8 (by kernel_rfl) (by kernel_rfl) (tab_cons wk_ok tab_nil))
theorem o42_1_1_2_2 : FOk Tryz.prog F42_1_1_2_2 := ((fOkA.set (tabs (f := p7) (n := 7) rfl Tryz.func7 (by kernel_rfl) (by kernel_rfl) (tab_cons e42_ok (tab_cons e42_1_ok (tab_cons e42_1_1_ok (tab_cons e42_1_1_2_ok (tab_cons e42_1_1_2_2_ok tab_nil))))))).set (tabs (f := p10) (n := 10) rfl Tryz.func10 (by kernel_rfl) (by kernel_rfl) (tab_cons w42_0_ok (tab_cons w42_1_ok (tab_cons w42_2_ok tab_nil))))).set (tabs (f := p8) (n := 8) rfl Tryz.func8 (by kernel_rfl) (by kernel_rfl) (tab_cons wk_ok tab_nil))
theorem o42_1_2_0_0 : FOk Tryz.prog F42_1_2_0_0 := ((fOkA.set (tabs (f := p7) (n := 7) rfl Tryz.func7 (by kernel_rfl) (by kernel_rfl) (tab_cons e42_ok (tab_cons e42_1_ok (tab_cons e42_1_2_ok (tab_cons e42_1_2_0_ok (tab_cons e42_1_2_0_0_ok tab_nil))))))).set (tabs (f := p10) (n := 10) rfl Tryz.func10 (by kernel_rfl) (by kernel_rfl) (tab_cons w42_0_ok (tab_cons w42_1_ok (tab_cons w42_2_ok tab_nil))))).set (tabs (f := p8) (n := 8) rfl Tryz.func8 (by kernel_rfl) (by kernel_rfl) (tab_cons wk_ok tab_nil))
theorem o42_1_2_0_1 : FOk Tryz.prog F42_1_2_0_1 := ((fOkA.set (tabs (f := p7) (n := 7) rfl Tryz.func7 (by kernel_rfl) (by kernel_rfl) (tab_cons e42_ok (tab_cons e42_1_ok (tab_cons e42_1_2_ok (tab_cons e42_1_2_0_ok (tab_cons e42_1_2_0_1_ok tab_nil))))))).set (tabs (f := p10) (n := 10) rfl Tryz.func10 (by kernel_rfl) (by kernel_rfl) (tab_cons w42_0_ok (tab_cons w42_1_ok (tab_cons w42_2_ok tab_nil))))).set (tabs (f := p8) (n := 8) rfl Tryz.func8 (by kernel_rfl) (by kernel_rfl) (tab_cons wk_ok tab_nil))
theorem o42_1_2_0_2 : FOk Tryz.prog F42_1_2_0_2 := ((fOkA.set (tabs (f := p7) (n := 7) rfl Tryz.func7 (by kernel_rfl) (by kernel_rfl) (tab_cons e42_ok (tab_cons e42_1_ok (tab_cons e42_1_2_ok (tab_cons e42_1_2_0_ok (tab_cons e42_1_2_0_2_ok tab_nil))))))).set (tabs (f := p10) (n := 10) rfl Tryz.func10 (by kernel_rfl) (by kernel_rfl) (tab_cons w42_0_ok (tab_cons w42_1_ok (tab_cons w42_2_ok tab_nil))))).set (tabs (f := p8) (n := 8) rfl Tryz.func8 (by kernel_rfl) (by kernel_rfl) (tab_cons wk_ok tab_nil))
theorem o42_1_2_1_0 : FOk Tryz.prog F42_1_2_1_0 := ((fOkA.set (tabs (f := p7) (n := 7) rfl Tryz.func7 (by kernel_rfl) (by kernel_rfl) (tab_cons e42_ok (tab_cons e42_1_ok (tab_cons e42_1_2_ok (tab_cons e42_1_2_1_ok (tab_cons e42_1_2_1_0_ok tab_nil))))))).set (tabs (f := p10) (n := 10) rfl Tryz.func10 (by kernel_rfl) (by kernel_rfl) (tab_cons w42_0_ok (tab_cons w42_1_ok (tab_cons w42_2_ok tab_nil))))).set (tabs (f := p8) (n := 8) rfl Tryz.func8 (by kernel_rfl) (by kernel_rfl) (tab_cons wk_ok tab_nil))
theorem o42_1_2_1_1 : FOk Tryz.prog F42_1_2_1_1 := ((fOkA.set (tabs (f := p7) (n := 7) rfl Tryz.func7 (by kernel_rfl) (by kernel_rfl) (tab_cons e42_ok (tab_cons e42_1_ok (tab_cons e42_1_2_ok (tab_cons e42_1_2_1_ok (tab_cons e42_1_2_1_1_ok tab_nil))))))).set (tabs (f := p10) (n := 10) rfl Tryz.func10 (by kernel_rfl) (by kernel_rfl) (tab_cons w42_0_ok (tab_cons w42_1_ok (tab_cons w42_2_ok tab_nil))))).set (tabs (f := p8) (n := 8) rfl Tryz.func8 (by kernel_rfl) (by kernel_rfl) (tab_cons wk_ok tab_nil))
theorem o42_1_2_1_2 : FOk Tryz.prog F42_1_2_1_2 := ((fOkA.set (tabs (f := p7) (n := 7) rfl Tryz.func7 (by kernel_rfl) (by kernel_rfl) (tab_cons e42_ok (tab_cons e42_1_ok (tab_cons e42_1_2_ok (tab_cons e42_1_2_1_ok (tab_cons e42_1_2_1_2_ok tab_nil))))))).set (tabs (f := p10) (n := 10) rfl Tryz.func10 (by kernel_rfl) (by kernel_rfl) (tab_cons w42_0_ok (tab_cons w42_1_ok (tab_cons w42_2_ok tab_nil))))).set (tabs (f := p8) (n := 8) rfl Tryz.func8 (by kernel_rfl) (by kernel_rfl) (tab_cons wk_ok tab_nil))
theorem o42_1_2_2_0 : FOk Tryz.prog F42_1_2_2_0 := ((fOkA.set (tabs (f := p7) (n := 7) rfl Tryz.func7 (by kernel_rfl) (by kernel_rfl) (tab_cons e42_ok (tab_cons e42_1_ok (tab_cons e42_1_2_ok (tab_cons e42_1_2_2_ok (tab_cons e42_1_2_2_0_ok tab_nil))))))).set (tabs (f := p10) (n := 10) rfl Tryz.func10 (by kernel_rfl) (by kernel_rfl) (tab_cons w42_0_ok (tab_cons w42_1_ok (tab_cons w42_2_ok tab_nil))))).set (tabs (f := p8) (n := 8) rfl Tryz.func8 (by kernel_rfl) (by kernel_rfl) (tab_cons wk_ok tab_nil))
theorem o42_1_2_2_1 : FOk Tryz.prog F42_1_2_2_1 := ((fOkA.set (tabs (f := p7) (n := 7) rfl Tryz.func7 (by kernel_rfl) (by kernel_rfl) (tab_cons e42_ok (tab_cons e42_1_ok (tab_cons e42_1_2_ok (tab_cons e42_1_2_2_ok (tab_cons e42_1_2_2_1_ok tab_nil))))))).set (tabs (f := p10) (n := 10) rfl Tryz.func10 (by kernel_rfl) (by kernel_rfl) (tab_cons w42_0_ok (tab_cons w42_1_ok (tab_cons w42_2_ok tab_nil))))).set (tabs (f := p8) (n := 8) rfl Tryz.func8 (by kernel_rfl) (by kernel_rfl) (tab_cons wk_ok tab_nil))
theorem o42_1_2_2_2 : FOk Tryz.prog F42_1_2_2_2 := ((fOkA.set (tabs (f := p7) (n := 7) rfl Tryz.func7 (by kernel_rfl) (by kernel_rfl) (tab_cons e42_ok (tab_cons e42_1_ok (tab_cons e42_1_2_ok (tab_cons e42_1_2_2_ok (tab_cons e42_1_2_2_2_ok tab_nil))))))).set (tabs (f := p10) (n := 10) rfl Tryz.func10 (by kernel_rfl) (by kernel_rfl) (tab_cons w42_0_ok (tab_cons w42_1_ok (tab_cons w42_2_ok tab_nil))))).set (tabs (f := p8) (n := 8) rfl Tryz.func8 (by kernel_rfl) (by kernel_rfl) (tab_cons wk_ok tab_nil))
theorem o43_0_0_0_0 : FOk Tryz.prog F43_0_0_0_0 := ((fOkA.set (tabs (f := p7) (n := 7) rfl Tryz.func7 (by kernel_rfl) (by kernel_rfl) (tab_cons e43_ok (tab_cons e43_0_ok (tab_cons e43_0_0_ok (tab_cons e43_0_0_0_ok (tab_cons e43_0_0_0_0_ok tab_nil))))))).set (tabs (f := p10) (n := 10) rfl Tryz.func10 (by kernel_rfl) (by kernel_rfl) (tab_cons w43_0_ok tab_nil))).set (tabs (f := p8) (n := 8) rfl Tryz.func8 (by kernel_rfl) (by kernel_rfl) (tab_cons wk_ok tab_nil))
theorem o43_0_0_0_1 : FOk Tryz.prog F43_0_0_0_1 := ((fOkA.set (tabs (f := p7) (n := 7) rfl Tryz.func7 (by kernel_rfl) (by kernel_rfl) (tab_cons e43_ok (tab_cons e43_0_ok (tab_cons e43_0_0_ok (tab_cons e43_0_0_0_ok (tab_cons e43_0_0_0_1_ok tab_nil))))))).set (tabs (f := p10) (n := 10) rfl Tryz.func10 (by kernel_rfl) (by kernel_rfl) (tab_cons w43_0_ok tab_nil))).set (tabs (f := p8) (n := 8) rfl Tryz.func8 (by kernel_rfl) (by kernel_rfl) (tab_cons wk_ok tab_nil))
theorem o43_0_0_1_0 : FOk Tryz.prog F43_0_0_1_0 := ((fOkA.set (tabs (f := p7) (n := 7) rfl Tryz.func7 (by kernel_rfl) (by kernel_rfl) (tab_cons e43_ok (tab_cons e43_0_ok (tab_cons e43_0_0_ok (tab_cons e43_0_0_1_ok (tab_cons e43_0_0_1_0_ok tab_nil))))))).set (tabs (f := p10) (n := 10) rfl Tryz.func10 (by kernel_rfl) (by kernel_rfl) (tab_cons w43_0_ok (tab_cons w43_1_ok tab_nil)))).set (tabs (f := p8) (n := 8) rfl Tryz.func8 (by kernel_rfl) (by kernel_rfl) (tab_cons wk_ok tab_nil))
theorem o43_0_0_1_1 : FOk Tryz.prog F43_0_0_1_1 := ((fOkA.set (tabs (f := p7) (n := 7) rfl Tryz.func7 (by kernel_rfl) (by kernel_rfl) (tab_cons e43_ok (tab_cons e43_0_ok (tab_cons e43_0_0_ok (tab_cons e43_0_0_1_ok (tab_cons e43_0_0_1_1_ok tab_nil))))))).set (tabs (f := p10) (n := 10) rfl Tryz.func10 (by kernel_rfl) (by kernel_rfl) (tab_cons w43_0_ok (tab_cons w43_1_ok tab_nil)))).set (tabs (f := p8) (n := 8) rfl Tryz.func8 (by kernel_rfl) (by kernel_rfl) (tab_cons wk_ok tab_nil))
theorem o43_0_0_1_2 : FOk Tryz.prog F43_0_0_1_2 := ((fOkA.set (tabs (f := p7) (n := 7) rfl Tryz.func7 (by kernel_rfl) (by kernel_rfl) (tab_cons e43_ok (tab_cons e43_0_ok (tab_cons e43_0_0_ok (tab_cons e43_0_0_1_ok (tab_cons e43_0_0_1_2_ok tab_nil))))))).set (tabs (f := p10) (n := 10) rfl Tryz.func10 (by kernel_rfl) (by kernel_rfl) (tab_cons w43_0_ok (tab_cons w43_1_ok tab_nil)))).set (tabs (f := p8) (n := 8) rfl Tryz.func8 (by kernel_rfl) (by kernel_rfl) (tab_cons wk_ok tab_nil))
theorem o43_0_1_0_0 : FOk Tryz.prog F43_0_1_0_0 := ((fOkA.set (tabs (f := p7) (n := 7) rfl Tryz.func7 (by kernel_rfl) (by kernel_rfl) (tab_cons e43_ok (tab_cons e43_0_ok (tab_cons e43_0_1_ok (tab_cons e43_0_1_0_ok (tab_cons e43_0_1_0_0_ok tab_nil))))))).set (tabs (f := p10) (n := 10) rfl Tryz.func10 (by kernel_rfl) (by kernel_rfl) (tab_cons w43_0_ok (tab_cons w43_1_ok tab_nil)))).set (tabs (f := p8) (n := 8) rfl Tryz.func8 (by kernel_rfl) (by kernel_rfl) (tab_cons wk_ok tab_nil))
theorem o43_0_1_0_1 : FOk Tryz.prog F43_0_1_0_1 := ((fOkA.set (tabs (f := p7) (n := 7) rfl Tryz.func7 (by kernel_rfl) (by kernel_rfl) (tab_cons e43_ok (tab_cons e43_0_ok (tab_cons e43_0_1_ok (tab_cons e43_0_1_0_ok (tab_cons e43_0_1_0_1_ok tab_nil))))))).set (tabs (f := p10) (n := 10) rfl Tryz.func10 (by kernel_rfl) (by kernel_rfl) (tab_cons w43_0_ok (tab_cons w43_1_ok tab_nil)))).set (tabs (f := p8) (n := 8) rfl Tryz.func8 (by kernel_rfl) (by kernel_rfl) (tab_cons wk_ok tab_nil))
theorem o43_0_1_0_2 : FOk Tryz.prog F43_0_1_0_2 := ((fOkA.set (tabs (f := p7) (n := 7) rfl Tryz.func7 (by kernel_rfl) (by kernel_rfl) (tab_cons e43_ok (tab_cons e43_0_ok (tab_cons e43_0_1_ok (tab_cons e43_0_1_0_ok (tab_cons e43_0_1_0_2_ok tab_nil))))))).set (tabs (f := p10) (n := 10) rfl Tryz.func10 (by kernel_rfl) (by kernel_rfl) (tab_cons w43_0_ok (tab_cons w43_1_ok tab_nil)))).set (tabs (f := p8) (n := 8) rfl Tryz.func8 (by kernel_rfl) (by kernel_rfl) (tab_cons wk_ok tab_nil))
theorem o43_0_1_1_0 : FOk Tryz.prog F43_0_1_1_0 := ((fOkA.set (tabs (f := p7) (n := 7) rfl Tryz.func7 (by kernel_rfl) (by kernel_rfl) (tab_cons e43_ok (tab_cons e43_0_ok (tab_cons e43_0_1_ok (tab_cons e43_0_1_1_ok (tab_cons e43_0_1_1_0_ok tab_nil))))))).set (tabs (f := p10) (n := 10) rfl Tryz.func10 (by kernel_rfl) (by kernel_rfl) (tab_cons w43_0_ok (tab_cons w43_1_ok tab_nil)))).set (tabs (f := p8) (n := 8) rfl Tryz.func8 (by kernel_rfl) (by kernel_rfl) (tab_cons wk_ok tab_nil))
theorem o43_0_1_1_1 : FOk Tryz.prog F43_0_1_1_1 := ((fOkA.set (tabs (f := p7) (n := 7) rfl Tryz.func7 (by kernel_rfl) (by kernel_rfl) (tab_cons e43_ok (tab_cons e43_0_ok (tab_cons e43_0_1_ok (tab_cons e43_0_1_1_ok (tab_cons e43_0_1_1_1_ok tab_nil))))))).set (tabs (f := p10) (n := 10) rfl Tryz.func10 (by kernel_rfl) (by kernel_rfl) (tab_cons w43_0_ok (tab_cons w43_1_ok tab_nil)))).set (tabs (f := p8) (n := 8) rfl Tryz.func8 (by kernel_rfl) (by kernel_rfl) (tab_cons wk_ok tab_nil))
theorem o43_0_1_1_2 : FOk Tryz.prog F43_0_1_1_2 := ((fOkA.set (tabs (f := p7) (n := 7) rfl Tryz.func7 (by kernel_rfl) (by kernel_rfl) (tab_cons e43_ok (tab_cons e43_0_ok (tab_cons e43_0_1_ok (tab_cons e43_0_1_1_ok (tab_cons e43_0_1_1_2_ok tab_nil))))))).set (tabs (f := p10) (n := 10) rfl Tryz.func10 (by kernel_rfl) (by kernel_rfl) (tab_cons w43_0_ok (tab_cons w43_1_ok tab_nil)))).set (tabs (f := p8) (n := 8) rfl Tryz.func8 (by kernel_rfl) (by kernel_rfl) (tab_cons wk_ok tab_nil))
theorem o43_0_1_2_0 : FOk Tryz.prog F43_0_1_2_0 := ((fOkA.set (tabs (f := p7) (n := 7) rfl Tryz.func7 (by kernel_rfl) (by kernel_rfl) (tab_cons e43_ok (tab_cons e43_0_ok (tab_cons e43_0_1_ok (tab_cons e43_0_1_2_ok (tab_cons e43_0_1_2_0_ok tab_nil))))))).set (tabs (f := p10) (n := 10) rfl Tryz.func10 (by kernel_rfl) (by kernel_rfl) (tab_cons w43_0_ok (tab_cons w43_1_ok (tab_cons w43_2_ok tab_nil))))).set (tabs (f := p8) (n := 8) rfl Tryz.func8 (by kernel_rfl) (by kernel_rfl) (tab_cons wk_ok tab_nil))
theorem o43_0_1_2_1 : FOk Tryz.prog F43_0_1_2_1 := ((fOkA.set (tabs (f := p7) (n := 7) rfl Tryz.func7 (by kernel_rfl) (by kernel_rfl) (tab_cons e43_ok (tab_cons e43_0_ok (tab_cons e43_0_1_ok (tab_cons e43_0_1_2_ok (tab_cons e43_0_1_2_1_ok tab_nil))))))).set (tabs (f := p10) (n := 10) rfl Tryz.func10 (by kernel_rfl) (by kernel_rfl) (tab_cons w43_0_ok (tab_cons w43_1_ok (tab_cons w43_2_ok tab_nil))))).set (tabs (f := p8) (n := 8) rfl Tryz.func8 (by kernel_rfl) (by kernel_rfl) (tab_cons wk_ok tab_nil))
theorem o43_0_1_2_2 : FOk Tryz.prog F43_0_1_2_2 := ((fOkA.set (tabs (f := p7) (n := 7) rfl Tryz.func7 (by kernel_rfl) (by kernel_rfl) (tab_cons e43_ok (tab_cons e43_0_ok (tab_cons e43_0_1_ok (tab_cons e43_0_1_2_ok (tab_cons e43_0_1_2_2_ok tab_nil))))))).set (tabs (f := p10) (n := 10) rfl Tryz.func10 (by kernel_rfl) (by kernel_rfl) (tab_cons w43_0_ok (tab_cons w43_1_ok (tab_cons w43_2_ok tab_nil))))).set (tabs (f := p8) (n := 8) rfl Tryz.func8 (by kernel_rfl) (by kernel_rfl) (tab_cons wk_ok tab_nil))
theorem o43_0_1_2_3 : FOk Tryz.prog F43_0_1_2_3 := ((fOkA.set (tabs (f := p7) (n := 7) rfl Tryz.func7 (by kernel_rfl) (by kernel_rfl) (tab_cons e43_ok (tab_cons e43_0_ok (tab_cons e43_0_1_ok (tab_cons e43_0_1_2_ok (tab_cons e43_0_1_2_3_ok tab_nil))))))).set (tabs (f := p10) (n := 10) rfl Tryz.func10 (by kernel_rfl) (by kernel_rfl) (tab_cons w43_0_ok (tab_cons w43_1_ok (tab_cons w43_2_ok tab_nil))))).set (tabs (f := p8) (n := 8) rfl Tryz.func8 (by kernel_rfl) (by kernel_rfl) (tab_cons wk_ok tab_nil))
theorem o43_1_0_0_0 : FOk Tryz.prog F43_1_0_0_0 := ((fOkA.set (tabs (f := p7) (n := 7) rfl Tryz.func7 (by kernel_rfl) (by kernel_rfl) (tab_cons e43_ok (tab_cons e43_1_ok (tab_cons e43_1_0_ok (tab_cons e43_1_0_0_ok (tab_cons e43_1_0_0_0_ok tab_nil))))))).set (tabs (f := p10) (n := 10) rfl Tryz.func10 (by kernel_rfl) (by kernel_rfl) (tab_cons w43_0_ok (tab_cons w43_1_ok tab_nil)))).set (tabs (f := p8) (n := 8) rfl Tryz.func8 (by kernel_rfl) (by kernel_rfl) (tab_cons wk_ok tab_nil))
theorem o43_1_0_0_1 : FOk Tryz.prog F43_1_0_0_1 := ((fOkA.set (tabs (f := p7) (n := 7) rfl Tryz.func7 (by kernel_rfl) (by kernel_rfl) (tab_cons e43_ok (tab_cons e43_1_ok (tab_cons e43_1_0_ok (tab_cons e43_1_0_0_ok (tab_cons e43_1_0_0_1_ok tab_nil))))))).set (tabs (f := p10) (n := 10) rfl Tryz.func10 (by kernel_rfl) (by kernel_rfl) (tab_cons w43_0_ok (tab_cons w43_1_ok tab_nil)))).set (tabs (f := p8) (n := 8) rfl Tryz.func8 (by kernel_rfl) (by kernel_rfl) (tab_cons wk_ok tab_nil))
theorem o43_1_0_0_2 : FOk Tryz.prog F43_1_0_0_2 := ((fOkA.set (tabs (f := p7) (n := 7) rfl Tryz.func7 (by kernel_rfl) (by kernel_rfl) (tab_cons e43_ok (tab_cons e43_1_ok (tab_cons e43_1_0_ok (tab_cons e43_1_0_0_ok (tab_cons e43_1_0_0_2_ok tab_nil))))))).set (tabs (f := p10) (n := 10) rfl Tryz.func10 (by kernel_rfl) (by kernel_rfl) (tab_cons w43_0_ok (tab_cons w43_1_ok tab_nil)))).set (tabs (f := p8) (n := 8) rfl Tryz.func8 (by kernel_rfl) (by kernel_rfl) (tab_cons wk_ok tab_nil))
theorem o43_1_0_1_0 : FOk Tryz.prog F43_1_0_1_0 := ((fOkA.set (tabs (f := p7) (n := 7) rfl Tryz.func7 (by kernel_rfl) (by kernel_rfl) (tab_cons e43_ok (tab_cons e43_1_ok (tab_cons e43_1_0_ok (tab_cons e43_1_0_1_ok (tab_cons e43_1_0_1_0_ok tab_nil))))))).set (tabs (f := p10) (n := 10) rfl Tryz.func10 (by kernel_rfl) (by kernel_rfl) (tab_cons w43_0_ok (tab_cons w43_1_ok tab_nil)))).set (tabs (f := p8) (n := 8) rfl Tryz.func8 (by kernel_rfl) (by kernel_rfl) (tab_cons wk_ok tab_nil))
theorem o43_1_0_1_1 : FOk Tryz.prog F43_1_0_1_1 := ((fOkA.set (tabs (f := p7) (n := 7) rfl Tryz.func7 (by kernel_rfl) (by kernel_rfl) (tab_cons e43_ok (tab_cons e43_1_ok (tab_cons e43_1_0_ok (tab_cons e43_1_0_1_ok (tab_cons e43_1_0_1_1_ok tab_nil))))))).set (tabs (f := p10) (n := 10) rfl Tryz.func10 (by kernel_rfl) (by kernel_rfl) (tab_cons w43_0_ok (tab_cons w43_1_ok tab_nil)))).set (tabs (f := p8) (n := 8) rfl Tryz.func8 (by kernel_rfl) (by kernel_rfl) (tab_cons wk_ok tab_nil))
theorem o43_1_0_1_2 : FOk Tryz.prog F43_1_0_1_2 := ((fOkA.set (tabs (f := p7) (n := 7) rfl Tryz.func7 (by kernel_rfl) (by kernel_rfl) (tab_cons e43_ok (tab_cons e43_1_ok (tab_cons e43_1_0_ok (tab_cons e43_1_0_1_ok (tab_cons e43_1_0_1_2_ok tab_nil))))))).set (tabs (f := p10) (n := 10) rfl Tryz.func10 (by kernel_rfl) (by kernel_rfl) (tab_cons w43_0_ok (tab_cons w43_1_ok tab_nil)))).set (tabs (f := p8) (n := 8) rfl Tryz.func8 (by kernel_rfl) (by kernel_rfl) (tab_cons wk_ok tab_nil))
theorem o43_1_0_2_0 : FOk Tryz.prog F43_1_0_2_0 := ((fOkA.set (tabs (f := p7) (n := 7) rfl Tryz.func7 (by kernel_rfl) (by kernel_rfl) (tab_cons e43_ok (tab_cons e43_1_ok (tab_cons e43_1_0_ok (tab_cons e43_1_0_2_ok (tab_cons e43_1_0_2_0_ok tab_nil))))))).set (tabs (f := p10) (n := 10) rfl Tryz.func10 (by kernel_rfl) (by kernel_rfl) (tab_cons w43_0_ok (tab_cons w43_1_ok (tab_cons w43_2_ok tab_nil))))).set (tabs (f := p8) (n := 8) rfl Tryz.func8 (by kernel_rfl) (by kernel_rfl) (tab_cons wk_ok tab_nil))
theorem o43_1_0_2_1 : FOk Tryz.prog F43_1_0_2_1 := ((fOkA.set (tabs (f := p7) (n := 7) rfl Tryz.func7 (by kernel_rfl) (by kernel_rfl) (tab_cons e43_ok (tab_cons e43_1_ok (tab_cons e43_1_0_ok (tab_cons e43_1_0_2_ok (tab_cons e43_1_0_2_1_ok tab_nil))))))).set (tabs (f := p10) (n := 10) rfl Tryz.func10 (by kernel_rfl) (by kernel_rfl) (tab_cons w43_0_ok (tab_cons w43_1_ok (tab_cons w43_2_ok tab_nil))))).set (tabs (f := p8) (n := 8) rfl Tryz.func8 (by kernel_rfl) (by kernel_rfl) (tab_cons wk_ok tab_nil))
theorem o43_1_0_2_2 : FOk Tryz.prog F43_1_0_2_2 := ((fOkA.set (tabs (f := p7) (n := 7) rfl Tryz.func7 (by kernel_rfl) (by kernel_rfl) (tab_cons e43_ok (tab_cons e43_1_ok (tab_cons e43_1_0_ok (tab_cons e43_1_0_2_ok (tab_cons e43_1_0_2_2_ok tab_nil))))))).set (tabs (f := p10) (n := 10) rfl Tryz.func10 (by kernel_rfl) (by kernel_rfl) (tab_cons w43_0_ok (tab_cons w43_1_ok (tab_cons w43_2_ok tab_nil))))).set (tabs (f := p8) (n := 8) rfl Tryz.func8 (by kernel_rfl) (by kernel_rfl) (tab_cons wk_ok tab_nil))
theorem o43_1_0_2_3 : FOk Tryz.prog F43_1_0_2_3 := ((fOkA.set (tabs (f := p7) (n := 7) rfl Tryz.func7 (by kernel_rfl) (by kernel_rfl) (tab_cons e43_ok (tab_cons e43_1_ok (tab_cons e43_1_0_ok (tab_cons e43_1_0_2_ok (tab_cons e43_1_0_2_3_ok tab_nil))))))).set (tabs (f := p10) (n := 10) rfl Tryz.func10 (by kernel_rfl) (by kernel_rfl) (tab_cons w43_0_ok (tab_cons w43_1_ok (tab_cons w43_2_ok tab_nil))))).set (tabs (f := p8) (n := 8) rfl Tryz.func8 (by kernel_rfl) (by kernel_rfl) (tab_cons wk_ok tab_nil))
theorem o43_1_1_0_0 : FOk Tryz.prog F43_1_1_0_0 := ((fOkA.set (tabs (f := p7) (n := 7) rfl Tryz.func7 (by kernel_rfl) (by kernel_rfl) (tab_cons e43_ok (tab_cons e43_1_ok (tab_cons e43_1_1_ok (tab_cons e43_1_1_0_ok (tab_cons e43_1_1_0_0_ok tab_nil))))))).set (tabs (f := p10) (n := 10) rfl Tryz.func10 (by kernel_rfl) (by kernel_rfl) (tab_cons w43_0_ok (tab_cons w43_1_ok tab_nil)))).set (tabs (f := p8) (n := 8) rfl Tryz.func8 (by kernel_rfl) (by kernel_rfl) (tab_cons wk_ok tab_nil))
theorem o43_1_1_0_1 : FOk Tryz.prog F43_1_1_0_1 := ((fOkA.set (tabs (f := p7) (n := 7) rfl Tryz.func7 (by kernel_rfl) (by kernel_rfl) (tab_cons e43_ok (tab_cons e43_1_ok (tab_cons e43_1_1_ok (tab_cons e43_1_1_0_ok (tab_cons e43_1_1_0_1_ok tab_nil))))))).set (tabs (f := p10) (n := 10) rfl Tryz.func10 (by kernel_rfl) (by kernel_rfl) (tab_cons w43_0_ok (tab_cons w43_1_ok tab_nil)))).set (tabs (f := p8) (n := 8) rfl Tryz.func8 (by kernel_rfl) (by kernel_rfl) (tab_cons wk_ok tab_nil))
theorem o43_1_1_0_2 : FOk Tryz.prog F43_1_1_0_2 := ((fOkA.set (tabs (f := p7) (n := 7) rfl Tryz.func7 (by kernel_rfl) (by kernel_rfl) (tab_cons e43_ok (tab_cons e43_1_ok (tab_cons e43_1_1_ok (tab_cons e43_1_1_0_ok (tab_cons e43_1_1_0_2_ok tab_nil))))))).set (tabs (f := p10) (n := 10) rfl Tryz.func10 (by kernel_rfl) (by kernel_rfl) (tab_cons w43_0_ok (tab_cons w43_1_ok tab_nil)))).set (tabs (f := p8) (n := 8) rfl Tryz.func8 (by kernel_rfl) (by kernel_rfl) (tab_cons wk_ok tab_nil))
theorem o43_1_1_1_0 : FOk Tryz.prog F43_1_1_1_0 := ((fOkA.set (tabs (f := p7) (n := 7) rfl Tryz.func7 (by kernel_rfl) (by kernel_rfl) (tab_cons e43_ok (tab_cons e43_1_ok (tab_cons e43_1_1_ok (tab_cons e43_1_1_1_ok (tab_cons e43_1_1_1_0_ok tab_nil))))))).set (tabs (f := p10) (n := 10) rfl Tryz.func10 (by kernel_rfl) (by kernel_rfl) (tab_cons w43_0_ok (tab_cons w43_1_ok tab_nil)))).set (tabs (f := p8) (n := 8) rfl Tryz.func8 (by kernel_rfl) (by kernel_rfl) (tab_cons wk_ok tab_nil))
theorem o43_1_1_1_1 : FOk Tryz.prog F43_1_1_1_1 := ((fOkA.set (tabs (f := p7) (n := 7) rfl Tryz.func7 (by kernel_rfl) (by kernel_rfl) (tab_cons e43_ok (tab_cons e43_1_ok (tab_cons e43_1_1_ok (tab_cons e43_1_1_1_ok (tab_cons e43_1_1_1_1_ok tab_nil))))))).set (tabs (f := p10) (n := 10) rfl Tryz.func10 (by kernel_rfl) (by kernel_rfl) (tab_cons w43_0_ok (tab_cons w43_1_ok tab_nil)))).set (tabs (f := p8) (n := 8) rfl Tryz.func8 (by kernel_rfl) (by kernel_rfl) (tab_cons wk_ok tab_nil))
theorem o43_1_1_1_2 : FOk Tryz.prog F43_1_1_1_2 := ((fOkA.set (tabs (f := p7) (n := 7) rfl Tryz.func7 (by kernel_rfl) (by kernel_rfl) (tab_cons e43_ok (tab_cons e43_1_ok (tab_cons e43_1_1_ok (tab_cons e43_1_1_1_ok (tab_cons e43_1_1_1_2_ok tab_nil))))))).set (tabs (f := p10) (n := 10) rfl Tryz.func10 (by kernel_rfl) (by kernel_rfl) (tab_cons w43_0_ok (tab_cons w43_1_ok tab_nil)))).set (tabs (f := p8) (n := 8) rfl Tryz.func8 (by kernel_rfl) (by kernel_rfl) (tab_cons wk_ok tab_nil))
theorem o43_1_1_2_0 : FOk Tryz.prog F43_1_1_2_0 := ((fOkA.set (tabs (f := p7) (n := 7) rfl Tryz.func7 (by kernel_rfl) (by kernel_rfl) (tab_cons e43_ok (tab_cons e43_1_ok (tab_cons e43_1_1_ok (tab_cons e43_1_1_2_ok (tab_cons e43_1_1_2_0_ok tab_nil))))))).set (tabs (f := p10) (n := 10) rfl Tryz.func10 (by kernel_rfl) (by kernel_rfl) (tab_cons w43_0_ok (tab_cons w43_1_ok (tab_cons w43_2_ok tab_nil))))).set (tabs (f := p8) (n := 8) rfl Tryz.func8 (by kernel_rfl) (by kernel_rfl) (tab_cons wk_ok tab_nil))
theorem o43_1_1_2_1 : FOk Tryz.prog F43_1_1_2_1 := ((fOkA.set (tabs (f := p7) (n := 7) rfl Tryz.func7 (by kernel_rfl) (by kernel_rfl) (tab_cons e43_ok (tab_cons e43_1_ok (tab_cons e43_1_1_ok (tab_cons e43_1_1_2_ok (tab_cons e43_1_1_2_1_ok tab_nil))))))).set (tabs (f := p10) (n := 10) rfl Tryz.func10 (by kernel_rfl) (by kernel_rfl) (tab_cons w43_0_ok (tab_cons w43_1_ok (tab_cons w43_2_ok tab_nil))))).set (tabs (f := p8) (n := 8) rfl Tryz.func8 (by kernel_rfl) (by kernel_rfl) (tab_cons wk_ok tab_nil))
theorem o43_1_1_2_2 : FOk Tryz.prog F43_1_1_2_2 := ((fOkA.set (tabs (f := p7) (n := 7) rfl Tryz.func7 (by kernel_rfl) (by kernel_rfl) (tab_cons e43_ok (tab_cons e43_1_ok (tab_cons e43_1_1_ok (tab_cons e43_1_1_2_ok (tab_cons e43_1_1_2_2_ok tab_nil))))))).set (tabs (f := p10) (n := 10) rfl Tryz.func10 (by kernel_rfl) (by kernel_rfl) (tab_cons w43_0_ok (tab_cons w43_1_ok (tab_cons w43_2_ok tab_nil))))).set (tabs (f := p8) (n := 8) rfl Tryz.func8 (by kernel_rfl) (by kernel_rfl) (tab_cons wk_ok tab_nil))
theorem o43_1_1_2_3 : FOk Tryz.prog F43_1_1_2_3 := ((fOkA.set (tabs (f := p7) (n := 7) rfl Tryz.func7 (by kernel_rfl) (by kernel_rfl) (tab_cons e43_ok (tab_cons e43_1_ok (tab_cons e43_1_1_ok (tab_cons e43_1_1_2_ok (tab_cons e43_1_1_2_3_ok tab_nil))))))).set (tabs (f := p10) (n := 10) rfl Tryz.func10 (by kernel_rfl) (by kernel_rfl) (tab_cons w43_0_ok (tab_cons w43_1_ok (tab_cons w43_2_ok tab_nil))))).set (tabs (f := p8) (n := 8) rfl Tryz.func8 (by kernel_rfl) (by kernel_rfl) (tab_cons wk_ok tab_nil))
theorem o43_1_2_0_0 : FOk Tryz.prog F43_1_2_0_0 := ((fOkA.set (tabs (f := p7) (n := 7) rfl Tryz.func7 (by kernel_rfl) (by kernel_rfl) (tab_cons e43_ok (tab_cons e43_1_ok (tab_cons e43_1_2_ok (tab_cons e43_1_2_0_ok (tab_cons e43_1_2_0_0_ok tab_nil))))))).set (tabs (f := p10) (n := 10) rfl Tryz.func10 (by kernel_rfl) (by kernel_rfl) (tab_cons w43_0_ok (tab_cons w43_1_ok (tab_cons w43_2_ok tab_nil))))).set (tabs (f := p8) (n := 8) rfl Tryz.func8 (by kernel_rfl) (by kernel_rfl) (tab_cons wk_ok tab_nil))
theorem o43_1_2_0_1 : FOk Tryz.prog F43_1_2_0_1 := ((fOkA.set (tabs (f := p7) (n := 7) rfl Tryz.func7 (by kernel_rfl) (by kernel_rfl) (tab_cons e43_ok (tab_cons e43_1_ok (tab_cons e43_1_2_ok (tab_cons e43_1_2_0_ok (tab_cons e43_1_2_0_1_ok tab_nil))))))).set (tabs (f := p10) (n := 10) rfl Tryz.func10 (by kernel_rfl) (by kernel_rfl) (tab_cons w43_0_ok (tab_cons w43_1_ok (tab_cons w43_2_ok tab_nil))))).set (tabs (f := p8) (n := 8) rfl Tryz.func8 (by kernel_rfl) (by kernel_rfl) (tab_cons wk_ok tab_nil))
theorem o43_1_2_0_2 : FOk Tryz.prog F43_1_2_0_2 := ((fOkA.set (tabs (f := p7) (n := 7) rfl Tryz.func7 (by kernel_rfl) (by kernel_rfl) (tab_cons e43_ok (tab_cons e43_1_ok (tab_cons e43_1_2_ok (tab_cons e43_1_2_0_ok (tab_cons e43_1_2_0_2_ok tab_nil))))))).set (tabs (f := p10) (n := 10) rfl Tryz.func10 (by kernel_rfl) (by kernel_rfl) (tab_cons w43_0_ok (tab_cons w43_1_ok (tab_cons w43_2_ok tab_nil))))).set (tabs (f := p8) (n := 8) rfl Tryz.func8 (by kernel_rfl) (by kernel_rfl) (tab_cons wk_ok tab_nil))
theorem o43_1_2_0_3 : FOk Tryz.prog F43_1_2_0_3 := ((fOkA.set (tabs (f := p7) (n := 7) rfl Tryz.func7 (by kernel_rfl) (by kernel_rfl) (tab_cons e43_ok (tab_cons e43_1_ok (tab_cons e43_1_2_ok (tab_cons e43_1_2_0_ok (tab_cons e43_1_2_0_3_ok tab_nil))))))).set (tabs (f := p10) (n := 10) rfl Tryz.func10 (by kernel_rfl) (by kernel_rfl) (tab_cons w43_0_ok (tab_cons w43_1_ok (tab_cons w43_2_ok tab_nil))))).set (tabs (f := p8) (n := 8) rfl Tryz.func8 (by kernel_rfl) (by kernel_rfl) (tab_cons wk_ok tab_nil))
theorem o43_1_2_1_0 : FOk Tryz.prog F43_1_2_1_0 := ((fOkA.set (tabs (f := p7) (n := 7) rfl Tryz.func7 (by kernel_rfl) (by kernel_rfl) (tab_cons e43_ok (tab_cons e43_1_ok (tab_cons e43_1_2_ok (tab_cons e43_1_2_1_ok (tab_cons e43_1_2_1_0_ok tab_nil))))))).set (tabs (f := p10) (n := 10) rfl Tryz.func10 (by kernel_rfl) (by kernel_rfl) (tab_cons w43_0_ok (tab_cons w43_1_ok (tab_cons w43_2_ok tab_nil))))).set (tabs (f := p8) (n := 8) rfl Tryz.func8 (by kernel_rfl) (by kernel_rfl) (tab_cons wk_ok tab_nil))
theorem o43_1_2_1_1 : FOk Tryz.prog F43_1_2_1_1 := ((fOkA.set (tabs (f := p7) (n := 7) rfl Tryz.func7 (by kernel_rfl) (by kernel_rfl) (tab_cons e43_ok (tab_cons e43_1_ok (tab_cons e43_1_2_ok (tab_cons e43_1_2_1_ok (tab_cons e43_1_2_1_1_ok tab_nil))))))).set (tabs (f := p10) (n := 10) rfl Tryz.func10 (by kernel_rfl) (by kernel_rfl) (tab_cons w43_0_ok (tab_cons w43_1_ok (tab_cons w43_2_ok tab_nil))))).set (tabs (f := p8) (n := 8) rfl Tryz.func8 (by kernel_rfl) (by kernel_rfl) (tab_cons wk_ok tab_nil))
theorem o43_1_2_1_2 : FOk Tryz.prog F43_1_2_1_2 := ((fOkA.set (tabs (f := p7) (n := 7) rfl Tryz.func7 (by kernel_rfl) (by kernel_rfl) (tab_cons e43_ok (tab_cons e43_1_ok (tab_cons e43_1_2_ok (tab_cons e43_1_2_1_ok (tab_cons e43_1_2_1_2_ok tab_nil))))))).set (tabs (f := p10) (n := 10) rfl Tryz.func10 (by kernel_rfl) (by kernel_rfl) (tab_cons w43_0_ok (tab_cons w43_1_ok (tab_cons w43_2_ok tab_nil))))).set (tabs (f := p8) (n := 8) rfl Tryz.func8 (by kernel_rfl) (by kernel_rfl) (tab_cons wk_ok tab_nil))
theorem o43_1_2_1_3 : FOk Tryz.prog F43_1_2_1_3 := ((fOkA.set (tabs (f := p7) (n := 7) rfl Tryz.func7 (by kernel_rfl) (by kernel_rfl) (tab_cons e43_ok (tab_cons e43_1_ok (tab_cons e43_1_2_ok (tab_cons e43_1_2_1_ok (tab_cons e43_1_2_1_3_ok tab_nil))))))).set (tabs (f := p10) (n := 10) rfl Tryz.func10 (by kernel_rfl) (by kernel_rfl) (tab_cons w43_0_ok (tab_cons w43_1_ok (tab_cons w43_2_ok tab_nil))))).set (tabs (f := p8) (n := 8) rfl Tryz.func8 (by kernel_rfl) (by kernel_rfl) (tab_cons wk_ok tab_nil))
theorem o43_1_2_2_0 : FOk Tryz.prog F43_1_2_2_0 := ((fOkA.set (tabs (f := p7) (n := 7) rfl Tryz.func7 (by kernel_rfl) (by kernel_rfl) (tab_cons e43_ok (tab_cons e43_1_ok (tab_cons e43_1_2_ok (tab_cons e43_1_2_2_ok (tab_cons e43_1_2_2_0_ok tab_nil))))))).set (tabs (f := p10) (n := 10) rfl Tryz.func10 (by kernel_rfl) (by kernel_rfl) (tab_cons w43_0_ok (tab_cons w43_1_ok (tab_cons w43_2_ok tab_nil))))).set (tabs (f := p8) (n := 8) rfl Tryz.func8 (by kernel_rfl) (by kernel_rfl) (tab_cons wk_ok tab_nil))
theorem o43_1_2_2_1 : FOk Tryz.prog F43_1_2_2_1 := ((fOkA.set (tabs (f := p7) (n := 7) rfl Tryz.func7 (by kernel_rfl) (by kernel_rfl) (tab_cons e43_ok (tab_cons e43_1_ok (tab_cons e43_1_2_ok (tab_cons e43_1_2_2_ok (tab_cons e43_1_2_2_1_ok tab_nil))))))).set (tabs (f := p10) (n := 10) rfl Tryz.func10 (by kernel_rfl) (by kernel_rfl) (tab_cons w43_0_ok (tab_cons w43_1_ok (tab_cons w43_2_ok tab_nil))))).set (tabs (f := p8) (n := 8) rfl Tryz.func8 (by kernel_rfl) (by kernel_rfl) (tab_cons wk_ok tab_nil))
theorem o43_1_2_2_2 : FOk Tryz.prog F43_1_2_2_2 := ((fOkA.set (tabs (f := p7) (n := 7) rfl Tryz.func7 (by kernel_rfl) (by kernel_rfl) (tab_cons e43_ok (tab_cons e43_1_ok (tab_cons e43_1_2_ok (tab_cons e43_1_2_2_ok (tab_cons e43_1_2_2_2_ok tab_nil))))))).set (tabs (f := p10) (n := 10) rfl Tryz.func10 (by kernel_rfl) (by kernel_rfl) (tab_cons w43_0_ok (tab_cons w43_1_ok (tab_cons w43_2_ok tab_nil))))).set (tabs (f := p8) (n := 8) rfl Tryz.func8 (by kernel_rfl) (by kernel_rfl) (tab_cons wk_ok tab_nil))
theorem o43_1_2_2_3 : FOk Tryz.prog F43_1_2_2_3 := ((fOkA.set (tabs (f := p7) (n := 7) rfl Tryz.func7 (by kernel_rfl) (by kernel_rfl) (tab_cons e43_ok (tab_cons e43_1_ok (tab_cons e43_1_2_ok (tab_cons e43_1_2_2_ok (tab_cons e43_1_2_2_3_ok tab_nil))))))).set (tabs (f := p10) (n := 10) rfl Tryz.func10 (by kernel_rfl) (by kernel_rfl) (tab_cons w43_0_ok (tab_cons w43_1_ok (tab_cons w43_2_ok tab_nil))))).set (tabs (f := p8) (n := 8) rfl Tryz.func8 (by kernel_rfl) (by kernel_rfl) (tab_cons wk_ok tab_nil))
theorem o43_1_2_3_0 : FOk Tryz.prog F43_1_2_3_0 := ((fOkA.set (tabs (f := p7) (n := 7) rfl Tryz.func7 (by kernel_rfl) (by kernel_rfl) (tab_cons e43_ok (tab_cons e43_1_ok (tab_cons e43_1_2_ok (tab_cons e43_1_2_3_ok (tab_cons e43_1_2_3_0_ok tab_nil))))))).set (tabs (f := p10) (n := 10) rfl Tryz.func10 (by kernel_rfl) (by kernel_rfl) (tab_cons w43_0_ok (tab_cons w43_1_ok (tab_cons w43_2_ok (tab_cons w43_3_ok tab_nil)))))).set (tabs (f := p8) (n := 8) rfl Tryz.func8 (by kernel_rfl) (by kernel_rfl) (tab_cons wk_ok tab_nil))
theorem o43_1_2_3_1 : FOk Tryz.prog F43_1_2_3_1 := ((fOkA.set (tabs (f := p7) (n := 7) rfl Tryz.func7 (by kernel_rfl) (by kernel_rfl) (tab_cons e43_ok (tab_cons e43_1_ok (tab_cons e43_1_2_ok (tab_cons e43_1_2_3_ok (tab_cons e43_1_2_3_1_ok tab_nil))))))).set (tabs (f := p10) (n := 10) rfl Tryz.func10 (by kernel_rfl) (by kernel_rfl) (tab_cons w43_0_ok (tab_cons w43_1_ok (tab_cons w43_2_ok (tab_cons w43_3_ok tab_nil)))))).set (tabs (f := p8) (n := 8) rfl Tryz.func8 (by kernel_rfl) (by kernel_rfl) (tab_cons wk_ok tab_nil))
theorem o43_1_2_3_2 : FOk Tryz.prog F43_1_2_3_2 := ((fOkA.set (tabs (f := p7) (n := 7) rfl Tryz.func7 (by kernel_rfl) (by kernel_rfl) (tab_cons e43_ok (tab_cons e43_1_ok (tab_cons e43_1_2_ok (tab_cons e43_1_2_3_ok (tab_cons e43_1_2_3_2_ok tab_nil))))))).set (tabs (f := p10) (n := 10) rfl Tryz.func10 (by kernel_rfl) (by kernel_rfl) (tab_cons w43_0_ok (tab_cons w43_1_ok (tab_cons w43_2_ok (tab_cons w43_3_ok tab_nil)))))).set (tabs (f := p8) (n := 8) rfl Tryz.func8 (by kernel_rfl) (by kernel_rfl) (tab_cons wk_ok tab_nil))
theorem o43_1_2_3_3 : FOk Tryz.prog F43_1_2_3_3 := ((fOkA.set (tabs (f := p7) (n := 7) rfl Tryz.func7 (by kernel_rfl) (by kernel_rfl) (tab_cons e43_ok (tab_cons e43_1_ok (tab_cons e43_1_2_ok (tab_cons e43_1_2_3_ok (tab_cons e43_1_2_3_3_ok tab_nil))))))).set (tabs (f := p10) (n := 10) rfl Tryz.func10 (by kernel_rfl) (by kernel_rfl) (tab_cons w43_0_ok (tab_cons w43_1_ok (tab_cons w43_2_ok (tab_cons w43_3_ok tab_nil)))))).set (tabs (f := p8) (n := 8) rfl Tryz.func8 (by kernel_rfl) (by kernel_rfl) (tab_cons wk_ok tab_nil))
theorem s40_0_0_0_0 (xs : List Int) (hn : 4 ≤ xs.length) (hx : Hyp xs [(1, 0), (1, 0), (1, 0), (1, 0)]) : Good 3 0 xs := good_m o40_0_0_0_0 r40_0_0_0_0 (by decide) hn hx
theorem s41_0_0_0_0 (xs : List Int) (hn : 4 ≤ xs.length) (hx : Hyp xs [(2, 0), (2, 0), (2, 0), (2, 0)]) : Good 3 1 xs := good_m o41_0_0_0_0 r41_0_0_0_0 (by decide) hn hx
theorem s41_0_0_0_1 (xs : List Int) (hn : 4 ≤ xs.length) (hx : Hyp xs [(2, 0), (2, 0), (2, 0), (2, 1)]) : Good 3 1 xs := good_m o41_0_0_0_1 r41_0_0_0_1 (by decide) hn hx
theorem s41_0_0_1_0 (xs : List Int) (hn : 4 ≤ xs.length) (hx : Hyp xs [(2, 0), (2, 0), (2, 1), (2, 0)]) : Good 3 1 xs := good_m o41_0_0_1_0 r41_0_0_1_0 (by decide) hn hx
theorem s41_0_0_1_1 (xs : List Int) (hn : 4 ≤ xs.length) (hx : Hyp xs [(2, 0), (2, 0), (2, 1), (2, 1)]) : Good 3 1 xs := good_m o41_0_0_1_1 r41_0_0_1_1 (by decide) hn hx
theorem s41_0_1_0_0 (xs : List Int) (hn : 4 ≤ xs.length) (hx : Hyp xs [(2, 0), (2, 1), (2, 0), (2, 0)]) : Good 3 1 xs := good_m o41_0_1_0_0 r41_0_1_0_0 (by decide) hn hx
theorem s41_0_1_0_1 (xs : List Int) (hn : 4 ≤ xs.length) (hx : Hyp xs [(2, 0), (2, 1), (2, 0), (2, 1)]) : Good 3 1 xs := good_m o41_0_1_0_1 r41_0_1_0_1 (by decide) hn hx
theorem s41_0_1_1_0 (xs : List Int) (hn : 4 ≤ xs.length) (hx : Hyp xs [(2, 0), (2, 1), (2, 1), (2, 0)]) : Good 3 1 xs := good_m o41_0_1_1_0 r41_0_1_1_0 (by decide) hn hx
theorem s41_0_1_1_1 (xs : List Int) (hn : 4 ≤ xs.length) (hx : Hyp xs [(2, 0), (2, 1), (2, 1), (2, 1)]) : Good 3 1 xs := good_m o41_0_1_1_1 r41_0_1_1_1 (by decide) hn hx
theorem s41_1_0_0_0 (xs : List Int) (hn : 4 ≤ xs.length) (hx : Hyp xs [(2, 1), (2, 0), (2, 0), (2, 0)]) : Good 3 1 xs := good_m o41_1_0_0_0 r41_1_0_0_0 (by decide) hn hx
theorem s41_1_0_0_1 (xs : List Int) (hn : 4 ≤ xs.length) (hx : Hyp xs [(2, 1), (2, 0), (2, 0), (2, 1)]) : Good 3 1 xs := good_m o41_1_0_0_1 r41_1_0_0_1 (by decide) hn hx
theorem s41_1_0_1_0 (xs : List Int) (hn : 4 ≤ xs.length) (hx : Hyp xs [(2, 1), (2, 0), (2, 1), (2, 0)]) : Good 3 1 xs := good_m o41_1_0_1_0 r41_1_0_1_0 (by decide) hn hx
theorem s41_1_0_1_1 (xs : List Int) (hn : 4 ≤ xs.length) (hx : Hyp xs [(2, 1), (2, 0), (2, 1), (2, 1)]) : Good 3 1 xs := good_m o41_1_0_1_1 r41_1_0_1_1 (by decide) hn hx
theorem s41_1_1_0_0 (xs : List Int) (hn : 4 ≤ xs.length) (hx : Hyp xs [(2, 1), (2, 1), (2, 0), (2, 0)]) : Good 3 1 xs := good_m o41_1_1_0_0 r41_1_1_0_0 (by decide) hn hx
theorem s41_1_1_0_1 (xs : List Int) (hn : 4 ≤ xs.length) (hx : Hyp xs [(2, 1), (2, 1), (2, 0), (2, 1)]) : Good 3 1 xs := good_m o41_1_1_0_1 r41_1_1_0_1 (by decide) hn hx
theorem s41_1_1_1_0 (xs : List Int) (hn : 4 ≤ xs.length) (hx : Hyp xs [(2, 1), (2, 1), (2, 1), (2, 0)]) : Good 3 1 xs := good_m o41_1_1_1_0 r41_1_1_1_0 (by decide) hn hx
theorem s41_1_1_1_1 (xs : List Int) (hn : 4 ≤ xs.length) (hx : Hyp xs [(2, 1), (2, 1), (2, 1), (2, 1)]) : Good 3 1 xs := good_m o41_1_1_1_1 r41_1_1_1_1 (by decide) hn hx
theorem s42_0_0_0_0 (xs : List Int) (hn : 4 ≤ xs.length) (hx : Hyp xs [(2, 0), (2, 0), (2, 0), (2, 0)]) : Good 3 2 xs := good_m o42_0_0_0_0 r42_0_0_0_0 (by decide) hn hx
theorem s42_0_0_0_1 (xs : List Int) (hn : 4 ≤ xs.length) (hx : Hyp xs [(2, 0), (2, 0), (2, 0), (2, 1)]) : Good 3 2 xs := good_m o42_0_0_0_1 r42_0_0_0_1 (by decide) hn hx
theorem s42_0_0_1_0 (xs : List Int) (hn : 4 ≤ xs.length) (hx : Hyp xs [(2, 0), (2, 0), (2, 1), (3, 0)]) : Good 3 2 xs := good_m o42_0_0_1_0 r42_0_0_1_0 (by decide) hn hx
theorem s42_0_0_1_1 (xs : List Int) (hn : 4 ≤ xs.length) (hx : Hyp xs [(2, 0), (2, 0), (2, 1), (3, 1)]) : Good 3 2 xs := good_m o42_0_0_1_1 r42_0_0_1_1 (by decide) hn hx
theorem s42_0_0_1_2 (xs : List Int) (hn : 4 ≤ xs.length) (hx : Hyp xs [(2, 0), (2, 0), (2, 1), (3, 2)]) : Good 3 2 xs := good_m o42_0_0_1_2 r42_0_0_1_2 (by decide) hn hx
theorem s42_0_1_0_0 (xs : List Int) (hn : 4 ≤ xs.length) (hx : Hyp xs [(2, 0), (2, 1), (3, 0), (3, 0)]) : Good 3 2 xs := good_m o42_0_1_0_0 r42_0_1_0_0 (by decide) hn hx
theorem s42_0_1_0_1 (xs : List Int) (hn : 4 ≤ xs.length) (hx : Hyp xs [(2, 0), (2, 1), (3, 0), (3, 1)]) : Good 3 2 xs := good_m o42_0_1_0_1 r42_0_1_0_1 (by decide) hn hx
theorem s42_0_1_0_2 (xs : List Int) (hn : 4 ≤ xs.length) (hx : Hyp xs [(2, 0), (2, 1), (3, 0), (3, 2)]) : Good 3 2 xs := good_m o42_0_1_0_2 r42_0_1_0_2 (by decide) hn hx
theorem s42_0_1_1_0 (xs : List Int) (hn : 4 ≤ xs.length) (hx : Hyp xs [(2, 0), (2, 1), (3, 1), (3, 0)]) : Good 3 2 xs := good_m o42_0_1_1_0 r42_0_1_1_0 (by decide) hn hx
theorem s42_0_1_1_1 (xs : List Int) (hn : 4 ≤ xs.length) (hx : Hyp xs [(2, 0), (2, 1), (3, 1), (3, 1)]) : Good 3 2 xs := good_m o42_0_1_1_1 r42_0_1_1_1 (by decide) hn hx
theorem s42_0_1_1_2 (xs : List Int) (hn : 4 ≤ xs.length) (hx : Hyp xs [(2, 0), (2, 1), (3, 1), (3, 2)]) : Good 3 2 xs := good_m o42_0_1_1_2 r42_0_1_1_2 (by decide) hn hx
theorem s42_0_1_2_0 (xs : List Int) (hn : 4 ≤ xs.length) (hx : Hyp xs [(2, 0), (2, 1), (3, 2), (3, 0)]) : Good 3 2 xs := good_m o42_0_1_2_0 r42_0_1_2_0 (by decide) hn hx
theorem s42_0_1_2_1 (xs : List Int) (hn : 4 ≤ xs.length) (hx : Hyp xs [(2, 0), (2, 1), (3, 2), (3, 1)]) : Good 3 2 xs := good_m o42_0_1_2_1 r42_0_1_2_1 (by decide) hn hx
theorem s42_0_1_2_2 (xs : List Int) (hn : 4 ≤ xs.length) (hx : Hyp xs [(2, 0), (2, 1), (3, 2), (3, 2)]) : Good 3 2 xs := good_m o42_0_1_2_2 r42_0_1_2_2 (by decide) hn hx
theorem s42_1_0_0_0 (xs : List Int) (hn : 4 ≤ xs.length) (hx : Hyp xs [(2, 1), (3, 0), (3, 0), (3, 0)]) : Good 3 2 xs := good_m o42_1_0_0_0 r42_1_0_0_0 (by decide) hn hx
theorem s42_1_0_0_1 (xs : List Int) (hn : 4 ≤ xs.length) (hx : Hyp xs [(2, 1), (3, 0), (3, 0), (3, 1)]) : Good 3 2 xs := good_m o42_1_0_0_1 r42_1_0_0_1 (by decide) hn hx
theorem s42_1_0_0_2 (xs : List Int) (hn : 4 ≤ xs.length) (hx : Hyp xs [(2, 1), (3, 0), (3, 0), (3, 2)]) : Good 3 2 xs := good_m o42_1_0_0_2 r42_1_0_0_2 (by decide) hn hx
theorem s42_1_0_1_0 (xs : List Int) (hn : 4 ≤ xs.length) (hx : Hyp xs [(2, 1), (3, 0), (3, 1), (3, 0)]) : Good 3 2 xs := good_m o42_1_0_1_0 r42_1_0_1_0 (by decide) hn hx
theorem s42_1_0_1_1 (xs : List Int) (hn : 4 ≤ xs.length) (hx : Hyp xs [(2, 1), (3, 0), (3, 1), (3, 1)]) : Good 3 2 xs := good_m o42_1_0_1_1 r42_1_0_1_1 (by decide) hn hx
theorem s42_1_0_1_2 (xs : List Int) (hn : 4 ≤ xs.length) (hx : Hyp xs [(2, 1), (3, 0), (3, 1), (3, 2)]) : Good 3 2 xs := good_m o42_1_0_1_2 r42_1_0_1_2 (by decide) hn hx
theorem s42_1_0_2_0 (xs : List Int) (hn : 4 ≤ xs.length) (hx : Hyp xs [(2, 1), (3, 0), (3, 2), (3, 0)]) : Good 3 2 xs := good_m o42_1_0_2_0 r42_1_0_2_0 (by decide) hn hx
theorem s42_1_0_2_1 (xs : List Int) (hn : 4 ≤ xs.length) (hx : Hyp xs [(2, 1), (3, 0), (3, 2), (3, 1)]) : Good 3 2 xs := good_m o42_1_0_2_1 r42_1_0_2_1 (by decide) hn hx
theorem s42_1_0_2_2 (xs : List Int) (hn : 4 ≤ xs.length) (hx : Hyp xs [(2, 1), (3, 0), (3, 2), (3, 2)]) : Good 3 2 xs := good_m o42_1_0_2_2 r42_1_0_2_2 (by decide) hn hx
theorem s42_1_1_0_0 (xs : List Int) (hn : 4 ≤ xs.length) (hx : Hyp xs [(2, 1), (3, 1), (3, 0), (3, 0)]) : Good 3 2 xs := good_m o42_1_1_0_0 r42_1_1_0_0 (by decide) hn hx
theorem s42_1_1_0_1 (xs : List Int) (hn : 4 ≤ xs.length) (hx : Hyp xs [(2, 1), (3, 1), (3, 0), (3, 1)]) : Good 3 2 xs := good_m o42_1_1_0_1 r42_1_1_0_1 (by decide) hn hx
theorem s42_1_1_0_2 (xs : List Int) (hn : 4 ≤ xs.length) (hx : Hyp xs [(2, 1), (3, 1), (3, 0), (3, 2)]) : Good 3 2 xs := good_m o42_1_1_0_2 r42_1_1_0_2 (by decide) hn hx
theorem s42_1_1_1_0 (xs : List Int) (hn : 4 ≤ xs.length) (hx : Hyp xs [(2, 1), (3, 1), (3, 1), (3, 0)]) : Good 3 2 xs := good_m o42_1_1_1_0 r42_1_1_1_0 (by decide) hn hx
theorem s42_1_1_1_1 (xs : List Int) (hn : 4 ≤ xs.length) (hx : Hyp xs [(2, 1), (3, 1), (3, 1), (3, 1)]) : Good 3 2 xs := good_m o42_1_1_1_1 r42_1_1_1_1 (by decide) hn hx
theorem s42_1_1_1_2 (xs : List Int) (hn : 4 ≤ xs.length) (hx : Hyp xs [(2, 1), (3, 1), (3, 1), (3, 2)]) : Good 3 2 xs := good_m o42_1_1_1_2 r42_1_1_1_2 (by decide) hn hx
theorem s42_1_1_2_0 (xs : List Int) (hn : 4 ≤ xs.length) (hx : Hyp xs [(2, 1), (3, 1), (3, 2), (3, 0)]) : Good 3 2 xs := good_m o42_1_1_2_0 r42_1_1_2_0 (by decide) hn hx
theorem s42_1_1_2_1 (xs : List Int) (hn : 4 ≤ xs.length) (hx : Hyp xs [(2, 1), (3, 1), (3, 2), (3, 1)]) : Good 3 2 xs := good_m o42_1_1_2_1 r42_1_1_2_1 (by decide) hn hx
theorem s42_1_1_2_2 (xs : List Int) (hn : 4 ≤ xs.length) (hx : Hyp xs [(2, 1), (3, 1), (3, 2), (3, 2)]) : Good 3 2 xs := good_m o42_1_1_2_2 r42_1_1_2_2 (by decide) hn hx
theorem s42_1_2_0_0 (xs : List Int) (hn : 4 ≤ xs.length) (hx : Hyp xs [(2, 1), (3, 2), (3, 0), (3, 0)]) : Good 3 2 xs := good_m o42_1_2_0_0 r42_1_2_0_0 (by decide) hn hx
theorem s42_1_2_0_1 (xs : List Int) (hn : 4 ≤ xs.length) (hx : Hyp xs [(2, 1), (3, 2), (3, 0), (3, 1)]) : Good 3 2 xs := good_m o42_1_2_0_1 r42_1_2_0_1 (by decide) hn hx
theorem s42_1_2_0_2 (xs : List Int) (hn : 4 ≤ xs.length) (hx : Hyp xs [(2, 1), (3, 2), (3, 0), (3, 2)]) : Good 3 2 xs := good_m o42_1_2_0_2 r42_1_2_0_2 (by decide) hn hx
theorem s42_1_2_1_0 (xs : List Int) (hn : 4 ≤ xs.length) (hx : Hyp xs [(2, 1), (3, 2), (3, 1), (3, 0)]) : Good 3 2 xs := good_m o42_1_2_1_0 r42_1_2_1_0 (by decide) hn hx
theorem s42_1_2_1_1 (xs : List Int) (hn : 4 ≤ xs.length) (hx : Hyp xs [(2, 1), (3, 2), (3, 1), (3, 1)]) : Good 3 2 xs := good_m o42_1_2_1_1 r42_1_2_1_1 (by decide) hn hx
theorem s42_1_2_1_2 (xs : List Int) (hn : 4 ≤ xs.length) (hx : Hyp xs [(2, 1), (3, 2), (3, 1), (3, 2)]) : Good 3 2 xs := good_m o42_1_2_1_2 r42_1_2_1_2 (by decide) hn hx
theorem s42_1_2_2_0 (xs : List Int) (hn : 4 ≤ xs.length) (hx : Hyp xs [(2, 1), (3, 2), (3, 2), (3, 0)]) : Good 3 2 xs := good_m o42_1_2_2_0 r42_1_2_2_0 (by decide) hn hx
theorem s42_1_2_2_1 (xs : List Int) (hn : 4 ≤ xs.length) (hx : Hyp xs [(2, 1), (3, 2), (3, 2), (3, 1)]) : Good 3 2 xs := good_m o42_1_2_2_1 r42_1_2_2_1 (by decide) hn hx
theorem s42_1_2_2_2 (xs : List Int) (hn : 4 ≤ xs.length) (hx : Hyp xs [(2, 1), (3, 2), (3, 2), (3, 2)]) : Good 3 2 xs := good_m o42_1_2_2_2 r42_1_2_2_2 (by decide) hn hx
theorem s43_0_0_0_0 (xs : List Int) (hn : 4 ≤ xs.length) (hx : Hyp xs [(2, 0), (2, 0), (2, 0), (2, 0)]) : Good 3 3 xs := good_m o43_0_0_0_0 r43_0_0_0_0 (by decide) hn hx
theorem s43_0_0_0_1 (xs : List Int) (hn : 4 ≤ xs.length) (hx : Hyp xs [(2, 0), (2, 0), (2, 0), (2, 1)]) : Good 3 3 xs := good_m o43_0_0_0_1 r43_0_0_0_1 (by decide) hn hx
theorem s43_0_0_1_0 (xs : List Int) (hn : 4 ≤ xs.length) (hx : Hyp xs [(2, 0), (2, 0), (2, 1), (3, 0)]) : Good 3 3 xs := good_m o43_0_0_1_0 r43_0_0_1_0 (by decide) hn hx
theorem s43_0_0_1_1 (xs : List Int) (hn : 4 ≤ xs.length) (hx : Hyp xs [(2, 0), (2, 0), (2, 1), (3, 1)]) : Good 3 3 xs := good_m o43_0_0_1_1 r43_0_0_1_1 (by decide) hn hx
theorem s43_0_0_1_2 (xs : List Int) (hn : 4 ≤ xs.length) (hx : Hyp xs [(2, 0), (2, 0), (2, 1), (3, 2)]) : Good 3 3 xs := good_m o43_0_0_1_2 r43_0_0_1_2 (by decide) hn hx
theorem s43_0_1_0_0 (xs : List Int) (hn : 4 ≤ xs.length) (hx : Hyp xs [(2, 0), (2, 1), (3, 0), (3, 0)]) : Good 3 3 xs := good_m o43_0_1_0_0 r43_0_1_0_0 (by decide) hn hx
theorem s43_0_1_0_1 (xs : List Int) (hn : 4 ≤ xs.length) (hx : Hyp xs [(2, 0), (2, 1), (3, 0), (3, 1)]) : Good 3 3 xs := good_m o43_0_1_0_1 r43_0_1_0_1 (by decide) hn hx
theorem s43_0_1_0_2 (xs : List Int) (hn : 4 ≤ xs.length) (hx : Hyp xs [(2, 0), (2, 1), (3, 0), (3, 2)]) : Good 3 3 xs := good_m o43_0_1_0_2 r43_0_1_0_2 (by decide) hn hx
theorem s43_0_1_1_0 (xs : List Int) (hn : 4 ≤ xs.length) (hx : Hyp xs [(2, 0), (2, 1), (3, 1), (3, 0)]) : Good 3 3 xs := good_m o43_0_1_1_0 r43_0_1_1_0 (by decide) hn hx
theorem s43_0_1_1_1 (xs : List Int) (hn : 4 ≤ xs.length) (hx : Hyp xs [(2, 0), (2, 1), (3, 1), (3, 1)]) : Good 3 3 xs := good_m o43_0_1_1_1 r43_0_1_1_1 (by decide) hn hx
theorem s43_0_1_1_2 (xs : List Int) (hn : 4 ≤ xs.length) (hx : Hyp xs [(2, 0), (2, 1), (3, 1), (3, 2)]) : Good 3 3 xs := good_m o43_0_1_1_2 r43_0_1_1_2 (by decide) hn hx
theorem s43_0_1_2_0 (xs : List Int) (hn : 4 ≤ xs.length) (hx : Hyp xs [(2, 0), (2, 1), (3, 2), (4, 0)]) : Good 3 3 xs := good_m o43_0_1_2_0 r43_0_1_2_0 (by decide) hn hx
theorem s43_0_1_2_1 (xs : List Int) (hn : 4 ≤ xs.length) (hx : Hyp xs [(2, 0), (2, 1), (3, 2), (4, 1)]) : Good 3 3 xs := good_m o43_0_1_2_1 r43_0_1_2_1 (by decide) hn hx
theorem s43_0_1_2_2 (xs : List Int) (hn : 4 ≤ xs.length) (hx : Hyp xs [(2, 0), (2, 1), (3, 2), (4, 2)]) : Good 3 3 xs := good_m o43_0_1_2_2 r43_0_1_2_2 (by decide) hn hx
theorem s43_0_1_2_3 (xs : List Int) (hn : 4 ≤ xs.length) (hx : Hyp xs [(2, 0), (2, 1), (3, 2), (4, 3)]) : Good 3 3 xs := good_m o43_0_1_2_3 r43_0_1_2_3 (by decide) hn hx
theorem s43_1_0_0_0 (xs : List Int) (hn : 4 ≤ xs.length) (hx : Hyp xs [(2, 1), (3, 0), (3, 0), (3, 0)]) : Good 3 3 xs := good_m o43_1_0_0_0 r43_1_0_0_0 (by decide) hn hx
theorem s43_1_0_0_1 (xs : List Int) (hn : 4 ≤ xs.length) (hx : Hyp xs [(2, 1), (3, 0), (3, 0), (3, 1)]) : Good 3 3 xs := good_m o43_1_0_0_1 r43_1_0_0_1 (by decide) hn hx
theorem s43_1_0_0_2 (xs : List Int) (hn : 4 ≤ xs.length) (hx : Hyp xs [(2, 1), (3, 0), (3, 0), (3, 2)]) : Good 3 3 xs := good_m o43_1_0_0_2 r43_1_0_0_2 (by decide) hn hx
theorem s43_1_0_1_0 (xs : List Int) (hn : 4 ≤ xs.length) (hx : Hyp xs [(2, 1), (3, 0), (3, 1), (3, 0)]) : Good 3 3 xs := good_m o43_1_0_1_0 r43_1_0_1_0 (by decide) hn hx
theorem s43_1_0_1_1 (xs : List Int) (hn : 4 ≤ xs.length) (hx : Hyp xs [(2, 1), (3, 0), (3, 1), (3, 1)]) : Good 3 3 xs := good_m o43_1_0_1_1 r43_1_0_1_1 (by decide) hn hx
theorem s43_1_0_1_2 (xs : List Int) (hn : 4 ≤ xs.length) (hx : Hyp xs [(2, 1), (3, 0), (3, 1), (3, 2)]) : Good 3 3 xs := good_m o43_1_0_1_2 r43_1_0_1_2 (by decide) hn hx
theorem s43_1_0_2_0 (xs : List Int) (hn : 4 ≤ xs.length) (hx : Hyp xs [(2, 1), (3, 0), (3, 2), (4, 0)]) : Good 3 3 xs := good_m o43_1_0_2_0 r43_1_0_2_0 (by decide) hn hx
theorem s43_1_0_2_1 (xs : List Int) (hn : 4 ≤ xs.length) (hx : Hyp xs [(2, 1), (3, 0), (3, 2), (4, 1)]) : Good 3 3 xs := good_m o43_1_0_2_1 r43_1_0_2_1 (by decide) hn hx
theorem s43_1_0_2_2 (xs : List Int) (hn : 4 ≤ xs.length) (hx : Hyp xs [(2, 1), (3, 0), (3, 2), (4, 2)]) : Good 3 3 xs := good_m o43_1_0_2_2 r43_1_0_2_2 (by decide) hn hx
theorem s43_1_0_2_3 (xs : List Int) (hn : 4 ≤ xs.length) (hx : Hyp xs [(2, 1), (3, 0), (3, 2), (4, 3)]) : Good 3 3 xs := good_m o43_1_0_2_3 r43_1_0_2_3 (by decide) hn hx
theorem s43_1_1_0_0 (xs : List Int) (hn : 4 ≤ xs.length) (hx : Hyp xs [(2, 1), (3, 1), (3, 0), (3, 0)]) : Good 3 3 xs := good_m o43_1_1_0_0 r43_1_1_0_0 (by decide) hn hx
theorem s43_1_1_0_1 (xs : List Int) (hn : 4 ≤ xs.length) (hx : Hyp xs [(2, 1), (3, 1), (3, 0), (3, 1)]) : Good 3 3 xs := good_m o43_1_1_0_1 r43_1_1_0_1 (by decide) hn hx
theorem s43_1_1_0_2 (xs : List Int) (hn : 4 ≤ xs.length) (hx : Hyp xs [(2, 1), (3, 1), (3, 0), (3, 2)]) : Good 3 3 xs := good_m o43_1_1_0_2 r43_1_1_0_2 (by decide) hn hx
theorem s43_1_1_1_0 (xs : List Int) (hn : 4 ≤ xs.length) (hx : Hyp xs [(2, 1), (3, 1), (3, 1), (3, 0)]) : Good 3 3 xs := good_m o43_1_1_1_0 r43_1_1_1_0 (by decide) hn hx
theorem s43_1_1_1_1 (xs : List Int) (hn : 4 ≤ xs.length) (hx : Hyp xs [(2, 1), (3, 1), (3, 1), (3, 1)]) : Good 3 3 xs := good_m o43_1_1_1_1 r43_1_1_1_1 (by decide) hn hx
theorem s43_1_1_1_2 (xs : List Int) (hn : 4 ≤ xs.length) (hx : Hyp xs [(2, 1), (3, 1), (3, 1), (3, 2)]) : Good 3 3 xs := good_m o43_1_1_1_2 r43_1_1_1_2 (by decide) hn hx
theorem s43_1_1_2_0 (xs : List Int) (hn : 4 ≤ xs.length) (hx : Hyp xs [(2, 1), (3, 1), (3, 2), (4, 0)]) : Good 3 3 xs := good_m o43_1_1_2_0 r43_1_1_2_0 (by decide) hn hx
theorem s43_1_1_2_1 (xs : List Int) (hn : 4 ≤ xs.length) (hx : Hyp xs [(2, 1), (3, 1), (3, 2), (4, 1)]) : Good 3 3 xs := good_m o43_1_1_2_1 r43_1_1_2_1 (by decide) hn hx
theorem s43_1_1_2_2 (xs : List Int) (hn : 4 ≤ xs.length) (hx : Hyp xs [(2, 1), (3, 1), (3, 2), (4, 2)]) : Good 3 3 xs := good_m o43_1_1_2_2 r43_1_1_2_2 (by decide) hn hx
theorem s43_1_1_2_3 (xs : List Int) (hn : 4 ≤ xs.length) (hx : Hyp xs [(2, 1), (3, 1), (3, 2), (4, 3)]) : Good 3 3 xs := good_m o43_1_1_2_3 r43_1_1_2_3 (by decide) hn hx
theorem s43_1_2_0_0 (xs : List Int) (hn : 4 ≤ xs.length) (hx : Hyp xs [(2, 1), (3, 2), (4, 0), (4, 0)]) : Good 3 3 xs := good_m o43_1_2_0_0 r43_1_2_0_0 (by decide) hn hx
theorem s43_1_2_0_1 (xs : List Int) (hn : 4 ≤ xs.length) (hx : Hyp xs [(2, 1), (3, 2), (4, 0), (4, 1)]) : Good 3 3 xs := good_m o43_1_2_0_1 r43_1_2_0_1 (by decide) hn hx
theorem s43_1_2_0_2 (xs : List Int) (hn : 4 ≤ xs.length) (hx : Hyp xs [(2, 1), (3, 2), (4, 0), (4, 2)]) : Good 3 3 xs := good_m o43_1_2_0_2 r43_1_2_0_2 (by decide) hn hx
theorem s43_1_2_0_3 (xs : List Int) (hn : 4 ≤ xs.length) (hx : Hyp xs [(2, 1), (3, 2), (4, 0), (4, 3)]) : Good 3 3 xs := good_m o43_1_2_0_3 r43_1_2_0_3 (by decide) hn hx
theorem s43_1_2_1_0 (xs : List Int) (hn : 4 ≤ xs.length) (hx : Hyp xs [(2, 1), (3, 2), (4, 1), (4, 0)]) : Good 3 3 xs := good_m o43_1_2_1_0 r43_1_2_1_0 (by decide) hn hx
theorem s43_1_2_1_1 (xs : List Int) (hn : 4 ≤ xs.length) (hx : Hyp xs [(2, 1), (3, 2), (4, 1), (4, 1)]) : Good 3 3 xs := good_m o43_1_2_1_1 r43_1_2_1_1 (by decide) hn hx
theorem s43_1_2_1_2 (xs : List Int) (hn : 4 ≤ xs.length) (hx : Hyp xs [(2, 1), (3, 2), (4, 1), (4, 2)]) : Good 3 3 xs := good_m o43_1_2_1_2 r43_1_2_1_2 (by decide) hn hx
theorem s43_1_2_1_3 (xs : List Int) (hn : 4 ≤ xs.length) (hx : Hyp xs [(2, 1), (3, 2), (4, 1), (4, 3)]) : Good 3 3 xs := good_m o43_1_2_1_3 r43_1_2_1_3 (by decide) hn hx
theorem s43_1_2_2_0 (xs : List Int) (hn : 4 ≤ xs.length) (hx : Hyp xs [(2, 1), (3, 2), (4, 2), (4, 0)]) : Good 3 3 xs := good_m o43_1_2_2_0 r43_1_2_2_0 (by decide) hn hx
theorem s43_1_2_2_1 (xs : List Int) (hn : 4 ≤ xs.length) (hx : Hyp xs [(2, 1), (3, 2), (4, 2), (4, 1)]) : Good 3 3 xs := good_m o43_1_2_2_1 r43_1_2_2_1 (by decide) hn hx
theorem s43_1_2_2_2 (xs : List Int) (hn : 4 ≤ xs.length) (hx : Hyp xs [(2, 1), (3, 2), (4, 2), (4, 2)]) : Good 3 3 xs := good_m o43_1_2_2_2 r43_1_2_2_2 (by decide) hn hx
theorem s43_1_2_2_3 (xs : List Int) (hn : 4 ≤ xs.length) (hx : Hyp xs [(2, 1), (3, 2), (4, 2), (4, 3)]) : Good 3 3 xs := good_m o43_1_2_2_3 r43_1_2_2_3 (by decide) hn hx
theorem s43_1_2_3_0 (xs : List Int) (hn : 4 ≤ xs.length) (hx : Hyp xs [(2, 1), (3, 2), (4, 3), (4, 0)]) : Good 3 3 xs := good_m o43_1_2_3_0 r43_1_2_3_0 (by decide) hn hx
theorem s43_1_2_3_1 (xs : List Int) (hn : 4 ≤ xs.length) (hx : Hyp xs [(2, 1), (3, 2), (4, 3), (4, 1)]) : Good 3 3 xs := good_m o43_1_2_3_1 r43_1_2_3_1 (by decide) hn hx
theorem s43_1_2_3_2 (xs : List Int) (hn : 4 ≤ xs.length) (hx : Hyp xs [(2, 1), (3, 2), (4, 3), (4, 2)]) : Good 3 3 xs := good_m o43_1_2_3_2 r43_1_2_3_2 (by decide) hn hx
theorem s43_1_2_3_3 (xs : List Int) (hn : 4 ≤ xs.length) (hx : Hyp xs [(2, 1), (3, 2), (4, 3), (4, 3)]) : Good 3 3 xs := good_m o43_1_2_3_3 r43_1_2_3_3 (by decide) hn hx
theorem s30_0_0_0 (xs : List Int) (hn : 3 ≤ xs.length) (hx : Hyp xs [(1, 0), (1, 0), (1, 0)]) : Good 2 0 xs := good_m o30_0_0_0 r30_0_0_0 (by decide) hn hx
theorem s31_0_0_0 (xs : List Int) (hn : 3 ≤ xs.length) (hx : Hyp xs [(2, 0), (2, 0), (2, 0)]) : Good 2 1 xs := good_m o31_0_0_0 r31_0_0_0 (by decide) hn hx
theorem s31_0_0_1 (xs : List Int) (hn : 3 ≤ xs.length) (hx : Hyp xs [(2, 0), (2, 0), (2, 1)]) : Good 2 1 xs := good_m o31_0_0_1 r31_0_0_1 (by decide) hn hx
theorem s31_0_1_0 (xs : List Int) (hn : 3 ≤ xs.length) (hx : Hyp xs [(2, 0), (2, 1), (2, 0)]) : Good 2 1 xs := good_m o31_0_1_0 r31_0_1_0 (by decide) hn hx
theorem s31_0_1_1 (xs : List Int) (hn : 3 ≤ xs.length) (hx : Hyp xs [(2, 0), (2, 1), (2, 1)]) : Good 2 1 xs := good_m o31_0_1_1 r31_0_1_1 (by decide) hn hx
theorem s31_1_0_0 (xs : List Int) (hn : 3 ≤ xs.length) (hx : Hyp xs [(2, 1), (2, 0), (2, 0)]) : Good 2 1 xs := good_m o31_1_0_0 r31_1_0_0 (by decide) hn hx
theorem s31_1_0_1 (xs : List Int) (hn : 3 ≤ xs.length) (hx : Hyp xs [(2, 1), (2, 0), (2, 1)]) : Good 2 1 xs := good_m o31_1_0_1 r31_1_0_1 (by decide) hn hx
theorem s31_1_1_0 (xs : List Int) (hn : 3 ≤ xs.length) (hx : Hyp xs [(2, 1), (2, 1), (2, 0)]) : Good 2 1 xs := good_m o31_1_1_0 r31_1_1_0 (by decide) hn hx
theorem s31_1_1_1 (xs : List Int) (hn : 3 ≤ xs.length) (hx : Hyp xs [(2, 1), (2, 1), (2, 1)]) : Good 2 1 xs := good_m o31_1_1_1 r31_1_1_1 (by decide) hn hx
theorem s32_0_0_0 (xs : List Int) (hn : 3 ≤ xs.length) (hx : Hyp xs [(2, 0), (2, 0), (2, 0)]) : Good 2 2 xs := good_m o32_0_0_0 r32_0_0_0 (by decide) hn hx
theorem s32_0_0_1 (xs : List Int) (hn : 3 ≤ xs.length) (hx : Hyp xs [(2, 0), (2, 0), (2, 1)]) : Good 2 2 xs := good_m o32_0_0_1 r32_0_0_1 (by decide) hn hx
theorem s32_0_1_0 (xs : List Int) (hn : 3 ≤ xs.length) (hx : Hyp xs [(2, 0), (2, 1), (3, 0)]) : Good 2 2 xs := good_m o32_0_1_0 r32_0_1_0 (by decide) hn hx
theorem s32_0_1_1 (xs : List Int) (hn : 3 ≤ xs.length) (hx : Hyp xs [(2, 0), (2, 1), (3, 1)]) : Good 2 2 xs := good_m o32_0_1_1 r32_0_1_1 (by decide) hn hx
theorem s32_0_1_2 (xs : List Int) (hn : 3 ≤ xs.length) (hx : Hyp xs [(2, 0), (2, 1), (3, 2)]) : Good 2 2 xs := good_m o32_0_1_2 r32_0_1_2 (by decide) hn hx
theorem s32_1_0_0 (xs : List Int) (hn : 3 ≤ xs.length) (hx : Hyp xs [(2, 1), (3, 0), (3, 0)]) : Good 2 2 xs := good_m o32_1_0_0 r32_1_0_0 (by decide) hn hx
theorem s32_1_0_1 (xs : List Int) (hn : 3 ≤ xs.length) (hx : Hyp xs [(2, 1), (3, 0), (3, 1)]) : Good 2 2 xs := good_m o32_1_0_1 r32_1_0_1 (by decide) hn hx
theorem s32_1_0_2 (xs : List Int) (hn : 3 ≤ xs.length) (hx : Hyp xs [(2, 1), (3, 0), (3, 2)]) : Good 2 2 xs := good_m o32_1_0_2 r32_1_0_2 (by decide) hn hx
theorem s32_1_1_0 (xs : List Int) (hn : 3 ≤ xs.length) (hx : Hyp xs [(2, 1), (3, 1), (3, 0)]) : Good 2 2 xs := good_m o32_1_1_0 r32_1_1_0 (by decide) hn hx
theorem s32_1_1_1 (xs : List Int) (hn : 3 ≤ xs.length) (hx : Hyp xs [(2, 1), (3, 1), (3, 1)]) : Good 2 2 xs := good_m o32_1_1_1 r32_1_1_1 (by decide) hn hx
theorem s32_1_1_2 (xs : List Int) (hn : 3 ≤ xs.length) (hx : Hyp xs [(2, 1), (3, 1), (3, 2)]) : Good 2 2 xs := good_m o32_1_1_2 r32_1_1_2 (by decide) hn hx
theorem s32_1_2_0 (xs : List Int) (hn : 3 ≤ xs.length) (hx : Hyp xs [(2, 1), (3, 2), (3, 0)]) : Good 2 2 xs := good_m o32_1_2_0 r32_1_2_0 (by decide) hn hx
theorem s32_1_2_1 (xs : List Int) (hn : 3 ≤ xs.length) (hx : Hyp xs [(2, 1), (3, 2), (3, 1)]) : Good 2 2 xs := good_m o32_1_2_1 r32_1_2_1 (by decide) hn hx
theorem s32_1_2_2 (xs : List Int) (hn : 3 ≤ xs.length) (hx : Hyp xs [(2, 1), (3, 2), (3, 2)]) : Good 2 2 xs := good_m o32_1_2_2 r32_1_2_2 (by decide) hn hx
theorem s33_0_0_0 (xs : List Int) (hn : 3 ≤ xs.length) (hx : Hyp xs [(2, 0), (2, 0), (2, 0)]) : Good 2 3 xs := good_m o33_0_0_0 r33_0_0_0 (by decide) hn hx
theorem s33_0_0_1 (xs : List Int) (hn : 3 ≤ xs.length) (hx : Hyp xs [(2, 0), (2, 0), (2, 1)]) : Good 2 3 xs := good_m o33_0_0_1 r33_0_0_1 (by decide) hn hx
theorem s33_0_1_0 (xs : List Int) (hn : 3 ≤ xs.length) (hx : Hyp xs [(2, 0), (2, 1), (3, 0)]) : Good 2 3 xs := good_m o33_0_1_0 r33_0_1_0 (by decide) hn hx
theorem s33_0_1_1 (xs : List Int) (hn : 3 ≤ xs.length) (hx : Hyp xs [(2, 0), (2, 1), (3, 1)]) : Good 2 3 xs := good_m o33_0_1_1 r33_0_1_1 (by decide) hn hx
theorem s33_0_1_2 (xs : List Int) (hn : 3 ≤ xs.length) (hx : Hyp xs [(2, 0), (2, 1), (3, 2)]) : Good 2 3 xs := good_m o33_0_1_2 r33_0_1_2 (by decide) hn hx
theorem s33_1_0_0 (xs : List Int) (hn : 3 ≤ xs.length) (hx : Hyp xs [(2, 1), (3, 0), (3, 0)]) : Good 2 3 xs := good_m o33_1_0_0 r33_1_0_0 (by decide) hn hx
theorem s33_1_0_1 (xs : List Int) (hn : 3 ≤ xs.length) (hx : Hyp xs [(2, 1), (3, 0), (3, 1)]) : Good 2 3 xs := good_m o33_1_0_1 r33_1_0_1 (by decide) hn hx
theorem s33_1_0_2 (xs : List Int) (hn : 3 ≤ xs.length) (hx : Hyp xs [(2, 1), (3, 0), (3, 2)]) : Good 2 3 xs := good_m o33_1_0_2 r33_1_0_2 (by decide) hn hx
theorem s33_1_1_0 (xs : List Int) (hn : 3 ≤ xs.length) (hx : Hyp xs [(2, 1), (3, 1), (3, 0)]) : Good 2 3 xs := good_m o33_1_1_0 r33_1_1_0 (by decide) hn hx
theorem s33_1_1_1 (xs : List Int) (hn : 3 ≤ xs.length) (hx : Hyp xs [(2, 1), (3, 1), (3, 1)]) : Good 2 3 xs := good_m o33_1_1_1 r33_1_1_1 (by decide) hn hx
theorem s33_1_1_2 (xs : List Int) (hn : 3 ≤ xs.length) (hx : Hyp xs [(2, 1), (3, 1), (3, 2)]) : Good 2 3 xs := good_m o33_1_1_2 r33_1_1_2 (by decide) hn hx
theorem s33_1_2_0 (xs : List Int) (hn : 3 ≤ xs.length) (hx : Hyp xs [(2, 1), (3, 2), (4, 0)]) : Good 2 3 xs := good_m o33_1_2_0 r33_1_2_0 (by decide) hn hx
theorem s33_1_2_1 (xs : List Int) (hn : 3 ≤ xs.length) (hx : Hyp xs [(2, 1), (3, 2), (4, 1)]) : Good 2 3 xs := good_m o33_1_2_1 r33_1_2_1 (by decide) hn hx
theorem s33_1_2_2 (xs : List Int) (hn : 3 ≤ xs.length) (hx : Hyp xs [(2, 1), (3, 2), (4, 2)]) : Good 2 3 xs := good_m o33_1_2_2 r33_1_2_2 (by decide) hn hx
theorem s33_1_2_3 (xs : List Int) (hn : 3 ≤ xs.length) (hx : Hyp xs [(2, 1), (3, 2), (4, 3)]) : Good 2 3 xs := good_m o33_1_2_3 r33_1_2_3 (by decide) hn hx
theorem s40_0_0_0 (xs : List Int) (hn : 3 ≤ xs.length) (hx : Hyp xs [(1, 0), (1, 0), (1, 0)]) : Good 3 0 xs := by
  rcases Nat.eq_or_lt_of_le hn with h | h
  · exact good_n o40_0_0_0_0 r40_0_0_0 (fun h => absurd h (by decide)) h.symm hx
  · obtain ⟨r, hr, hx'⟩ := hx.step 1 (by decide) h
    obtain rfl : r = 0 := by omega
    exact s40_0_0_0_0 xs h hx'
theorem s41_0_0_0 (xs : List Int) (hn : 3 ≤ xs.length) (hx : Hyp xs [(2, 0), (2, 0), (2, 0)]) : Good 3 1 xs := by
  rcases Nat.eq_or_lt_of_le hn with h | h
  · exact good_n o41_0_0_0_0 r41_0_0_0 (fun h => absurd h (by decide)) h.symm hx
  · obtain ⟨r, hr, hx'⟩ := hx.step 2 (by decide) h
    obtain rfl | rfl : r = 0 ∨ r = 1 := by omega
    · exact s41_0_0_0_0 xs h hx'
    · exact s41_0_0_0_1 xs h hx'
theorem s41_0_0_1 (xs : List Int) (hn : 3 ≤ xs.length) (hx : Hyp xs [(2, 0), (2, 0), (2, 1)]) : Good 3 1 xs := by
  rcases Nat.eq_or_lt_of_le hn with h | h
  · exact good_n o41_0_0_1_0 r41_0_0_1 (fun h => absurd h (by decide)) h.symm hx
  · obtain ⟨r, hr, hx'⟩ := hx.step 2 (by decide) h
    obtain rfl | rfl : r = 0 ∨ r = 1 := by omega
    · exact s41_0_0_1_0 xs h hx'
    · exact s41_0_0_1_1 xs h hx'
theorem s41_0_1_0 (xs : List Int) (hn : 3 ≤ xs.length) (hx : Hyp xs [(2, 0), (2, 1), (2, 0)]) : Good 3 1 xs := by
  rcases Nat.eq_or_lt_of_le hn with h | h
  · exact good_n o41_0_1_0_0 r41_0_1_0 (fun h => absurd h (by decide)) h.symm hx
  · obtain ⟨r, hr, hx'⟩ := hx.step 2 (by decide) h
    obtain rfl | rfl : r = 0 ∨ r = 1 := by omega
    · exact s41_0_1_0_0 xs h hx'
    · exact s41_0_1_0_1 xs h hx'
theorem s41_0_1_1 (xs : List Int) (hn : 3 ≤ xs.length) (hx : Hyp xs [(2, 0), (2, 1), (2, 1)]) : Good 3 1 xs := by
  rcases Nat.eq_or_lt_of_le hn with h | h
  · exact good_n o41_0_1_1_0 r41_0_1_1 (fun h => absurd h (by decide)) h.symm hx
  · obtain ⟨r, hr, hx'⟩ := hx.step 2 (by decide) h
    obtain rfl | rfl : r = 0 ∨ r = 1 := by omega
    · exact s41_0_1_1_0 xs h hx'
    · exact s41_0_1_1_1 xs h hx'
theorem s41_1_0_0 (xs : List Int) (hn : 3 ≤ xs.length) (hx : Hyp xs [(2, 1), (2, 0), (2, 0)]) : Good 3 1 xs := by
  rcases Nat.eq_or_lt_of_le hn with h | h
  · exact good_n o41_1_0_0_0 r41_1_0_0 (fun h => absurd h (by decide)) h.symm hx
  · obtain ⟨r, hr, hx'⟩ := hx.step 2 (by decide) h
    obtain rfl | rfl : r = 0 ∨ r = 1 := by omega
    · exact s41_1_0_0_0 xs h hx'
    · exact s41_1_0_0_1 xs h hx'
theorem s41_1_0_1 (xs : List Int) (hn : 3 ≤ xs.length) (hx : Hyp xs [(2, 1), (2, 0), (2, 1)]) : Good 3 1 xs := by
  rcases Nat.eq_or_lt_of_le hn with h | h
  · exact good_n o41_1_0_1_0 r41_1_0_1 (fun h => absurd h (by decide)) h.symm hx
  · obtain ⟨r, hr, hx'⟩ := hx.step 2 (by decide) h
    obtain rfl | rfl : r = 0 ∨ r = 1 := by omega
    · exact s41_1_0_1_0 xs h hx'
    · exact s41_1_0_1_1 xs h hx'
theorem s41_1_1_0 (xs : List Int) (hn : 3 ≤ xs.length) (hx : Hyp xs [(2, 1), (2, 1), (2, 0)]) : Good 3 1 xs := by
  rcases Nat.eq_or_lt_of_le hn with h | h
  · exact good_n o41_1_1_0_0 r41_1_1_0 (fun h => absurd h (by decide)) h.symm hx
  · obtain ⟨r, hr, hx'⟩ := hx.step 2 (by decide) h
    obtain rfl | rfl : r = 0 ∨ r = 1 := by omega
    · exact s41_1_1_0_0 xs h hx'
    · exact s41_1_1_0_1 xs h hx'
theorem s41_1_1_1 (xs : List Int) (hn : 3 ≤ xs.length) (hx : Hyp xs [(2, 1), (2, 1), (2, 1)]) : Good 3 1 xs := by
  rcases Nat.eq_or_lt_of_le hn with h | h
  · exact good_n o41_1_1_1_0 r41_1_1_1 (fun h => absurd h (by decide)) h.symm hx
  · obtain ⟨r, hr, hx'⟩ := hx.step 2 (by decide) h
    obtain rfl | rfl : r = 0 ∨ r = 1 := by omega
    · exact s41_1_1_1_0 xs h hx'
    · exact s41_1_1_1_1 xs h hx'
theorem s42_0_0_0 (xs : List Int) (hn : 3 ≤ xs.length) (hx : Hyp xs [(2, 0), (2, 0), (2, 0)]) : Good 3 2 xs := by
  rcases Nat.eq_or_lt_of_le hn with h | h
  · exact good_n o42_0_0_0_0 r42_0_0_0 (fun h => absurd h (by decide)) h.symm hx
  · obtain ⟨r, hr, hx'⟩ := hx.step 2 (by decide) h
    obtain rfl | rfl : r = 0 ∨ r = 1 := by omega
    · exact s42_0_0_0_0 xs h hx'
    · exact s42_0_0_0_1 xs h hx'
theorem s42_0_0_1 (xs : List Int) (hn : 3 ≤ xs.length) (hx : Hyp xs [(2, 0), (2, 0), (2, 1)]) : Good 3 2 xs := by
  rcases Nat.eq_or_lt_of_le hn with h | h
  · exact good_n o42_0_0_1_0 r42_0_0_1 (fun h => absurd h (by decide)) h.symm hx
  · obtain ⟨r, hr, hx'⟩ := hx.step 3 (by decide) h
    obtain rfl | rfl | rfl : r = 0 ∨ r = 1 ∨ r = 2 := by omega
    · exact s42_0_0_1_0 xs h hx'
    · exact s42_0_0_1_1 xs h hx'
    · exact s42_0_0_1_2 xs h hx'
theorem s42_0_1_0 (xs : List Int) (hn : 3 ≤ xs.length) (hx : Hyp xs [(2, 0), (2, 1), (3, 0)]) : Good 3 2 xs := by
  rcases Nat.eq_or_lt_of_le hn with h | h
  · exact good_n o42_0_1_0_0 r42_0_1_0 (fun h => absurd h (by decide)) h.symm hx
  · obtain ⟨r, hr, hx'⟩ := hx.step 3 (by decide) h
    obtain rfl | rfl | rfl : r = 0 ∨ r = 1 ∨ r = 2 := by omega
    · exact s42_0_1_0_0 xs h hx'
    · exact s42_0_1_0_1 xs h hx'
    · exact s42_0_1_0_2 xs h hx'
theorem s42_0_1_1 (xs : List Int) (hn : 3 ≤ xs.length) (hx : Hyp xs [(2, 0), (2, 1), (3, 1)]) : Good 3 2 xs := by
  rcases Nat.eq_or_lt_of_le hn with h | h
  · exact good_n o42_0_1_1_0 r42_0_1_1 (fun h => absurd h (by decide)) h.symm hx
  · obtain ⟨r, hr, hx'⟩ := hx.step 3 (by decide) h
    obtain rfl | rfl | rfl : r = 0 ∨ r = 1 ∨ r = 2 := by omega
    · exact s42_0_1_1_0 xs h hx'
    · exact s42_0_1_1_1 xs h hx'
    · exact s42_0_1_1_2 xs h hx'
theorem s42_0_1_2 (xs : List Int) (hn : 3 ≤ xs.length) (hx : Hyp xs [(2, 0), (2, 1), (3, 2)]) : Good 3 2 xs := by
  rcases Nat.eq_or_lt_of_le hn with h | h
  · exact good_n o42_0_1_2_0 r42_0_1_2 (fun h => absurd h (by decide)) h.symm hx
  · obtain ⟨r, hr, hx'⟩ := hx.step 3 (by decide) h
    obtain rfl | rfl | rfl : r = 0 ∨ r = 1 ∨ r = 2 := by omega
    · exact s42_0_1_2_0 xs h hx'
    · exact s42_0_1_2_1 xs h hx'
    · exact s42_0_1_2_2 xs h hx'
theorem s42_1_0_0 (xs : List Int) (hn : 3 ≤ xs.length) (hx : Hyp xs [(2, 1), (3, 0), (3, 0)]) : Good 3 2 xs := by
  rcases Nat.eq_or_lt_of_le hn with h | h
  · exact good_n o42_1_0_0_0 r42_1_0_0 (fun h => absurd h (by decide)) h.symm hx
  · obtain ⟨r, hr, hx'⟩ := hx.step 3 (by decide) h
    obtain rfl | rfl | rfl : r = 0 ∨ r = 1 ∨ r = 2 := by omega
    · exact s42_1_0_0_0 xs h hx'
    · exact s42_1_0_0_1 xs h hx'
    · exact s42_1_0_0_2 xs h hx'
theorem s42_1_0_1 (xs : List Int) (hn : 3 ≤ xs.length) (hx : Hyp xs [(2, 1), (3, 0), (3, 1)]) : Good 3 2 xs := by
  rcases Nat.eq_or_lt_of_le hn with h | h
  · exact good_n o42_1_0_1_0 r42_1_0_1 (fun h => absurd h (by decide)) h.symm hx
  · obtain ⟨r, hr, hx'⟩ := hx.step 3 (by decide) h
    obtain rfl | rfl | rfl : r = 0 ∨ r = 1 ∨ r = 2 := by omega
    · exact s42_1_0_1_0 xs h hx'
    · exact s42_1_0_1_1 xs h hx'
    · exact s42_1_0_1_2 xs h hx'
theorem s42_1_0_2 (xs : List Int) (hn : 3 ≤ xs.length) (hx : Hyp xs [(2, 1), (3, 0), (3, 2)]) : Good 3 2 xs := by
  rcases Nat.eq_or_lt_of_le hn with h | h
  · exact good_n o42_1_0_2_0 r42_1_0_2 (fun h => absurd h (by decide)) h.symm hx
  · obtain ⟨r, hr, hx'⟩ := hx.step 3 (by decide) h
    obtain rfl | rfl | rfl : r = 0 ∨ r = 1 ∨ r = 2 := by omega
    · exact s42_1_0_2_0 xs h hx'
    · exact s42_1_0_2_1 xs h hx'
    · exact s42_1_0_2_2 xs h hx'
theorem s42_1_1_0 (xs : List Int) (hn : 3 ≤ xs.length) (hx : Hyp xs [(2, 1), (3, 1), (3, 0)]) : Good 3 2 xs := by
  rcases Nat.eq_or_lt_of_le hn with h | h
  · exact good_n o42_1_1_0_0 r42_1_1_0 (fun h => absurd h (by decide)) h.symm hx
  · obtain ⟨r, hr, hx'⟩ := hx.step 3 (by decide) h
    obtain rfl | rfl | rfl : r = 0 ∨ r = 1 ∨ r = 2 := by omega
    · exact s42_1_1_0_0 xs h hx'
    · exact s42_1_1_0_1 xs h hx'
    · exact s42_1_1_0_2 xs h hx'
theorem s42_1_1_1 (xs : List Int) (hn : 3 ≤ xs.length) (hx : Hyp xs [(2, 1), (3, 1), (3, 1)]) : Good 3 2 xs := by
  rcases Nat.eq_or_lt_of_le hn with h | h
  · exact good_n o42_1_1_1_0 r42_1_1_1 (fun h => absurd h (by decide)) h.symm hx
  · obtain ⟨r, hr, hx'⟩ := hx.step 3 (by decide) h
    obtain rfl | rfl | rfl : r = 0 ∨ r = 1 ∨ r = 2 := by omega
    · exact s42_1_1_1_0 xs h hx'
    · exact s42_1_1_1_1 xs h hx'
    · exact s42_1_1_1_2 xs h hx'
theorem s42_1_1_2 (xs : List Int) (hn : 3 ≤ xs.length) (hx : Hyp xs [(2, 1), (3, 1), (3, 2)]) : Good 3 2 xs := by
  rcases Nat.eq_or_lt_of_le hn with h | h
  · exact good_n o42_1_1_2_0 r42_1_1_2 (fun h => absurd h (by decide)) h.symm hx
  · obtain ⟨r, hr, hx'⟩ := hx.step 3 (by decide) h
    obtain rfl | rfl | rfl : r = 0 ∨ r = 1 ∨ r = 2 := by omega
    · exact s42_1_1_2_0 xs h hx'
    · exact s42_1_1_2_1 xs h hx'
    · exact s42_1_1_2_2 xs h hx'
theorem s42_1_2_0 (xs : List Int) (hn : 3 ≤ xs.length) (hx : Hyp xs [(2, 1), (3, 2), (3, 0)]) : Good 3 2 xs := by
  rcases Nat.eq_or_lt_of_le hn with h | h
  · exact good_n o42_1_2_0_0 r42_1_2_0 (fun h => absurd h (by decide)) h.symm hx
  · obtain ⟨r, hr, hx'⟩ := hx.step 3 (by decide) h
    obtain rfl | rfl | rfl : r = 0 ∨ r = 1 ∨ r = 2 := by omega
    · exact s42_1_2_0_0 xs h hx'
    · exact s42_1_2_0_1 xs h hx'
    · exact s42_1_2_0_2 xs h hx'
theorem s42_1_2_1 (xs : List Int) (hn : 3 ≤ xs.length) (hx : Hyp xs [(2, 1), (3, 2), (3, 1)]) : Good 3 2 xs := by
  rcases Nat.eq_or_lt_of_le hn with h | h
  · exact good_n o42_1_2_1_0 r42_1_2_1 (fun h => absurd h (by decide)) h.symm hx
  · obtain ⟨r, hr, hx'⟩ := hx.step 3 (by decide) h
    obtain rfl | rfl | rfl : r = 0 ∨ r = 1 ∨ r = 2 := by omega
    · exact s42_1_2_1_0 xs h hx'
    · exact s42_1_2_1_1 xs h hx'
    · exact s42_1_2_1_2 xs h hx'
theorem s42_1_2_2 (xs : List Int) (hn : 3 ≤ xs.length) (hx : Hyp xs [(2, 1), (3, 2), (3, 2)]) : Good 3 2 xs := by
  rcases Nat.eq_or_lt_of_le hn with h | h
  · exact good_n o42_1_2_2_0 r42_1_2_2 (fun h => absurd h (by decide)) h.symm hx
  · obtain ⟨r, hr, hx'⟩ := hx.step 3 (by decide) h
    obtain rfl | rfl | rfl : r = 0 ∨ r = 1 ∨ r = 2 := by omega
    · exact s42_1_2_2_0 xs h hx'
    · exact s42_1_2_2_1 xs h hx'
    · exact s42_1_2_2_2 xs h hx'
theorem s43_0_0_0 (xs : List Int) (hn : 3 ≤ xs.length) (hx : Hyp xs [(2, 0), (2, 0), (2, 0)]) : Good 3 3 xs := by
  rcases Nat.eq_or_lt_of_le hn with h | h
  · exact good_n o43_0_0_0_0 r43_0_0_0 (fun h => absurd h (by decide)) h.symm hx
  · obtain ⟨r, hr, hx'⟩ := hx.step 2 (by decide) h
    obtain rfl | rfl : r = 0 ∨ r = 1 := by omega
    · exact s43_0_0_0_0 xs h hx'
    · exact s43_0_0_0_1 xs h hx'
theorem s43_0_0_1 (xs : List Int) (hn : 3 ≤ xs.length) (hx : Hyp xs [(2, 0), (2, 0), (2, 1)]) : Good 3 3 xs := by
  rcases Nat.eq_or_lt_of_le hn with h | h
  · exact good_n o43_0_0_1_0 r43_0_0_1 (fun h => absurd h (by decide)) h.symm hx
  · obtain ⟨r, hr, hx'⟩ := hx.step 3 (by decide) h
    obtain rfl | rfl | rfl : r = 0 ∨ r = 1 ∨ r = 2 := by omega
    · exact s43_0_0_1_0 xs h hx'
    · exact s43_0_0_1_1 xs h hx'
    · exact s43_0_0_1_2 xs h hx'
theorem s43_0_1_0 (xs : List Int) (hn : 3 ≤ xs.length) (hx : Hyp xs [(2, 0), (2, 1), (3, 0)]) : Good 3 3 xs := by
  rcases Nat.eq_or_lt_of_le hn with h | h
  · exact good_n o43_0_1_0_0 r43_0_1_0 (fun h => absurd h (by decide)) h.symm hx
  · obtain ⟨r, hr, hx'⟩ := hx.step 3 (by decide) h
    obtain rfl | rfl | rfl : r = 0 ∨ r = 1 ∨ r = 2 := by omega
    · exact s43_0_1_0_0 xs h hx'
    · exact s43_0_1_0_1 xs h hx'
    · exact s43_0_1_0_2 xs h hx'
theorem s43_0_1_1 (xs : List Int) (hn : 3 ≤ xs.length) (hx : Hyp xs [(2, 0), (2, 1), (3, 1)]) : Good 3 3 xs := by
  rcases Nat.eq_or_lt_of_le hn with h | h
  · exact good_n o43_0_1_1_0 r43_0_1_1 (fun h => absurd h (by decide)) h.symm hx
  · obtain ⟨r, hr, hx'⟩ := hx.step 3 (by decide) h
    obtain rfl | rfl | rfl : r = 0 ∨ r = 1 ∨ r = 2 := by omega
    · exact s43_0_1_1_0 xs h hx'
    · exact s43_0_1_1_1 xs h hx'
    · exact s43_0_1_1_2 xs h hx'
theorem s43_0_1_2 (xs : List Int) (hn : 3 ≤ xs.length) (hx : Hyp xs [(2, 0), (2, 1), (3, 2)]) : Good 3 3 xs := by
  rcases Nat.eq_or_lt_of_le hn with h | h
  · exact good_n o43_0_1_2_0 r43_0_1_2 (fun h => absurd h (by decide)) h.symm hx
  · obtain ⟨r, hr, hx'⟩ := hx.step 4 (by decide) h
    obtain rfl | rfl | rfl | rfl : r = 0 ∨ r = 1 ∨ r = 2 ∨ r = 3 := by omega
    · exact s43_0_1_2_0 xs h hx'
    · exact s43_0_1_2_1 xs h hx'
    · exact s43_0_1_2_2 xs h hx'
    · exact s43_0_1_2_3 xs h hx'
theorem s43_1_0_0 (xs : List Int) (hn : 3 ≤ xs.length) (hx : Hyp xs [(2, 1), (3, 0), (3, 0)]) : Good 3 3 xs := by
  rcases Nat.eq_or_lt_of_le hn with h | h
  · exact good_n o43_1_0_0_0 r43_1_0_0 (fun h => absurd h (by decide)) h.symm hx
  · obtain ⟨r, hr, hx'⟩ := hx.step 3 (by decide) h
    obtain rfl | rfl | rfl : r = 0 ∨ r = 1 ∨ r = 2 := by omega
    · exact s43_1_0_0_0 xs h hx'
    · exact s43_1_0_0_1 xs h hx'
    · exact s43_1_0_0_2 xs h hx'
theorem s43_1_0_1 (xs : List Int) (hn : 3 ≤ xs.length) (hx : Hyp xs [(2, 1), (3, 0), (3, 1)]) : Good 3 3 xs := by
  rcases Nat.eq_or_lt_of_le hn with h | h
  · exact good_n o43_1_0_1_0 r43_1_0_1 (fun h => absurd h (by decide)) h.symm hx
  · obtain ⟨r, hr, hx'⟩ := hx.step 3 (by decide) h
    obtain rfl | rfl | rfl : r = 0 ∨ r = 1 ∨ r = 2 := by omega
    · exact s43_1_0_1_0 xs h hx'
    · exact s43_1_0_1_1 xs h hx'
    · exact s43_1_0_1_2 xs h hx'
theorem s43_1_0_2 (xs : List Int) (hn : 3 ≤ xs.length) (hx : Hyp xs [(2, 1), (3, 0), (3, 2)]) : Good 3 3 xs := by
  rcases Nat.eq_or_lt_of_le hn with h | h
  · exact good_n o43_1_0_2_0 r43_1_0_2 (fun h => absurd h (by decide)) h.symm hx
  · obtain ⟨r, hr, hx'⟩ := hx.step 4 (by decide) h
    obtain rfl | rfl | rfl | rfl : r = 0 ∨ r = 1 ∨ r = 2 ∨ r = 3 := by omega
    · exact s43_1_0_2_0 xs h hx'
    · exact s43_1_0_2_1 xs h hx'
    · exact s43_1_0_2_2 xs h hx'
    · exact s43_1_0_2_3 xs h hx'
theorem s43_1_1_0 (xs : List Int) (hn : 3 ≤ xs.length) (hx : Hyp xs [(2, 1), (3, 1), (3, 0)]) : Good 3 3 xs := by
  rcases Nat.eq_or_lt_of_le hn with h | h
  · exact good_n o43_1_1_0_0 r43_1_1_0 (fun h => absurd h (by decide)) h.symm hx
  · obtain ⟨r, hr, hx'⟩ := hx.step 3 (by decide) h
    obtain rfl | rfl | rfl : r = 0 ∨ r = 1 ∨ r = 2 := by omega
    · exact s43_1_1_0_0 xs h hx'
    · exact s43_1_1_0_1 xs h hx'
    · exact s43_1_1_0_2 xs h hx'
theorem s43_1_1_1 (xs : List Int) (hn : 3 ≤ xs.length) (hx : Hyp xs [(2, 1), (3, 1), (3, 1)]) : Good 3 3 xs := by
  rcases Nat.eq_or_lt_of_le hn with h | h
  · exact good_n o43_1_1_1_0 r43_1_1_1 (fun h => absurd h (by decide)) h.symm hx
  · obtain ⟨r, hr, hx'⟩ := hx.step 3 (by decide) h
    obtain rfl | rfl | rfl : r = 0 ∨ r = 1 ∨ r = 2 := by omega
    · exact s43_1_1_1_0 xs h hx'
    · exact s43_1_1_1_1 xs h hx'
    · exact s43_1_1_1_2 xs h hx'
theorem s43_1_1_2 (xs : List Int) (hn : 3 ≤ xs.length) (hx : Hyp xs [(2, 1), (3, 1), (3, 2)]) : Good 3 3 xs := by
  rcases Nat.eq_or_lt_of_le hn with h | h
  · exact good_n o43_1_1_2_0 r43_1_1_2 (fun h => absurd h (by decide)) h.symm hx
  · obtain ⟨r, hr, hx'⟩ := hx.step 4 (by decide) h
    obtain rfl | rfl | rfl | rfl : r = 0 ∨ r = 1 ∨ r = 2 ∨ r = 3 := by omega
    · exact s43_1_1_2_0 xs h hx'
    · exact s43_1_1_2_1 xs h hx'
    · exact s43_1_1_2_2 xs h hx'
    · exact s43_1_1_2_3 xs h hx'
theorem s43_1_2_0 (xs : List Int) (hn : 3 ≤ xs.length) (hx : Hyp xs [(2, 1), (3, 2), (4, 0)]) : Good 3 3 xs := by
  rcases Nat.eq_or_lt_of_le hn with h | h
  · exact good_n o43_1_2_0_0 r43_1_2_0 (fun h => absurd h (by decide)) h.symm hx
  · obtain ⟨r, hr, hx'⟩ := hx.step 4 (by decide) h
    obtain rfl | rfl | rfl | rfl : r = 0 ∨ r = 1 ∨ r = 2 ∨ r = 3 := by omega
    · exact s43_1_2_0_0 xs h hx'
    · exact s43_1_2_0_1 xs h hx'
    · exact s43_1_2_0_2 xs h hx'
    · exact s43_1_2_0_3 xs h hx'
theorem s43_1_2_1 (xs : List Int) (hn : 3 ≤ xs.length) (hx : Hyp xs [(2, 1), (3, 2), (4, 1)]) : Good 3 3 xs := by
  rcases Nat.eq_or_lt_of_le hn with h | h
  · exact good_n o43_1_2_1_0 r43_1_2_1 (fun h => absurd h (by decide)) h.symm hx
  · obtain ⟨r, hr, hx'⟩ := hx.step 4 (by decide) h
    obtain rfl | rfl | rfl | rfl : r = 0 ∨ r = 1 ∨ r = 2 ∨ r = 3 := by omega
    · exact s43_1_2_1_0 xs h hx'
    · exact s43_1_2_1_1 xs h hx'
    · exact s43_1_2_1_2 xs h hx'
    · exact s43_1_2_1_3 xs h hx'
theorem s43_1_2_2 (xs : List Int) (hn : 3 ≤ xs.length) (hx : Hyp xs [(2, 1), (3, 2), (4, 2)]) : Good 3 3 xs := by
  rcases Nat.eq_or_lt_of_le hn with h | h
  · exact good_n o43_1_2_2_0 r43_1_2_2 (fun h => absurd h (by decide)) h.symm hx
  · obtain ⟨r, hr, hx'⟩ := hx.step 4 (by decide) h
    obtain rfl | rfl | rfl | rfl : r = 0 ∨ r = 1 ∨ r = 2 ∨ r = 3 := by omega
    · exact s43_1_2_2_0 xs h hx'
    · exact s43_1_2_2_1 xs h hx'
    · exact s43_1_2_2_2 xs h hx'
    · exact s43_1_2_2_3 xs h hx'
theorem s43_1_2_3 (xs : List Int) (hn : 3 ≤ xs.length) (hx : Hyp xs [(2, 1), (3, 2), (4, 3)]) : Good 3 3 xs := by
  rcases Nat.eq_or_lt_of_le hn with h | h
  · exact good_n o43_1_2_3_0 r43_1_2_3 (fun h => absurd h (by decide)) h.symm hx
  · obtain ⟨r, hr, hx'⟩ := hx.step 4 (by decide) h
    obtain rfl | rfl | rfl | rfl : r = 0 ∨ r = 1 ∨ r = 2 ∨ r = 3 := by omega
    · exact s43_1_2_3_0 xs h hx'
    · exact s43_1_2_3_1 xs h hx'
    · exact s43_1_2_3_2 xs h hx'
    · exact s43_1_2_3_3 xs h hx'
theorem s20_0_0 (xs : List Int) (hn : 2 ≤ xs.length) (hx : Hyp xs [(1, 0), (1, 0)]) : Good 1 0 xs := good_m o20_0_0 r20_0_0 (by decide) hn hx
theorem s21_0_0 (xs : List Int) (hn : 2 ≤ xs.length) (hx : Hyp xs [(2, 0), (2, 0)]) : Good 1 1 xs := good_m o21_0_0 r21_0_0 (by decide) hn hx
theorem s21_0_1 (xs : List Int) (hn : 2 ≤ xs.length) (hx : Hyp xs [(2, 0), (2, 1)]) : Good 1 1 xs := good_m o21_0_1 r21_0_1 (by decide) hn hx
theorem s21_1_0 (xs : List Int) (hn : 2 ≤ xs.length) (hx : Hyp xs [(2, 1), (2, 0)]) : Good 1 1 xs := good_m o21_1_0 r21_1_0 (by decide) hn hx
theorem s21_1_1 (xs : List Int) (hn : 2 ≤ xs.length) (hx : Hyp xs [(2, 1), (2, 1)]) : Good 1 1 xs := good_m o21_1_1 r21_1_1 (by decide) hn hx
theorem s22_0_0 (xs : List Int) (hn : 2 ≤ xs.length) (hx : Hyp xs [(2, 0), (2, 0)]) : Good 1 2 xs := good_m o22_0_0 r22_0_0 (by decide) hn hx
theorem s22_0_1 (xs : List Int) (hn : 2 ≤ xs.length) (hx : Hyp xs [(2, 0), (2, 1)]) : Good 1 2 xs := good_m o22_0_1 r22_0_1 (by decide) hn hx
theorem s22_1_0 (xs : List Int) (hn : 2 ≤ xs.length) (hx : Hyp xs [(2, 1), (3, 0)]) : Good 1 2 xs := good_m o22_1_0 r22_1_0 (by decide) hn hx
theorem s22_1_1 (xs : List Int) (hn : 2 ≤ xs.length) (hx : Hyp xs [(2, 1), (3, 1)]) : Good 1 2 xs := good_m o22_1_1 r22_1_1 (by decide) hn hx
theorem s22_1_2 (xs : List Int) (hn : 2 ≤ xs.length) (hx : Hyp xs [(2, 1), (3, 2)]) : Good 1 2 xs := good_m o22_1_2 r22_1_2 (by decide) hn hx
theorem s23_0_0 (xs : List Int) (hn : 2 ≤ xs.length) (hx : Hyp xs [(2, 0), (2, 0)]) : Good 1 3 xs := good_m o23_0_0 r23_0_0 (by decide) hn hx
theorem s23_0_1 (xs : List Int) (hn : 2 ≤ xs.length) (hx : Hyp xs [(2, 0), (2, 1)]) : Good 1 3 xs := good_m o23_0_1 r23_0_1 (by decide) hn hx
theorem s23_1_0 (xs : List Int) (hn : 2 ≤ xs.length) (hx : Hyp xs [(2, 1), (3, 0)]) : Good 1 3 xs := good_m o23_1_0 r23_1_0 (by decide) hn hx
theorem s23_1_1 (xs : List Int) (hn : 2 ≤ xs.length) (hx : Hyp xs [(2, 1), (3, 1)]) : Good 1 3 xs := good_m o23_1_1 r23_1_1 (by decide) hn hx
theorem s23_1_2 (xs : List Int) (hn : 2 ≤ xs.length) (hx : Hyp xs [(2, 1), (3, 2)]) : Good 1 3 xs := good_m o23_1_2 r23_1_2 (by decide) hn hx
theorem s30_0_0 (xs : List Int) (hn : 2 ≤ xs.length) (hx : Hyp xs [(1, 0), (1, 0)]) : Good 2 0 xs := by
  rcases Nat.eq_or_lt_of_le hn with h | h
  · exact good_n o30_0_0_0 r30_0_0 (fun h => absurd h (by decide)) h.symm hx
  · obtain ⟨r, hr, hx'⟩ := hx.step 1 (by decide) h
    obtain rfl : r = 0 := by omega
    exact s30_0_0_0 xs h hx'
theorem s31_0_0 (xs : List Int) (hn : 2 ≤ xs.length) (hx : Hyp xs [(2, 0), (2, 0)]) : Good 2 1 xs := by
  rcases Nat.eq_or_lt_of_le hn with h | h
  · exact good_n o31_0_0_0 r31_0_0 (fun h => absurd h (by decide)) h.symm hx
  · obtain ⟨r, hr, hx'⟩ := hx.step 2 (by decide) h
    obtain rfl | rfl : r = 0 ∨ r = 1 := by omega
    · exact s31_0_0_0 xs h hx'
    · exact s31_0_0_1 xs h hx'
theorem s31_0_1 (xs : List Int) (hn : 2 ≤ xs.length) (hx : Hyp xs [(2, 0), (2, 1)]) : Good 2 1 xs := by
  rcases Nat.eq_or_lt_of_le hn with h | h
  · exact good_n o31_0_1_0 r31_0_1 (fun h => absurd h (by decide)) h.symm hx
  · obtain ⟨r, hr, hx'⟩ := hx.step 2 (by decide) h
    obtain rfl | rfl : r = 0 ∨ r = 1 := by omega
    · exact s31_0_1_0 xs h hx'
    · exact s31_0_1_1 xs h hx'
theorem s31_1_0 (xs : List Int) (hn : 2 ≤ xs.length) (hx : Hyp xs [(2, 1), (2, 0)]) : Good 2 1 xs := by
  rcases Nat.eq_or_lt_of_le hn with h | h
  · exact good_n o31_1_0_0 r31_1_0 (fun h => absurd h (by decide)) h.symm hx
  · obtain ⟨r, hr, hx'⟩ := hx.step 2 (by decide) h
    obtain rfl | rfl : r = 0 ∨ r = 1 := by omega
    · exact s31_1_0_0 xs h hx'
    · exact s31_1_0_1 xs h hx'
theorem s31_1_1 (xs : List Int) (hn : 2 ≤ xs.length) (hx : Hyp xs [(2, 1), (2, 1)]) : Good 2 1 xs := by
  rcases Nat.eq_or_lt_of_le hn with h | h
  · exact good_n o31_1_1_0 r31_1_1 (fun h => absurd h (by decide)) h.symm hx
  · obtain ⟨r, hr, hx'⟩ := hx.step 2 (by decide) h
    obtain rfl | rfl : r = 0 ∨ r = 1 := by omega
    · exact s31_1_1_0 xs h hx'
    · exact s31_1_1_1 xs h hx'
theorem s32_0_0 (xs : List Int) (hn : 2 ≤ xs.length) (hx : Hyp xs [(2, 0), (2, 0)]) : Good 2 2 xs := by
  rcases Nat.eq_or_lt_of_le hn with h | h
  · exact good_n o32_0_0_0 r32_0_0 (fun h => absurd h (by decide)) h.symm hx
  · obtain ⟨r, hr, hx'⟩ := hx.step 2 (by decide) h
    obtain rfl | rfl : r = 0 ∨ r = 1 := by omega
    · exact s32_0_0_0 xs h hx'
    · exact s32_0_0_1 xs h hx'
theorem s32_0_1 (xs : List Int) (hn : 2 ≤ xs.length) (hx : Hyp xs [(2, 0), (2, 1)]) : Good 2 2 xs := by
  rcases Nat.eq_or_lt_of_le hn with h | h
  · exact good_n o32_0_1_0 r32_0_1 (fun h => absurd h (by decide)) h.symm hx
  · obtain ⟨r, hr, hx'⟩ := hx.step 3 (by decide) h
    obtain rfl | rfl | rfl : r = 0 ∨ r = 1 ∨ r = 2 := by omega
    · exact s32_0_1_0 xs h hx'
    · exact s32_0_1_1 xs h hx'
    · exact s32_0_1_2 xs h hx'
theorem s32_1_0 (xs : List Int) (hn : 2 ≤ xs.length) (hx : Hyp xs [(2, 1), (3, 0)]) : Good 2 2 xs := by
  rcases Nat.eq_or_lt_of_le hn with h | h
  · exact good_n o32_1_0_0 r32_1_0 (fun h => absurd h (by decide)) h.symm hx
  · obtain ⟨r, hr, hx'⟩ := hx.step 3 (by decide) h
    obtain rfl | rfl | rfl : r = 0 ∨ r = 1 ∨ r = 2 := by omega
    · exact s32_1_0_0 xs h hx'
    · exact s32_1_0_1 xs h hx'
    · exact s32_1_0_2 xs h hx'
theorem s32_1_1 (xs : List Int) (hn : 2 ≤ xs.length) (hx : Hyp xs [(2, 1), (3, 1)]) : Good 2 2 xs := by
  rcases Nat.eq_or_lt_of_le hn with h | h
  · exact good_n o32_1_1_0 r32_1_1 (fun h => absurd h (by decide)) h.symm hx
  · obtain ⟨r, hr, hx'⟩ := hx.step 3 (by decide) h
    obtain rfl | rfl | rfl : r = 0 ∨ r = 1 ∨ r = 2 := by omega
    · exact s32_1_1_0 xs h hx'
    · exact s32_1_1_1 xs h hx'
    · exact s32_1_1_2 xs h hx'
theorem s32_1_2 (xs : List Int) (hn : 2 ≤ xs.length) (hx : Hyp xs [(2, 1), (3, 2)]) : Good 2 2 xs := by
  rcases Nat.eq_or_lt_of_le hn with h | h
  · exact good_n o32_1_2_0 r32_1_2 (fun h => absurd h (by decide)) h.symm hx
  · obtain ⟨r, hr, hx'⟩ := hx.step 3 (by decide) h
    obtain rfl | rfl | rfl : r = 0 ∨ r = 1 ∨ r = 2 := by omega
    · exact s32_1_2_0 xs h hx'
    · exact s32_1_2_1 xs h hx'
    · exact s32_1_2_2 xs h hx'
theorem s33_0_0 (xs : List Int) (hn : 2 ≤ xs.length) (hx : Hyp xs [(2, 0), (2, 0)]) : Good 2 3 xs := by
  rcases Nat.eq_or_lt_of_le hn with h | h
  · exact good_n o33_0_0_0 r33_0_0 (fun h => absurd h (by decide)) h.symm hx
  · obtain ⟨r, hr, hx'⟩ := hx.step 2 (by decide) h
    obtain rfl | rfl : r = 0 ∨ r = 1 := by omega
    · exact s33_0_0_0 xs h hx'
    · exact s33_0_0_1 xs h hx'
theorem s33_0_1 (xs : List Int) (hn : 2 ≤ xs.length) (hx : Hyp xs [(2, 0), (2, 1)]) : Good 2 3 xs := by
  rcases Nat.eq_or_lt_of_le hn with h | h
  · exact good_n o33_0_1_0 r33_0_1 (fun h => absurd h (by decide)) h.symm hx
  · obtain ⟨r, hr, hx'⟩ := hx.step 3 (by decide) h
    obtain rfl | rfl | rfl : r = 0 ∨ r = 1 ∨ r = 2 := by omega
    · exact s33_0_1_0 xs h hx'
    · exact s33_0_1_1 xs h hx'
    · exact s33_0_1_2 xs h hx'
theorem s33_1_0 (xs : List Int) (hn : 2 ≤ xs.length) (hx : Hyp xs [(2, 1), (3, 0)]) : Good 2 3 xs := by
  rcases Nat.eq_or_lt_of_le hn with h | h
  · exact good_n o33_1_0_0 r33_1_0 (fun h => absurd h (by decide)) h.symm hx
  · obtain ⟨r, hr, hx'⟩ := hx.step 3 (by decide) h
    obtain rfl | rfl | rfl : r = 0 ∨ r = 1 ∨ r = 2 := by omega
    · exact s33_1_0_0 xs h hx'
    · exact s33_1_0_1 xs h hx'
    · exact s33_1_0_2 xs h hx'
theorem s33_1_1 (xs : List Int) (hn : 2 ≤ xs.length) (hx : Hyp xs [(2, 1), (3, 1)]) : Good 2 3 xs := by
  rcases Nat.eq_or_lt_of_le hn with h | h
  · exact good_n o33_1_1_0 r33_1_1 (fun h => absurd h (by decide)) h.symm hx
  · obtain ⟨r, hr, hx'⟩ := hx.step 3 (by decide) h
    obtain rfl | rfl | rfl : r = 0 ∨ r = 1 ∨ r = 2 := by omega
    · exact s33_1_1_0 xs h hx'
    · exact s33_1_1_1 xs h hx'
    · exact s33_1_1_2 xs h hx'
theorem s33_1_2 (xs : List Int) (hn : 2 ≤ xs.length) (hx : Hyp xs [(2, 1), (3, 2)]) : Good 2 3 xs := by
  rcases Nat.eq_or_lt_of_le hn with h | h
  · exact good_n o33_1_2_0 r33_1_2 (fun h => absurd h (by decide)) h.symm hx
  · obtain ⟨r, hr, hx'⟩ := hx.step 4 (by decide) h
    obtain rfl | rfl | rfl | rfl : r = 0 ∨ r = 1 ∨ r = 2 ∨ r = 3 := by omega
    · exact s33_1_2_0 xs h hx'
    · exact s33_1_2_1 xs h hx'
    · exact s33_1_2_2 xs h hx'
    · exact s33_1_2_3 xs h hx'
theorem s40_0_0 (xs : List Int) (hn : 2 ≤ xs.length) (hx : Hyp xs [(1, 0), (1, 0)]) : Good 3 0 xs := by
  rcases Nat.eq_or_lt_of_le hn with h | h
  · exact good_n o40_0_0_0_0 r40_0_0 (fun h => absurd h (by decide)) h.symm hx
  · obtain ⟨r, hr, hx'⟩ := hx.step 1 (by decide) h
    obtain rfl : r = 0 := by omega
    exact s40_0_0_0 xs h hx'
theorem s41_0_0 (xs : List Int) (hn : 2 ≤ xs.length) (hx : Hyp xs [(2, 0), (2, 0)]) : Good 3 1 xs := by
  rcases Nat.eq_or_lt_of_le hn with h | h
  · exact good_n o41_0_0_0_0 r41_0_0 (fun h => absurd h (by decide)) h.symm hx
  · obtain ⟨r, hr, hx'⟩ := hx.step 2 (by decide) h
    obtain rfl | rfl : r = 0 ∨ r = 1 := by omega
    · exact s41_0_0_0 xs h hx'
    · exact s41_0_0_1 xs h hx'
theorem s41_0_1 (xs : List Int) (hn : 2 ≤ xs.length) (hx : Hyp xs [(2, 0), (2, 1)]) : Good 3 1 xs := by
  rcases Nat.eq_or_lt_of_le hn with h | h
  · exact good_n o41_0_1_0_0 r41_0_1 (fun h => absurd h (by decide)) h.symm hx
  · obtain ⟨r, hr, hx'⟩ := hx.step 2 (by decide) h
    obtain rfl | rfl : r = 0 ∨ r = 1 := by omega
    · exact s41_0_1_0 xs h hx'
    · exact s41_0_1_1 xs h hx'
theorem s41_1_0 (xs : List Int) (hn : 2 ≤ xs.length) (hx : Hyp xs [(2, 1), (2, 0)]) : Good 3 1 xs := by
  rcases Nat.eq_or_lt_of_le hn with h | h
  · exact good_n o41_1_0_0_0 r41_1_0 (fun h => absurd h (by decide)) h.symm hx
  · obtain ⟨r, hr, hx'⟩ := hx.step 2 (by decide) h
    obtain rfl | rfl : r = 0 ∨ r = 1 := by omega
    · exact s41_1_0_0 xs h hx'
    · exact s41_1_0_1 xs h hx'
theorem s41_1_1 (xs : List Int) (hn : 2 ≤ xs.length) (hx : Hyp xs [(2, 1), (2, 1)]) : Good 3 1 xs := by
  rcases Nat.eq_or_lt_of_le hn with h | h
  · exact good_n o41_1_1_0_0 r41_1_1 (fun h => absurd h (by decide)) h.symm hx
  · obtain ⟨r, hr, hx'⟩ := hx.step 2 (by decide) h
    obtain rfl | rfl : r = 0 ∨ r = 1 := by omega
    · exact s41_1_1_0 xs h hx'
    · exact s41_1_1_1 xs h hx'
theorem s42_0_0 (xs : List Int) (hn : 2 ≤ xs.length) (hx : Hyp xs [(2, 0), (2, 0)]) : Good 3 2 xs := by
  rcases Nat.eq_or_lt_of_le hn with h | h
  · exact good_n o42_0_0_0_0 r42_0_0 (fun h => absurd h (by decide)) h.symm hx
  · obtain ⟨r, hr, hx'⟩ := hx.step 2 (by decide) h
    obtain rfl | rfl : r = 0 ∨ r = 1 := by omega
    · exact s42_0_0_0 xs h hx'
    · exact s42_0_0_1 xs h hx'
theorem s42_0_1 (xs : List Int) (hn : 2 ≤ xs.length) (hx : Hyp xs [(2, 0), (2, 1)]) : Good 3 2 xs := by
  rcases Nat.eq_or_lt_of_le hn with h | h
  · exact good_n o42_0_1_0_0 r42_0_1 (fun h => absurd h (by decide)) h.symm hx
  · obtain ⟨r, hr, hx'⟩ := hx.step 3 (by decide) h
    obtain rfl | rfl | rfl : r = 0 ∨ r = 1 ∨ r = 2 := by omega
    · exact s42_0_1_0 xs h hx'
    · exact s42_0_1_1 xs h hx'
    · exact s42_0_1_2 xs h hx'
theorem s42_1_0 (xs : List Int) (hn : 2 ≤ xs.length) (hx : Hyp xs [(2, 1), (3, 0)]) : Good 3 2 xs := by
  rcases Nat.eq_or_lt_of_le hn with h | h
  · exact good_n o42_1_0_0_0 r42_1_0 (fun h => absurd h (by decide)) h.symm hx
  · obtain ⟨r, hr, hx'⟩ := hx.step 3 (by decide) h
    obtain rfl | rfl | rfl : r = 0 ∨ r = 1 ∨ r = 2 := by omega
    · exact s42_1_0_0 xs h hx'
    · exact s42_1_0_1 xs h hx'
    · exact s42_1_0_2 xs h hx'
theorem s42_1_1 (xs : List Int) (hn : 2 ≤ xs.length) (hx : Hyp xs [(2, 1), (3, 1)]) : Good 3 2 xs := by
  rcases Nat.eq_or_lt_of_le hn with h | h
  · exact good_n o42_1_1_0_0 r42_1_1 (fun h => absurd h (by decide)) h.symm hx
  · obtain ⟨r, hr, hx'⟩ := hx.step 3 (by decide) h
    obtain rfl | rfl | rfl : r = 0 ∨ r = 1 ∨ r = 2 := by omega
    · exact s42_1_1_0 xs h hx'
    · exact s42_1_1_1 xs h hx'
    · exact s42_1_1_2 xs h hx'
theorem s42_1_2 (xs : List Int) (hn : 2 ≤ xs.length) (hx : Hyp xs [(2, 1), (3, 2)]) : Good 3 2 xs := by
  rcases Nat.eq_or_lt_of_le hn with h | h
  · exact good_n o42_1_2_0_0 r42_1_2 (fun h => absurd h (by decide)) h.symm hx
  · obtain ⟨r, hr, hx'⟩ := hx.step 3 (by decide) h
    obtain rfl | rfl | rfl : r = 0 ∨ r = 1 ∨ r = 2 := by omega
    · exact s42_1_2_0 xs h hx'
    · exact s42_1_2_1 xs h hx'
    · exact s42_1_2_2 xs h hx'
theorem s43_0_0 (xs : List Int) (hn : 2 ≤ xs.length) (hx : Hyp xs [(2, 0), (2, 0)]) : Good 3 3 xs := by
  rcases Nat.eq_or_lt_of_le hn with h | h
  · exact good_n o43_0_0_0_0 r43_0_0 (fun h => absurd h (by decide)) h.symm hx
  · obtain ⟨r, hr, hx'⟩ := hx.step 2 (by decide) h
    obtain rfl | rfl : r = 0 ∨ r = 1 := by omega
    · exact s43_0_0_0 xs h hx'
    · exact s43_0_0_1 xs h hx'
theorem s43_0_1 (xs : List Int) (hn : 2 ≤ xs.length) (hx : Hyp xs [(2, 0), (2, 1)]) : Good 3 3 xs := by
  rcases Nat.eq_or_lt_of_le hn with h | h
  · exact good_n o43_0_1_0_0 r43_0_1 (fun h => absurd h (by decide)) h.symm hx
  · obtain ⟨r, hr, hx'⟩ := hx.step 3 (by decide) h
    obtain rfl | rfl | rfl : r = 0 ∨ r = 1 ∨ r = 2 := by omega
    · exact s43_0_1_0 xs h hx'
    · exact s43_0_1_1 xs h hx'
    · exact s43_0_1_2 xs h hx'
theorem s43_1_0 (xs : List Int) (hn : 2 ≤ xs.length) (hx : Hyp xs [(2, 1), (3, 0)]) : Good 3 3 xs := by
  rcases Nat.eq_or_lt_of_le hn with h | h
  · exact good_n o43_1_0_0_0 r43_1_0 (fun h => absurd h (by decide)) h.symm hx
  · obtain ⟨r, hr, hx'⟩ := hx.step 3 (by decide) h
    obtain rfl | rfl | rfl : r = 0 ∨ r = 1 ∨ r = 2 := by omega
    · exact s43_1_0_0 xs h hx'
    · exact s43_1_0_1 xs h hx'
    · exact s43_1_0_2 xs h hx'
theorem s43_1_1 (xs : List Int) (hn : 2 ≤ xs.length) (hx : Hyp xs [(2, 1), (3, 1)]) : Good 3 3 xs := by
  rcases Nat.eq_or_lt_of_le hn with h | h
  · exact good_n o43_1_1_0_0 r43_1_1 (fun h => absurd h (by decide)) h.symm hx
  · obtain ⟨r, hr, hx'⟩ := hx.step 3 (by decide) h
    obtain rfl | rfl | rfl : r = 0 ∨ r = 1 ∨ r = 2 := by omega
    · exact s43_1_1_0 xs h hx'
    · exact s43_1_1_1 xs h hx'
    · exact s43_1_1_2 xs h hx'
theorem s43_1_2 (xs : List Int) (hn : 2 ≤ xs.length) (hx : Hyp xs [(2, 1), (3, 2)]) : Good 3 3 xs := by
  rcases Nat.eq_or_lt_of_le hn with h | h
  · exact good_n o43_1_2_0_0 r43_1_2 (fun h => absurd h (by decide)) h.symm hx
  · obtain ⟨r, hr, hx'⟩ := hx.step 4 (by decide) h
    obtain rfl | rfl | rfl | rfl : r = 0 ∨ r = 1 ∨ r = 2 ∨ r = 3 := by omega
    · exact s43_1_2_0 xs h hx'
    · exact s43_1_2_1 xs h hx'
    · exact s43_1_2_2 xs h hx'
    · exact s43_1_2_3 xs h hx'
theorem s10_0 (xs : List Int) (hn : 1 ≤ xs.length) (hx : Hyp xs [(1, 0)]) : Good 0 0 xs := good_m o10_0 r10_0 (by decide) hn hx
theorem s11_0 (xs : List Int) (hn : 1 ≤ xs.length) (hx : Hyp xs [(2, 0)]) : Good 0 1 xs := good_m o11_0 r11_0 (by decide) hn hx
theorem s11_1 (xs : List Int) (hn : 1 ≤ xs.length) (hx : Hyp xs [(2, 1)]) : Good 0 1 xs := good_m o11_1 r11_1 (by decide) hn hx
theorem s12_0 (xs : List Int) (hn : 1 ≤ xs.length) (hx : Hyp xs [(2, 0)]) : Good 0 2 xs := good_m o12_0 r12_0 (by decide) hn hx
theorem s12_1 (xs : List Int) (hn : 1 ≤ xs.length) (hx : Hyp xs [(2, 1)]) : Good 0 2 xs := good_m o12_1 r12_1 (by decide) hn hx
theorem s13_0 (xs : List Int) (hn : 1 ≤ xs.length) (hx : Hyp xs [(2, 0)]) : Good 0 3 xs := good_m o13_0 r13_0 (by decide) hn hx
theorem s13_1 (xs : List Int) (hn : 1 ≤ xs.length) (hx : Hyp xs [(2, 1)]) : Good 0 3 xs := good_m o13_1 r13_1 (by decide) hn hx
theorem s20_0 (xs : List Int) (hn : 1 ≤ xs.length) (hx : Hyp xs [(1, 0)]) : Good 1 0 xs := by
  rcases Nat.eq_or_lt_of_le hn with h | h
  · exact good_n o20_0_0 r20_0 (fun h => absurd h (by decide)) h.symm hx
  · obtain ⟨r, hr, hx'⟩ := hx.step 1 (by decide) h
    obtain rfl : r = 0 := by omega
    exact s20_0_0 xs h hx'
theorem s21_0 (xs : List Int) (hn : 1 ≤ xs.length) (hx : Hyp xs [(2, 0)]) : Good 1 1 xs := by
  rcases Nat.eq_or_lt_of_le hn with h | h
  · exact good_n o21_0_0 r21_0 (fun h => absurd h (by decide)) h.symm hx
  · obtain ⟨r, hr, hx'⟩ := hx.step 2 (by decide) h
    obtain rfl | rfl : r = 0 ∨ r = 1 := by omega
    · exact s21_0_0 xs h hx'
    · exact s21_0_1 xs h hx'
theorem s21_1 (xs : List Int) (hn : 1 ≤ xs.length) (hx : Hyp xs [(2, 1)]) : Good 1 1 xs := by
  rcases Nat.eq_or_lt_of_le hn with h | h
  · exact good_n o21_1_0 r21_1 (fun h => absurd h (by decide)) h.symm hx
  · obtain ⟨r, hr, hx'⟩ := hx.step 2 (by decide) h
    obtain rfl | rfl : r = 0 ∨ r = 1 := by omega
    · exact s21_1_0 xs h hx'
    · exact s21_1_1 xs h hx'
theorem s22_0 (xs : List Int) (hn : 1 ≤ xs.length) (hx : Hyp xs [(2, 0)]) : Good 1 2 xs := by
  rcases Nat.eq_or_lt_of_le hn with h | h
  · exact good_n o22_0_0 r22_0 (fun h => absurd h (by decide)) h.symm hx
  · obtain ⟨r, hr, hx'⟩ := hx.step 2 (by decide) h
    obtain rfl | rfl : r = 0 ∨ r = 1 := by omega
    · exact s22_0_0 xs h hx'
    · exact s22_0_1 xs h hx'
theorem s22_1 (xs : List Int) (hn : 1 ≤ xs.length) (hx : Hyp xs [(2, 1)]) : Good 1 2 xs := by
  rcases Nat.eq_or_lt_of_le hn with h | h
  · exact good_n o22_1_0 r22_1 (fun h => absurd h (by decide)) h.symm hx
  · obtain ⟨r, hr, hx'⟩ := hx.step 3 (by decide) h
    obtain rfl | rfl | rfl : r = 0 ∨ r = 1 ∨ r = 2 := by omega
    · exact s22_1_0 xs h hx'
    · exact s22_1_1 xs h hx'
    · exact s22_1_2 xs h hx'
theorem s23_0 (xs : List Int) (hn : 1 ≤ xs.length) (hx : Hyp xs [(2, 0)]) : Good 1 3 xs := by
  rcases Nat.eq_or_lt_of_le hn with h | h
  · exact good_n o23_0_0 r23_0 (fun h => absurd h (by decide)) h.symm hx
  · obtain ⟨r, hr, hx'⟩ := hx.step 2 (by decide) h
    obtain rfl | rfl : r = 0 ∨ r = 1 := by omega
    · exact s23_0_0 xs h hx'
    · exact s23_0_1 xs h hx'
theorem s23_1 (xs : List Int) (hn : 1 ≤ xs.length) (hx : Hyp xs [(2, 1)]) : Good 1 3 xs := by
  rcases Nat.eq_or_lt_of_le hn with h | h
  · exact good_n o23_1_0 r23_1 (fun h => absurd h (by decide)) h.symm hx
  · obtain ⟨r, hr, hx'⟩ := hx.step 3 (by decide) h
    obtain rfl | rfl | rfl : r = 0 ∨ r = 1 ∨ r = 2 := by omega
    · exact s23_1_0 xs h hx'
    · exact s23_1_1 xs h hx'
    · exact s23_1_2 xs h hx'
theorem s30_0 (xs : List Int) (hn : 1 ≤ xs.length) (hx : Hyp xs [(1, 0)]) : Good 2 0 xs := by
  rcases Nat.eq_or_lt_of_le hn with h | h
  · exact good_n o30_0_0_0 r30_0 (fun h => absurd h (by decide)) h.symm hx
  · obtain ⟨r, hr, hx'⟩ := hx.step 1 (by decide) h
    obtain rfl : r = 0 := by omega
    exact s30_0_0 xs h hx'
theorem s31_0 (xs : List Int) (hn : 1 ≤ xs.length) (hx : Hyp xs [(2, 0)]) : Good 2 1 xs := by
  rcases Nat.eq_or_lt_of_le hn with h | h
  · exact good_n o31_0_0_0 r31_0 (fun h => absurd h (by decide)) h.symm hx
  · obtain ⟨r, hr, hx'⟩ := hx.step 2 (by decide) h
    obtain rfl | rfl : r = 0 ∨ r = 1 := by omega
    · exact s31_0_0 xs h hx'
    · exact s31_0_1 xs h hx'
theorem s31_1 (xs : List Int) (hn : 1 ≤ xs.length) (hx : Hyp xs [(2, 1)]) : Good 2 1 xs := by
  rcases Nat.eq_or_lt_of_le hn with h | h
  · exact good_n o31_1_0_0 r31_1 (fun h => absurd h (by decide)) h.symm hx
  · obtain ⟨r, hr, hx'⟩ := hx.step 2 (by decide) h
    obtain rfl | rfl : r = 0 ∨ r = 1 := by omega
    · exact s31_1_0 xs h hx'
    · exact s31_1_1 xs h hx'
theorem s32_0 (xs : List Int) (hn : 1 ≤ xs.length) (hx : Hyp xs [(2, 0)]) : Good 2 2 xs := by
  rcases Nat.eq_or_lt_of_le hn with h | h
  · exact good_n o32_0_0_0 r32_0 (fun h => absurd h (by decide)) h.symm hx
  · obtain ⟨r, hr, hx'⟩ := hx.step 2 (by decide) h
    obtain rfl | rfl : r = 0 ∨ r = 1 := by omega
    · exact s32_0_0 xs h hx'
    · exact s32_0_1 xs h hx'
theorem s32_1 (xs : List Int) (hn : 1 ≤ xs.length) (hx : Hyp xs [(2, 1)]) : Good 2 2 xs := by
  rcases Nat.eq_or_lt_of_le hn with h | h
  · exact good_n o32_1_0_0 r32_1 (fun h => absurd h (by decide)) h.symm hx
  · obtain ⟨r, hr, hx'⟩ := hx.step 3 (by decide) h
    obtain rfl | rfl | rfl : r = 0 ∨ r = 1 ∨ r = 2 := by omega
    · exact s32_1_0 xs h hx'
    · exact s32_1_1 xs h hx'
    · exact s32_1_2 xs h hx'
theorem s33_0 (xs : List Int) (hn : 1 ≤ xs.length) (hx : Hyp xs [(2, 0)]) : Good 2 3 xs := by
  rcases Nat.eq_or_lt_of_le hn with h | h
  · exact good_n o33_0_0_0 r33_0 (fun h => absurd h (by decide)) h.symm hx
  · obtain ⟨r, hr, hx'⟩ := hx.step 2 (by decide) h
    obtain rfl | rfl : r = 0 ∨ r = 1 := by omega
    · exact s33_0_0 xs h hx'
    · exact s33_0_1 xs h hx'
theorem s33_1 (xs : List Int) (hn : 1 ≤ xs.length) (hx : Hyp xs [(2, 1)]) : Good 2 3 xs := by
  rcases Nat.eq_or_lt_of_le hn with h | h
  · exact good_n o33_1_0_0 r33_1 (fun h => absurd h (by decide)) h.symm hx
  · obtain ⟨r, hr, hx'⟩ := hx.step 3 (by decide) h
    obtain rfl | rfl | rfl : r = 0 ∨ r = 1 ∨ r = 2 := by omega
    · exact s33_1_0 xs h hx'
    · exact s33_1_1 xs h hx'
    · exact s33_1_2 xs h hx'
theorem s40_0 (xs : List Int) (hn : 1 ≤ xs.length) (hx : Hyp xs [(1, 0)]) : Good 3 0 xs := by
  rcases Nat.eq_or_lt_of_le hn with h | h
  · exact good_n o40_0_0_0_0 r40_0 (fun h => absurd h (by decide)) h.symm hx
  · obtain ⟨r, hr, hx'⟩ := hx.step 1 (by decide) h
    obtain rfl : r = 0 := by omega
    exact s40_0_0 xs h hx'
theorem s41_0 (xs : List Int) (hn : 1 ≤ xs.length) (hx : Hyp xs [(2, 0)]) : Good 3 1 xs := by
  rcases Nat.eq_or_lt_of_le hn with h | h
  · exact good_n o41_0_0_0_0 r41_0 (fun h => absurd h (by decide)) h.symm hx
  · obtain ⟨r, hr, hx'⟩ := hx.step 2 (by decide) h
    obtain rfl | rfl : r = 0 ∨ r = 1 := by omega
    · exact s41_0_0 xs h hx'
    · exact s41_0_1 xs h hx'
theorem s41_1 (xs : List Int) (hn : 1 ≤ xs.length) (hx : Hyp xs [(2, 1)]) : Good 3 1 xs := by
  rcases Nat.eq_or_lt_of_le hn with h | h
  · exact good_n o41_1_0_0_0 r41_1 (fun h => absurd h (by decide)) h.symm hx
  · obtain ⟨r, hr, hx'⟩ := hx.step 2 (by decide) h
    obtain rfl | rfl : r = 0 ∨ r = 1 := by omega
    · exact s41_1_0 xs h hx'
    · exact s41_1_1 xs h hx'
theorem s42_0 (xs : List Int) (hn : 1 ≤ xs.length) (hx : Hyp xs [(2, 0)]) : Good 3 2 xs := by
  rcases Nat.eq_or_lt_of_le hn with h | h
  · exact good_n o42_0_0_0_0 r42_0 (fun h => absurd h (by decide)) h.symm hx
  · obtain ⟨r, hr, hx'⟩ := hx.step 2 (by decide) h
    obtain rfl | rfl : r = 0 ∨ r = 1 := by omega
    · exact s42_0_0 xs h hx'
    · exact s42_0_1 xs h hx'
theorem s42_1 (xs : List Int) (hn : 1 ≤ xs.length) (hx : Hyp xs [(2, 1)]) : Good 3 2 xs := by
  rcases Nat.eq_or_lt_of_le hn with h | h
  · exact good_n o42_1_0_0_0 r42_1 (fun h => absurd h (by decide)) h.symm hx
  · obtain ⟨r, hr, hx'⟩ := hx.step 3 (by decide) h
    obtain rfl | rfl | rfl : r = 0 ∨ r = 1 ∨ r = 2 := by omega
    · exact s42_1_0 xs h hx'
    · exact s42_1_1 xs h hx'
    · exact s42_1_2 xs h hx'
theorem s43_0 (xs : List Int) (hn : 1 ≤ xs.length) (hx : Hyp xs [(2, 0)]) : Good 3 3 xs := by
  rcases Nat.eq_or_lt_of_le hn with h | h
  · exact good_n o43_0_0_0_0 r43_0 (fun h => absurd h (by decide)) h.symm hx
  · obtain ⟨r, hr, hx'⟩ := hx.step 2 (by decide) h
    obtain rfl | rfl : r = 0 ∨ r = 1 := by omega
    · exact s43_0_0 xs h hx'
    · exact s43_0_1 xs h hx'
theorem s43_1 (xs : List Int) (hn : 1 ≤ xs.length) (hx : Hyp xs [(2, 1)]) : Good 3 3 xs := by
  rcases Nat.eq_or_lt_of_le hn with h | h
  · exact good_n o43_1_0_0_0 r43_1 (fun h => absurd h (by decide)) h.symm hx
  · obtain ⟨r, hr, hx'⟩ := hx.step 3 (by decide) h
    obtain rfl | rfl | rfl : r = 0 ∨ r = 1 ∨ r = 2 := by omega
    · exact s43_1_0 xs h hx'
    · exact s43_1_1 xs h hx'
    · exact s43_1_2 xs h hx'
theorem s10 (xs : List Int) (hn : 0 ≤ xs.length) (hx : Hyp xs []) : Good 0 0 xs := by
  rcases Nat.eq_or_lt_of_le hn with h | h
  · exact good_n o10_0 r10 (fun _ => z10) h.symm hx
  · obtain ⟨r, hr, hx'⟩ := hx.step 1 (by decide) h
    obtain rfl : r = 0 := by omega
    exact s10_0 xs h hx'
theorem s11 (xs : List Int) (hn : 0 ≤ xs.length) (hx : Hyp xs []) : Good 0 1 xs := by
  rcases Nat.eq_or_lt_of_le hn with h | h
  · exact good_n o11_0 r11 (fun _ => z11) h.symm hx
  · obtain ⟨r, hr, hx'⟩ := hx.step 2 (by decide) h
    obtain rfl | rfl : r = 0 ∨ r = 1 := by omega
    · exact s11_0 xs h hx'
    · exact s11_1 xs h hx'
theorem s12 (xs : List Int) (hn : 0 ≤ xs.length) (hx : Hyp xs []) : Good 0 2 xs := by
  rcases Nat.eq_or_lt_of_le hn with h | h
  · exact good_n o12_0 r12 (fun _ => z12) h.symm hx
  · obtain ⟨r, hr, hx'⟩ := hx.step 2 (by decide) h
    obtain rfl | rfl : r = 0 ∨ r = 1 := by omega
    · exact s12_0 xs h hx'
    · exact s12_1 xs h hx'
theorem s13 (xs : List Int) (hn : 0 ≤ xs.length) (hx : Hyp xs []) : Good 0 3 xs := by
  rcases Nat.eq_or_lt_of_le hn with h | h
  · exact good_n o13_0 r13 (fun _ => z13) h.symm hx
  · obtain ⟨r, hr, hx'⟩ := hx.step 2 (by decide) h
    obtain rfl | rfl : r = 0 ∨ r = 1 := by omega
    · exact s13_0 xs h hx'
    · exact s13_1 xs h hx'
theorem s20 (xs : List Int) (hn : 0 ≤ xs.length) (hx : Hyp xs []) : Good 1 0 xs := by
  rcases Nat.eq_or_lt_of_le hn with h | h
  · exact good_n o20_0_0 r20 (fun _ => z20) h.symm hx
  · obtain ⟨r, hr, hx'⟩ := hx.step 1 (by decide) h
    obtain rfl : r = 0 := by omega
    exact s20_0 xs h hx'
theorem s21 (xs : List Int) (hn : 0 ≤ xs.length) (hx : Hyp xs []) : Good 1 1 xs := by
  rcases Nat.eq_or_lt_of_le hn with h | h
  · exact good_n o21_0_0 r21 (fun _ => z21) h.symm hx
  · obtain ⟨r, hr, hx'⟩ := hx.step 2 (by decide) h
    obtain rfl | rfl : r = 0 ∨ r = 1 := by omega
    · exact s21_0 xs h hx'
    · exact s21_1 xs h hx'
theorem s22 (xs : List Int) (hn : 0 ≤ xs.length) (hx : Hyp xs []) : Good 1 2 xs := by
  rcases Nat.eq_or_lt_of_le hn with h | h
  · exact good_n o22_0_0 r22 (fun _ => z22) h.symm hx
  · obtain ⟨r, hr, hx'⟩ := hx.step 2 (by decide) h
    obtain rfl | rfl : r = 0 ∨ r = 1 := by omega
    · exact s22_0 xs h hx'
    · exact s22_1 xs h hx'
theorem s23 (xs : List Int) (hn : 0 ≤ xs.length) (hx : Hyp xs []) : Good 1 3 xs := by
  rcases Nat.eq_or_lt_of_le hn with h | h
  · exact good_n o23_0_0 r23 (fun _ => z23) h.symm hx
  · obtain ⟨r, hr, hx'⟩ := hx.step 2 (by decide) h
    obtain rfl | rfl : r = 0 ∨ r = 1 := by omega
    · exact s23_0 xs h hx'
    · exact s23_1 xs h hx'
theorem s30 (xs : List Int) (hn : 0 ≤ xs.length) (hx : Hyp xs []) : Good 2 0 xs := by
  rcases Nat.eq_or_lt_of_le hn with h | h
  · exact good_n o30_0_0_0 r30 (fun _ => z30) h.symm hx
  · obtain ⟨r, hr, hx'⟩ := hx.step 1 (by decide) h
    obtain rfl : r = 0 := by omega
    exact s30_0 xs h hx'
theorem s31 (xs : List Int) (hn : 0 ≤ xs.length) (hx : Hyp xs []) : Good 2 1 xs := by
  rcases Nat.eq_or_lt_of_le hn with h | h
  · exact good_n o31_0_0_0 r31 (fun _ => z31) h.symm hx
  · obtain ⟨r, hr, hx'⟩ := hx.step 2 (by decide) h
    obtain rfl | rfl : r = 0 ∨ r = 1 := by omega
    · exact s31_0 xs h hx'
    · exact s31_1 xs h hx'
theorem s32 (xs : List Int) (hn : 0 ≤ xs.length) (hx : Hyp xs []) : Good 2 2 xs := by
  rcases Nat.eq_or_lt_of_le hn with h | h
  · exact good_n o32_0_0_0 r32 (fun _ => z32) h.symm hx
  · obtain ⟨r, hr, hx'⟩ := hx.step 2 (by decide) h
    obtain rfl | rfl : r = 0 ∨ r = 1 := by omega
    · exact s32_0 xs h hx'
    · exact s32_1 xs h hx'
theorem s33 (xs : List Int) (hn : 0 ≤ xs.length) (hx : Hyp xs []) : Good 2 3 xs := by
  rcases Nat.eq_or_lt_of_le hn with h | h
  · exact good_n o33_0_0_0 r33 (fun _ => z33) h.symm hx
  · obtain ⟨r, hr, hx'⟩ := hx.step 2 (by decide) h
    obtain rfl | rfl : r = 0 ∨ r = 1 := by omega
    · exact s33_0 xs h hx'
    · exact s33_1 xs h hx'
theorem s40 (xs : List Int) (hn : 0 ≤ xs.length) (hx : Hyp xs []) : Good 3 0 xs := by
  rcases Nat.eq_or_lt_of_le hn with h | h
  · exact good_n o40_0_0_0_0 r40 (fun _ => z40) h.symm hx
  · obtain ⟨r, hr, hx'⟩ := hx.step 1 (by decide) h
    obtain rfl : r = 0 := by omega
    exact s40_0 xs h hx'
theorem s41 (xs : List Int) (hn : 0 ≤ xs.length) (hx : Hyp xs []) : Good 3 1 xs := by
  rcases Nat.eq_or_lt_of_le hn with h | h
  · exact good_n o41_0_0_0_0 r41 (fun _ => z41) h.symm hx
  · obtain ⟨r, hr, hx'⟩ := hx.step 2 (by decide) h
    obtain rfl | rfl : r = 0 ∨ r = 1 := by omega
    · exact s41_0 xs h hx'
    · exact s41_1 xs h hx'
theorem s42 (xs : List Int) (hn : 0 ≤ xs.length) (hx : Hyp xs []) : Good 3 2 xs := by
  rcases Nat.eq_or_lt_of_le hn with h | h
  · exact good_n o42_0_0_0_0 r42 (fun _ => z42) h.symm hx
  · obtain ⟨r, hr, hx'⟩ := hx.step 2 (by decide) h
    obtain rfl | rfl : r = 0 ∨ r = 1 := by omega
    · exact s42_0 xs h hx'
    · exact s42_1 xs h hx'
theorem s43 (xs : List Int) (hn : 0 ≤ xs.length) (hx : Hyp xs []) : Good 3 3 xs := by
  rcases Nat.eq_or_lt_of_le hn with h | h
  · exact good_n o43_0_0_0_0 r43 (fun _ => z43) h.symm hx
  · obtain ⟨r, hr, hx'⟩ := hx.step 2 (by decide) h
    obtain rfl | rfl : r = 0 ∨ r = 1 := by omega
    · exact s43_0 xs h hx'
    · exact s43_1 xs h hx'
theorem good_all (K O : Nat) (hK : K < 4) (hO : O < 4) (xs : List Int) : Good K O xs := by
  obtain rfl | rfl | rfl | rfl : K = 0 ∨ K = 1 ∨ K = 2 ∨ K = 3 := by omega
  · obtain rfl | rfl | rfl | rfl : O = 0 ∨ O = 1 ∨ O = 2 ∨ O = 3 := by omega
    · exact s10 xs (Nat.zero_le _) (Hyp.nil xs)
    · exact s11 xs (Nat.zero_le _) (Hyp.nil xs)
    · exact s12 xs (Nat.zero_le _) (Hyp.nil xs)
    · exact s13 xs (Nat.zero_le _) (Hyp.nil xs)
  · obtain rfl | rfl | rfl | rfl : O = 0 ∨ O = 1 ∨ O = 2 ∨ O = 3 := by omega
    · exact s20 xs (Nat.zero_le _) (Hyp.nil xs)
    · exact s21 xs (Nat.zero_le _) (Hyp.nil xs)
    · exact s22 xs (Nat.zero_le _) (Hyp.nil xs)
    · exact s23 xs (Nat.zero_le _) (Hyp.nil xs)
  · obtain rfl | rfl | rfl | rfl : O = 0 ∨ O = 1 ∨ O = 2 ∨ O = 3 := by omega
    · exact s30 xs (Nat.zero_le _) (Hyp.nil xs)
    · exact s31 xs (Nat.zero_le _) (Hyp.nil xs)
    · exact s32 xs (Nat.zero_le _) (Hyp.nil xs)
    · exact s33 xs (Nat.zero_le _) (Hyp.nil xs)
  · obtain rfl | rfl | rfl | rfl : O = 0 ∨ O = 1 ∨ O = 2 ∨ O = 3 := by omega
    · exact s40 xs (Nat.zero_le _) (Hyp.nil xs)
    · exact s41 xs (Nat.zero_le _) (Hyp.nil xs)
    · exact s42 xs (Nat.zero_le _) (Hyp.nil xs)
    · exact s43 xs (Nat.zero_le _) (Hyp.nil xs)
end Go.Proofs.YtnoekfkfinjfgaaGreatDoor.Dx
