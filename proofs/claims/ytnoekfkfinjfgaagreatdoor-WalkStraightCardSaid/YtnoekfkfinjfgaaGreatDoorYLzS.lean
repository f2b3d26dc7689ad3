/- WalkStraight comes to true, whatever the numbers. No statement of this seat is proved here. -/
import Derived.Test.YtnoekfkfinjfgaaGreatDoorYSwS
import Derived.Test.YtnoekfkfinjfgaaGreatDoorYLw0
import Derived.Test.YtnoekfkfinjfgaaGreatDoorYLw1
import Derived.Test.YtnoekfkfinjfgaaGreatDoorYAt0
import Derived.Test.YtnoekfkfinjfgaaGreatDoorYAt1
import Derived.Test.YtnoekfkfinjfgaaGreatDoorYAt2
import Derived.Test.YtnoekfkfinjfgaaGreatDoorYAt3
import Derived.Test.YtnoekfkfinjfgaaGreatDoorYAt4
import Derived.Test.YtnoekfkfinjfgaaGreatDoorYAt5
import Derived.Test.YtnoekfkfinjfgaaGreatDoorYAt6
import Derived.Test.YtnoekfkfinjfgaaGreatDoorYAt7
import Derived.Test.YtnoekfkfinjfgaaGreatDoorYAt8
import Derived.Test.YtnoekfkfinjfgaaGreatDoorYAt9
import Derived.Test.YtnoekfkfinjfgaaGreatDoorYAt10
import Derived.Test.YtnoekfkfinjfgaaGreatDoorYAt11
import Derived.Test.YtnoekfkfinjfgaaGreatDoorYAt12
import Derived.Test.YtnoekfkfinjfgaaGreatDoorYAt13
import Derived.Test.YtnoekfkfinjfgaaGreatDoorYAt14
import Derived.Test.YtnoekfkfinjfgaaGreatDoorYAt15
import Derived.Test.YtnoekfkfinjfgaaGreatDoorYAt16
import Derived.Test.YtnoekfkfinjfgaaGreatDoorYAt17
import Derived.KernelRfl
set_option autoImplicit false
set_option linter.unusedSectionVars false
set_option maxRecDepth 100000
noncomputable section
namespace Go.Proofs.YtnoekfkfinjfgaaGreatDoor.Dx
open Go

variable [Rho]
theorem o1 : FOk Tryz.prog F1 := (fOkA.set (tabs (f := p7) (n := 7) rfl Tryz.func7 (by kernel_rfl) (by kernel_rfl) (tab_cons a1_0 (tab_cons a1_1 (tab_cons a1_2 (tab_cons a1_3 (tab_cons a1_4 tab_nil))))))).set (tabs (f := p8) (n := 8) rfl Tryz.func8 (by kernel_rfl) (by kernel_rfl) (tab_cons wk_ok tab_nil))
theorem o2 : FOk Tryz.prog F2 := (fOkA.set (tabs (f := p7) (n := 7) rfl Tryz.func7 (by kernel_rfl) (by kernel_rfl) (tab_cons a2_0 (tab_cons a2_1 (tab_cons a2_2 (tab_cons a2_3 (tab_cons a2_4 (tab_cons a2_5 (tab_cons a2_6 tab_nil))))))))).set (tabs (f := p8) (n := 8) rfl Tryz.func8 (by kernel_rfl) (by kernel_rfl) (tab_cons wk_ok tab_nil))
theorem o3 : FOk Tryz.prog F3 := (fOkA.set (tabs (f := p7) (n := 7) rfl Tryz.func7 (by kernel_rfl) (by kernel_rfl) (tab_cons a3_0 (tab_cons a3_1 (tab_cons a3_2 (tab_cons a3_3 (tab_cons a3_4 (tab_cons a3_5 (tab_cons a3_6 (tab_cons a3_7 (tab_cons a3_8 tab_nil))))))))))).set (tabs (f := p8) (n := 8) rfl Tryz.func8 (by kernel_rfl) (by kernel_rfl) (tab_cons wk_ok tab_nil))
theorem o4 : FOk Tryz.prog F4 := (fOkA.set (tabs (f := p7) (n := 7) rfl Tryz.func7 (by kernel_rfl) (by kernel_rfl) (tab_cons a4_0 (tab_cons a4_1 (tab_cons a4_2 (tab_cons a4_3 (tab_cons a4_4 (tab_cons a4_5 (tab_cons a4_6 (tab_cons a4_7 (tab_cons a4_8 (tab_cons a4_9 (tab_cons a4_10 tab_nil))))))))))))).set (tabs (f := p8) (n := 8) rfl Tryz.func8 (by kernel_rfl) (by kernel_rfl) (tab_cons wk_ok tab_nil))
theorem o5 : FOk Tryz.prog F5 := (fOkA.set (tabs (f := p7) (n := 7) rfl Tryz.func7 (by kernel_rfl) (by kernel_rfl) (tab_cons a5_0 (tab_cons a5_1 (tab_cons a5_2 (tab_cons a5_3 (tab_cons a5_4 (tab_cons a5_5 (tab_cons a5_6 (tab_cons a5_7 (tab_cons a5_8 (tab_cons a5_9 (tab_cons a5_10 (tab_cons a5_11 (tab_cons a5_12 tab_nil))))))))))))))).set (tabs (f := p8) (n := 8) rfl Tryz.func8 (by kernel_rfl) (by kernel_rfl) (tab_cons wk_ok tab_nil))
theorem o6 : FOk Tryz.prog F6 := (fOkA.set (tabs (f := p7) (n := 7) rfl Tryz.func7 (by kernel_rfl) (by kernel_rfl) (tab_cons a6_0 (tab_cons a6_1 (tab_cons a6_2 (tab_cons a6_3 (tab_cons a6_4 (tab_cons a6_5 (tab_cons a6_6 (tab_cons a6_7 (tab_cons a6_8 (tab_cons a6_9 (tab_cons a6_10 (tab_cons a6_11 (tab_cons a6_12 (tab_cons a6_13 (tab_cons a6_14 tab_nil))))))))))))))))).set (tabs (f := p8) (n := 8) rfl Tryz.func8 (by kernel_rfl) (by kernel_rfl) (tab_cons wk_ok tab_nil))
theorem o7 : FOk Tryz.prog F7 := (fOkA.set (tabs (f := p7) (n := 7) rfl Tryz.func7 (by kernel_rfl) (by kernel_rfl) (tab_cons a7_0 (tab_cons a7_1 (tab_cons a7_2 (tab_cons a7_3 (tab_cons a7_4 (tab_cons a7_5 (tab_cons a7_6 (tab_cons a7_7 (tab_cons a7_8 (tab_cons a7_9 (tab_cons a7_10 (tab_cons a7_11 (tab_cons a7_12 (tab_cons a7_13 (tab_cons a7_14 (tab_cons a7_15 (tab_cons a7_16 tab_nil))))))))))))))))))).set (tabs (f := p8) (n := 8) rfl Tryz.func8 (by kernel_rfl) (by kernel_rfl) (tab_cons wk_ok tab_nil))
theorem o8 : FOk Tryz.prog F8 := (fOkA.set (tabs (f := p7) (n := 7) rfl Tryz.func7 (by kernel_rfl) (by kernel_rfl) (tab_cons a8_0 (tab_cons a8_1 (tab_cons a8_2 (tab_cons a8_3 (tab_cons a8_4 (tab_cons a8_5 (tab_cons a8_6 (tab_cons a8_7 (tab_cons a8_8 (tab_cons a8_9 (tab_cons a8_10 (tab_cons a8_11 (tab_cons a8_12 (tab_cons a8_13 (tab_cons a8_14 (tab_cons a8_15 (tab_cons a8_16 (tab_cons a8_17 (tab_cons a8_18 tab_nil))))))))))))))))))))).set (tabs (f := p8) (n := 8) rfl Tryz.func8 (by kernel_rfl) (by kernel_rfl) (tab_cons wk_ok tab_nil))
theorem o9 : FOk Tryz.prog F9 := (fOkA.set (tabs (f := p7) (n := 7) rfl Tryz.func7 (by kernel_rfl) (by kernel_rfl) (tab_cons a9_0 (tab_cons a9_1 (tab_cons a9_2 (tab_cons a9_3 (tab_cons a9_4 (tab_cons a9_5 (tab_cons a9_6 (tab_cons a9_7 (tab_cons a9_8 (tab_cons a9_9 (tab_cons a9_10 (tab_cons a9_11 (tab_cons a9_12 (tab_cons a9_13 (tab_cons a9_14 (tab_cons a9_15 (tab_cons a9_16 (tab_cons a9_17 (tab_cons a9_18 (tab_cons a9_19 (tab_cons a9_20 tab_nil))))))))))))))))))))))).set (tabs (f := p8) (n := 8) rfl Tryz.func8 (by kernel_rfl) (by kernel_rfl) (tab_cons wk_ok tab_nil))
theorem o10 : FOk Tryz.prog F10 := (fOkA.set (tabs (f := p7) (n := 7) rfl Tryz.func7 (by kernel_rfl) (by kernel_rfl) (tab_cons a10_0 (tab_cons a10_1 (tab_cons a10_2 (tab_cons a10_3 (tab_cons a10_4 (tab_cons a10_5 (tab_cons a10_6 (tab_cons a10_7 (tab_cons a10_8 (tab_cons a10_9 (tab_cons a10_10 (tab_cons a10_11 (tab_cons a10_12 (tab_cons a10_13 (tab_cons a10_14 (tab_cons a10_15 (tab_cons a10_16 (tab_cons a10_17 (tab_cons a10_18 (tab_cons a10_19 (tab_cons a10_20 (tab_cons a10_21 (tab_cons a10_22 tab_nil))))))))))))))))))))))))).set (tabs (f := p8) (n := 8) rfl Tryz.func8 (by kernel_rfl) (by kernel_rfl) (tab_cons wk_ok tab_nil))
theorem o11 : FOk Tryz.prog F11 := (fOkA.set (tabs (f := p7) (n := 7) rfl Tryz.func7 (by kernel_rfl) (by kernel_rfl) (tab_cons a11_0 (tab_cons a11_1 (tab_cons a11_2 (tab_cons a11_3 (tab_cons a11_4 (tab_cons a11_5 (tab_cons a11_6 (tab_cons a11_7 (tab_cons a11_8 (tab_cons a11_9 (tab_cons a11_10 (tab_cons a11_11 (tab_cons a11_12 (tab_cons a11_13 (tab_cons a11_14 (tab_cons a11_15 (tab_cons a11_16 (tab_cons a11_17 (tab_cons a11_18 (tab_cons a11_19 (tab_cons a11_20 (tab_cons a11_21 (tab_cons a11_22 (tab_cons a11_23 (tab_cons a11_24 tab_nil))))))))))))))))))))))))))).set (tabs (f := p8) (n := 8) rfl Tryz.func8 (by kernel_rfl) (by kernel_rfl) (tab_cons wk_ok tab_nil))
theorem o12 : FOk Tryz.prog F12 := (fOkA.set (tabs (f := p7) (n := 7) rfl Tryz.func7 (by kernel_rfl) (by kernel_rfl) (tab_cons a12_0 (tab_cons a12_1 (tab_cons a12_2 (tab_cons a12_3 (tab_cons a12_4 (tab_cons a12_5 (tab_cons a12_6 (tab_cons a12_7 (tab_cons a12_8 (tab_cons a12_9 (tab_cons a12_10 (tab_cons a12_11 (tab_cons a12_12 (tab_cons a12_13 (tab_cons a12_14 (tab_cons a12_15 (tab_cons a12_16 (tab_cons a12_17 (tab_cons a12_18 (tab_cons a12_19 (tab_cons a12_20 (tab_cons a12_21 (tab_cons a12_22 (tab_cons a12_23 (tab_cons a12_24 (tab_cons a12_25 (tab_cons a12_26 tab_nil))))))))))))))))))))))))))))).set (tabs (f := p8) (n := 8) rfl Tryz.func8 (by kernel_rfl) (by kernel_rfl) (tab_cons wk_ok tab_nil))
theorem o13 : FOk Tryz.prog F13 := (fOkA.set (tabs (f := p7) (n := 7) rfl Tryz.func7 (by kernel_rfl) (by kernel_rfl) (tab_cons a13_0 (tab_cons a13_1 (tab_cons a13_2 (tab_cons a13_3 (tab_cons a13_4 (tab_cons a13_5 (tab_cons a13_6 (tab_cons a13_7 (tab_cons a13_8 (tab_cons a13_9 (tab_cons a13_10 (tab_cons a13_11 (tab_cons a13_12 (tab_cons a13_13 (tab_cons a13_14 (tab_cons a13_15 (tab_cons a13_16 (tab_cons a13_17 (tab_cons a13_18 (tab_cons a13_19 (tab_cons a13_20 (tab_cons a13_21 (tab_cons a13_22 (tab_cons a13_23 (tab_cons a13_24 (tab_cons a13_25 (tab_cons a13_26 (tab_cons a13_27 (tab_cons a13_28 tab_nil))))))))))))))))))))))))))))))).set (tabs (f := p8) (n := 8) rfl Tryz.func8 (by kernel_rfl) (by kernel_rfl) (tab_cons wk_ok tab_nil))
theorem o14 : FOk Tryz.prog F14 := (fOkA.set (tabs (f := p7) (n := 7) rfl Tryz.func7 (by kernel_rfl) (by kernel_rfl) (tab_cons a14_0 (tab_cons a14_1 (tab_cons a14_2 (tab_cons a14_3 (tab_cons a14_4 (tab_cons a14_5 (tab_cons a14_6 (tab_cons a14_7 (tab_cons a14_8 (tab_cons a14_9 (tab_cons a14_10 (tab_cons a14_11 (tab_cons a14_12 (tab_cons a14_13 (tab_cons a14_14 (tab_cons a14_15 (tab_cons a14_16 (tab_cons a14_17 (tab_cons a14_18 (tab_cons a14_19 (tab_cons a14_20 (tab_cons a14_21 (tab_cons a14_22 (tab_cons a14_23 (tab_cons a14_24 (tab_cons a14_25 (tab_cons a14_26 (tab_cons a14_27 (tab_cons a14_28 (tab_cons a14_29 (tab_cons a14_30 tab_nil))))))))))))))))))))))))))))))))).set (tabs (f := p8) (n := 8) rfl Tryz.func8 (by kernel_rfl) (by kernel_rfl) (tab_cons wk_ok tab_nil))
theorem o15 : FOk Tryz.prog F15 := (fOkA.set (tabs (f := p7) (n := 7) rfl Tryz.func7 (by kernel_rfl) (by kernel_rfl) (tab_cons a15_0 (tab_cons a15_1 (tab_cons a15_2 (tab_cons a15_3 (tab_cons a15_4 (tab_cons a15_5 (tab_cons a15_6 (tab_cons a15_7 (tab_cons a15_8 (tab_cons a15_9 (tab_cons a15_10 (tab_cons a15_11 (tab_cons a15_12 (tab_cons a15_13 (tab_cons a15_14 (tab_cons a15_15 (tab_cons a15_16 (tab_cons a15_17 (tab_cons a15_18 (tab_cons a15_19 (tab_cons a15_20 (tab_cons a15_21 (tab_cons a15_22 (tab_cons a15_23 (tab_cons a15_24 (tab_cons a15_25 (tab_cons a15_26 (tab_cons a15_27 (tab_cons a15_28 (tab_cons a15_29 (tab_cons a15_30 (tab_cons a15_31 (tab_cons a15_32 tab_nil))))))))))))))))))))))))))))))))))).set (tabs (f := p8) (n := 8) rfl Tryz.func8 (by kernel_rfl) (by kernel_rfl) (tab_cons wk_ok tab_nil))
theorem o16 : FOk Tryz.prog F16 := (fOkA.set (tabs (f := p7) (n := 7) rfl Tryz.func7 (by kernel_rfl) (by kernel_rfl) (tab_cons a16_0 (tab_cons a16_1 (tab_cons a16_2 (tab_cons a16_3 (tab_cons a16_4 (tab_cons a16_5 (tab_cons a16_6 (tab_cons a16_7 (tab_cons a16_8 (tab_cons a16_9 (tab_cons a16_10 (tab_cons a16_11 (tab_cons a16_12 (tab_cons a16_13 (tab_cons a16_14 (tab_cons a16_15 (tab_cons a16_16 (tab_cons a16_17 (tab_cons a16_18 (tab_cons a16_19 (tab_cons a16_20 (tab_cons a16_21 (tab_cons a16_22 (tab_cons a16_23 (tab_cons a16_24 (tab_cons a16_25 (tab_cons a16_26 (tab_cons a16_27 (tab_cons a16_28 (tab_cons a16_29 (tab_cons a16_30 (tab_cons a16_31 (tab_cons a16_32 (tab_cons a16_33 (tab_cons a16_34 tab_nil))))))))))))))))))))))))))))))))))))).set (tabs (f := p8) (n := 8) rfl Tryz.func8 (by kernel_rfl) (by kernel_rfl) (tab_cons wk_ok tab_nil))
theorem o17 : FOk Tryz.prog F17 := (fOkA.set (tabs (f := p7) (n := 7) rfl Tryz.func7 (by kernel_rfl) (by kernel_rfl) (tab_cons a17_0 (tab_cons a17_1 (tab_cons a17_2 (tab_cons a17_3 (tab_cons a17_4 (tab_cons a17_5 (tab_cons a17_6 (tab_cons a17_7 (tab_cons a17_8 (tab_cons a17_9 (tab_cons a17_10 (tab_cons a17_11 (tab_cons a17_12 (tab_cons a17_13 (tab_cons a17_14 (tab_cons a17_15 (tab_cons a17_16 (tab_cons a17_17 (tab_cons a17_18 (tab_cons a17_19 (tab_cons a17_20 (tab_cons a17_21 (tab_cons a17_22 (tab_cons a17_23 (tab_cons a17_24 (tab_cons a17_25 (tab_cons a17_26 (tab_cons a17_27 (tab_cons a17_28 (tab_cons a17_29 (tab_cons a17_30 (tab_cons a17_31 (tab_cons a17_32 (tab_cons a17_33 (tab_cons a17_34 (tab_cons a17_35 (tab_cons a17_36 tab_nil))))))))))))))))))))))))))))))))))))))).set (tabs (f := p8) (n := 8) rfl Tryz.func8 (by kernel_rfl) (by kernel_rfl) (tab_cons wk_ok tab_nil))
theorem o18 : FOk Tryz.prog F18 := (fOkA.set (tabs (f := p7) (n := 7) rfl Tryz.func7 (by kernel_rfl) (by kernel_rfl) (tab_cons a18_0 (tab_cons a18_1 (tab_cons a18_2 (tab_cons a18_3 (tab_cons a18_4 (tab_cons a18_5 (tab_cons a18_6 (tab_cons a18_7 (tab_cons a18_8 (tab_cons a18_9 (tab_cons a18_10 (tab_cons a18_11 (tab_cons a18_12 (tab_cons a18_13 (tab_cons a18_14 (tab_cons a18_15 (tab_cons a18_16 (tab_cons a18_17 (tab_cons a18_18 (tab_cons a18_19 (tab_cons a18_20 (tab_cons a18_21 (tab_cons a18_22 (tab_cons a18_23 (tab_cons a18_24 (tab_cons a18_25 (tab_cons a18_26 (tab_cons a18_27 (tab_cons a18_28 (tab_cons a18_29 (tab_cons a18_30 (tab_cons a18_31 (tab_cons a18_32 (tab_cons a18_33 (tab_cons a18_34 (tab_cons a18_35 (tab_cons a18_36 (tab_cons a18_37 (tab_cons a18_38 tab_nil))))))))))))))))))))))))))))))))))))))))).set (tabs (f := p8) (n := 8) rfl Tryz.func8 (by kernel_rfl) (by kernel_rfl) (tab_cons wk_ok tab_nil))
theorem o19 : FOk Tryz.prog F19 := (fOkA.set (tabs (f := p7) (n := 7) rfl Tryz.func7 (by kernel_rfl) (by kernel_rfl) (tab_cons a19_0 (tab_cons a19_1 (tab_cons a19_2 (tab_cons a19_3 (tab_cons a19_4 (tab_cons a19_5 (tab_cons a19_6 (tab_cons a19_7 (tab_cons a19_8 (tab_cons a19_9 (tab_cons a19_10 (tab_cons a19_11 (tab_cons a19_12 (tab_cons a19_13 (tab_cons a19_14 (tab_cons a19_15 (tab_cons a19_16 (tab_cons a19_17 (tab_cons a19_18 (tab_cons a19_19 (tab_cons a19_20 (tab_cons a19_21 (tab_cons a19_22 (tab_cons a19_23 (tab_cons a19_24 (tab_cons a19_25 (tab_cons a19_26 (tab_cons a19_27 (tab_cons a19_28 (tab_cons a19_29 (tab_cons a19_30 (tab_cons a19_31 (tab_cons a19_32 (tab_cons a19_33 (tab_cons a19_34 (tab_cons a19_35 (tab_cons a19_36 (tab_cons a19_37 (tab_cons a19_38 (tab_cons a19_39 (tab_cons a19_40 tab_nil))))))))))))))))))))))))))))))))))))))))))).set (tabs (f := p8) (n := 8) rfl Tryz.func8 (by kernel_rfl) (by kernel_rfl) (tab_cons wk_ok tab_nil))
theorem o20 : FOk Tryz.prog F20 := (fOkA.set (tabs (f := p7) (n := 7) rfl Tryz.func7 (by kernel_rfl) (by kernel_rfl) (tab_cons a20_0 (tab_cons a20_1 (tab_cons a20_2 (tab_cons a20_3 (tab_cons a20_4 (tab_cons a20_5 (tab_cons a20_6 (tab_cons a20_7 (tab_cons a20_8 (tab_cons a20_9 (tab_cons a20_10 (tab_cons a20_11 (tab_cons a20_12 (tab_cons a20_13 (tab_cons a20_14 (tab_cons a20_15 (tab_cons a20_16 (tab_cons a20_17 (tab_cons a20_18 (tab_cons a20_19 (tab_cons a20_20 (tab_cons a20_21 (tab_cons a20_22 (tab_cons a20_23 (tab_cons a20_24 (tab_cons a20_25 (tab_cons a20_26 (tab_cons a20_27 (tab_cons a20_28 (tab_cons a20_29 (tab_cons a20_30 (tab_cons a20_31 (tab_cons a20_32 (tab_cons a20_33 (tab_cons a20_34 (tab_cons a20_35 (tab_cons a20_36 (tab_cons a20_37 (tab_cons a20_38 (tab_cons a20_39 (tab_cons a20_40 (tab_cons a20_41 (tab_cons a20_42 tab_nil))))))))))))))))))))))))))))))))))))))))))))).set (tabs (f := p8) (n := 8) rfl Tryz.func8 (by kernel_rfl) (by kernel_rfl) (tab_cons wk_ok tab_nil))
theorem good_any (xs : List Int) (hx : xs.length ≤ 20 → Hyp xs) : Good xs := by
  by_cases h : xs.length = 0 ∨ 20 < xs.length
  · exact good_far fOkA z0 z1 z2 h
  · have hx := hx (by omega)
    have h : xs.length = 1 ∨ xs.length = 2 ∨ xs.length = 3 ∨ xs.length = 4 ∨ xs.length = 5 ∨ xs.length = 6 ∨ xs.length = 7 ∨ xs.length = 8 ∨ xs.length = 9 ∨ xs.length = 10 ∨ xs.length = 11 ∨ xs.length = 12 ∨ xs.length = 13 ∨ xs.length = 14 ∨ xs.length = 15 ∨ xs.length = 16 ∨ xs.length = 17 ∨ xs.length = 18 ∨ xs.length = 19 ∨ xs.length = 20 := by omega
    rcases h with h | h | h | h | h | h | h | h | h | h | h | h | h | h | h | h | h | h | h | h
    · exact good_n o1 (by decide) r1 h hx
    · exact good_n o2 (by decide) r2 h hx
    · exact good_n o3 (by decide) r3 h hx
    · exact good_n o4 (by decide) r4 h hx
    · exact good_n o5 (by decide) r5 h hx
    · exact good_n o6 (by decide) r6 h hx
    · exact good_n o7 (by decide) r7 h hx
    · exact good_n o8 (by decide) r8 h hx
    · exact good_n o9 (by decide) r9 h hx
    · exact good_n o10 (by decide) r10 h hx
    · exact good_n o11 (by decide) r11 h hx
    · exact good_n o12 (by decide) r12 h hx
    · exact good_n o13 (by decide) r13 h hx
    · exact good_n o14 (by decide) r14 h hx
    · exact good_n o15 (by decide) r15 h hx
    · exact good_n o16 (by decide) r16 h hx
    · exact good_n o17 (by decide) r17 h hx
    · exact good_n o18 (by decide) r18 h hx
    · exact good_n o19 (by decide) r19 h hx
    · exact good_n o20 (by decide) r20 h hx
omit [Rho] in
theorem good_all (xs : List Int) : @Good (rhoOf xs) xs := @good_any (rhoOf xs) xs (rho_hyp xs)
end Go.Proofs.YtnoekfkfinjfgaaGreatDoor.Dx
