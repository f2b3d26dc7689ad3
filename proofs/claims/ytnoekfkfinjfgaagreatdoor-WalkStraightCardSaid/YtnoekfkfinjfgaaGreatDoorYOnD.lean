/- sync.Once, slices.Backward: what they do, as the small machine has it. No statement of this seat is proved here. -/
import Derived.Test.YtnoekfkfinjfgaaGreatDoorYCdA
import Derived.Test.YtnoekfkfinjfgaaGreatDoorUo
import Derived.Test.YtnoekfkfinjfgaaGreatDoorYOnB
import Derived.Test.YtnoekfkfinjfgaaGreatDoorYOnC
set_option autoImplicit false
set_option linter.unusedSectionVars false
noncomputable section
namespace Go.Proofs.YtnoekfkfinjfgaaGreatDoor.Dx
open Go

theorem fnOk43 : FnOk Tryz.prog 43 := ⟨Tryz.f43, Tryz.func43, by kernel_rfl, by kernel_rfl⟩
variable [Rho]
theorem told43 : FdOk Tryz.prog p43 f43 := by
  refine ⟨fnOk43, ?_, ?_⟩
  · intro b o x fv w hc hx
    exact do_done ⟨b, o, none⟩ x hx fv w hc
  · intro b o g pre cs w R h0 f0 h1 f1 hg hcall hR
    obtain ⟨fn, h2, h3, h4⟩ := hg
    exact do_first b o g pre cs w R h0 h1 f1 (fun w => run_callFunc h2 h3 h4) hcall hR
theorem told211 : FdOk Tryz.prog p211 f211 := by
  refine ⟨⟨Tryz.f211, Tryz.func211, by kernel_rfl, by kernel_rfl⟩, fun _ => rfl, ?_⟩
  intro l box I n w hn hbox h0 hY
  exact back211 (FW none) trivial rfl rfl l box I n w hn hbox h0 hY
theorem told212 : FdOk Tryz.prog p212 f212 := by
  refine ⟨⟨Tryz.f212, Tryz.func212, by kernel_rfl, by kernel_rfl⟩, (by intro h; cases h), ?_⟩
  intro l box I n w hn hbox h0 hY
  exact back212 (FW none) trivial rfl rfl l box I n w hn hbox h0 hY
end Go.Proofs.YtnoekfkfinjfgaaGreatDoor.Dx
