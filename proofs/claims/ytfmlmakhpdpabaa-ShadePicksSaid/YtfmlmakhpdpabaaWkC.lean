/- What 'wakes' comes to. No statement of this seat is proved here. -/
import Derived.Test.YtfmlmakhpdpabaaWkB
set_option autoImplicit false
namespace Go.Proofs.Ytfmlmakhpdpabaa.Dx
open Go
theorem told9 : told (call FT 100000 p9 [] .z .nl) = some (.bool true) := by kernel_rfl
theorem wakes (w : World) : Calls Try.prog 9 #[] w fun r w' => r = .returned (.bool true) ∧ RowKit.Grown w w' := told_true fOk mixed told9 w
end Go.Proofs.Ytfmlmakhpdpabaa.Dx
#print axioms Go.Proofs.Ytfmlmakhpdpabaa.Dx.wakes
