/- WalkStraight: a closed fact of its row. No statement of this seat is proved here. -/
import Derived.Test.YtnoekfkfinjfgaaGreatDoorRows
import Derived.KernelRfl
namespace Go.Proofs.YtnoekfkfinjfgaaGreatDoor.walkStraight
open Go
theorem factD : (Rows.walkStraightRow.named == Tryz.pinned.checked.prog.varsNamed 3) = true := by kernel_rfl
end Go.Proofs.YtnoekfkfinjfgaaGreatDoor.walkStraight
