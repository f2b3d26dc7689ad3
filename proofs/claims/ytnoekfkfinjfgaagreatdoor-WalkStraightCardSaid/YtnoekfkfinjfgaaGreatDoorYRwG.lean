/- WalkStraight: a closed fact of its card. No statement of this seat is proved here. -/
import Derived.Test.YtnoekfkfinjfgaaGreatDoorRows
import GoSem.ClaimSeven
import Derived.KernelRfl
namespace Go.Proofs.YtnoekfkfinjfgaaGreatDoor.walkStraight
open Go
theorem goes : false = Rows.walkStraightRow.goesBy Tryz.pinned.checked.prog := by kernel_rfl
end Go.Proofs.YtnoekfkfinjfgaaGreatDoor.walkStraight
