/- WalkStraight: a closed fact of its row. No statement of this seat is proved here. -/
import Derived.Test.YtnoekfkfinjfgaaGreatDoorRows
import Derived.KernelRfl
namespace Go.Proofs.YtnoekfkfinjfgaaGreatDoor.walkStraight
open Go
theorem factB : (Rows.walkStraightRow.unfollowed == Tryz.pinned.checked.prog.unfollowed 3) = true := by kernel_rfl
end Go.Proofs.YtnoekfkfinjfgaaGreatDoor.walkStraight
