/- WalkArgs: a closed fact of its row. No statement of this seat is proved here. -/
import Derived.Test.YtnoekfkfinjfgaaGreatDoorRows
import Derived.KernelRfl
namespace Go.Proofs.YtnoekfkfinjfgaaGreatDoor.walkArgs
open Go
theorem factB : (Rows.walkArgsRow.unfollowed == Tryz.pinned.checked.prog.unfollowed 4) = true := by kernel_rfl
end Go.Proofs.YtnoekfkfinjfgaaGreatDoor.walkArgs
