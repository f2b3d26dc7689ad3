/- WalkArgs: a closed fact of its row. No statement of this seat is proved here. -/
import Derived.Test.YtnoekfkfinjfgaaGreatDoorRows
import Derived.KernelRfl
namespace Go.Proofs.YtnoekfkfinjfgaaGreatDoor.walkArgs
open Go
theorem factC : (Rows.walkArgsRow.recurses == Tryz.pinned.checked.prog.recurses 4) = true := by kernel_rfl
end Go.Proofs.YtnoekfkfinjfgaaGreatDoor.walkArgs
