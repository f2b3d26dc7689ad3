/- WalkArgs: closed facts of its row. No statement of this seat is proved here. -/
import Derived.Test.YtnoekfkfinjfgaaGreatDoorZRwHA
import Derived.Test.YtnoekfkfinjfgaaGreatDoorZRwHB
import Derived.Test.YtnoekfkfinjfgaaGreatDoorZRwHC
import Derived.Test.YtnoekfkfinjfgaaGreatDoorZRwHD
import Derived.JoinedOf
namespace Go.Proofs.YtnoekfkfinjfgaaGreatDoor.walkArgs
open Go
theorem closed : joinedFacts Tryz.pinned.checked.prog 4 Tryz.f4 Rows.walkArgsSpec Rows.walkArgsRow = true := by
  unfold joinedFacts
  rw [factA, factB, factC, factD]
  kernel_rfl
end Go.Proofs.YtnoekfkfinjfgaaGreatDoor.walkArgs
