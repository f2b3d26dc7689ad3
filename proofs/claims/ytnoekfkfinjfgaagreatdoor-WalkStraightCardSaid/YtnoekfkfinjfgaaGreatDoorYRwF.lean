/- WalkStraight: closed facts of its row. No statement of this seat is proved here. -/
import Derived.Test.YtnoekfkfinjfgaaGreatDoorYRwHA
import Derived.Test.YtnoekfkfinjfgaaGreatDoorYRwHB
import Derived.Test.YtnoekfkfinjfgaaGreatDoorYRwHC
import Derived.Test.YtnoekfkfinjfgaaGreatDoorYRwHD
import Derived.JoinedOf
namespace Go.Proofs.YtnoekfkfinjfgaaGreatDoor.walkStraight
open Go
theorem closed : joinedFacts Tryz.pinned.checked.prog 3 Tryz.f3 Rows.walkStraightSpec Rows.walkStraightRow = true := by
  unfold joinedFacts
  rw [factA, factB, factC, factD]
  kernel_rfl
end Go.Proofs.YtnoekfkfinjfgaaGreatDoor.walkStraight
