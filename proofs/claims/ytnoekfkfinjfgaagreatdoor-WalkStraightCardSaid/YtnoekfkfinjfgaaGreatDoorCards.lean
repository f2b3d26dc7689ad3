/-
  DERIVED. GIVEN WITH THE SEED: THE CARDS: each row of YtnoekfkfinjfgaaGreatDoorRows.lean that lists a variable, with what it lists TIED to the program's text (the seventh form; the later family's looks); each row that meets fmt, with fmt's text TOLD by the authors' own Lean function (tested against real Go, not proved from fmt's source: count such statements apart). THE CARD IS WHAT COUNTS. Prove the row's statement (the work); the ties are given (YtnoekfkfinjfgaaGreatDoorTie.lean); close each card by the builder's one call (the guide's Derived/Test/ToyasCard.lean, 'card_holds'). Laid BY PROGRAM, IN A SANDBOX (cutbox-door.mjs). By AI agents, Wed Nov 11 2026. No macro, syntax, notation, axiom, sorry.
-/
import Derived.Test.YtnoekfkfinjfgaaGreatDoorRows
import GoSem.ClaimSeven
namespace Go.Proofs.YtnoekfkfinjfgaaGreatDoor
namespace Rows

/-- THE TIED CARD OF 'delverlaw21.WalkStraight'. -/
def walkStraightCard : Claim7 := { stood := { row := walkStraightRow, standIns := [], harness := (true, "401bf9945189b759e8e644dfb0fdde3be11156d7bc7541844098f0db64c247c9"), looks := false }, kinds := [], alts := [], laidByText := true, laidKinds := [.listed, .data], laidTests := true, laidLooks := .later }
def WalkStraightCardSaid : Prop := Claim7.holds Tryz.pinned (.plain (OpenSpec.ofChange walkStraightSpec)) walkStraightCard

/-- THE TIED CARD OF 'delverlaw21.WalkArgs'. -/
def walkArgsCard : Claim7 := { stood := { row := walkArgsRow, standIns := [], harness := (true, "401bf9945189b759e8e644dfb0fdde3be11156d7bc7541844098f0db64c247c9"), looks := false }, kinds := [], alts := [], laidByText := true, laidKinds := [.listed, .data], laidTests := true, laidLooks := .later }
def WalkArgsCardSaid : Prop := Claim7.holds Tryz.pinned (.plain (OpenSpec.ofChange walkArgsSpec)) walkArgsCard

/-- THE SECOND FORM's CARD OF 'delverlaw21.WalkStraight'. -/
def walkStraightUptoCard : Claim7 := { stood := { row := walkStraightUptoRow, standIns := [], harness := (true, "401bf9945189b759e8e644dfb0fdde3be11156d7bc7541844098f0db64c247c9"), looks := false }, kinds := [], alts := [], laidByText := true, laidKinds := [.listed, .data], laidTests := true, laidLooks := .later }
def WalkStraightUptoCardSaid : Prop := Claim7.holds Tryz.pinned (.plain (OpenSpec.upto walkStraightSpec)) walkStraightUptoCard

/-- THE SECOND FORM's CARD OF 'delverlaw21.WalkArgs'. -/
def walkArgsUptoCard : Claim7 := { stood := { row := walkArgsUptoRow, standIns := [], harness := (true, "401bf9945189b759e8e644dfb0fdde3be11156d7bc7541844098f0db64c247c9"), looks := false }, kinds := [], alts := [], laidByText := true, laidKinds := [.listed, .data], laidTests := true, laidLooks := .later }
def WalkArgsUptoCardSaid : Prop := Claim7.holds Tryz.pinned (.plain (OpenSpec.upto walkArgsSpec)) walkArgsUptoCard
end Rows
end Go.Proofs.YtnoekfkfinjfgaaGreatDoor
