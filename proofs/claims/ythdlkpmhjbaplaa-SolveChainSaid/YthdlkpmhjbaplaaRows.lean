/-
  No cell of these rows narrows 'for every input' (looked for: loops, veiled, ifaces, maps, wideKeys, modest, calm, conditions, laid).
  DERIVED. THE GIVEN ROWS OF THIS SEAT. 12 by the template 'for every input the law returns true; each argument reads behind the call as it read before'; 0 by the template 'total and deterministic' (their statements: YthdlkpmhjbaplaaTotals.lean).
  GIVEN WITH THE SEED: the statements are not yours to turn. If you find one false, say at which input.
  Laid BY PROGRAM, IN A SANDBOX (cutbox-rows.mjs): the forced cells as the released guide's own fill.sh prints them over the translation 1d0d73afdce7dc72… (all of the seat's roots in one cut). By AI agents, Wed Nov 11 2026. No macro, syntax, notation, axiom, sorry.
-/
import Derived.Test.YthdlkpmhjbaplaaChecked
import GoSem.Claim
import GoSem.ClaimJoined
import GoSem.ClaimMapViews
import Derived.JoinedTies
import Derived.KernelRfl
namespace Go.Proofs.Ythdlkpmhjbaplaa
/- THE CELL 'sum', in the pinned program and in every row, IS THE sha256 OF THE DUMP (.gsa) THAT YthdlkpmhjbaplaaProg.lean LOADS. Nothing in Lean hashes anything: it is a label: what it is worth is what the hold of that sum in a sandbox is worth. -/
noncomputable def Try.pinned : Pinned := { name := "ythdlkpmhjbaplaa", sum := "1d0d73afdce7dc726294333995fa1d25c822024274ab7dee2bbe086d3e699af1", checked := Try.checked }
namespace Rows
def none {H : Type} : Left H := { results := [], args := [] }

/-- 'delverlaw15.ShadeUnits': WHATEVER THE INPUT: true; the input reads as it did. -/
def shadeUnitsSpec : ChangeSpec := { name := "shadeUnits", fn := fun _ => fun
  | [d] => { results := [.lit (.bool true)], args := [d] }
  | _ => none }
def shadeUnitsRow : OpenClaim := { program := "ythdlkpmhjbaplaa", sum := "1d0d73afdce7dc726294333995fa1d25c822024274ab7dee2bbe086d3e699af1", func := "delver/delverlaw15.ShadeUnits", spec := "shadeUnits", unfollowed := true, recurses := true, apart := false }
def ShadeUnitsSaid : Prop := shadeUnitsRow.holds Try.pinned (OpenSpec.ofChange shadeUnitsSpec)

/-- ITS FALSE NEIGHBOUR: 'it returns false'. Refute it at one input. -/
def shadeUnitsWrong : ChangeSpec := { name := "shadeUnits", fn := fun _ => fun
  | [d] => { results := [.lit (.bool false)], args := [d] }
  | _ => none }
def ShadeUnitsWrongFalsely : Prop := shadeUnitsRow.holds Try.pinned (OpenSpec.ofChange shadeUnitsWrong)

/-- 'delverlaw15.ShadeKeeps': WHATEVER THE INPUT: true; the input reads as it did. -/
def shadeKeepsSpec : ChangeSpec := { name := "shadeKeeps", fn := fun _ => fun
  | [d1, d2] => { results := [.lit (.bool true)], args := [d1, d2] }
  | _ => none }
def shadeKeepsRow : OpenClaim := { program := "ythdlkpmhjbaplaa", sum := "1d0d73afdce7dc726294333995fa1d25c822024274ab7dee2bbe086d3e699af1", func := "delver/delverlaw15.ShadeKeeps", spec := "shadeKeeps", unfollowed := true, recurses := true, apart := false }
def ShadeKeepsSaid : Prop := shadeKeepsRow.holds Try.pinned (OpenSpec.ofChange shadeKeepsSpec)

/-- ITS FALSE NEIGHBOUR: 'it returns false'. Refute it at one input. -/
def shadeKeepsWrong : ChangeSpec := { name := "shadeKeeps", fn := fun _ => fun
  | [d1, d2] => { results := [.lit (.bool false)], args := [d1, d2] }
  | _ => none }
def ShadeKeepsWrongFalsely : Prop := shadeKeepsRow.holds Try.pinned (OpenSpec.ofChange shadeKeepsWrong)

/-- 'delverlaw15.ShadeExact': WHATEVER THE INPUT: true; the input reads as it did. -/
def shadeExactSpec : ChangeSpec := { name := "shadeExact", fn := fun _ => fun
  | [d1, d2, d3, d4, d5] => { results := [.lit (.bool true)], args := [d1, d2, d3, d4, d5] }
  | _ => none }
def shadeExactRow : OpenClaim := { program := "ythdlkpmhjbaplaa", sum := "1d0d73afdce7dc726294333995fa1d25c822024274ab7dee2bbe086d3e699af1", func := "delver/delverlaw15.ShadeExact", spec := "shadeExact", unfollowed := true, recurses := true, apart := false }
def ShadeExactSaid : Prop := shadeExactRow.holds Try.pinned (OpenSpec.ofChange shadeExactSpec)

/-- ITS FALSE NEIGHBOUR: 'it returns false'. Refute it at one input. -/
def shadeExactWrong : ChangeSpec := { name := "shadeExact", fn := fun _ => fun
  | [d1, d2, d3, d4, d5] => { results := [.lit (.bool false)], args := [d1, d2, d3, d4, d5] }
  | _ => none }
def ShadeExactWrongFalsely : Prop := shadeExactRow.holds Try.pinned (OpenSpec.ofChange shadeExactWrong)

/-- 'delverlaw15.ShadeSwaps': WHATEVER THE INPUT: true; the input reads as it did. -/
def shadeSwapsSpec : ChangeSpec := { name := "shadeSwaps", fn := fun _ => fun
  | [d1, d2, d3, d4] => { results := [.lit (.bool true)], args := [d1, d2, d3, d4] }
  | _ => none }
def shadeSwapsRow : OpenClaim := { program := "ythdlkpmhjbaplaa", sum := "1d0d73afdce7dc726294333995fa1d25c822024274ab7dee2bbe086d3e699af1", func := "delver/delverlaw15.ShadeSwaps", spec := "shadeSwaps", unfollowed := true, recurses := true, apart := false }
def ShadeSwapsSaid : Prop := shadeSwapsRow.holds Try.pinned (OpenSpec.ofChange shadeSwapsSpec)

/-- ITS FALSE NEIGHBOUR: 'it returns false'. Refute it at one input. -/
def shadeSwapsWrong : ChangeSpec := { name := "shadeSwaps", fn := fun _ => fun
  | [d1, d2, d3, d4] => { results := [.lit (.bool false)], args := [d1, d2, d3, d4] }
  | _ => none }
def ShadeSwapsWrongFalsely : Prop := shadeSwapsRow.holds Try.pinned (OpenSpec.ofChange shadeSwapsWrong)

/-- 'delverlaw16.SolveFuel': WHATEVER THE INPUT: true; the input reads as it did. -/
def solveFuelSpec : ChangeSpec := { name := "solveFuel", fn := fun _ => fun
  | [d1, d2, d3, d4] => { results := [.lit (.bool true)], args := [d1, d2, d3, d4] }
  | _ => none }
def solveFuelRow : OpenClaim := { program := "ythdlkpmhjbaplaa", sum := "1d0d73afdce7dc726294333995fa1d25c822024274ab7dee2bbe086d3e699af1", func := "delver/delverlaw16.SolveFuel", spec := "solveFuel", unfollowed := true, recurses := true, apart := false }
def SolveFuelSaid : Prop := solveFuelRow.holds Try.pinned (OpenSpec.ofChange solveFuelSpec)

/-- ITS FALSE NEIGHBOUR: 'it returns false'. Refute it at one input. -/
def solveFuelWrong : ChangeSpec := { name := "solveFuel", fn := fun _ => fun
  | [d1, d2, d3, d4] => { results := [.lit (.bool false)], args := [d1, d2, d3, d4] }
  | _ => none }
def SolveFuelWrongFalsely : Prop := solveFuelRow.holds Try.pinned (OpenSpec.ofChange solveFuelWrong)

/-- 'delverlaw16.SolveBox': WHATEVER THE INPUT: true; the input reads as it did. -/
def solveBoxSpec : ChangeSpec := { name := "solveBox", fn := fun _ => fun
  | [d1, d2, d3] => { results := [.lit (.bool true)], args := [d1, d2, d3] }
  | _ => none }
def solveBoxRow : OpenClaim := { program := "ythdlkpmhjbaplaa", sum := "1d0d73afdce7dc726294333995fa1d25c822024274ab7dee2bbe086d3e699af1", func := "delver/delverlaw16.SolveBox", spec := "solveBox", unfollowed := true, recurses := true, apart := false }
def SolveBoxSaid : Prop := solveBoxRow.holds Try.pinned (OpenSpec.ofChange solveBoxSpec)

/-- ITS FALSE NEIGHBOUR: 'it returns false'. Refute it at one input. -/
def solveBoxWrong : ChangeSpec := { name := "solveBox", fn := fun _ => fun
  | [d1, d2, d3] => { results := [.lit (.bool false)], args := [d1, d2, d3] }
  | _ => none }
def SolveBoxWrongFalsely : Prop := solveBoxRow.holds Try.pinned (OpenSpec.ofChange solveBoxWrong)

/-- 'delverlaw16.SolveParts': WHATEVER THE INPUT: true; the input reads as it did. -/
def solvePartsSpec : ChangeSpec := { name := "solveParts", fn := fun _ => fun
  | [d1, d2] => { results := [.lit (.bool true)], args := [d1, d2] }
  | _ => none }
def solvePartsRow : OpenClaim := { program := "ythdlkpmhjbaplaa", sum := "1d0d73afdce7dc726294333995fa1d25c822024274ab7dee2bbe086d3e699af1", func := "delver/delverlaw16.SolveParts", spec := "solveParts", unfollowed := true, recurses := true, apart := false }
def SolvePartsSaid : Prop := solvePartsRow.holds Try.pinned (OpenSpec.ofChange solvePartsSpec)

/-- ITS FALSE NEIGHBOUR: 'it returns false'. Refute it at one input. -/
def solvePartsWrong : ChangeSpec := { name := "solveParts", fn := fun _ => fun
  | [d1, d2] => { results := [.lit (.bool false)], args := [d1, d2] }
  | _ => none }
def SolvePartsWrongFalsely : Prop := solvePartsRow.holds Try.pinned (OpenSpec.ofChange solvePartsWrong)

/-- 'delverlaw16.SolveChain': WHATEVER THE INPUT: true; the input reads as it did. -/
def solveChainSpec : ChangeSpec := { name := "solveChain", fn := fun _ => fun
  | [d1, d2, d3, d4] => { results := [.lit (.bool true)], args := [d1, d2, d3, d4] }
  | _ => none }
def solveChainRow : OpenClaim := { program := "ythdlkpmhjbaplaa", sum := "1d0d73afdce7dc726294333995fa1d25c822024274ab7dee2bbe086d3e699af1", func := "delver/delverlaw16.SolveChain", spec := "solveChain", unfollowed := true, recurses := true, apart := false }
def SolveChainSaid : Prop := solveChainRow.holds Try.pinned (OpenSpec.ofChange solveChainSpec)

/-- ITS FALSE NEIGHBOUR: 'it returns false'. Refute it at one input. -/
def solveChainWrong : ChangeSpec := { name := "solveChain", fn := fun _ => fun
  | [d1, d2, d3, d4] => { results := [.lit (.bool false)], args := [d1, d2, d3, d4] }
  | _ => none }
def SolveChainWrongFalsely : Prop := solveChainRow.holds Try.pinned (OpenSpec.ofChange solveChainWrong)

/-- 'delverlaw16.SolveEqual': WHATEVER THE INPUT: true; the input reads as it did. -/
def solveEqualSpec : ChangeSpec := { name := "solveEqual", fn := fun _ => fun
  | [d1, d2] => { results := [.lit (.bool true)], args := [d1, d2] }
  | _ => none }
def solveEqualRow : OpenClaim := { program := "ythdlkpmhjbaplaa", sum := "1d0d73afdce7dc726294333995fa1d25c822024274ab7dee2bbe086d3e699af1", func := "delver/delverlaw16.SolveEqual", spec := "solveEqual", unfollowed := true, recurses := true, apart := false }
def SolveEqualSaid : Prop := solveEqualRow.holds Try.pinned (OpenSpec.ofChange solveEqualSpec)

/-- ITS FALSE NEIGHBOUR: 'it returns false'. Refute it at one input. -/
def solveEqualWrong : ChangeSpec := { name := "solveEqual", fn := fun _ => fun
  | [d1, d2] => { results := [.lit (.bool false)], args := [d1, d2] }
  | _ => none }
def SolveEqualWrongFalsely : Prop := solveEqualRow.holds Try.pinned (OpenSpec.ofChange solveEqualWrong)

/-- 'delverlaw16.SolveMore': WHATEVER THE INPUT: true; the input reads as it did. -/
def solveMoreSpec : ChangeSpec := { name := "solveMore", fn := fun _ => fun
  | [d1, d2, d3, d4] => { results := [.lit (.bool true)], args := [d1, d2, d3, d4] }
  | _ => none }
def solveMoreRow : OpenClaim := { program := "ythdlkpmhjbaplaa", sum := "1d0d73afdce7dc726294333995fa1d25c822024274ab7dee2bbe086d3e699af1", func := "delver/delverlaw16.SolveMore", spec := "solveMore", unfollowed := true, recurses := true, apart := false }
def SolveMoreSaid : Prop := solveMoreRow.holds Try.pinned (OpenSpec.ofChange solveMoreSpec)

/-- ITS FALSE NEIGHBOUR: 'it returns false'. Refute it at one input. -/
def solveMoreWrong : ChangeSpec := { name := "solveMore", fn := fun _ => fun
  | [d1, d2, d3, d4] => { results := [.lit (.bool false)], args := [d1, d2, d3, d4] }
  | _ => none }
def SolveMoreWrongFalsely : Prop := solveMoreRow.holds Try.pinned (OpenSpec.ofChange solveMoreWrong)

/-- 'delverlaw16.SolveModel': WHATEVER THE INPUT: true; the input reads as it did. -/
def solveModelSpec : ChangeSpec := { name := "solveModel", fn := fun _ => fun
  | [d1, d2, d3] => { results := [.lit (.bool true)], args := [d1, d2, d3] }
  | _ => none }
def solveModelRow : OpenClaim := { program := "ythdlkpmhjbaplaa", sum := "1d0d73afdce7dc726294333995fa1d25c822024274ab7dee2bbe086d3e699af1", func := "delver/delverlaw16.SolveModel", spec := "solveModel", unfollowed := true, recurses := true, apart := false }
def SolveModelSaid : Prop := solveModelRow.holds Try.pinned (OpenSpec.ofChange solveModelSpec)

/-- ITS FALSE NEIGHBOUR: 'it returns false'. Refute it at one input. -/
def solveModelWrong : ChangeSpec := { name := "solveModel", fn := fun _ => fun
  | [d1, d2, d3] => { results := [.lit (.bool false)], args := [d1, d2, d3] }
  | _ => none }
def SolveModelWrongFalsely : Prop := solveModelRow.holds Try.pinned (OpenSpec.ofChange solveModelWrong)

/-- 'delverlaw16.SolveNone': WHATEVER THE INPUT: true; the input reads as it did. -/
def solveNoneSpec : ChangeSpec := { name := "solveNone", fn := fun _ => fun
  | [d1, d2, d3, d4] => { results := [.lit (.bool true)], args := [d1, d2, d3, d4] }
  | _ => none }
def solveNoneRow : OpenClaim := { program := "ythdlkpmhjbaplaa", sum := "1d0d73afdce7dc726294333995fa1d25c822024274ab7dee2bbe086d3e699af1", func := "delver/delverlaw16.SolveNone", spec := "solveNone", unfollowed := true, recurses := true, apart := false }
def SolveNoneSaid : Prop := solveNoneRow.holds Try.pinned (OpenSpec.ofChange solveNoneSpec)

/-- ITS FALSE NEIGHBOUR: 'it returns false'. Refute it at one input. -/
def solveNoneWrong : ChangeSpec := { name := "solveNone", fn := fun _ => fun
  | [d1, d2, d3, d4] => { results := [.lit (.bool false)], args := [d1, d2, d3, d4] }
  | _ => none }
def SolveNoneWrongFalsely : Prop := solveNoneRow.holds Try.pinned (OpenSpec.ofChange solveNoneWrong)

/- THE SECOND FORM. 'bulk': how many values and letters a reading holds, each counted each time it is reached (what is shared counts as often as it is met; a slice's spare places count too). A statement '..UptoSaid' is the law's where the arguments, and the package variables that the reading takes, are together of bulk at most 1048576: NARROWER than '..Said'. Prove '..Said' where nothing that the law and all that it calls make is longer than what came in: it says more and counts as full. Else prove '..UptoSaid'. A law counts once. -/
mutual
def uptoBulk {H : Type} : DataW H → Nat
  | .lit (.string bytes) => bytes.length + 1
  | .lit _ => 1
  | .nil => 1
  | .ptr d => uptoBulk d + 1
  | .slice elems spare => uptoBulkAll elems + uptoBulkAll spare + 1
  | .agg parts => uptoBulkAll parts + 1
  | .iface _ d => uptoBulk d + 1
  | .map entries => uptoBulkEntries entries + 1
  | .held _ => 1
def uptoBulkAll {H : Type} : List (DataW H) → Nat
  | [] => 0
  | d :: r => uptoBulk d + uptoBulkAll r
def uptoBulkEntries {H : Type} : List (Lit × DataW H) → Nat
  | [] => 0
  | x :: r => uptoBulkEntry x + uptoBulkEntries r
def uptoBulkEntry {H : Type} : Lit × DataW H → Nat
  | (.string bytes, d) => bytes.length + uptoBulk d + 1
  | (_, d) => uptoBulk d + 1
 end
def uptoSmall : (H : Type) → List (DataW H) → Bool := fun _ ds => decide (uptoBulkAll ds ≤ 1048576)
def OpenSpec.upto (s : _root_.Go.ChangeSpec) : _root_.Go.OpenSpec := { _root_.Go.OpenSpec.ofChange s with cond := some uptoSmall }

/-- 'delverlaw15.ShadeUnits', WHERE WHAT IT READS IS OF BULK AT MOST 1048576: true; the input reads as it did. -/
def shadeUnitsUptoRow : OpenClaim := { program := "ythdlkpmhjbaplaa", sum := "1d0d73afdce7dc726294333995fa1d25c822024274ab7dee2bbe086d3e699af1", func := "delver/delverlaw15.ShadeUnits", spec := "shadeUnits", unfollowed := true, recurses := true, apart := false, narrowed := true }
def ShadeUnitsUptoSaid : Prop := shadeUnitsUptoRow.holds Try.pinned (OpenSpec.upto shadeUnitsSpec)

/-- 'delverlaw15.ShadeKeeps', WHERE WHAT IT READS IS OF BULK AT MOST 1048576: true; the input reads as it did. -/
def shadeKeepsUptoRow : OpenClaim := { program := "ythdlkpmhjbaplaa", sum := "1d0d73afdce7dc726294333995fa1d25c822024274ab7dee2bbe086d3e699af1", func := "delver/delverlaw15.ShadeKeeps", spec := "shadeKeeps", unfollowed := true, recurses := true, apart := false, narrowed := true }
def ShadeKeepsUptoSaid : Prop := shadeKeepsUptoRow.holds Try.pinned (OpenSpec.upto shadeKeepsSpec)

/-- 'delverlaw15.ShadeExact', WHERE WHAT IT READS IS OF BULK AT MOST 1048576: true; the input reads as it did. -/
def shadeExactUptoRow : OpenClaim := { program := "ythdlkpmhjbaplaa", sum := "1d0d73afdce7dc726294333995fa1d25c822024274ab7dee2bbe086d3e699af1", func := "delver/delverlaw15.ShadeExact", spec := "shadeExact", unfollowed := true, recurses := true, apart := false, narrowed := true }
def ShadeExactUptoSaid : Prop := shadeExactUptoRow.holds Try.pinned (OpenSpec.upto shadeExactSpec)

/-- 'delverlaw15.ShadeSwaps', WHERE WHAT IT READS IS OF BULK AT MOST 1048576: true; the input reads as it did. -/
def shadeSwapsUptoRow : OpenClaim := { program := "ythdlkpmhjbaplaa", sum := "1d0d73afdce7dc726294333995fa1d25c822024274ab7dee2bbe086d3e699af1", func := "delver/delverlaw15.ShadeSwaps", spec := "shadeSwaps", unfollowed := true, recurses := true, apart := false, narrowed := true }
def ShadeSwapsUptoSaid : Prop := shadeSwapsUptoRow.holds Try.pinned (OpenSpec.upto shadeSwapsSpec)

/-- 'delverlaw16.SolveFuel', WHERE WHAT IT READS IS OF BULK AT MOST 1048576: true; the input reads as it did. -/
def solveFuelUptoRow : OpenClaim := { program := "ythdlkpmhjbaplaa", sum := "1d0d73afdce7dc726294333995fa1d25c822024274ab7dee2bbe086d3e699af1", func := "delver/delverlaw16.SolveFuel", spec := "solveFuel", unfollowed := true, recurses := true, apart := false, narrowed := true }
def SolveFuelUptoSaid : Prop := solveFuelUptoRow.holds Try.pinned (OpenSpec.upto solveFuelSpec)

/-- 'delverlaw16.SolveBox', WHERE WHAT IT READS IS OF BULK AT MOST 1048576: true; the input reads as it did. -/
def solveBoxUptoRow : OpenClaim := { program := "ythdlkpmhjbaplaa", sum := "1d0d73afdce7dc726294333995fa1d25c822024274ab7dee2bbe086d3e699af1", func := "delver/delverlaw16.SolveBox", spec := "solveBox", unfollowed := true, recurses := true, apart := false, narrowed := true }
def SolveBoxUptoSaid : Prop := solveBoxUptoRow.holds Try.pinned (OpenSpec.upto solveBoxSpec)

/-- 'delverlaw16.SolveParts', WHERE WHAT IT READS IS OF BULK AT MOST 1048576: true; the input reads as it did. -/
def solvePartsUptoRow : OpenClaim := { program := "ythdlkpmhjbaplaa", sum := "1d0d73afdce7dc726294333995fa1d25c822024274ab7dee2bbe086d3e699af1", func := "delver/delverlaw16.SolveParts", spec := "solveParts", unfollowed := true, recurses := true, apart := false, narrowed := true }
def SolvePartsUptoSaid : Prop := solvePartsUptoRow.holds Try.pinned (OpenSpec.upto solvePartsSpec)

/-- 'delverlaw16.SolveChain', WHERE WHAT IT READS IS OF BULK AT MOST 1048576: true; the input reads as it did. -/
def solveChainUptoRow : OpenClaim := { program := "ythdlkpmhjbaplaa", sum := "1d0d73afdce7dc726294333995fa1d25c822024274ab7dee2bbe086d3e699af1", func := "delver/delverlaw16.SolveChain", spec := "solveChain", unfollowed := true, recurses := true, apart := false, narrowed := true }
def SolveChainUptoSaid : Prop := solveChainUptoRow.holds Try.pinned (OpenSpec.upto solveChainSpec)

/-- 'delverlaw16.SolveEqual', WHERE WHAT IT READS IS OF BULK AT MOST 1048576: true; the input reads as it did. -/
def solveEqualUptoRow : OpenClaim := { program := "ythdlkpmhjbaplaa", sum := "1d0d73afdce7dc726294333995fa1d25c822024274ab7dee2bbe086d3e699af1", func := "delver/delverlaw16.SolveEqual", spec := "solveEqual", unfollowed := true, recurses := true, apart := false, narrowed := true }
def SolveEqualUptoSaid : Prop := solveEqualUptoRow.holds Try.pinned (OpenSpec.upto solveEqualSpec)

/-- 'delverlaw16.SolveMore', WHERE WHAT IT READS IS OF BULK AT MOST 1048576: true; the input reads as it did. -/
def solveMoreUptoRow : OpenClaim := { program := "ythdlkpmhjbaplaa", sum := "1d0d73afdce7dc726294333995fa1d25c822024274ab7dee2bbe086d3e699af1", func := "delver/delverlaw16.SolveMore", spec := "solveMore", unfollowed := true, recurses := true, apart := false, narrowed := true }
def SolveMoreUptoSaid : Prop := solveMoreUptoRow.holds Try.pinned (OpenSpec.upto solveMoreSpec)

/-- 'delverlaw16.SolveModel', WHERE WHAT IT READS IS OF BULK AT MOST 1048576: true; the input reads as it did. -/
def solveModelUptoRow : OpenClaim := { program := "ythdlkpmhjbaplaa", sum := "1d0d73afdce7dc726294333995fa1d25c822024274ab7dee2bbe086d3e699af1", func := "delver/delverlaw16.SolveModel", spec := "solveModel", unfollowed := true, recurses := true, apart := false, narrowed := true }
def SolveModelUptoSaid : Prop := solveModelUptoRow.holds Try.pinned (OpenSpec.upto solveModelSpec)

/-- 'delverlaw16.SolveNone', WHERE WHAT IT READS IS OF BULK AT MOST 1048576: true; the input reads as it did. -/
def solveNoneUptoRow : OpenClaim := { program := "ythdlkpmhjbaplaa", sum := "1d0d73afdce7dc726294333995fa1d25c822024274ab7dee2bbe086d3e699af1", func := "delver/delverlaw16.SolveNone", spec := "solveNone", unfollowed := true, recurses := true, apart := false, narrowed := true }
def SolveNoneUptoSaid : Prop := solveNoneUptoRow.holds Try.pinned (OpenSpec.upto solveNoneSpec)

end Rows
end Go.Proofs.Ythdlkpmhjbaplaa
