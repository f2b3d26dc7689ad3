/-
  No cell of these rows narrows 'for every input' (looked for: loops, veiled, ifaces, maps, wideKeys, modest, calm, conditions, laid).
  DERIVED. THE GIVEN ROWS OF THIS SEAT. 5 by the template 'for every input the law returns true; each argument reads behind the call as it read before'; 0 by the template 'total and deterministic' (their statements: YtfmlmakhpdpabaaTotals.lean).
  GIVEN WITH THE SEED: the statements are not yours to turn. If you find one false, say at which input.
  Laid BY PROGRAM, IN A SANDBOX (cutbox-rows.mjs): the forced cells as the released guide's own fill.sh prints them over the translation 395976e11bb379b2… (all of the seat's roots in one cut). By AI agents, Wed Nov 11 2026. No macro, syntax, notation, axiom, sorry.
-/
import Derived.Test.YtfmlmakhpdpabaaChecked
import GoSem.Claim
import GoSem.ClaimJoined
import GoSem.ClaimMapViews
import Derived.JoinedTies
import Derived.KernelRfl
namespace Go.Proofs.Ytfmlmakhpdpabaa
/- THE CELL 'sum', in the pinned program and in every row, IS THE sha256 OF THE DUMP (.gsa) THAT YtfmlmakhpdpabaaProg.lean LOADS. Nothing in Lean hashes anything: it is a label: what it is worth is what the hold of that sum in a sandbox is worth. -/
noncomputable def Try.pinned : Pinned := { name := "ytfmlmakhpdpabaa", sum := "395976e11bb379b2c9d7ba4340efae542f726a2016056de3cc7e07dcc740a6db", checked := Try.checked }
namespace Rows
def none {H : Type} : Left H := { results := [], args := [] }

/-- 'delverlaw15.ShadePicks': WHATEVER THE INPUT: true; the input reads as it did. -/
def shadePicksSpec : ChangeSpec := { name := "shadePicks", fn := fun _ => fun
  | [d1, d2, d3] => { results := [.lit (.bool true)], args := [d1, d2, d3] }
  | _ => none }
def shadePicksRow : OpenClaim := { program := "ytfmlmakhpdpabaa", sum := "395976e11bb379b2c9d7ba4340efae542f726a2016056de3cc7e07dcc740a6db", func := "delver/delverlaw15.ShadePicks", spec := "shadePicks", unfollowed := true, recurses := true, apart := false }
def ShadePicksSaid : Prop := shadePicksRow.holds Try.pinned (OpenSpec.ofChange shadePicksSpec)

/-- ITS FALSE NEIGHBOUR: 'it returns false'. Refute it at one input. -/
def shadePicksWrong : ChangeSpec := { name := "shadePicks", fn := fun _ => fun
  | [d1, d2, d3] => { results := [.lit (.bool false)], args := [d1, d2, d3] }
  | _ => none }
def ShadePicksWrongFalsely : Prop := shadePicksRow.holds Try.pinned (OpenSpec.ofChange shadePicksWrong)

/-- 'delverlaw15.ShadeUnits': WHATEVER THE INPUT: true; the input reads as it did. -/
def shadeUnitsSpec : ChangeSpec := { name := "shadeUnits", fn := fun _ => fun
  | [d] => { results := [.lit (.bool true)], args := [d] }
  | _ => none }
def shadeUnitsRow : OpenClaim := { program := "ytfmlmakhpdpabaa", sum := "395976e11bb379b2c9d7ba4340efae542f726a2016056de3cc7e07dcc740a6db", func := "delver/delverlaw15.ShadeUnits", spec := "shadeUnits", unfollowed := true, recurses := true, apart := false }
def ShadeUnitsSaid : Prop := shadeUnitsRow.holds Try.pinned (OpenSpec.ofChange shadeUnitsSpec)

/-- ITS FALSE NEIGHBOUR: 'it returns false'. Refute it at one input. -/
def shadeUnitsWrong : ChangeSpec := { name := "shadeUnits", fn := fun _ => fun
  | [d] => { results := [.lit (.bool false)], args := [d] }
  | _ => none }
def ShadeUnitsWrongFalsely : Prop := shadeUnitsRow.holds Try.pinned (OpenSpec.ofChange shadeUnitsWrong)

/-- 'delverlaw15.ShadeKeeps': WHATEVER THE INPUT: true; the input reads as it did. -/
def shadeKeepsSpec : ChangeSpec := { name := "shadeKeeps", fn := fun _ => fun
  | [d1, d2] => { results := [.lit (.bool true)], args := [d1, d2] }
  | _ => none }
def shadeKeepsRow : OpenClaim := { program := "ytfmlmakhpdpabaa", sum := "395976e11bb379b2c9d7ba4340efae542f726a2016056de3cc7e07dcc740a6db", func := "delver/delverlaw15.ShadeKeeps", spec := "shadeKeeps", unfollowed := true, recurses := true, apart := false }
def ShadeKeepsSaid : Prop := shadeKeepsRow.holds Try.pinned (OpenSpec.ofChange shadeKeepsSpec)

/-- ITS FALSE NEIGHBOUR: 'it returns false'. Refute it at one input. -/
def shadeKeepsWrong : ChangeSpec := { name := "shadeKeeps", fn := fun _ => fun
  | [d1, d2] => { results := [.lit (.bool false)], args := [d1, d2] }
  | _ => none }
def ShadeKeepsWrongFalsely : Prop := shadeKeepsRow.holds Try.pinned (OpenSpec.ofChange shadeKeepsWrong)

/-- 'delverlaw15.ShadeExact': WHATEVER THE INPUT: true; the input reads as it did. -/
def shadeExactSpec : ChangeSpec := { name := "shadeExact", fn := fun _ => fun
  | [d1, d2, d3, d4, d5] => { results := [.lit (.bool true)], args := [d1, d2, d3, d4, d5] }
  | _ => none }
def shadeExactRow : OpenClaim := { program := "ytfmlmakhpdpabaa", sum := "395976e11bb379b2c9d7ba4340efae542f726a2016056de3cc7e07dcc740a6db", func := "delver/delverlaw15.ShadeExact", spec := "shadeExact", unfollowed := true, recurses := true, apart := false }
def ShadeExactSaid : Prop := shadeExactRow.holds Try.pinned (OpenSpec.ofChange shadeExactSpec)

/-- ITS FALSE NEIGHBOUR: 'it returns false'. Refute it at one input. -/
def shadeExactWrong : ChangeSpec := { name := "shadeExact", fn := fun _ => fun
  | [d1, d2, d3, d4, d5] => { results := [.lit (.bool false)], args := [d1, d2, d3, d4, d5] }
  | _ => none }
def ShadeExactWrongFalsely : Prop := shadeExactRow.holds Try.pinned (OpenSpec.ofChange shadeExactWrong)

/-- 'delverlaw15.ShadeSwaps': WHATEVER THE INPUT: true; the input reads as it did. -/
def shadeSwapsSpec : ChangeSpec := { name := "shadeSwaps", fn := fun _ => fun
  | [d1, d2, d3, d4] => { results := [.lit (.bool true)], args := [d1, d2, d3, d4] }
  | _ => none }
def shadeSwapsRow : OpenClaim := { program := "ytfmlmakhpdpabaa", sum := "395976e11bb379b2c9d7ba4340efae542f726a2016056de3cc7e07dcc740a6db", func := "delver/delverlaw15.ShadeSwaps", spec := "shadeSwaps", unfollowed := true, recurses := true, apart := false }
def ShadeSwapsSaid : Prop := shadeSwapsRow.holds Try.pinned (OpenSpec.ofChange shadeSwapsSpec)

/-- ITS FALSE NEIGHBOUR: 'it returns false'. Refute it at one input. -/
def shadeSwapsWrong : ChangeSpec := { name := "shadeSwaps", fn := fun _ => fun
  | [d1, d2, d3, d4] => { results := [.lit (.bool false)], args := [d1, d2, d3, d4] }
  | _ => none }
def ShadeSwapsWrongFalsely : Prop := shadeSwapsRow.holds Try.pinned (OpenSpec.ofChange shadeSwapsWrong)

/- THE SECOND FORM. 'bulk': how many values and letters a reading holds, each counted each time it is reached (what is shared counts as often as it is met; a slice's spare places count too). A statement '..UptoSaid' is the law's where the arguments, and the package variables that the reading takes, are together of bulk at most 1048576: NARROWER than '..Said'. Prove '..Said' where nothing that the law and all that it calls make is longer than what came in: it says more and counts as full. Else prove '..UptoSaid'. A law counts once. -/
mutual
def uptoBulk {H : Type} : DataW H → Nat
  | .lit (.string bytes) => bytes.length + 1
  | .lit _ => 1
  | .nil => 1
  | .ptr d => uptoBulk d + 1
  | .slice elems spare => uptoBulkAll elems + uptoBulkAll spare + 1
  | .agg parts => uptoBulkAll parts + 1
  | .iface _ d => uptoBulk d + 1
  | .map entries => uptoBulkEntries entries + 1
  | .held _ => 1
def uptoBulkAll {H : Type} : List (DataW H) → Nat
  | [] => 0
  | d :: r => uptoBulk d + uptoBulkAll r
def uptoBulkEntries {H : Type} : List (Lit × DataW H) → Nat
  | [] => 0
  | x :: r => uptoBulkEntry x + uptoBulkEntries r
def uptoBulkEntry {H : Type} : Lit × DataW H → Nat
  | (.string bytes, d) => bytes.length + uptoBulk d + 1
  | (_, d) => uptoBulk d + 1
 end
def uptoSmall : (H : Type) → List (DataW H) → Bool := fun _ ds => decide (uptoBulkAll ds ≤ 1048576)
def OpenSpec.upto (s : _root_.Go.ChangeSpec) : _root_.Go.OpenSpec := { _root_.Go.OpenSpec.ofChange s with cond := some uptoSmall }

/-- 'delverlaw15.ShadePicks', WHERE WHAT IT READS IS OF BULK AT MOST 1048576: true; the input reads as it did. -/
def shadePicksUptoRow : OpenClaim := { program := "ytfmlmakhpdpabaa", sum := "395976e11bb379b2c9d7ba4340efae542f726a2016056de3cc7e07dcc740a6db", func := "delver/delverlaw15.ShadePicks", spec := "shadePicks", unfollowed := true, recurses := true, apart := false, narrowed := true }
def ShadePicksUptoSaid : Prop := shadePicksUptoRow.holds Try.pinned (OpenSpec.upto shadePicksSpec)

/-- 'delverlaw15.ShadeUnits', WHERE WHAT IT READS IS OF BULK AT MOST 1048576: true; the input reads as it did. -/
def shadeUnitsUptoRow : OpenClaim := { program := "ytfmlmakhpdpabaa", sum := "395976e11bb379b2c9d7ba4340efae542f726a2016056de3cc7e07dcc740a6db", func := "delver/delverlaw15.ShadeUnits", spec := "shadeUnits", unfollowed := true, recurses := true, apart := false, narrowed := true }
def ShadeUnitsUptoSaid : Prop := shadeUnitsUptoRow.holds Try.pinned (OpenSpec.upto shadeUnitsSpec)

/-- 'delverlaw15.ShadeKeeps', WHERE WHAT IT READS IS OF BULK AT MOST 1048576: true; the input reads as it did. -/
def shadeKeepsUptoRow : OpenClaim := { program := "ytfmlmakhpdpabaa", sum := "395976e11bb379b2c9d7ba4340efae542f726a2016056de3cc7e07dcc740a6db", func := "delver/delverlaw15.ShadeKeeps", spec := "shadeKeeps", unfollowed := true, recurses := true, apart := false, narrowed := true }
def ShadeKeepsUptoSaid : Prop := shadeKeepsUptoRow.holds Try.pinned (OpenSpec.upto shadeKeepsSpec)

/-- 'delverlaw15.ShadeExact', WHERE WHAT IT READS IS OF BULK AT MOST 1048576: true; the input reads as it did. -/
def shadeExactUptoRow : OpenClaim := { program := "ytfmlmakhpdpabaa", sum := "395976e11bb379b2c9d7ba4340efae542f726a2016056de3cc7e07dcc740a6db", func := "delver/delverlaw15.ShadeExact", spec := "shadeExact", unfollowed := true, recurses := true, apart := false, narrowed := true }
def ShadeExactUptoSaid : Prop := shadeExactUptoRow.holds Try.pinned (OpenSpec.upto shadeExactSpec)

/-- 'delverlaw15.ShadeSwaps', WHERE WHAT IT READS IS OF BULK AT MOST 1048576: true; the input reads as it did. -/
def shadeSwapsUptoRow : OpenClaim := { program := "ytfmlmakhpdpabaa", sum := "395976e11bb379b2c9d7ba4340efae542f726a2016056de3cc7e07dcc740a6db", func := "delver/delverlaw15.ShadeSwaps", spec := "shadeSwaps", unfollowed := true, recurses := true, apart := false, narrowed := true }
def ShadeSwapsUptoSaid : Prop := shadeSwapsUptoRow.holds Try.pinned (OpenSpec.upto shadeSwapsSpec)

end Rows
end Go.Proofs.Ytfmlmakhpdpabaa
