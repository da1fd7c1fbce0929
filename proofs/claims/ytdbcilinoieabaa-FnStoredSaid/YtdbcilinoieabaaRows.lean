/-
  No cell of these rows narrows 'for every input' (looked for: loops, veiled, ifaces, maps, wideKeys, modest, calm, conditions, laid).
  DERIVED. THE GIVEN ROWS OF THIS SEAT. 5 by the template 'for every input the law returns true; each argument reads behind the call as it read before'; 0 by the template 'total and deterministic' (their statements: YtdbcilinoieabaaTotals.lean).
  GIVEN WITH THE SEED: the statements are not yours to turn. If you find one false, say at which input.
  Laid BY PROGRAM, IN A SANDBOX (cutbox-rows.mjs): the forced cells as the released guide's own fill.sh prints them over the translation 4cc6d2944ff3ab1a… (all of the seat's roots in one cut). By AI agents, Wed Nov 11 2026. No macro, syntax, notation, axiom, sorry.
-/
import Derived.Test.YtdbcilinoieabaaChecked
import GoSem.Claim
import GoSem.ClaimJoined
import GoSem.ClaimMapViews
import Derived.JoinedTies
import Derived.KernelRfl
namespace Go.Proofs.Ytdbcilinoieabaa
/- THE CELL 'sum', in the pinned program and in every row, IS THE sha256 OF THE DUMP (.gsa) THAT YtdbcilinoieabaaProg.lean LOADS. Nothing in Lean hashes anything: it is a label: what it is worth is what the hold of that sum in a sandbox is worth. -/
noncomputable def Try.pinned : Pinned := { name := "ytdbcilinoieabaa", sum := "4cc6d2944ff3ab1aebbcb9a5e66e6de80dd18ad308aa8c93fbdf2fb754c50e39", checked := Try.checked }
namespace Rows
def none {H : Type} : Left H := { results := [], args := [] }

/-- 'laws.FnTurns': WHATEVER THE INPUT: true; the input reads as it did. -/
def fnTurnsSpec : ChangeSpec := { name := "fnTurns", fn := fun _ => fun
  | [d] => { results := [.lit (.bool true)], args := [d] }
  | _ => none }
def fnTurnsRow : OpenClaim := { program := "ytdbcilinoieabaa", sum := "4cc6d2944ff3ab1aebbcb9a5e66e6de80dd18ad308aa8c93fbdf2fb754c50e39", func := "loop.example/g01060/laws.FnTurns", spec := "fnTurns", apart := false }
def FnTurnsSaid : Prop := fnTurnsRow.holds Try.pinned (OpenSpec.ofChange fnTurnsSpec)

/-- ITS FALSE NEIGHBOUR: 'it returns false'. Refute it at one input. -/
def fnTurnsWrong : ChangeSpec := { name := "fnTurns", fn := fun _ => fun
  | [d] => { results := [.lit (.bool false)], args := [d] }
  | _ => none }
def FnTurnsWrongFalsely : Prop := fnTurnsRow.holds Try.pinned (OpenSpec.ofChange fnTurnsWrong)

/-- 'laws.FnReaders': WHATEVER THE INPUT: true; the input reads as it did. -/
def fnReadersSpec : ChangeSpec := { name := "fnReaders", fn := fun _ => fun
  | [d] => { results := [.lit (.bool true)], args := [d] }
  | _ => none }
def fnReadersRow : OpenClaim := { program := "ytdbcilinoieabaa", sum := "4cc6d2944ff3ab1aebbcb9a5e66e6de80dd18ad308aa8c93fbdf2fb754c50e39", func := "loop.example/g01060/laws.FnReaders", spec := "fnReaders", unfollowed := true, recurses := true, apart := false }
def FnReadersSaid : Prop := fnReadersRow.holds Try.pinned (OpenSpec.ofChange fnReadersSpec)

/-- ITS FALSE NEIGHBOUR: 'it returns false'. Refute it at one input. -/
def fnReadersWrong : ChangeSpec := { name := "fnReaders", fn := fun _ => fun
  | [d] => { results := [.lit (.bool false)], args := [d] }
  | _ => none }
def FnReadersWrongFalsely : Prop := fnReadersRow.holds Try.pinned (OpenSpec.ofChange fnReadersWrong)

/-- 'laws.FnDrawers': WHATEVER THE INPUT: true; the input reads as it did. -/
def fnDrawersSpec : ChangeSpec := { name := "fnDrawers", fn := fun _ => fun
  | [d] => { results := [.lit (.bool true)], args := [d] }
  | _ => none }
def fnDrawersRow : OpenClaim := { program := "ytdbcilinoieabaa", sum := "4cc6d2944ff3ab1aebbcb9a5e66e6de80dd18ad308aa8c93fbdf2fb754c50e39", func := "loop.example/g01060/laws.FnDrawers", spec := "fnDrawers", inPlace := ["slices.overlaps[int]"], unfollowed := true, recurses := true, apart := false }
def FnDrawersSaid : Prop := fnDrawersRow.holds Try.pinned (OpenSpec.ofChange fnDrawersSpec)

/-- ITS FALSE NEIGHBOUR: 'it returns false'. Refute it at one input. -/
def fnDrawersWrong : ChangeSpec := { name := "fnDrawers", fn := fun _ => fun
  | [d] => { results := [.lit (.bool false)], args := [d] }
  | _ => none }
def FnDrawersWrongFalsely : Prop := fnDrawersRow.holds Try.pinned (OpenSpec.ofChange fnDrawersWrong)

/-- 'laws.FnNeighbors': WHATEVER THE INPUT: true; the input reads as it did. -/
def fnNeighborsSpec : ChangeSpec := { name := "fnNeighbors", fn := fun _ => fun
  | [d] => { results := [.lit (.bool true)], args := [d] }
  | _ => none }
def fnNeighborsRow : OpenClaim := { program := "ytdbcilinoieabaa", sum := "4cc6d2944ff3ab1aebbcb9a5e66e6de80dd18ad308aa8c93fbdf2fb754c50e39", func := "loop.example/g01060/laws.FnNeighbors", spec := "fnNeighbors", unfollowed := true, recurses := true, apart := false }
def FnNeighborsSaid : Prop := fnNeighborsRow.holds Try.pinned (OpenSpec.ofChange fnNeighborsSpec)

/-- ITS FALSE NEIGHBOUR: 'it returns false'. Refute it at one input. -/
def fnNeighborsWrong : ChangeSpec := { name := "fnNeighbors", fn := fun _ => fun
  | [d] => { results := [.lit (.bool false)], args := [d] }
  | _ => none }
def FnNeighborsWrongFalsely : Prop := fnNeighborsRow.holds Try.pinned (OpenSpec.ofChange fnNeighborsWrong)

/-- 'laws.FnStored': WHATEVER THE INPUT: true; the input reads as it did. -/
def fnStoredSpec : ChangeSpec := { name := "fnStored", fn := fun _ => fun
  | [d] => { results := [.lit (.bool true)], args := [d] }
  | _ => none }
def fnStoredRow : OpenClaim := { program := "ytdbcilinoieabaa", sum := "4cc6d2944ff3ab1aebbcb9a5e66e6de80dd18ad308aa8c93fbdf2fb754c50e39", func := "loop.example/g01060/laws.FnStored", spec := "fnStored", inPlace := ["slices.overlaps[int]"], unfollowed := true, recurses := true, apart := false }
def FnStoredSaid : Prop := fnStoredRow.holds Try.pinned (OpenSpec.ofChange fnStoredSpec)

/-- ITS FALSE NEIGHBOUR: 'it returns false'. Refute it at one input. -/
def fnStoredWrong : ChangeSpec := { name := "fnStored", fn := fun _ => fun
  | [d] => { results := [.lit (.bool false)], args := [d] }
  | _ => none }
def FnStoredWrongFalsely : Prop := fnStoredRow.holds Try.pinned (OpenSpec.ofChange fnStoredWrong)

/- THE SECOND FORM. 'bulk': how many values and letters a reading holds, each counted each time it is reached (what is shared counts as often as it is met; a slice's spare places count too). A statement '..UptoSaid' is the law's where the arguments, and the package variables that the reading takes, are together of bulk at most 1048576: NARROWER than '..Said'. Prove '..Said' where nothing that the law and all that it calls make is longer than what came in: it says more and counts as full. Else prove '..UptoSaid'. A law counts once. -/
mutual
def uptoBulk {H : Type} : DataW H → Nat
  | .lit (.string bytes) => bytes.length + 1
  | .lit _ => 1
  | .nil => 1
  | .ptr d => uptoBulk d + 1
  | .slice elems spare => uptoBulkAll elems + uptoBulkAll spare + 1
  | .agg parts => uptoBulkAll parts + 1
  | .iface _ d => uptoBulk d + 1
  | .map entries => uptoBulkEntries entries + 1
  | .held _ => 1
def uptoBulkAll {H : Type} : List (DataW H) → Nat
  | [] => 0
  | d :: r => uptoBulk d + uptoBulkAll r
def uptoBulkEntries {H : Type} : List (Lit × DataW H) → Nat
  | [] => 0
  | x :: r => uptoBulkEntry x + uptoBulkEntries r
def uptoBulkEntry {H : Type} : Lit × DataW H → Nat
  | (.string bytes, d) => bytes.length + uptoBulk d + 1
  | (_, d) => uptoBulk d + 1
 end
def uptoSmall : (H : Type) → List (DataW H) → Bool := fun _ ds => decide (uptoBulkAll ds ≤ 1048576)
def OpenSpec.upto (s : _root_.Go.ChangeSpec) : _root_.Go.OpenSpec := { _root_.Go.OpenSpec.ofChange s with cond := some uptoSmall }

/-- 'laws.FnTurns', WHERE WHAT IT READS IS OF BULK AT MOST 1048576: true; the input reads as it did. -/
def fnTurnsUptoRow : OpenClaim := { program := "ytdbcilinoieabaa", sum := "4cc6d2944ff3ab1aebbcb9a5e66e6de80dd18ad308aa8c93fbdf2fb754c50e39", func := "loop.example/g01060/laws.FnTurns", spec := "fnTurns", apart := false, narrowed := true }
def FnTurnsUptoSaid : Prop := fnTurnsUptoRow.holds Try.pinned (OpenSpec.upto fnTurnsSpec)

/-- 'laws.FnReaders', WHERE WHAT IT READS IS OF BULK AT MOST 1048576: true; the input reads as it did. -/
def fnReadersUptoRow : OpenClaim := { program := "ytdbcilinoieabaa", sum := "4cc6d2944ff3ab1aebbcb9a5e66e6de80dd18ad308aa8c93fbdf2fb754c50e39", func := "loop.example/g01060/laws.FnReaders", spec := "fnReaders", unfollowed := true, recurses := true, apart := false, narrowed := true }
def FnReadersUptoSaid : Prop := fnReadersUptoRow.holds Try.pinned (OpenSpec.upto fnReadersSpec)

/-- 'laws.FnDrawers', WHERE WHAT IT READS IS OF BULK AT MOST 1048576: true; the input reads as it did. -/
def fnDrawersUptoRow : OpenClaim := { program := "ytdbcilinoieabaa", sum := "4cc6d2944ff3ab1aebbcb9a5e66e6de80dd18ad308aa8c93fbdf2fb754c50e39", func := "loop.example/g01060/laws.FnDrawers", spec := "fnDrawers", inPlace := ["slices.overlaps[int]"], unfollowed := true, recurses := true, apart := false, narrowed := true }
def FnDrawersUptoSaid : Prop := fnDrawersUptoRow.holds Try.pinned (OpenSpec.upto fnDrawersSpec)

/-- 'laws.FnNeighbors', WHERE WHAT IT READS IS OF BULK AT MOST 1048576: true; the input reads as it did. -/
def fnNeighborsUptoRow : OpenClaim := { program := "ytdbcilinoieabaa", sum := "4cc6d2944ff3ab1aebbcb9a5e66e6de80dd18ad308aa8c93fbdf2fb754c50e39", func := "loop.example/g01060/laws.FnNeighbors", spec := "fnNeighbors", unfollowed := true, recurses := true, apart := false, narrowed := true }
def FnNeighborsUptoSaid : Prop := fnNeighborsUptoRow.holds Try.pinned (OpenSpec.upto fnNeighborsSpec)

/-- 'laws.FnStored', WHERE WHAT IT READS IS OF BULK AT MOST 1048576: true; the input reads as it did. -/
def fnStoredUptoRow : OpenClaim := { program := "ytdbcilinoieabaa", sum := "4cc6d2944ff3ab1aebbcb9a5e66e6de80dd18ad308aa8c93fbdf2fb754c50e39", func := "loop.example/g01060/laws.FnStored", spec := "fnStored", inPlace := ["slices.overlaps[int]"], unfollowed := true, recurses := true, apart := false, narrowed := true }
def FnStoredUptoSaid : Prop := fnStoredUptoRow.holds Try.pinned (OpenSpec.upto fnStoredSpec)

end Rows
end Go.Proofs.Ytdbcilinoieabaa
