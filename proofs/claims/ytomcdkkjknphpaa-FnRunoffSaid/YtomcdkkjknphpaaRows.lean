/-
  No cell of these rows narrows 'for every input' (looked for: loops, veiled, ifaces, maps, wideKeys, modest, calm, conditions, laid).
  DERIVED. THE GIVEN ROWS OF THIS SEAT. 12 by the template 'for every input the law returns true; each argument reads behind the call as it read before'; 0 by the template 'total and deterministic' (their statements: YtomcdkkjknphpaaTotals.lean).
  GIVEN WITH THE SEED: the statements are not yours to turn. If you find one false, say at which input.
  Laid BY PROGRAM, IN A SANDBOX (cutbox-rows.mjs): the forced cells as the released guide's own fill.sh prints them over the translation ffa060357621f272… (all of the seat's roots in one cut). By AI agents, Wed Nov 11 2026. No macro, syntax, notation, axiom, sorry.
-/
import Derived.Test.YtomcdkkjknphpaaChecked
import GoSem.Claim
import GoSem.ClaimJoined
import GoSem.ClaimMapViews
import Derived.JoinedTies
import Derived.KernelRfl
namespace Go.Proofs.Ytomcdkkjknphpaa
/- THE CELL 'sum', in the pinned program and in every row, IS THE sha256 OF THE DUMP (.gsa) THAT YtomcdkkjknphpaaProg.lean LOADS. Nothing in Lean hashes anything: it is a label: what it is worth is what the hold of that sum in a sandbox is worth. -/
noncomputable def Try.pinned : Pinned := { name := "ytomcdkkjknphpaa", sum := "ffa060357621f27273bb07befb1ae9ae57f400ac4e762837dc9d59b7bea7c55a", checked := Try.checked }
namespace Rows
def none {H : Type} : Left H := { results := [], args := [] }

/-- 'laws.FnExactIsRelief': WHATEVER THE INPUT: true; the input reads as it did. -/
def fnExactIsReliefSpec : ChangeSpec := { name := "fnExactIsRelief", fn := fun _ => fun
  | [d] => { results := [.lit (.bool true)], args := [d] }
  | _ => none }
def fnExactIsReliefRow : OpenClaim := { program := "ytomcdkkjknphpaa", sum := "ffa060357621f27273bb07befb1ae9ae57f400ac4e762837dc9d59b7bea7c55a", func := "loop.example/g01060/laws.FnExactIsRelief", spec := "fnExactIsRelief", unfollowed := true, recurses := true, apart := false }
def FnExactIsReliefSaid : Prop := fnExactIsReliefRow.holds Try.pinned (OpenSpec.ofChange fnExactIsReliefSpec)

/-- ITS FALSE NEIGHBOUR: 'it returns false'. Refute it at one input. -/
def fnExactIsReliefWrong : ChangeSpec := { name := "fnExactIsRelief", fn := fun _ => fun
  | [d] => { results := [.lit (.bool false)], args := [d] }
  | _ => none }
def FnExactIsReliefWrongFalsely : Prop := fnExactIsReliefRow.holds Try.pinned (OpenSpec.ofChange fnExactIsReliefWrong)

/-- 'laws.FnLevels': WHATEVER THE INPUT: true; the input reads as it did. -/
def fnLevelsSpec : ChangeSpec := { name := "fnLevels", fn := fun _ => fun
  | [d] => { results := [.lit (.bool true)], args := [d] }
  | _ => none }
def fnLevelsRow : OpenClaim := { program := "ytomcdkkjknphpaa", sum := "ffa060357621f27273bb07befb1ae9ae57f400ac4e762837dc9d59b7bea7c55a", func := "loop.example/g01060/laws.FnLevels", spec := "fnLevels", unfollowed := true, recurses := true, apart := false }
def FnLevelsSaid : Prop := fnLevelsRow.holds Try.pinned (OpenSpec.ofChange fnLevelsSpec)

/-- ITS FALSE NEIGHBOUR: 'it returns false'. Refute it at one input. -/
def fnLevelsWrong : ChangeSpec := { name := "fnLevels", fn := fun _ => fun
  | [d] => { results := [.lit (.bool false)], args := [d] }
  | _ => none }
def FnLevelsWrongFalsely : Prop := fnLevelsRow.holds Try.pinned (OpenSpec.ofChange fnLevelsWrong)

/-- 'laws.FnExactNextSquare': WHATEVER THE INPUT: true; the input reads as it did. -/
def fnExactNextSquareSpec : ChangeSpec := { name := "fnExactNextSquare", fn := fun _ => fun
  | [d1, d2, d3] => { results := [.lit (.bool true)], args := [d1, d2, d3] }
  | _ => none }
def fnExactNextSquareRow : OpenClaim := { program := "ytomcdkkjknphpaa", sum := "ffa060357621f27273bb07befb1ae9ae57f400ac4e762837dc9d59b7bea7c55a", func := "loop.example/g01060/laws.FnExactNextSquare", spec := "fnExactNextSquare", unfollowed := true, recurses := true, apart := false }
def FnExactNextSquareSaid : Prop := fnExactNextSquareRow.holds Try.pinned (OpenSpec.ofChange fnExactNextSquareSpec)

/-- ITS FALSE NEIGHBOUR: 'it returns false'. Refute it at one input. -/
def fnExactNextSquareWrong : ChangeSpec := { name := "fnExactNextSquare", fn := fun _ => fun
  | [d1, d2, d3] => { results := [.lit (.bool false)], args := [d1, d2, d3] }
  | _ => none }
def FnExactNextSquareWrongFalsely : Prop := fnExactNextSquareRow.holds Try.pinned (OpenSpec.ofChange fnExactNextSquareWrong)

/-- 'laws.FnExactSteepestSquare': WHATEVER THE INPUT: true; the input reads as it did. -/
def fnExactSteepestSquareSpec : ChangeSpec := { name := "fnExactSteepestSquare", fn := fun _ => fun
  | [d] => { results := [.lit (.bool true)], args := [d] }
  | _ => none }
def fnExactSteepestSquareRow : OpenClaim := { program := "ytomcdkkjknphpaa", sum := "ffa060357621f27273bb07befb1ae9ae57f400ac4e762837dc9d59b7bea7c55a", func := "loop.example/g01060/laws.FnExactSteepestSquare", spec := "fnExactSteepestSquare", unfollowed := true, recurses := true, apart := false }
def FnExactSteepestSquareSaid : Prop := fnExactSteepestSquareRow.holds Try.pinned (OpenSpec.ofChange fnExactSteepestSquareSpec)

/-- ITS FALSE NEIGHBOUR: 'it returns false'. Refute it at one input. -/
def fnExactSteepestSquareWrong : ChangeSpec := { name := "fnExactSteepestSquare", fn := fun _ => fun
  | [d] => { results := [.lit (.bool false)], args := [d] }
  | _ => none }
def FnExactSteepestSquareWrongFalsely : Prop := fnExactSteepestSquareRow.holds Try.pinned (OpenSpec.ofChange fnExactSteepestSquareWrong)

/-- 'laws.FnExactCatchment': WHATEVER THE INPUT: true; the input reads as it did. -/
def fnExactCatchmentSpec : ChangeSpec := { name := "fnExactCatchment", fn := fun _ => fun
  | [d1, d2, d3] => { results := [.lit (.bool true)], args := [d1, d2, d3] }
  | _ => none }
def fnExactCatchmentRow : OpenClaim := { program := "ytomcdkkjknphpaa", sum := "ffa060357621f27273bb07befb1ae9ae57f400ac4e762837dc9d59b7bea7c55a", func := "loop.example/g01060/laws.FnExactCatchment", spec := "fnExactCatchment", unfollowed := true, recurses := true, apart := false }
def FnExactCatchmentSaid : Prop := fnExactCatchmentRow.holds Try.pinned (OpenSpec.ofChange fnExactCatchmentSpec)

/-- ITS FALSE NEIGHBOUR: 'it returns false'. Refute it at one input. -/
def fnExactCatchmentWrong : ChangeSpec := { name := "fnExactCatchment", fn := fun _ => fun
  | [d1, d2, d3] => { results := [.lit (.bool false)], args := [d1, d2, d3] }
  | _ => none }
def FnExactCatchmentWrongFalsely : Prop := fnExactCatchmentRow.holds Try.pinned (OpenSpec.ofChange fnExactCatchmentWrong)

/-- 'laws.FnExactLevelAt': WHATEVER THE INPUT: true; the input reads as it did. -/
def fnExactLevelAtSpec : ChangeSpec := { name := "fnExactLevelAt", fn := fun _ => fun
  | [d1, d2, d3] => { results := [.lit (.bool true)], args := [d1, d2, d3] }
  | _ => none }
def fnExactLevelAtRow : OpenClaim := { program := "ytomcdkkjknphpaa", sum := "ffa060357621f27273bb07befb1ae9ae57f400ac4e762837dc9d59b7bea7c55a", func := "loop.example/g01060/laws.FnExactLevelAt", spec := "fnExactLevelAt", unfollowed := true, recurses := true, apart := false }
def FnExactLevelAtSaid : Prop := fnExactLevelAtRow.holds Try.pinned (OpenSpec.ofChange fnExactLevelAtSpec)

/-- ITS FALSE NEIGHBOUR: 'it returns false'. Refute it at one input. -/
def fnExactLevelAtWrong : ChangeSpec := { name := "fnExactLevelAt", fn := fun _ => fun
  | [d1, d2, d3] => { results := [.lit (.bool false)], args := [d1, d2, d3] }
  | _ => none }
def FnExactLevelAtWrongFalsely : Prop := fnExactLevelAtRow.holds Try.pinned (OpenSpec.ofChange fnExactLevelAtWrong)

/-- 'laws.FnExactGreatestRiver': WHATEVER THE INPUT: true; the input reads as it did. -/
def fnExactGreatestRiverSpec : ChangeSpec := { name := "fnExactGreatestRiver", fn := fun _ => fun
  | [d] => { results := [.lit (.bool true)], args := [d] }
  | _ => none }
def fnExactGreatestRiverRow : OpenClaim := { program := "ytomcdkkjknphpaa", sum := "ffa060357621f27273bb07befb1ae9ae57f400ac4e762837dc9d59b7bea7c55a", func := "loop.example/g01060/laws.FnExactGreatestRiver", spec := "fnExactGreatestRiver", unfollowed := true, recurses := true, apart := false }
def FnExactGreatestRiverSaid : Prop := fnExactGreatestRiverRow.holds Try.pinned (OpenSpec.ofChange fnExactGreatestRiverSpec)

/-- ITS FALSE NEIGHBOUR: 'it returns false'. Refute it at one input. -/
def fnExactGreatestRiverWrong : ChangeSpec := { name := "fnExactGreatestRiver", fn := fun _ => fun
  | [d] => { results := [.lit (.bool false)], args := [d] }
  | _ => none }
def FnExactGreatestRiverWrongFalsely : Prop := fnExactGreatestRiverRow.holds Try.pinned (OpenSpec.ofChange fnExactGreatestRiverWrong)

/-- 'laws.FnExactRunOff': WHATEVER THE INPUT: true; the input reads as it did. -/
def fnExactRunOffSpec : ChangeSpec := { name := "fnExactRunOff", fn := fun _ => fun
  | [d1, d2, d3] => { results := [.lit (.bool true)], args := [d1, d2, d3] }
  | _ => none }
def fnExactRunOffRow : OpenClaim := { program := "ytomcdkkjknphpaa", sum := "ffa060357621f27273bb07befb1ae9ae57f400ac4e762837dc9d59b7bea7c55a", func := "loop.example/g01060/laws.FnExactRunOff", spec := "fnExactRunOff", unfollowed := true, recurses := true, apart := false }
def FnExactRunOffSaid : Prop := fnExactRunOffRow.holds Try.pinned (OpenSpec.ofChange fnExactRunOffSpec)

/-- ITS FALSE NEIGHBOUR: 'it returns false'. Refute it at one input. -/
def fnExactRunOffWrong : ChangeSpec := { name := "fnExactRunOff", fn := fun _ => fun
  | [d1, d2, d3] => { results := [.lit (.bool false)], args := [d1, d2, d3] }
  | _ => none }
def FnExactRunOffWrongFalsely : Prop := fnExactRunOffRow.holds Try.pinned (OpenSpec.ofChange fnExactRunOffWrong)

/-- 'laws.FnExactLakesOf': WHATEVER THE INPUT: true; the input reads as it did. -/
def fnExactLakesOfSpec : ChangeSpec := { name := "fnExactLakesOf", fn := fun _ => fun
  | [d] => { results := [.lit (.bool true)], args := [d] }
  | _ => none }
def fnExactLakesOfRow : OpenClaim := { program := "ytomcdkkjknphpaa", sum := "ffa060357621f27273bb07befb1ae9ae57f400ac4e762837dc9d59b7bea7c55a", func := "loop.example/g01060/laws.FnExactLakesOf", spec := "fnExactLakesOf", unfollowed := true, recurses := true, apart := false }
def FnExactLakesOfSaid : Prop := fnExactLakesOfRow.holds Try.pinned (OpenSpec.ofChange fnExactLakesOfSpec)

/-- ITS FALSE NEIGHBOUR: 'it returns false'. Refute it at one input. -/
def fnExactLakesOfWrong : ChangeSpec := { name := "fnExactLakesOf", fn := fun _ => fun
  | [d] => { results := [.lit (.bool false)], args := [d] }
  | _ => none }
def FnExactLakesOfWrongFalsely : Prop := fnExactLakesOfRow.holds Try.pinned (OpenSpec.ofChange fnExactLakesOfWrong)

/-- 'laws.FnExactPitsOf': WHATEVER THE INPUT: true; the input reads as it did. -/
def fnExactPitsOfSpec : ChangeSpec := { name := "fnExactPitsOf", fn := fun _ => fun
  | [d] => { results := [.lit (.bool true)], args := [d] }
  | _ => none }
def fnExactPitsOfRow : OpenClaim := { program := "ytomcdkkjknphpaa", sum := "ffa060357621f27273bb07befb1ae9ae57f400ac4e762837dc9d59b7bea7c55a", func := "loop.example/g01060/laws.FnExactPitsOf", spec := "fnExactPitsOf", unfollowed := true, recurses := true, apart := false }
def FnExactPitsOfSaid : Prop := fnExactPitsOfRow.holds Try.pinned (OpenSpec.ofChange fnExactPitsOfSpec)

/-- ITS FALSE NEIGHBOUR: 'it returns false'. Refute it at one input. -/
def fnExactPitsOfWrong : ChangeSpec := { name := "fnExactPitsOf", fn := fun _ => fun
  | [d] => { results := [.lit (.bool false)], args := [d] }
  | _ => none }
def FnExactPitsOfWrongFalsely : Prop := fnExactPitsOfRow.holds Try.pinned (OpenSpec.ofChange fnExactPitsOfWrong)

/-- 'laws.FnExactFilledRelief': WHATEVER THE INPUT: true; the input reads as it did. -/
def fnExactFilledReliefSpec : ChangeSpec := { name := "fnExactFilledRelief", fn := fun _ => fun
  | [d] => { results := [.lit (.bool true)], args := [d] }
  | _ => none }
def fnExactFilledReliefRow : OpenClaim := { program := "ytomcdkkjknphpaa", sum := "ffa060357621f27273bb07befb1ae9ae57f400ac4e762837dc9d59b7bea7c55a", func := "loop.example/g01060/laws.FnExactFilledRelief", spec := "fnExactFilledRelief", unfollowed := true, recurses := true, apart := false }
def FnExactFilledReliefSaid : Prop := fnExactFilledReliefRow.holds Try.pinned (OpenSpec.ofChange fnExactFilledReliefSpec)

/-- ITS FALSE NEIGHBOUR: 'it returns false'. Refute it at one input. -/
def fnExactFilledReliefWrong : ChangeSpec := { name := "fnExactFilledRelief", fn := fun _ => fun
  | [d] => { results := [.lit (.bool false)], args := [d] }
  | _ => none }
def FnExactFilledReliefWrongFalsely : Prop := fnExactFilledReliefRow.holds Try.pinned (OpenSpec.ofChange fnExactFilledReliefWrong)

/-- 'laws.FnRunoff': WHATEVER THE INPUT: true; the input reads as it did. -/
def fnRunoffSpec : ChangeSpec := { name := "fnRunoff", fn := fun _ => fun
  | [d] => { results := [.lit (.bool true)], args := [d] }
  | _ => none }
def fnRunoffRow : OpenClaim := { program := "ytomcdkkjknphpaa", sum := "ffa060357621f27273bb07befb1ae9ae57f400ac4e762837dc9d59b7bea7c55a", func := "loop.example/g01060/laws.FnRunoff", spec := "fnRunoff", unfollowed := true, recurses := true, apart := false }
def FnRunoffSaid : Prop := fnRunoffRow.holds Try.pinned (OpenSpec.ofChange fnRunoffSpec)

/-- ITS FALSE NEIGHBOUR: 'it returns false'. Refute it at one input. -/
def fnRunoffWrong : ChangeSpec := { name := "fnRunoff", fn := fun _ => fun
  | [d] => { results := [.lit (.bool false)], args := [d] }
  | _ => none }
def FnRunoffWrongFalsely : Prop := fnRunoffRow.holds Try.pinned (OpenSpec.ofChange fnRunoffWrong)

/- THE SECOND FORM. 'bulk': how many values and letters a reading holds, each counted each time it is reached (what is shared counts as often as it is met; a slice's spare places count too). A statement '..UptoSaid' is the law's where the arguments, and the package variables that the reading takes, are together of bulk at most 1048576: NARROWER than '..Said'. Prove '..Said' where nothing that the law and all that it calls make is longer than what came in: it says more and counts as full. Else prove '..UptoSaid'. A law counts once. -/
mutual
def uptoBulk {H : Type} : DataW H → Nat
  | .lit (.string bytes) => bytes.length + 1
  | .lit _ => 1
  | .nil => 1
  | .ptr d => uptoBulk d + 1
  | .slice elems spare => uptoBulkAll elems + uptoBulkAll spare + 1
  | .agg parts => uptoBulkAll parts + 1
  | .iface _ d => uptoBulk d + 1
  | .map entries => uptoBulkEntries entries + 1
  | .held _ => 1
def uptoBulkAll {H : Type} : List (DataW H) → Nat
  | [] => 0
  | d :: r => uptoBulk d + uptoBulkAll r
def uptoBulkEntries {H : Type} : List (Lit × DataW H) → Nat
  | [] => 0
  | x :: r => uptoBulkEntry x + uptoBulkEntries r
def uptoBulkEntry {H : Type} : Lit × DataW H → Nat
  | (.string bytes, d) => bytes.length + uptoBulk d + 1
  | (_, d) => uptoBulk d + 1
 end
def uptoSmall : (H : Type) → List (DataW H) → Bool := fun _ ds => decide (uptoBulkAll ds ≤ 1048576)
def OpenSpec.upto (s : _root_.Go.ChangeSpec) : _root_.Go.OpenSpec := { _root_.Go.OpenSpec.ofChange s with cond := some uptoSmall }

/-- 'laws.FnExactIsRelief', WHERE WHAT IT READS IS OF BULK AT MOST 1048576: true; the input reads as it did. -/
def fnExactIsReliefUptoRow : OpenClaim := { program := "ytomcdkkjknphpaa", sum := "ffa060357621f27273bb07befb1ae9ae57f400ac4e762837dc9d59b7bea7c55a", func := "loop.example/g01060/laws.FnExactIsRelief", spec := "fnExactIsRelief", unfollowed := true, recurses := true, apart := false, narrowed := true }
def FnExactIsReliefUptoSaid : Prop := fnExactIsReliefUptoRow.holds Try.pinned (OpenSpec.upto fnExactIsReliefSpec)

/-- 'laws.FnLevels', WHERE WHAT IT READS IS OF BULK AT MOST 1048576: true; the input reads as it did. -/
def fnLevelsUptoRow : OpenClaim := { program := "ytomcdkkjknphpaa", sum := "ffa060357621f27273bb07befb1ae9ae57f400ac4e762837dc9d59b7bea7c55a", func := "loop.example/g01060/laws.FnLevels", spec := "fnLevels", unfollowed := true, recurses := true, apart := false, narrowed := true }
def FnLevelsUptoSaid : Prop := fnLevelsUptoRow.holds Try.pinned (OpenSpec.upto fnLevelsSpec)

/-- 'laws.FnExactNextSquare', WHERE WHAT IT READS IS OF BULK AT MOST 1048576: true; the input reads as it did. -/
def fnExactNextSquareUptoRow : OpenClaim := { program := "ytomcdkkjknphpaa", sum := "ffa060357621f27273bb07befb1ae9ae57f400ac4e762837dc9d59b7bea7c55a", func := "loop.example/g01060/laws.FnExactNextSquare", spec := "fnExactNextSquare", unfollowed := true, recurses := true, apart := false, narrowed := true }
def FnExactNextSquareUptoSaid : Prop := fnExactNextSquareUptoRow.holds Try.pinned (OpenSpec.upto fnExactNextSquareSpec)

/-- 'laws.FnExactSteepestSquare', WHERE WHAT IT READS IS OF BULK AT MOST 1048576: true; the input reads as it did. -/
def fnExactSteepestSquareUptoRow : OpenClaim := { program := "ytomcdkkjknphpaa", sum := "ffa060357621f27273bb07befb1ae9ae57f400ac4e762837dc9d59b7bea7c55a", func := "loop.example/g01060/laws.FnExactSteepestSquare", spec := "fnExactSteepestSquare", unfollowed := true, recurses := true, apart := false, narrowed := true }
def FnExactSteepestSquareUptoSaid : Prop := fnExactSteepestSquareUptoRow.holds Try.pinned (OpenSpec.upto fnExactSteepestSquareSpec)

/-- 'laws.FnExactCatchment', WHERE WHAT IT READS IS OF BULK AT MOST 1048576: true; the input reads as it did. -/
def fnExactCatchmentUptoRow : OpenClaim := { program := "ytomcdkkjknphpaa", sum := "ffa060357621f27273bb07befb1ae9ae57f400ac4e762837dc9d59b7bea7c55a", func := "loop.example/g01060/laws.FnExactCatchment", spec := "fnExactCatchment", unfollowed := true, recurses := true, apart := false, narrowed := true }
def FnExactCatchmentUptoSaid : Prop := fnExactCatchmentUptoRow.holds Try.pinned (OpenSpec.upto fnExactCatchmentSpec)

/-- 'laws.FnExactLevelAt', WHERE WHAT IT READS IS OF BULK AT MOST 1048576: true; the input reads as it did. -/
def fnExactLevelAtUptoRow : OpenClaim := { program := "ytomcdkkjknphpaa", sum := "ffa060357621f27273bb07befb1ae9ae57f400ac4e762837dc9d59b7bea7c55a", func := "loop.example/g01060/laws.FnExactLevelAt", spec := "fnExactLevelAt", unfollowed := true, recurses := true, apart := false, narrowed := true }
def FnExactLevelAtUptoSaid : Prop := fnExactLevelAtUptoRow.holds Try.pinned (OpenSpec.upto fnExactLevelAtSpec)

/-- 'laws.FnExactGreatestRiver', WHERE WHAT IT READS IS OF BULK AT MOST 1048576: true; the input reads as it did. -/
def fnExactGreatestRiverUptoRow : OpenClaim := { program := "ytomcdkkjknphpaa", sum := "ffa060357621f27273bb07befb1ae9ae57f400ac4e762837dc9d59b7bea7c55a", func := "loop.example/g01060/laws.FnExactGreatestRiver", spec := "fnExactGreatestRiver", unfollowed := true, recurses := true, apart := false, narrowed := true }
def FnExactGreatestRiverUptoSaid : Prop := fnExactGreatestRiverUptoRow.holds Try.pinned (OpenSpec.upto fnExactGreatestRiverSpec)

/-- 'laws.FnExactRunOff', WHERE WHAT IT READS IS OF BULK AT MOST 1048576: true; the input reads as it did. -/
def fnExactRunOffUptoRow : OpenClaim := { program := "ytomcdkkjknphpaa", sum := "ffa060357621f27273bb07befb1ae9ae57f400ac4e762837dc9d59b7bea7c55a", func := "loop.example/g01060/laws.FnExactRunOff", spec := "fnExactRunOff", unfollowed := true, recurses := true, apart := false, narrowed := true }
def FnExactRunOffUptoSaid : Prop := fnExactRunOffUptoRow.holds Try.pinned (OpenSpec.upto fnExactRunOffSpec)

/-- 'laws.FnExactLakesOf', WHERE WHAT IT READS IS OF BULK AT MOST 1048576: true; the input reads as it did. -/
def fnExactLakesOfUptoRow : OpenClaim := { program := "ytomcdkkjknphpaa", sum := "ffa060357621f27273bb07befb1ae9ae57f400ac4e762837dc9d59b7bea7c55a", func := "loop.example/g01060/laws.FnExactLakesOf", spec := "fnExactLakesOf", unfollowed := true, recurses := true, apart := false, narrowed := true }
def FnExactLakesOfUptoSaid : Prop := fnExactLakesOfUptoRow.holds Try.pinned (OpenSpec.upto fnExactLakesOfSpec)

/-- 'laws.FnExactPitsOf', WHERE WHAT IT READS IS OF BULK AT MOST 1048576: true; the input reads as it did. -/
def fnExactPitsOfUptoRow : OpenClaim := { program := "ytomcdkkjknphpaa", sum := "ffa060357621f27273bb07befb1ae9ae57f400ac4e762837dc9d59b7bea7c55a", func := "loop.example/g01060/laws.FnExactPitsOf", spec := "fnExactPitsOf", unfollowed := true, recurses := true, apart := false, narrowed := true }
def FnExactPitsOfUptoSaid : Prop := fnExactPitsOfUptoRow.holds Try.pinned (OpenSpec.upto fnExactPitsOfSpec)

/-- 'laws.FnExactFilledRelief', WHERE WHAT IT READS IS OF BULK AT MOST 1048576: true; the input reads as it did. -/
def fnExactFilledReliefUptoRow : OpenClaim := { program := "ytomcdkkjknphpaa", sum := "ffa060357621f27273bb07befb1ae9ae57f400ac4e762837dc9d59b7bea7c55a", func := "loop.example/g01060/laws.FnExactFilledRelief", spec := "fnExactFilledRelief", unfollowed := true, recurses := true, apart := false, narrowed := true }
def FnExactFilledReliefUptoSaid : Prop := fnExactFilledReliefUptoRow.holds Try.pinned (OpenSpec.upto fnExactFilledReliefSpec)

/-- 'laws.FnRunoff', WHERE WHAT IT READS IS OF BULK AT MOST 1048576: true; the input reads as it did. -/
def fnRunoffUptoRow : OpenClaim := { program := "ytomcdkkjknphpaa", sum := "ffa060357621f27273bb07befb1ae9ae57f400ac4e762837dc9d59b7bea7c55a", func := "loop.example/g01060/laws.FnRunoff", spec := "fnRunoff", unfollowed := true, recurses := true, apart := false, narrowed := true }
def FnRunoffUptoSaid : Prop := fnRunoffUptoRow.holds Try.pinned (OpenSpec.upto fnRunoffSpec)

end Rows
end Go.Proofs.Ytomcdkkjknphpaa
