/-
  No cell of these rows narrows 'for every input' (looked for: loops, veiled, ifaces, maps, wideKeys, modest, calm, conditions, laid).
  DERIVED. THE GIVEN ROWS OF THIS SEAT. 12 by the template 'for every input the law returns true; each argument reads behind the call as it read before'; 0 by the template 'total and deterministic' (their statements: YtefnmfkndepfgaaTotals.lean).
  GIVEN WITH THE SEED: the statements are not yours to turn. If you find one false, say at which input.
  Laid BY PROGRAM, IN A SANDBOX (cutbox-rows.mjs): the forced cells as the released guide's own fill.sh prints them over the translation 5b14f2befb1bf0a3… (all of the seat's roots in one cut). By AI agents, Wed Nov 11 2026. No macro, syntax, notation, axiom, sorry.
-/
import Derived.Test.YtefnmfkndepfgaaChecked
import GoSem.Claim
import GoSem.ClaimJoined
import GoSem.ClaimMapViews
import Derived.JoinedTies
import Derived.KernelRfl
namespace Go.Proofs.Ytefnmfkndepfgaa
/- THE CELL 'sum', in the pinned program and in every row, IS THE sha256 OF THE DUMP (.gsa) THAT YtefnmfkndepfgaaProg.lean LOADS. Nothing in Lean hashes anything: it is a label: what it is worth is what the hold of that sum in a sandbox is worth. -/
noncomputable def Try.pinned : Pinned := { name := "ytefnmfkndepfgaa", sum := "5b14f2befb1bf0a3340da8b31072dffccfc2e02218e9d365de42c2084c7e9415", checked := Try.checked }
namespace Rows
def none {H : Type} : Left H := { results := [], args := [] }

/-- 'laws.FnExactIsRoadLine': WHATEVER THE INPUT: true; the input reads as it did. -/
def fnExactIsRoadLineSpec : ChangeSpec := { name := "fnExactIsRoadLine", fn := fun _ => fun
  | [d] => { results := [.lit (.bool true)], args := [d] }
  | _ => none }
def fnExactIsRoadLineRow : OpenClaim := { program := "ytefnmfkndepfgaa", sum := "5b14f2befb1bf0a3340da8b31072dffccfc2e02218e9d365de42c2084c7e9415", func := "loop.example/g01060/laws.FnExactIsRoadLine", spec := "fnExactIsRoadLine", apart := false }
def FnExactIsRoadLineSaid : Prop := fnExactIsRoadLineRow.holds Try.pinned (OpenSpec.ofChange fnExactIsRoadLineSpec)

/-- ITS FALSE NEIGHBOUR: 'it returns false'. Refute it at one input. -/
def fnExactIsRoadLineWrong : ChangeSpec := { name := "fnExactIsRoadLine", fn := fun _ => fun
  | [d] => { results := [.lit (.bool false)], args := [d] }
  | _ => none }
def FnExactIsRoadLineWrongFalsely : Prop := fnExactIsRoadLineRow.holds Try.pinned (OpenSpec.ofChange fnExactIsRoadLineWrong)

/-- 'laws.FnExactBendsOf': WHATEVER THE INPUT: true; the input reads as it did. -/
def fnExactBendsOfSpec : ChangeSpec := { name := "fnExactBendsOf", fn := fun _ => fun
  | [d] => { results := [.lit (.bool true)], args := [d] }
  | _ => none }
def fnExactBendsOfRow : OpenClaim := { program := "ytefnmfkndepfgaa", sum := "5b14f2befb1bf0a3340da8b31072dffccfc2e02218e9d365de42c2084c7e9415", func := "loop.example/g01060/laws.FnExactBendsOf", spec := "fnExactBendsOf", apart := false }
def FnExactBendsOfSaid : Prop := fnExactBendsOfRow.holds Try.pinned (OpenSpec.ofChange fnExactBendsOfSpec)

/-- ITS FALSE NEIGHBOUR: 'it returns false'. Refute it at one input. -/
def fnExactBendsOfWrong : ChangeSpec := { name := "fnExactBendsOf", fn := fun _ => fun
  | [d] => { results := [.lit (.bool false)], args := [d] }
  | _ => none }
def FnExactBendsOfWrongFalsely : Prop := fnExactBendsOfRow.holds Try.pinned (OpenSpec.ofChange fnExactBendsOfWrong)

/-- 'laws.FnExactReverseRoad': WHATEVER THE INPUT: true; the input reads as it did. -/
def fnExactReverseRoadSpec : ChangeSpec := { name := "fnExactReverseRoad", fn := fun _ => fun
  | [d] => { results := [.lit (.bool true)], args := [d] }
  | _ => none }
def fnExactReverseRoadRow : OpenClaim := { program := "ytefnmfkndepfgaa", sum := "5b14f2befb1bf0a3340da8b31072dffccfc2e02218e9d365de42c2084c7e9415", func := "loop.example/g01060/laws.FnExactReverseRoad", spec := "fnExactReverseRoad", apart := false }
def FnExactReverseRoadSaid : Prop := fnExactReverseRoadRow.holds Try.pinned (OpenSpec.ofChange fnExactReverseRoadSpec)

/-- ITS FALSE NEIGHBOUR: 'it returns false'. Refute it at one input. -/
def fnExactReverseRoadWrong : ChangeSpec := { name := "fnExactReverseRoad", fn := fun _ => fun
  | [d] => { results := [.lit (.bool false)], args := [d] }
  | _ => none }
def FnExactReverseRoadWrongFalsely : Prop := fnExactReverseRoadRow.holds Try.pinned (OpenSpec.ofChange fnExactReverseRoadWrong)

/-- 'laws.FnExactRoadLength': WHATEVER THE INPUT: true; the input reads as it did. -/
def fnExactRoadLengthSpec : ChangeSpec := { name := "fnExactRoadLength", fn := fun _ => fun
  | [d] => { results := [.lit (.bool true)], args := [d] }
  | _ => none }
def fnExactRoadLengthRow : OpenClaim := { program := "ytefnmfkndepfgaa", sum := "5b14f2befb1bf0a3340da8b31072dffccfc2e02218e9d365de42c2084c7e9415", func := "loop.example/g01060/laws.FnExactRoadLength", spec := "fnExactRoadLength", apart := false }
def FnExactRoadLengthSaid : Prop := fnExactRoadLengthRow.holds Try.pinned (OpenSpec.ofChange fnExactRoadLengthSpec)

/-- ITS FALSE NEIGHBOUR: 'it returns false'. Refute it at one input. -/
def fnExactRoadLengthWrong : ChangeSpec := { name := "fnExactRoadLength", fn := fun _ => fun
  | [d] => { results := [.lit (.bool false)], args := [d] }
  | _ => none }
def FnExactRoadLengthWrongFalsely : Prop := fnExactRoadLengthRow.holds Try.pinned (OpenSpec.ofChange fnExactRoadLengthWrong)

/-- 'laws.FnExactJoinRoads': WHATEVER THE INPUT: true; the input reads as it did. -/
def fnExactJoinRoadsSpec : ChangeSpec := { name := "fnExactJoinRoads", fn := fun _ => fun
  | [d1, d2] => { results := [.lit (.bool true)], args := [d1, d2] }
  | _ => none }
def fnExactJoinRoadsRow : OpenClaim := { program := "ytefnmfkndepfgaa", sum := "5b14f2befb1bf0a3340da8b31072dffccfc2e02218e9d365de42c2084c7e9415", func := "loop.example/g01060/laws.FnExactJoinRoads", spec := "fnExactJoinRoads", apart := false }
def FnExactJoinRoadsSaid : Prop := fnExactJoinRoadsRow.holds Try.pinned (OpenSpec.ofChange fnExactJoinRoadsSpec)

/-- ITS FALSE NEIGHBOUR: 'it returns false'. Refute it at one input. -/
def fnExactJoinRoadsWrong : ChangeSpec := { name := "fnExactJoinRoads", fn := fun _ => fun
  | [d1, d2] => { results := [.lit (.bool false)], args := [d1, d2] }
  | _ => none }
def FnExactJoinRoadsWrongFalsely : Prop := fnExactJoinRoadsRow.holds Try.pinned (OpenSpec.ofChange fnExactJoinRoadsWrong)

/-- 'laws.FnExactAlongRoad': WHATEVER THE INPUT: true; the input reads as it did. -/
def fnExactAlongRoadSpec : ChangeSpec := { name := "fnExactAlongRoad", fn := fun _ => fun
  | [d1, d2] => { results := [.lit (.bool true)], args := [d1, d2] }
  | _ => none }
def fnExactAlongRoadRow : OpenClaim := { program := "ytefnmfkndepfgaa", sum := "5b14f2befb1bf0a3340da8b31072dffccfc2e02218e9d365de42c2084c7e9415", func := "loop.example/g01060/laws.FnExactAlongRoad", spec := "fnExactAlongRoad", apart := false }
def FnExactAlongRoadSaid : Prop := fnExactAlongRoadRow.holds Try.pinned (OpenSpec.ofChange fnExactAlongRoadSpec)

/-- ITS FALSE NEIGHBOUR: 'it returns false'. Refute it at one input. -/
def fnExactAlongRoadWrong : ChangeSpec := { name := "fnExactAlongRoad", fn := fun _ => fun
  | [d1, d2] => { results := [.lit (.bool false)], args := [d1, d2] }
  | _ => none }
def FnExactAlongRoadWrongFalsely : Prop := fnExactAlongRoadRow.holds Try.pinned (OpenSpec.ofChange fnExactAlongRoadWrong)

/-- 'laws.FnExactPlainRoad': WHATEVER THE INPUT: true; the input reads as it did. -/
def fnExactPlainRoadSpec : ChangeSpec := { name := "fnExactPlainRoad", fn := fun _ => fun
  | [d] => { results := [.lit (.bool true)], args := [d] }
  | _ => none }
def fnExactPlainRoadRow : OpenClaim := { program := "ytefnmfkndepfgaa", sum := "5b14f2befb1bf0a3340da8b31072dffccfc2e02218e9d365de42c2084c7e9415", func := "loop.example/g01060/laws.FnExactPlainRoad", spec := "fnExactPlainRoad", apart := false }
def FnExactPlainRoadSaid : Prop := fnExactPlainRoadRow.holds Try.pinned (OpenSpec.ofChange fnExactPlainRoadSpec)

/-- ITS FALSE NEIGHBOUR: 'it returns false'. Refute it at one input. -/
def fnExactPlainRoadWrong : ChangeSpec := { name := "fnExactPlainRoad", fn := fun _ => fun
  | [d] => { results := [.lit (.bool false)], args := [d] }
  | _ => none }
def FnExactPlainRoadWrongFalsely : Prop := fnExactPlainRoadRow.holds Try.pinned (OpenSpec.ofChange fnExactPlainRoadWrong)

/-- 'laws.FnExactDetourOf': WHATEVER THE INPUT: true; the input reads as it did. -/
def fnExactDetourOfSpec : ChangeSpec := { name := "fnExactDetourOf", fn := fun _ => fun
  | [d] => { results := [.lit (.bool true)], args := [d] }
  | _ => none }
def fnExactDetourOfRow : OpenClaim := { program := "ytefnmfkndepfgaa", sum := "5b14f2befb1bf0a3340da8b31072dffccfc2e02218e9d365de42c2084c7e9415", func := "loop.example/g01060/laws.FnExactDetourOf", spec := "fnExactDetourOf", apart := false }
def FnExactDetourOfSaid : Prop := fnExactDetourOfRow.holds Try.pinned (OpenSpec.ofChange fnExactDetourOfSpec)

/-- ITS FALSE NEIGHBOUR: 'it returns false'. Refute it at one input. -/
def fnExactDetourOfWrong : ChangeSpec := { name := "fnExactDetourOf", fn := fun _ => fun
  | [d] => { results := [.lit (.bool false)], args := [d] }
  | _ => none }
def FnExactDetourOfWrongFalsely : Prop := fnExactDetourOfRow.holds Try.pinned (OpenSpec.ofChange fnExactDetourOfWrong)

/-- 'laws.FnExactCrossingParts': WHATEVER THE INPUT: true; the input reads as it did. -/
def fnExactCrossingPartsSpec : ChangeSpec := { name := "fnExactCrossingParts", fn := fun _ => fun
  | [d1, d2] => { results := [.lit (.bool true)], args := [d1, d2] }
  | _ => none }
def fnExactCrossingPartsRow : OpenClaim := { program := "ytefnmfkndepfgaa", sum := "5b14f2befb1bf0a3340da8b31072dffccfc2e02218e9d365de42c2084c7e9415", func := "loop.example/g01060/laws.FnExactCrossingParts", spec := "fnExactCrossingParts", apart := false }
def FnExactCrossingPartsSaid : Prop := fnExactCrossingPartsRow.holds Try.pinned (OpenSpec.ofChange fnExactCrossingPartsSpec)

/-- ITS FALSE NEIGHBOUR: 'it returns false'. Refute it at one input. -/
def fnExactCrossingPartsWrong : ChangeSpec := { name := "fnExactCrossingParts", fn := fun _ => fun
  | [d1, d2] => { results := [.lit (.bool false)], args := [d1, d2] }
  | _ => none }
def FnExactCrossingPartsWrongFalsely : Prop := fnExactCrossingPartsRow.holds Try.pinned (OpenSpec.ofChange fnExactCrossingPartsWrong)

/-- 'laws.FnCrossings': WHATEVER THE INPUT: true; the input reads as it did. -/
def fnCrossingsSpec : ChangeSpec := { name := "fnCrossings", fn := fun _ => fun
  | [d] => { results := [.lit (.bool true)], args := [d] }
  | _ => none }
def fnCrossingsRow : OpenClaim := { program := "ytefnmfkndepfgaa", sum := "5b14f2befb1bf0a3340da8b31072dffccfc2e02218e9d365de42c2084c7e9415", func := "loop.example/g01060/laws.FnCrossings", spec := "fnCrossings", apart := false }
def FnCrossingsSaid : Prop := fnCrossingsRow.holds Try.pinned (OpenSpec.ofChange fnCrossingsSpec)

/-- ITS FALSE NEIGHBOUR: 'it returns false'. Refute it at one input. -/
def fnCrossingsWrong : ChangeSpec := { name := "fnCrossings", fn := fun _ => fun
  | [d] => { results := [.lit (.bool false)], args := [d] }
  | _ => none }
def FnCrossingsWrongFalsely : Prop := fnCrossingsRow.holds Try.pinned (OpenSpec.ofChange fnCrossingsWrong)

/-- 'laws.FnExactIsClearRoad': WHATEVER THE INPUT: true; the input reads as it did. -/
def fnExactIsClearRoadSpec : ChangeSpec := { name := "fnExactIsClearRoad", fn := fun _ => fun
  | [d] => { results := [.lit (.bool true)], args := [d] }
  | _ => none }
def fnExactIsClearRoadRow : OpenClaim := { program := "ytefnmfkndepfgaa", sum := "5b14f2befb1bf0a3340da8b31072dffccfc2e02218e9d365de42c2084c7e9415", func := "loop.example/g01060/laws.FnExactIsClearRoad", spec := "fnExactIsClearRoad", apart := false }
def FnExactIsClearRoadSaid : Prop := fnExactIsClearRoadRow.holds Try.pinned (OpenSpec.ofChange fnExactIsClearRoadSpec)

/-- ITS FALSE NEIGHBOUR: 'it returns false'. Refute it at one input. -/
def fnExactIsClearRoadWrong : ChangeSpec := { name := "fnExactIsClearRoad", fn := fun _ => fun
  | [d] => { results := [.lit (.bool false)], args := [d] }
  | _ => none }
def FnExactIsClearRoadWrongFalsely : Prop := fnExactIsClearRoadRow.holds Try.pinned (OpenSpec.ofChange fnExactIsClearRoadWrong)

/-- 'laws.FnRoads': WHATEVER THE INPUT: true; the input reads as it did. -/
def fnRoadsSpec : ChangeSpec := { name := "fnRoads", fn := fun _ => fun
  | [d] => { results := [.lit (.bool true)], args := [d] }
  | _ => none }
def fnRoadsRow : OpenClaim := { program := "ytefnmfkndepfgaa", sum := "5b14f2befb1bf0a3340da8b31072dffccfc2e02218e9d365de42c2084c7e9415", func := "loop.example/g01060/laws.FnRoads", spec := "fnRoads", apart := false }
def FnRoadsSaid : Prop := fnRoadsRow.holds Try.pinned (OpenSpec.ofChange fnRoadsSpec)

/-- ITS FALSE NEIGHBOUR: 'it returns false'. Refute it at one input. -/
def fnRoadsWrong : ChangeSpec := { name := "fnRoads", fn := fun _ => fun
  | [d] => { results := [.lit (.bool false)], args := [d] }
  | _ => none }
def FnRoadsWrongFalsely : Prop := fnRoadsRow.holds Try.pinned (OpenSpec.ofChange fnRoadsWrong)

/- THE SECOND FORM. 'bulk': how many values and letters a reading holds, each counted each time it is reached (what is shared counts as often as it is met; a slice's spare places count too). A statement '..UptoSaid' is the law's where the arguments, and the package variables that the reading takes, are together of bulk at most 1048576: NARROWER than '..Said'. Prove '..Said' where nothing that the law and all that it calls make is longer than what came in: it says more and counts as full. Else prove '..UptoSaid'. A law counts once. -/
mutual
def uptoBulk {H : Type} : DataW H → Nat
  | .lit (.string bytes) => bytes.length + 1
  | .lit _ => 1
  | .nil => 1
  | .ptr d => uptoBulk d + 1
  | .slice elems spare => uptoBulkAll elems + uptoBulkAll spare + 1
  | .agg parts => uptoBulkAll parts + 1
  | .iface _ d => uptoBulk d + 1
  | .map entries => uptoBulkEntries entries + 1
  | .held _ => 1
def uptoBulkAll {H : Type} : List (DataW H) → Nat
  | [] => 0
  | d :: r => uptoBulk d + uptoBulkAll r
def uptoBulkEntries {H : Type} : List (Lit × DataW H) → Nat
  | [] => 0
  | x :: r => uptoBulkEntry x + uptoBulkEntries r
def uptoBulkEntry {H : Type} : Lit × DataW H → Nat
  | (.string bytes, d) => bytes.length + uptoBulk d + 1
  | (_, d) => uptoBulk d + 1
 end
def uptoSmall : (H : Type) → List (DataW H) → Bool := fun _ ds => decide (uptoBulkAll ds ≤ 1048576)
def OpenSpec.upto (s : _root_.Go.ChangeSpec) : _root_.Go.OpenSpec := { _root_.Go.OpenSpec.ofChange s with cond := some uptoSmall }

/-- 'laws.FnExactIsRoadLine', WHERE WHAT IT READS IS OF BULK AT MOST 1048576: true; the input reads as it did. -/
def fnExactIsRoadLineUptoRow : OpenClaim := { program := "ytefnmfkndepfgaa", sum := "5b14f2befb1bf0a3340da8b31072dffccfc2e02218e9d365de42c2084c7e9415", func := "loop.example/g01060/laws.FnExactIsRoadLine", spec := "fnExactIsRoadLine", apart := false, narrowed := true }
def FnExactIsRoadLineUptoSaid : Prop := fnExactIsRoadLineUptoRow.holds Try.pinned (OpenSpec.upto fnExactIsRoadLineSpec)

/-- 'laws.FnExactBendsOf', WHERE WHAT IT READS IS OF BULK AT MOST 1048576: true; the input reads as it did. -/
def fnExactBendsOfUptoRow : OpenClaim := { program := "ytefnmfkndepfgaa", sum := "5b14f2befb1bf0a3340da8b31072dffccfc2e02218e9d365de42c2084c7e9415", func := "loop.example/g01060/laws.FnExactBendsOf", spec := "fnExactBendsOf", apart := false, narrowed := true }
def FnExactBendsOfUptoSaid : Prop := fnExactBendsOfUptoRow.holds Try.pinned (OpenSpec.upto fnExactBendsOfSpec)

/-- 'laws.FnExactReverseRoad', WHERE WHAT IT READS IS OF BULK AT MOST 1048576: true; the input reads as it did. -/
def fnExactReverseRoadUptoRow : OpenClaim := { program := "ytefnmfkndepfgaa", sum := "5b14f2befb1bf0a3340da8b31072dffccfc2e02218e9d365de42c2084c7e9415", func := "loop.example/g01060/laws.FnExactReverseRoad", spec := "fnExactReverseRoad", apart := false, narrowed := true }
def FnExactReverseRoadUptoSaid : Prop := fnExactReverseRoadUptoRow.holds Try.pinned (OpenSpec.upto fnExactReverseRoadSpec)

/-- 'laws.FnExactRoadLength', WHERE WHAT IT READS IS OF BULK AT MOST 1048576: true; the input reads as it did. -/
def fnExactRoadLengthUptoRow : OpenClaim := { program := "ytefnmfkndepfgaa", sum := "5b14f2befb1bf0a3340da8b31072dffccfc2e02218e9d365de42c2084c7e9415", func := "loop.example/g01060/laws.FnExactRoadLength", spec := "fnExactRoadLength", apart := false, narrowed := true }
def FnExactRoadLengthUptoSaid : Prop := fnExactRoadLengthUptoRow.holds Try.pinned (OpenSpec.upto fnExactRoadLengthSpec)

/-- 'laws.FnExactJoinRoads', WHERE WHAT IT READS IS OF BULK AT MOST 1048576: true; the input reads as it did. -/
def fnExactJoinRoadsUptoRow : OpenClaim := { program := "ytefnmfkndepfgaa", sum := "5b14f2befb1bf0a3340da8b31072dffccfc2e02218e9d365de42c2084c7e9415", func := "loop.example/g01060/laws.FnExactJoinRoads", spec := "fnExactJoinRoads", apart := false, narrowed := true }
def FnExactJoinRoadsUptoSaid : Prop := fnExactJoinRoadsUptoRow.holds Try.pinned (OpenSpec.upto fnExactJoinRoadsSpec)

/-- 'laws.FnExactAlongRoad', WHERE WHAT IT READS IS OF BULK AT MOST 1048576: true; the input reads as it did. -/
def fnExactAlongRoadUptoRow : OpenClaim := { program := "ytefnmfkndepfgaa", sum := "5b14f2befb1bf0a3340da8b31072dffccfc2e02218e9d365de42c2084c7e9415", func := "loop.example/g01060/laws.FnExactAlongRoad", spec := "fnExactAlongRoad", apart := false, narrowed := true }
def FnExactAlongRoadUptoSaid : Prop := fnExactAlongRoadUptoRow.holds Try.pinned (OpenSpec.upto fnExactAlongRoadSpec)

/-- 'laws.FnExactPlainRoad', WHERE WHAT IT READS IS OF BULK AT MOST 1048576: true; the input reads as it did. -/
def fnExactPlainRoadUptoRow : OpenClaim := { program := "ytefnmfkndepfgaa", sum := "5b14f2befb1bf0a3340da8b31072dffccfc2e02218e9d365de42c2084c7e9415", func := "loop.example/g01060/laws.FnExactPlainRoad", spec := "fnExactPlainRoad", apart := false, narrowed := true }
def FnExactPlainRoadUptoSaid : Prop := fnExactPlainRoadUptoRow.holds Try.pinned (OpenSpec.upto fnExactPlainRoadSpec)

/-- 'laws.FnExactDetourOf', WHERE WHAT IT READS IS OF BULK AT MOST 1048576: true; the input reads as it did. -/
def fnExactDetourOfUptoRow : OpenClaim := { program := "ytefnmfkndepfgaa", sum := "5b14f2befb1bf0a3340da8b31072dffccfc2e02218e9d365de42c2084c7e9415", func := "loop.example/g01060/laws.FnExactDetourOf", spec := "fnExactDetourOf", apart := false, narrowed := true }
def FnExactDetourOfUptoSaid : Prop := fnExactDetourOfUptoRow.holds Try.pinned (OpenSpec.upto fnExactDetourOfSpec)

/-- 'laws.FnExactCrossingParts', WHERE WHAT IT READS IS OF BULK AT MOST 1048576: true; the input reads as it did. -/
def fnExactCrossingPartsUptoRow : OpenClaim := { program := "ytefnmfkndepfgaa", sum := "5b14f2befb1bf0a3340da8b31072dffccfc2e02218e9d365de42c2084c7e9415", func := "loop.example/g01060/laws.FnExactCrossingParts", spec := "fnExactCrossingParts", apart := false, narrowed := true }
def FnExactCrossingPartsUptoSaid : Prop := fnExactCrossingPartsUptoRow.holds Try.pinned (OpenSpec.upto fnExactCrossingPartsSpec)

/-- 'laws.FnCrossings', WHERE WHAT IT READS IS OF BULK AT MOST 1048576: true; the input reads as it did. -/
def fnCrossingsUptoRow : OpenClaim := { program := "ytefnmfkndepfgaa", sum := "5b14f2befb1bf0a3340da8b31072dffccfc2e02218e9d365de42c2084c7e9415", func := "loop.example/g01060/laws.FnCrossings", spec := "fnCrossings", apart := false, narrowed := true }
def FnCrossingsUptoSaid : Prop := fnCrossingsUptoRow.holds Try.pinned (OpenSpec.upto fnCrossingsSpec)

/-- 'laws.FnExactIsClearRoad', WHERE WHAT IT READS IS OF BULK AT MOST 1048576: true; the input reads as it did. -/
def fnExactIsClearRoadUptoRow : OpenClaim := { program := "ytefnmfkndepfgaa", sum := "5b14f2befb1bf0a3340da8b31072dffccfc2e02218e9d365de42c2084c7e9415", func := "loop.example/g01060/laws.FnExactIsClearRoad", spec := "fnExactIsClearRoad", apart := false, narrowed := true }
def FnExactIsClearRoadUptoSaid : Prop := fnExactIsClearRoadUptoRow.holds Try.pinned (OpenSpec.upto fnExactIsClearRoadSpec)

/-- 'laws.FnRoads', WHERE WHAT IT READS IS OF BULK AT MOST 1048576: true; the input reads as it did. -/
def fnRoadsUptoRow : OpenClaim := { program := "ytefnmfkndepfgaa", sum := "5b14f2befb1bf0a3340da8b31072dffccfc2e02218e9d365de42c2084c7e9415", func := "loop.example/g01060/laws.FnRoads", spec := "fnRoads", apart := false, narrowed := true }
def FnRoadsUptoSaid : Prop := fnRoadsUptoRow.holds Try.pinned (OpenSpec.upto fnRoadsSpec)

end Rows
end Go.Proofs.Ytefnmfkndepfgaa
