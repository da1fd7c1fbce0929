/-
  No cell of these rows narrows 'for every input' (looked for: loops, veiled, ifaces, maps, wideKeys, modest, calm, conditions, laid).
  DERIVED. THE GIVEN ROWS OF THIS SEAT. 10 by the template 'for every input the law returns true; each argument reads behind the call as it read before'; 0 by the template 'total and deterministic' (their statements: YtapbnggdclpokaaTotals.lean).
  GIVEN WITH THE SEED: the statements are not yours to turn. If you find one false, say at which input.
  Laid BY PROGRAM, IN A SANDBOX (cutbox-rows.mjs): the forced cells as the released guide's own fill.sh prints them over the translation 8cc638215fe882cc… (all of the seat's roots in one cut). By AI agents, Wed Nov 11 2026. No macro, syntax, notation, axiom, sorry.
-/
import Derived.Test.YtapbnggdclpokaaChecked
import GoSem.Claim
import GoSem.ClaimJoined
import GoSem.ClaimMapViews
import Derived.JoinedTies
import Derived.KernelRfl
namespace Go.Proofs.Ytapbnggdclpokaa
/- THE CELL 'sum', in the pinned program and in every row, IS THE sha256 OF THE DUMP (.gsa) THAT YtapbnggdclpokaaProg.lean LOADS. Nothing in Lean hashes anything: it is a label: what it is worth is what the hold of that sum in a sandbox is worth. -/
noncomputable def Try.pinned : Pinned := { name := "ytapbnggdclpokaa", sum := "8cc638215fe882ccfa4fb9c86556fd05fad90696641c02fe2afe521355aad91c", checked := Try.checked }
namespace Rows
def none {H : Type} : Left H := { results := [], args := [] }

/-- 'laws.FnExactGapYears': WHATEVER THE INPUT: true; the input reads as it did. -/
def fnExactGapYearsSpec : ChangeSpec := { name := "fnExactGapYears", fn := fun _ => fun
  | [d1, d2] => { results := [.lit (.bool true)], args := [d1, d2] }
  | _ => none }
def fnExactGapYearsRow : OpenClaim := { program := "ytapbnggdclpokaa", sum := "8cc638215fe882ccfa4fb9c86556fd05fad90696641c02fe2afe521355aad91c", func := "loop.example/g01060/laws.FnExactGapYears", spec := "fnExactGapYears", unfollowed := true, recurses := true, apart := false }
def FnExactGapYearsSaid : Prop := fnExactGapYearsRow.holds Try.pinned (OpenSpec.ofChange fnExactGapYearsSpec)

/-- ITS FALSE NEIGHBOUR: 'it returns false'. Refute it at one input. -/
def fnExactGapYearsWrong : ChangeSpec := { name := "fnExactGapYears", fn := fun _ => fun
  | [d1, d2] => { results := [.lit (.bool false)], args := [d1, d2] }
  | _ => none }
def FnExactGapYearsWrongFalsely : Prop := fnExactGapYearsRow.holds Try.pinned (OpenSpec.ofChange fnExactGapYearsWrong)

/-- 'laws.FnExactKeeperIn': WHATEVER THE INPUT: true; the input reads as it did. -/
def fnExactKeeperInSpec : ChangeSpec := { name := "fnExactKeeperIn", fn := fun _ => fun
  | [d1, d2, d3] => { results := [.lit (.bool true)], args := [d1, d2, d3] }
  | _ => none }
def fnExactKeeperInRow : OpenClaim := { program := "ytapbnggdclpokaa", sum := "8cc638215fe882ccfa4fb9c86556fd05fad90696641c02fe2afe521355aad91c", func := "loop.example/g01060/laws.FnExactKeeperIn", spec := "fnExactKeeperIn", unfollowed := true, recurses := true, apart := false }
def FnExactKeeperInSaid : Prop := fnExactKeeperInRow.holds Try.pinned (OpenSpec.ofChange fnExactKeeperInSpec)

/-- ITS FALSE NEIGHBOUR: 'it returns false'. Refute it at one input. -/
def fnExactKeeperInWrong : ChangeSpec := { name := "fnExactKeeperIn", fn := fun _ => fun
  | [d1, d2, d3] => { results := [.lit (.bool false)], args := [d1, d2, d3] }
  | _ => none }
def FnExactKeeperInWrongFalsely : Prop := fnExactKeeperInRow.holds Try.pinned (OpenSpec.ofChange fnExactKeeperInWrong)

/-- 'laws.FnExactLongestMaker': WHATEVER THE INPUT: true; the input reads as it did. -/
def fnExactLongestMakerSpec : ChangeSpec := { name := "fnExactLongestMaker", fn := fun _ => fun
  | [d] => { results := [.lit (.bool true)], args := [d] }
  | _ => none }
def fnExactLongestMakerRow : OpenClaim := { program := "ytapbnggdclpokaa", sum := "8cc638215fe882ccfa4fb9c86556fd05fad90696641c02fe2afe521355aad91c", func := "loop.example/g01060/laws.FnExactLongestMaker", spec := "fnExactLongestMaker", unfollowed := true, recurses := true, apart := false }
def FnExactLongestMakerSaid : Prop := fnExactLongestMakerRow.holds Try.pinned (OpenSpec.ofChange fnExactLongestMakerSpec)

/-- ITS FALSE NEIGHBOUR: 'it returns false'. Refute it at one input. -/
def fnExactLongestMakerWrong : ChangeSpec := { name := "fnExactLongestMaker", fn := fun _ => fun
  | [d] => { results := [.lit (.bool false)], args := [d] }
  | _ => none }
def FnExactLongestMakerWrongFalsely : Prop := fnExactLongestMakerRow.holds Try.pinned (OpenSpec.ofChange fnExactLongestMakerWrong)

/-- 'laws.FnExactFirstCommon': WHATEVER THE INPUT: true; the input reads as it did. -/
def fnExactFirstCommonSpec : ChangeSpec := { name := "fnExactFirstCommon", fn := fun _ => fun
  | [d1, d2, d3] => { results := [.lit (.bool true)], args := [d1, d2, d3] }
  | _ => none }
def fnExactFirstCommonRow : OpenClaim := { program := "ytapbnggdclpokaa", sum := "8cc638215fe882ccfa4fb9c86556fd05fad90696641c02fe2afe521355aad91c", func := "loop.example/g01060/laws.FnExactFirstCommon", spec := "fnExactFirstCommon", unfollowed := true, recurses := true, apart := false }
def FnExactFirstCommonSaid : Prop := fnExactFirstCommonRow.holds Try.pinned (OpenSpec.ofChange fnExactFirstCommonSpec)

/-- ITS FALSE NEIGHBOUR: 'it returns false'. Refute it at one input. -/
def fnExactFirstCommonWrong : ChangeSpec := { name := "fnExactFirstCommon", fn := fun _ => fun
  | [d1, d2, d3] => { results := [.lit (.bool false)], args := [d1, d2, d3] }
  | _ => none }
def FnExactFirstCommonWrongFalsely : Prop := fnExactFirstCommonRow.holds Try.pinned (OpenSpec.ofChange fnExactFirstCommonWrong)

/-- 'laws.FnExactEndMaker': WHATEVER THE INPUT: true; the input reads as it did. -/
def fnExactEndMakerSpec : ChangeSpec := { name := "fnExactEndMaker", fn := fun _ => fun
  | [d1, d2, d3, d4] => { results := [.lit (.bool true)], args := [d1, d2, d3, d4] }
  | _ => none }
def fnExactEndMakerRow : OpenClaim := { program := "ytapbnggdclpokaa", sum := "8cc638215fe882ccfa4fb9c86556fd05fad90696641c02fe2afe521355aad91c", func := "loop.example/g01060/laws.FnExactEndMaker", spec := "fnExactEndMaker", unfollowed := true, recurses := true, apart := false }
def FnExactEndMakerSaid : Prop := fnExactEndMakerRow.holds Try.pinned (OpenSpec.ofChange fnExactEndMakerSpec)

/-- ITS FALSE NEIGHBOUR: 'it returns false'. Refute it at one input. -/
def fnExactEndMakerWrong : ChangeSpec := { name := "fnExactEndMaker", fn := fun _ => fun
  | [d1, d2, d3, d4] => { results := [.lit (.bool false)], args := [d1, d2, d3, d4] }
  | _ => none }
def FnExactEndMakerWrongFalsely : Prop := fnExactEndMakerRow.holds Try.pinned (OpenSpec.ofChange fnExactEndMakerWrong)

/-- 'laws.FnExactLineOf': WHATEVER THE INPUT: true; the input reads as it did. -/
def fnExactLineOfSpec : ChangeSpec := { name := "fnExactLineOf", fn := fun _ => fun
  | [d1, d2] => { results := [.lit (.bool true)], args := [d1, d2] }
  | _ => none }
def fnExactLineOfRow : OpenClaim := { program := "ytapbnggdclpokaa", sum := "8cc638215fe882ccfa4fb9c86556fd05fad90696641c02fe2afe521355aad91c", func := "loop.example/g01060/laws.FnExactLineOf", spec := "fnExactLineOf", unfollowed := true, recurses := true, apart := false }
def FnExactLineOfSaid : Prop := fnExactLineOfRow.holds Try.pinned (OpenSpec.ofChange fnExactLineOfSpec)

/-- ITS FALSE NEIGHBOUR: 'it returns false'. Refute it at one input. -/
def fnExactLineOfWrong : ChangeSpec := { name := "fnExactLineOf", fn := fun _ => fun
  | [d1, d2] => { results := [.lit (.bool false)], args := [d1, d2] }
  | _ => none }
def FnExactLineOfWrongFalsely : Prop := fnExactLineOfRow.holds Try.pinned (OpenSpec.ofChange fnExactLineOfWrong)

/-- 'laws.FnExactActiveIn': WHATEVER THE INPUT: true; the input reads as it did. -/
def fnExactActiveInSpec : ChangeSpec := { name := "fnExactActiveIn", fn := fun _ => fun
  | [d1, d2] => { results := [.lit (.bool true)], args := [d1, d2] }
  | _ => none }
def fnExactActiveInRow : OpenClaim := { program := "ytapbnggdclpokaa", sum := "8cc638215fe882ccfa4fb9c86556fd05fad90696641c02fe2afe521355aad91c", func := "loop.example/g01060/laws.FnExactActiveIn", spec := "fnExactActiveIn", unfollowed := true, recurses := true, apart := false }
def FnExactActiveInSaid : Prop := fnExactActiveInRow.holds Try.pinned (OpenSpec.ofChange fnExactActiveInSpec)

/-- ITS FALSE NEIGHBOUR: 'it returns false'. Refute it at one input. -/
def fnExactActiveInWrong : ChangeSpec := { name := "fnExactActiveIn", fn := fun _ => fun
  | [d1, d2] => { results := [.lit (.bool false)], args := [d1, d2] }
  | _ => none }
def FnExactActiveInWrongFalsely : Prop := fnExactActiveInRow.holds Try.pinned (OpenSpec.ofChange fnExactActiveInWrong)

/-- 'laws.FnExactFounderIds': WHATEVER THE INPUT: true; the input reads as it did. -/
def fnExactFounderIdsSpec : ChangeSpec := { name := "fnExactFounderIds", fn := fun _ => fun
  | [d] => { results := [.lit (.bool true)], args := [d] }
  | _ => none }
def fnExactFounderIdsRow : OpenClaim := { program := "ytapbnggdclpokaa", sum := "8cc638215fe882ccfa4fb9c86556fd05fad90696641c02fe2afe521355aad91c", func := "loop.example/g01060/laws.FnExactFounderIds", spec := "fnExactFounderIds", unfollowed := true, recurses := true, apart := false }
def FnExactFounderIdsSaid : Prop := fnExactFounderIdsRow.holds Try.pinned (OpenSpec.ofChange fnExactFounderIdsSpec)

/-- ITS FALSE NEIGHBOUR: 'it returns false'. Refute it at one input. -/
def fnExactFounderIdsWrong : ChangeSpec := { name := "fnExactFounderIds", fn := fun _ => fun
  | [d] => { results := [.lit (.bool false)], args := [d] }
  | _ => none }
def FnExactFounderIdsWrongFalsely : Prop := fnExactFounderIdsRow.holds Try.pinned (OpenSpec.ofChange fnExactFounderIdsWrong)

/-- 'laws.FnExactFamilies': WHATEVER THE INPUT: true; the input reads as it did. -/
def fnExactFamiliesSpec : ChangeSpec := { name := "fnExactFamilies", fn := fun _ => fun
  | [d] => { results := [.lit (.bool true)], args := [d] }
  | _ => none }
def fnExactFamiliesRow : OpenClaim := { program := "ytapbnggdclpokaa", sum := "8cc638215fe882ccfa4fb9c86556fd05fad90696641c02fe2afe521355aad91c", func := "loop.example/g01060/laws.FnExactFamilies", spec := "fnExactFamilies", unfollowed := true, recurses := true, apart := false }
def FnExactFamiliesSaid : Prop := fnExactFamiliesRow.holds Try.pinned (OpenSpec.ofChange fnExactFamiliesSpec)

/-- ITS FALSE NEIGHBOUR: 'it returns false'. Refute it at one input. -/
def fnExactFamiliesWrong : ChangeSpec := { name := "fnExactFamilies", fn := fun _ => fun
  | [d] => { results := [.lit (.bool false)], args := [d] }
  | _ => none }
def FnExactFamiliesWrongFalsely : Prop := fnExactFamiliesRow.holds Try.pinned (OpenSpec.ofChange fnExactFamiliesWrong)

/-- 'laws.FnMakers': WHATEVER THE INPUT: true; the input reads as it did. -/
def fnMakersSpec : ChangeSpec := { name := "fnMakers", fn := fun _ => fun
  | [d] => { results := [.lit (.bool true)], args := [d] }
  | _ => none }
def fnMakersRow : OpenClaim := { program := "ytapbnggdclpokaa", sum := "8cc638215fe882ccfa4fb9c86556fd05fad90696641c02fe2afe521355aad91c", func := "loop.example/g01060/laws.FnMakers", spec := "fnMakers", unfollowed := true, recurses := true, apart := false }
def FnMakersSaid : Prop := fnMakersRow.holds Try.pinned (OpenSpec.ofChange fnMakersSpec)

/-- ITS FALSE NEIGHBOUR: 'it returns false'. Refute it at one input. -/
def fnMakersWrong : ChangeSpec := { name := "fnMakers", fn := fun _ => fun
  | [d] => { results := [.lit (.bool false)], args := [d] }
  | _ => none }
def FnMakersWrongFalsely : Prop := fnMakersRow.holds Try.pinned (OpenSpec.ofChange fnMakersWrong)

/- THE SECOND FORM. 'bulk': how many values and letters a reading holds, each counted each time it is reached (what is shared counts as often as it is met; a slice's spare places count too). A statement '..UptoSaid' is the law's where the arguments, and the package variables that the reading takes, are together of bulk at most 1048576: NARROWER than '..Said'. Prove '..Said' where nothing that the law and all that it calls make is longer than what came in: it says more and counts as full. Else prove '..UptoSaid'. A law counts once. -/
mutual
def uptoBulk {H : Type} : DataW H → Nat
  | .lit (.string bytes) => bytes.length + 1
  | .lit _ => 1
  | .nil => 1
  | .ptr d => uptoBulk d + 1
  | .slice elems spare => uptoBulkAll elems + uptoBulkAll spare + 1
  | .agg parts => uptoBulkAll parts + 1
  | .iface _ d => uptoBulk d + 1
  | .map entries => uptoBulkEntries entries + 1
  | .held _ => 1
def uptoBulkAll {H : Type} : List (DataW H) → Nat
  | [] => 0
  | d :: r => uptoBulk d + uptoBulkAll r
def uptoBulkEntries {H : Type} : List (Lit × DataW H) → Nat
  | [] => 0
  | x :: r => uptoBulkEntry x + uptoBulkEntries r
def uptoBulkEntry {H : Type} : Lit × DataW H → Nat
  | (.string bytes, d) => bytes.length + uptoBulk d + 1
  | (_, d) => uptoBulk d + 1
 end
def uptoSmall : (H : Type) → List (DataW H) → Bool := fun _ ds => decide (uptoBulkAll ds ≤ 1048576)
def OpenSpec.upto (s : _root_.Go.ChangeSpec) : _root_.Go.OpenSpec := { _root_.Go.OpenSpec.ofChange s with cond := some uptoSmall }

/-- 'laws.FnExactGapYears', WHERE WHAT IT READS IS OF BULK AT MOST 1048576: true; the input reads as it did. -/
def fnExactGapYearsUptoRow : OpenClaim := { program := "ytapbnggdclpokaa", sum := "8cc638215fe882ccfa4fb9c86556fd05fad90696641c02fe2afe521355aad91c", func := "loop.example/g01060/laws.FnExactGapYears", spec := "fnExactGapYears", unfollowed := true, recurses := true, apart := false, narrowed := true }
def FnExactGapYearsUptoSaid : Prop := fnExactGapYearsUptoRow.holds Try.pinned (OpenSpec.upto fnExactGapYearsSpec)

/-- 'laws.FnExactKeeperIn', WHERE WHAT IT READS IS OF BULK AT MOST 1048576: true; the input reads as it did. -/
def fnExactKeeperInUptoRow : OpenClaim := { program := "ytapbnggdclpokaa", sum := "8cc638215fe882ccfa4fb9c86556fd05fad90696641c02fe2afe521355aad91c", func := "loop.example/g01060/laws.FnExactKeeperIn", spec := "fnExactKeeperIn", unfollowed := true, recurses := true, apart := false, narrowed := true }
def FnExactKeeperInUptoSaid : Prop := fnExactKeeperInUptoRow.holds Try.pinned (OpenSpec.upto fnExactKeeperInSpec)

/-- 'laws.FnExactLongestMaker', WHERE WHAT IT READS IS OF BULK AT MOST 1048576: true; the input reads as it did. -/
def fnExactLongestMakerUptoRow : OpenClaim := { program := "ytapbnggdclpokaa", sum := "8cc638215fe882ccfa4fb9c86556fd05fad90696641c02fe2afe521355aad91c", func := "loop.example/g01060/laws.FnExactLongestMaker", spec := "fnExactLongestMaker", unfollowed := true, recurses := true, apart := false, narrowed := true }
def FnExactLongestMakerUptoSaid : Prop := fnExactLongestMakerUptoRow.holds Try.pinned (OpenSpec.upto fnExactLongestMakerSpec)

/-- 'laws.FnExactFirstCommon', WHERE WHAT IT READS IS OF BULK AT MOST 1048576: true; the input reads as it did. -/
def fnExactFirstCommonUptoRow : OpenClaim := { program := "ytapbnggdclpokaa", sum := "8cc638215fe882ccfa4fb9c86556fd05fad90696641c02fe2afe521355aad91c", func := "loop.example/g01060/laws.FnExactFirstCommon", spec := "fnExactFirstCommon", unfollowed := true, recurses := true, apart := false, narrowed := true }
def FnExactFirstCommonUptoSaid : Prop := fnExactFirstCommonUptoRow.holds Try.pinned (OpenSpec.upto fnExactFirstCommonSpec)

/-- 'laws.FnExactEndMaker', WHERE WHAT IT READS IS OF BULK AT MOST 1048576: true; the input reads as it did. -/
def fnExactEndMakerUptoRow : OpenClaim := { program := "ytapbnggdclpokaa", sum := "8cc638215fe882ccfa4fb9c86556fd05fad90696641c02fe2afe521355aad91c", func := "loop.example/g01060/laws.FnExactEndMaker", spec := "fnExactEndMaker", unfollowed := true, recurses := true, apart := false, narrowed := true }
def FnExactEndMakerUptoSaid : Prop := fnExactEndMakerUptoRow.holds Try.pinned (OpenSpec.upto fnExactEndMakerSpec)

/-- 'laws.FnExactLineOf', WHERE WHAT IT READS IS OF BULK AT MOST 1048576: true; the input reads as it did. -/
def fnExactLineOfUptoRow : OpenClaim := { program := "ytapbnggdclpokaa", sum := "8cc638215fe882ccfa4fb9c86556fd05fad90696641c02fe2afe521355aad91c", func := "loop.example/g01060/laws.FnExactLineOf", spec := "fnExactLineOf", unfollowed := true, recurses := true, apart := false, narrowed := true }
def FnExactLineOfUptoSaid : Prop := fnExactLineOfUptoRow.holds Try.pinned (OpenSpec.upto fnExactLineOfSpec)

/-- 'laws.FnExactActiveIn', WHERE WHAT IT READS IS OF BULK AT MOST 1048576: true; the input reads as it did. -/
def fnExactActiveInUptoRow : OpenClaim := { program := "ytapbnggdclpokaa", sum := "8cc638215fe882ccfa4fb9c86556fd05fad90696641c02fe2afe521355aad91c", func := "loop.example/g01060/laws.FnExactActiveIn", spec := "fnExactActiveIn", unfollowed := true, recurses := true, apart := false, narrowed := true }
def FnExactActiveInUptoSaid : Prop := fnExactActiveInUptoRow.holds Try.pinned (OpenSpec.upto fnExactActiveInSpec)

/-- 'laws.FnExactFounderIds', WHERE WHAT IT READS IS OF BULK AT MOST 1048576: true; the input reads as it did. -/
def fnExactFounderIdsUptoRow : OpenClaim := { program := "ytapbnggdclpokaa", sum := "8cc638215fe882ccfa4fb9c86556fd05fad90696641c02fe2afe521355aad91c", func := "loop.example/g01060/laws.FnExactFounderIds", spec := "fnExactFounderIds", unfollowed := true, recurses := true, apart := false, narrowed := true }
def FnExactFounderIdsUptoSaid : Prop := fnExactFounderIdsUptoRow.holds Try.pinned (OpenSpec.upto fnExactFounderIdsSpec)

/-- 'laws.FnExactFamilies', WHERE WHAT IT READS IS OF BULK AT MOST 1048576: true; the input reads as it did. -/
def fnExactFamiliesUptoRow : OpenClaim := { program := "ytapbnggdclpokaa", sum := "8cc638215fe882ccfa4fb9c86556fd05fad90696641c02fe2afe521355aad91c", func := "loop.example/g01060/laws.FnExactFamilies", spec := "fnExactFamilies", unfollowed := true, recurses := true, apart := false, narrowed := true }
def FnExactFamiliesUptoSaid : Prop := fnExactFamiliesUptoRow.holds Try.pinned (OpenSpec.upto fnExactFamiliesSpec)

/-- 'laws.FnMakers', WHERE WHAT IT READS IS OF BULK AT MOST 1048576: true; the input reads as it did. -/
def fnMakersUptoRow : OpenClaim := { program := "ytapbnggdclpokaa", sum := "8cc638215fe882ccfa4fb9c86556fd05fad90696641c02fe2afe521355aad91c", func := "loop.example/g01060/laws.FnMakers", spec := "fnMakers", unfollowed := true, recurses := true, apart := false, narrowed := true }
def FnMakersUptoSaid : Prop := fnMakersUptoRow.holds Try.pinned (OpenSpec.upto fnMakersSpec)

end Rows
end Go.Proofs.Ytapbnggdclpokaa
