/-
  No cell of these rows narrows 'for every input' (looked for: loops, veiled, ifaces, maps, wideKeys, modest, calm, conditions, laid).
  DERIVED. THE GIVEN ROWS OF THIS SEAT. 12 by the template 'for every input the law returns true; each argument reads behind the call as it read before'; 0 by the template 'total and deterministic' (their statements: YtijjecckfcbaoaaTotals.lean).
  GIVEN WITH THE SEED: the statements are not yours to turn. If you find one false, say at which input.
  Laid BY PROGRAM, IN A SANDBOX (cutbox-rows.mjs): the forced cells as the released guide's own fill.sh prints them over the translation bf90102a1be02171… (all of the seat's roots in one cut). By AI agents, Wed Nov 11 2026. No macro, syntax, notation, axiom, sorry.
-/
import Derived.Test.YtijjecckfcbaoaaChecked
import GoSem.Claim
import GoSem.ClaimJoined
import GoSem.ClaimMapViews
import Derived.JoinedTies
import Derived.KernelRfl
namespace Go.Proofs.Ytijjecckfcbaoaa
/- THE CELL 'sum', in the pinned program and in every row, IS THE sha256 OF THE DUMP (.gsa) THAT YtijjecckfcbaoaaProg.lean LOADS. Nothing in Lean hashes anything: it is a label: what it is worth is what the hold of that sum in a sandbox is worth. -/
noncomputable def Try.pinned : Pinned := { name := "ytijjecckfcbaoaa", sum := "bf90102a1be02171a1f083f6f1e82fee1a32feb77a513cec4fe149f1b622a22a", checked := Try.checked }
namespace Rows
def none {H : Type} : Left H := { results := [], args := [] }

/-- 'laws.FnExactClaimOfContours': WHATEVER THE INPUT: true; the input reads as it did. -/
def fnExactClaimOfContoursSpec : ChangeSpec := { name := "fnExactClaimOfContours", fn := fun _ => fun
  | [d1, d2, d3, d4] => { results := [.lit (.bool true)], args := [d1, d2, d3, d4] }
  | _ => none }
def fnExactClaimOfContoursRow : OpenClaim := { program := "ytijjecckfcbaoaa", sum := "bf90102a1be02171a1f083f6f1e82fee1a32feb77a513cec4fe149f1b622a22a", func := "loop.example/g01060/laws.FnExactClaimOfContours", spec := "fnExactClaimOfContours", apart := false }
def FnExactClaimOfContoursSaid : Prop := fnExactClaimOfContoursRow.holds Try.pinned (OpenSpec.ofChange fnExactClaimOfContoursSpec)

/-- ITS FALSE NEIGHBOUR: 'it returns false'. Refute it at one input. -/
def fnExactClaimOfContoursWrong : ChangeSpec := { name := "fnExactClaimOfContours", fn := fun _ => fun
  | [d1, d2, d3, d4] => { results := [.lit (.bool false)], args := [d1, d2, d3, d4] }
  | _ => none }
def FnExactClaimOfContoursWrongFalsely : Prop := fnExactClaimOfContoursRow.holds Try.pinned (OpenSpec.ofChange fnExactClaimOfContoursWrong)

/-- 'laws.FnExactContoursBetween': WHATEVER THE INPUT: true; the input reads as it did. -/
def fnExactContoursBetweenSpec : ChangeSpec := { name := "fnExactContoursBetween", fn := fun _ => fun
  | [d1, d2, d3] => { results := [.lit (.bool true)], args := [d1, d2, d3] }
  | _ => none }
def fnExactContoursBetweenRow : OpenClaim := { program := "ytijjecckfcbaoaa", sum := "bf90102a1be02171a1f083f6f1e82fee1a32feb77a513cec4fe149f1b622a22a", func := "loop.example/g01060/laws.FnExactContoursBetween", spec := "fnExactContoursBetween", unfollowed := true, recurses := true, apart := false }
def FnExactContoursBetweenSaid : Prop := fnExactContoursBetweenRow.holds Try.pinned (OpenSpec.ofChange fnExactContoursBetweenSpec)

/-- ITS FALSE NEIGHBOUR: 'it returns false'. Refute it at one input. -/
def fnExactContoursBetweenWrong : ChangeSpec := { name := "fnExactContoursBetween", fn := fun _ => fun
  | [d1, d2, d3] => { results := [.lit (.bool false)], args := [d1, d2, d3] }
  | _ => none }
def FnExactContoursBetweenWrongFalsely : Prop := fnExactContoursBetweenRow.holds Try.pinned (OpenSpec.ofChange fnExactContoursBetweenWrong)

/-- 'laws.FnExactAreClaims': WHATEVER THE INPUT: true; the input reads as it did. -/
def fnExactAreClaimsSpec : ChangeSpec := { name := "fnExactAreClaims", fn := fun _ => fun
  | [d1, d2] => { results := [.lit (.bool true)], args := [d1, d2] }
  | _ => none }
def fnExactAreClaimsRow : OpenClaim := { program := "ytijjecckfcbaoaa", sum := "bf90102a1be02171a1f083f6f1e82fee1a32feb77a513cec4fe149f1b622a22a", func := "loop.example/g01060/laws.FnExactAreClaims", spec := "fnExactAreClaims", unfollowed := true, recurses := true, apart := false }
def FnExactAreClaimsSaid : Prop := fnExactAreClaimsRow.holds Try.pinned (OpenSpec.ofChange fnExactAreClaimsSpec)

/-- ITS FALSE NEIGHBOUR: 'it returns false'. Refute it at one input. -/
def fnExactAreClaimsWrong : ChangeSpec := { name := "fnExactAreClaims", fn := fun _ => fun
  | [d1, d2] => { results := [.lit (.bool false)], args := [d1, d2] }
  | _ => none }
def FnExactAreClaimsWrongFalsely : Prop := fnExactAreClaimsRow.holds Try.pinned (OpenSpec.ofChange fnExactAreClaimsWrong)

/-- 'laws.FnClaims': WHATEVER THE INPUT: true; the input reads as it did. -/
def fnClaimsSpec : ChangeSpec := { name := "fnClaims", fn := fun _ => fun
  | [d] => { results := [.lit (.bool true)], args := [d] }
  | _ => none }
def fnClaimsRow : OpenClaim := { program := "ytijjecckfcbaoaa", sum := "bf90102a1be02171a1f083f6f1e82fee1a32feb77a513cec4fe149f1b622a22a", func := "loop.example/g01060/laws.FnClaims", spec := "fnClaims", unfollowed := true, recurses := true, apart := false }
def FnClaimsSaid : Prop := fnClaimsRow.holds Try.pinned (OpenSpec.ofChange fnClaimsSpec)

/-- ITS FALSE NEIGHBOUR: 'it returns false'. Refute it at one input. -/
def fnClaimsWrong : ChangeSpec := { name := "fnClaims", fn := fun _ => fun
  | [d] => { results := [.lit (.bool false)], args := [d] }
  | _ => none }
def FnClaimsWrongFalsely : Prop := fnClaimsRow.holds Try.pinned (OpenSpec.ofChange fnClaimsWrong)

/-- 'laws.FnExactDoHeightsFit': WHATEVER THE INPUT: true; the input reads as it did. -/
def fnExactDoHeightsFitSpec : ChangeSpec := { name := "fnExactDoHeightsFit", fn := fun _ => fun
  | [d1, d2, d3] => { results := [.lit (.bool true)], args := [d1, d2, d3] }
  | _ => none }
def fnExactDoHeightsFitRow : OpenClaim := { program := "ytijjecckfcbaoaa", sum := "bf90102a1be02171a1f083f6f1e82fee1a32feb77a513cec4fe149f1b622a22a", func := "loop.example/g01060/laws.FnExactDoHeightsFit", spec := "fnExactDoHeightsFit", unfollowed := true, recurses := true, apart := false }
def FnExactDoHeightsFitSaid : Prop := fnExactDoHeightsFitRow.holds Try.pinned (OpenSpec.ofChange fnExactDoHeightsFitSpec)

/-- ITS FALSE NEIGHBOUR: 'it returns false'. Refute it at one input. -/
def fnExactDoHeightsFitWrong : ChangeSpec := { name := "fnExactDoHeightsFit", fn := fun _ => fun
  | [d1, d2, d3] => { results := [.lit (.bool false)], args := [d1, d2, d3] }
  | _ => none }
def FnExactDoHeightsFitWrongFalsely : Prop := fnExactDoHeightsFitRow.holds Try.pinned (OpenSpec.ofChange fnExactDoHeightsFitWrong)

/-- 'laws.FnExactBrokenClaims': WHATEVER THE INPUT: true; the input reads as it did. -/
def fnExactBrokenClaimsSpec : ChangeSpec := { name := "fnExactBrokenClaims", fn := fun _ => fun
  | [d1, d2, d3] => { results := [.lit (.bool true)], args := [d1, d2, d3] }
  | _ => none }
def fnExactBrokenClaimsRow : OpenClaim := { program := "ytijjecckfcbaoaa", sum := "bf90102a1be02171a1f083f6f1e82fee1a32feb77a513cec4fe149f1b622a22a", func := "loop.example/g01060/laws.FnExactBrokenClaims", spec := "fnExactBrokenClaims", unfollowed := true, recurses := true, apart := false }
def FnExactBrokenClaimsSaid : Prop := fnExactBrokenClaimsRow.holds Try.pinned (OpenSpec.ofChange fnExactBrokenClaimsSpec)

/-- ITS FALSE NEIGHBOUR: 'it returns false'. Refute it at one input. -/
def fnExactBrokenClaimsWrong : ChangeSpec := { name := "fnExactBrokenClaims", fn := fun _ => fun
  | [d1, d2, d3] => { results := [.lit (.bool false)], args := [d1, d2, d3] }
  | _ => none }
def FnExactBrokenClaimsWrongFalsely : Prop := fnExactBrokenClaimsRow.holds Try.pinned (OpenSpec.ofChange fnExactBrokenClaimsWrong)

/-- 'laws.FnExactAreSoundClaims': WHATEVER THE INPUT: true; the input reads as it did. -/
def fnExactAreSoundClaimsSpec : ChangeSpec := { name := "fnExactAreSoundClaims", fn := fun _ => fun
  | [d1, d2] => { results := [.lit (.bool true)], args := [d1, d2] }
  | _ => none }
def fnExactAreSoundClaimsRow : OpenClaim := { program := "ytijjecckfcbaoaa", sum := "bf90102a1be02171a1f083f6f1e82fee1a32feb77a513cec4fe149f1b622a22a", func := "loop.example/g01060/laws.FnExactAreSoundClaims", spec := "fnExactAreSoundClaims", unfollowed := true, recurses := true, apart := false }
def FnExactAreSoundClaimsSaid : Prop := fnExactAreSoundClaimsRow.holds Try.pinned (OpenSpec.ofChange fnExactAreSoundClaimsSpec)

/-- ITS FALSE NEIGHBOUR: 'it returns false'. Refute it at one input. -/
def fnExactAreSoundClaimsWrong : ChangeSpec := { name := "fnExactAreSoundClaims", fn := fun _ => fun
  | [d1, d2] => { results := [.lit (.bool false)], args := [d1, d2] }
  | _ => none }
def FnExactAreSoundClaimsWrongFalsely : Prop := fnExactAreSoundClaimsRow.holds Try.pinned (OpenSpec.ofChange fnExactAreSoundClaimsWrong)

/-- 'laws.FnExactCulprits': WHATEVER THE INPUT: true; the input reads as it did. -/
def fnExactCulpritsSpec : ChangeSpec := { name := "fnExactCulprits", fn := fun _ => fun
  | [d1, d2] => { results := [.lit (.bool true)], args := [d1, d2] }
  | _ => none }
def fnExactCulpritsRow : OpenClaim := { program := "ytijjecckfcbaoaa", sum := "bf90102a1be02171a1f083f6f1e82fee1a32feb77a513cec4fe149f1b622a22a", func := "loop.example/g01060/laws.FnExactCulprits", spec := "fnExactCulprits", unfollowed := true, recurses := true, apart := false }
def FnExactCulpritsSaid : Prop := fnExactCulpritsRow.holds Try.pinned (OpenSpec.ofChange fnExactCulpritsSpec)

/-- ITS FALSE NEIGHBOUR: 'it returns false'. Refute it at one input. -/
def fnExactCulpritsWrong : ChangeSpec := { name := "fnExactCulprits", fn := fun _ => fun
  | [d1, d2] => { results := [.lit (.bool false)], args := [d1, d2] }
  | _ => none }
def FnExactCulpritsWrongFalsely : Prop := fnExactCulpritsRow.holds Try.pinned (OpenSpec.ofChange fnExactCulpritsWrong)

/-- 'laws.FnExactHighestHeights': WHATEVER THE INPUT: true; the input reads as it did. -/
def fnExactHighestHeightsSpec : ChangeSpec := { name := "fnExactHighestHeights", fn := fun _ => fun
  | [d1, d2] => { results := [.lit (.bool true)], args := [d1, d2] }
  | _ => none }
def fnExactHighestHeightsRow : OpenClaim := { program := "ytijjecckfcbaoaa", sum := "bf90102a1be02171a1f083f6f1e82fee1a32feb77a513cec4fe149f1b622a22a", func := "loop.example/g01060/laws.FnExactHighestHeights", spec := "fnExactHighestHeights", unfollowed := true, recurses := true, apart := false }
def FnExactHighestHeightsSaid : Prop := fnExactHighestHeightsRow.holds Try.pinned (OpenSpec.ofChange fnExactHighestHeightsSpec)

/-- ITS FALSE NEIGHBOUR: 'it returns false'. Refute it at one input. -/
def fnExactHighestHeightsWrong : ChangeSpec := { name := "fnExactHighestHeights", fn := fun _ => fun
  | [d1, d2] => { results := [.lit (.bool false)], args := [d1, d2] }
  | _ => none }
def FnExactHighestHeightsWrongFalsely : Prop := fnExactHighestHeightsRow.holds Try.pinned (OpenSpec.ofChange fnExactHighestHeightsWrong)

/-- 'laws.FnExactLowestHeights': WHATEVER THE INPUT: true; the input reads as it did. -/
def fnExactLowestHeightsSpec : ChangeSpec := { name := "fnExactLowestHeights", fn := fun _ => fun
  | [d1, d2] => { results := [.lit (.bool true)], args := [d1, d2] }
  | _ => none }
def fnExactLowestHeightsRow : OpenClaim := { program := "ytijjecckfcbaoaa", sum := "bf90102a1be02171a1f083f6f1e82fee1a32feb77a513cec4fe149f1b622a22a", func := "loop.example/g01060/laws.FnExactLowestHeights", spec := "fnExactLowestHeights", unfollowed := true, recurses := true, apart := false }
def FnExactLowestHeightsSaid : Prop := fnExactLowestHeightsRow.holds Try.pinned (OpenSpec.ofChange fnExactLowestHeightsSpec)

/-- ITS FALSE NEIGHBOUR: 'it returns false'. Refute it at one input. -/
def fnExactLowestHeightsWrong : ChangeSpec := { name := "fnExactLowestHeights", fn := fun _ => fun
  | [d1, d2] => { results := [.lit (.bool false)], args := [d1, d2] }
  | _ => none }
def FnExactLowestHeightsWrongFalsely : Prop := fnExactLowestHeightsRow.holds Try.pinned (OpenSpec.ofChange fnExactLowestHeightsWrong)

/-- 'laws.FnExactTiedMarks': WHATEVER THE INPUT: true; the input reads as it did. -/
def fnExactTiedMarksSpec : ChangeSpec := { name := "fnExactTiedMarks", fn := fun _ => fun
  | [d1, d2, d3] => { results := [.lit (.bool true)], args := [d1, d2, d3] }
  | _ => none }
def fnExactTiedMarksRow : OpenClaim := { program := "ytijjecckfcbaoaa", sum := "bf90102a1be02171a1f083f6f1e82fee1a32feb77a513cec4fe149f1b622a22a", func := "loop.example/g01060/laws.FnExactTiedMarks", spec := "fnExactTiedMarks", unfollowed := true, recurses := true, apart := false }
def FnExactTiedMarksSaid : Prop := fnExactTiedMarksRow.holds Try.pinned (OpenSpec.ofChange fnExactTiedMarksSpec)

/-- ITS FALSE NEIGHBOUR: 'it returns false'. Refute it at one input. -/
def fnExactTiedMarksWrong : ChangeSpec := { name := "fnExactTiedMarks", fn := fun _ => fun
  | [d1, d2, d3] => { results := [.lit (.bool false)], args := [d1, d2, d3] }
  | _ => none }
def FnExactTiedMarksWrongFalsely : Prop := fnExactTiedMarksRow.holds Try.pinned (OpenSpec.ofChange fnExactTiedMarksWrong)

/-- 'laws.FnContours': WHATEVER THE INPUT: true; the input reads as it did. -/
def fnContoursSpec : ChangeSpec := { name := "fnContours", fn := fun _ => fun
  | [d] => { results := [.lit (.bool true)], args := [d] }
  | _ => none }
def fnContoursRow : OpenClaim := { program := "ytijjecckfcbaoaa", sum := "bf90102a1be02171a1f083f6f1e82fee1a32feb77a513cec4fe149f1b622a22a", func := "loop.example/g01060/laws.FnContours", spec := "fnContours", unfollowed := true, recurses := true, apart := false }
def FnContoursSaid : Prop := fnContoursRow.holds Try.pinned (OpenSpec.ofChange fnContoursSpec)

/-- ITS FALSE NEIGHBOUR: 'it returns false'. Refute it at one input. -/
def fnContoursWrong : ChangeSpec := { name := "fnContours", fn := fun _ => fun
  | [d] => { results := [.lit (.bool false)], args := [d] }
  | _ => none }
def FnContoursWrongFalsely : Prop := fnContoursRow.holds Try.pinned (OpenSpec.ofChange fnContoursWrong)

/- THE SECOND FORM. 'bulk': how many values and letters a reading holds, each counted each time it is reached (what is shared counts as often as it is met; a slice's spare places count too). A statement '..UptoSaid' is the law's where the arguments, and the package variables that the reading takes, are together of bulk at most 1048576: NARROWER than '..Said'. Prove '..Said' where nothing that the law and all that it calls make is longer than what came in: it says more and counts as full. Else prove '..UptoSaid'. A law counts once. -/
mutual
def uptoBulk {H : Type} : DataW H → Nat
  | .lit (.string bytes) => bytes.length + 1
  | .lit _ => 1
  | .nil => 1
  | .ptr d => uptoBulk d + 1
  | .slice elems spare => uptoBulkAll elems + uptoBulkAll spare + 1
  | .agg parts => uptoBulkAll parts + 1
  | .iface _ d => uptoBulk d + 1
  | .map entries => uptoBulkEntries entries + 1
  | .held _ => 1
def uptoBulkAll {H : Type} : List (DataW H) → Nat
  | [] => 0
  | d :: r => uptoBulk d + uptoBulkAll r
def uptoBulkEntries {H : Type} : List (Lit × DataW H) → Nat
  | [] => 0
  | x :: r => uptoBulkEntry x + uptoBulkEntries r
def uptoBulkEntry {H : Type} : Lit × DataW H → Nat
  | (.string bytes, d) => bytes.length + uptoBulk d + 1
  | (_, d) => uptoBulk d + 1
 end
def uptoSmall : (H : Type) → List (DataW H) → Bool := fun _ ds => decide (uptoBulkAll ds ≤ 1048576)
def OpenSpec.upto (s : _root_.Go.ChangeSpec) : _root_.Go.OpenSpec := { _root_.Go.OpenSpec.ofChange s with cond := some uptoSmall }

/-- 'laws.FnExactClaimOfContours', WHERE WHAT IT READS IS OF BULK AT MOST 1048576: true; the input reads as it did. -/
def fnExactClaimOfContoursUptoRow : OpenClaim := { program := "ytijjecckfcbaoaa", sum := "bf90102a1be02171a1f083f6f1e82fee1a32feb77a513cec4fe149f1b622a22a", func := "loop.example/g01060/laws.FnExactClaimOfContours", spec := "fnExactClaimOfContours", apart := false, narrowed := true }
def FnExactClaimOfContoursUptoSaid : Prop := fnExactClaimOfContoursUptoRow.holds Try.pinned (OpenSpec.upto fnExactClaimOfContoursSpec)

/-- 'laws.FnExactContoursBetween', WHERE WHAT IT READS IS OF BULK AT MOST 1048576: true; the input reads as it did. -/
def fnExactContoursBetweenUptoRow : OpenClaim := { program := "ytijjecckfcbaoaa", sum := "bf90102a1be02171a1f083f6f1e82fee1a32feb77a513cec4fe149f1b622a22a", func := "loop.example/g01060/laws.FnExactContoursBetween", spec := "fnExactContoursBetween", unfollowed := true, recurses := true, apart := false, narrowed := true }
def FnExactContoursBetweenUptoSaid : Prop := fnExactContoursBetweenUptoRow.holds Try.pinned (OpenSpec.upto fnExactContoursBetweenSpec)

/-- 'laws.FnExactAreClaims', WHERE WHAT IT READS IS OF BULK AT MOST 1048576: true; the input reads as it did. -/
def fnExactAreClaimsUptoRow : OpenClaim := { program := "ytijjecckfcbaoaa", sum := "bf90102a1be02171a1f083f6f1e82fee1a32feb77a513cec4fe149f1b622a22a", func := "loop.example/g01060/laws.FnExactAreClaims", spec := "fnExactAreClaims", unfollowed := true, recurses := true, apart := false, narrowed := true }
def FnExactAreClaimsUptoSaid : Prop := fnExactAreClaimsUptoRow.holds Try.pinned (OpenSpec.upto fnExactAreClaimsSpec)

/-- 'laws.FnClaims', WHERE WHAT IT READS IS OF BULK AT MOST 1048576: true; the input reads as it did. -/
def fnClaimsUptoRow : OpenClaim := { program := "ytijjecckfcbaoaa", sum := "bf90102a1be02171a1f083f6f1e82fee1a32feb77a513cec4fe149f1b622a22a", func := "loop.example/g01060/laws.FnClaims", spec := "fnClaims", unfollowed := true, recurses := true, apart := false, narrowed := true }
def FnClaimsUptoSaid : Prop := fnClaimsUptoRow.holds Try.pinned (OpenSpec.upto fnClaimsSpec)

/-- 'laws.FnExactDoHeightsFit', WHERE WHAT IT READS IS OF BULK AT MOST 1048576: true; the input reads as it did. -/
def fnExactDoHeightsFitUptoRow : OpenClaim := { program := "ytijjecckfcbaoaa", sum := "bf90102a1be02171a1f083f6f1e82fee1a32feb77a513cec4fe149f1b622a22a", func := "loop.example/g01060/laws.FnExactDoHeightsFit", spec := "fnExactDoHeightsFit", unfollowed := true, recurses := true, apart := false, narrowed := true }
def FnExactDoHeightsFitUptoSaid : Prop := fnExactDoHeightsFitUptoRow.holds Try.pinned (OpenSpec.upto fnExactDoHeightsFitSpec)

/-- 'laws.FnExactBrokenClaims', WHERE WHAT IT READS IS OF BULK AT MOST 1048576: true; the input reads as it did. -/
def fnExactBrokenClaimsUptoRow : OpenClaim := { program := "ytijjecckfcbaoaa", sum := "bf90102a1be02171a1f083f6f1e82fee1a32feb77a513cec4fe149f1b622a22a", func := "loop.example/g01060/laws.FnExactBrokenClaims", spec := "fnExactBrokenClaims", unfollowed := true, recurses := true, apart := false, narrowed := true }
def FnExactBrokenClaimsUptoSaid : Prop := fnExactBrokenClaimsUptoRow.holds Try.pinned (OpenSpec.upto fnExactBrokenClaimsSpec)

/-- 'laws.FnExactAreSoundClaims', WHERE WHAT IT READS IS OF BULK AT MOST 1048576: true; the input reads as it did. -/
def fnExactAreSoundClaimsUptoRow : OpenClaim := { program := "ytijjecckfcbaoaa", sum := "bf90102a1be02171a1f083f6f1e82fee1a32feb77a513cec4fe149f1b622a22a", func := "loop.example/g01060/laws.FnExactAreSoundClaims", spec := "fnExactAreSoundClaims", unfollowed := true, recurses := true, apart := false, narrowed := true }
def FnExactAreSoundClaimsUptoSaid : Prop := fnExactAreSoundClaimsUptoRow.holds Try.pinned (OpenSpec.upto fnExactAreSoundClaimsSpec)

/-- 'laws.FnExactCulprits', WHERE WHAT IT READS IS OF BULK AT MOST 1048576: true; the input reads as it did. -/
def fnExactCulpritsUptoRow : OpenClaim := { program := "ytijjecckfcbaoaa", sum := "bf90102a1be02171a1f083f6f1e82fee1a32feb77a513cec4fe149f1b622a22a", func := "loop.example/g01060/laws.FnExactCulprits", spec := "fnExactCulprits", unfollowed := true, recurses := true, apart := false, narrowed := true }
def FnExactCulpritsUptoSaid : Prop := fnExactCulpritsUptoRow.holds Try.pinned (OpenSpec.upto fnExactCulpritsSpec)

/-- 'laws.FnExactHighestHeights', WHERE WHAT IT READS IS OF BULK AT MOST 1048576: true; the input reads as it did. -/
def fnExactHighestHeightsUptoRow : OpenClaim := { program := "ytijjecckfcbaoaa", sum := "bf90102a1be02171a1f083f6f1e82fee1a32feb77a513cec4fe149f1b622a22a", func := "loop.example/g01060/laws.FnExactHighestHeights", spec := "fnExactHighestHeights", unfollowed := true, recurses := true, apart := false, narrowed := true }
def FnExactHighestHeightsUptoSaid : Prop := fnExactHighestHeightsUptoRow.holds Try.pinned (OpenSpec.upto fnExactHighestHeightsSpec)

/-- 'laws.FnExactLowestHeights', WHERE WHAT IT READS IS OF BULK AT MOST 1048576: true; the input reads as it did. -/
def fnExactLowestHeightsUptoRow : OpenClaim := { program := "ytijjecckfcbaoaa", sum := "bf90102a1be02171a1f083f6f1e82fee1a32feb77a513cec4fe149f1b622a22a", func := "loop.example/g01060/laws.FnExactLowestHeights", spec := "fnExactLowestHeights", unfollowed := true, recurses := true, apart := false, narrowed := true }
def FnExactLowestHeightsUptoSaid : Prop := fnExactLowestHeightsUptoRow.holds Try.pinned (OpenSpec.upto fnExactLowestHeightsSpec)

/-- 'laws.FnExactTiedMarks', WHERE WHAT IT READS IS OF BULK AT MOST 1048576: true; the input reads as it did. -/
def fnExactTiedMarksUptoRow : OpenClaim := { program := "ytijjecckfcbaoaa", sum := "bf90102a1be02171a1f083f6f1e82fee1a32feb77a513cec4fe149f1b622a22a", func := "loop.example/g01060/laws.FnExactTiedMarks", spec := "fnExactTiedMarks", unfollowed := true, recurses := true, apart := false, narrowed := true }
def FnExactTiedMarksUptoSaid : Prop := fnExactTiedMarksUptoRow.holds Try.pinned (OpenSpec.upto fnExactTiedMarksSpec)

/-- 'laws.FnContours', WHERE WHAT IT READS IS OF BULK AT MOST 1048576: true; the input reads as it did. -/
def fnContoursUptoRow : OpenClaim := { program := "ytijjecckfcbaoaa", sum := "bf90102a1be02171a1f083f6f1e82fee1a32feb77a513cec4fe149f1b622a22a", func := "loop.example/g01060/laws.FnContours", spec := "fnContours", unfollowed := true, recurses := true, apart := false, narrowed := true }
def FnContoursUptoSaid : Prop := fnContoursUptoRow.holds Try.pinned (OpenSpec.upto fnContoursSpec)

end Rows
end Go.Proofs.Ytijjecckfcbaoaa
