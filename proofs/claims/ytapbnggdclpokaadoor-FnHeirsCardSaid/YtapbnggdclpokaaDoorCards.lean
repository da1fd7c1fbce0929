/-
  DERIVED. GIVEN WITH THE SEED: THE CARDS: each row of YtapbnggdclpokaaDoorRows.lean that lists a variable, with what it lists TIED to the program's text (the seventh form; the later family's looks); each row that meets fmt, with fmt's text TOLD by the authors' own Lean function (tested against real Go, not proved from fmt's source: count such statements apart). THE CARD IS WHAT COUNTS. Prove the row's statement (the work); the ties are given (YtapbnggdclpokaaDoorTie.lean); close each card by the builder's one call (the guide's Derived/Test/ToyasCard.lean, 'card_holds'). Laid BY PROGRAM, IN A SANDBOX (cutbox-door.mjs). By AI agents, Wed Nov 11 2026. No macro, syntax, notation, axiom, sorry.
-/
import Derived.Test.YtapbnggdclpokaaDoorRows
import GoSem.ClaimSeven
namespace Go.Proofs.YtapbnggdclpokaaDoor
namespace Rows

/-- THE TIED CARD OF 'laws.FnExactMakerText'. -/
def fnExactMakerTextCard : Claim7 := { stood := { row := fnExactMakerTextRow, standIns := [], harness := (true, "4edb4cda878a7a46e4516917270b5bd9d79554eb919708344592d0317a86dab8"), looks := false }, kinds := [], alts := [], laidByText := true, laidKinds := [.data, .data, .data], laidTests := true, laidLooks := .later }
def FnExactMakerTextCardSaid : Prop := Claim7.holds Tryd.pinned (.plain (OpenSpec.ofChange fnExactMakerTextSpec)) fnExactMakerTextCard

/-- THE TIED CARD OF 'laws.FnHeirs'. -/
def fnHeirsCard : Claim7 := { stood := { row := fnHeirsRow, standIns := [], harness := (true, "4edb4cda878a7a46e4516917270b5bd9d79554eb919708344592d0317a86dab8"), looks := false }, kinds := [], alts := [], laidByText := true, laidKinds := [.data, .data, .data], laidTests := true, laidLooks := .later }
def FnHeirsCardSaid : Prop := Claim7.holds Tryd.pinned (.plain (OpenSpec.ofChange fnHeirsSpec)) fnHeirsCard

/-- THE SECOND FORM's CARD OF 'laws.FnExactMakerText'. -/
def fnExactMakerTextUptoCard : Claim7 := { stood := { row := fnExactMakerTextUptoRow, standIns := [], harness := (true, "4edb4cda878a7a46e4516917270b5bd9d79554eb919708344592d0317a86dab8"), looks := false }, kinds := [], alts := [], laidByText := true, laidKinds := [.data, .data, .data], laidTests := true, laidLooks := .later }
def FnExactMakerTextUptoCardSaid : Prop := Claim7.holds Tryd.pinned (.plain (OpenSpec.upto fnExactMakerTextSpec)) fnExactMakerTextUptoCard

/-- THE SECOND FORM's CARD OF 'laws.FnHeirs'. -/
def fnHeirsUptoCard : Claim7 := { stood := { row := fnHeirsUptoRow, standIns := [], harness := (true, "4edb4cda878a7a46e4516917270b5bd9d79554eb919708344592d0317a86dab8"), looks := false }, kinds := [], alts := [], laidByText := true, laidKinds := [.data, .data, .data], laidTests := true, laidLooks := .later }
def FnHeirsUptoCardSaid : Prop := Claim7.holds Tryd.pinned (.plain (OpenSpec.upto fnHeirsSpec)) fnHeirsUptoCard
end Rows
end Go.Proofs.YtapbnggdclpokaaDoor
