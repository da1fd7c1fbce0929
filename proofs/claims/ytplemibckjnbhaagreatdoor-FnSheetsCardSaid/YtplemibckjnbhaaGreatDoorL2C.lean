/- Contracts of idsOf (over a predicate) and of NeighborsOf, in impl and spec: the Lean function nbV. Condition: small numbers. -/
import Derived.Test.YtplemibckjnbhaaGreatDoorL2B
import Derived.Test.YtplemibckjnbhaaGreatDoorStPush
namespace Go.Proofs.YtplemibckjnbhaaGreatDoor
open Go.RowKit
set_option linter.unusedVariables false
/-- the predicate g with the captured values cp answers p at each of xs, in whatever world in which what lay below B stays -/
def PredIn (g : FuncId) (cp : Array Value) (p : SSheet → Bool) (xs : List SSheet) (B : Nat) (w : World) : Prop :=
  ∀ (W : World) (c : SSheet), c ∈ xs → Below B w W → Calls Tryz.prog g (#[.agg #[.int .i64 c.id, .int .i64 c.row, .int .i64 c.col, .int .i64 c.scale, .int .i64 c.year]] ++ cp) W fun e w' => e = .returned (.bool (p c)) ∧ Below W.heap.size W w'
theorem mk5S {w : World} {g : Nat} {t : TypeId} {a b c d e : Value} (h : Blk w g t #[a, b, c, d, e]) : w.cell? ⟨g, 0, none⟩ = some a ∧ w.cell? ⟨g, 1, none⟩ = some b ∧ w.cell? ⟨g, 2, none⟩ = some c ∧ w.cell? ⟨g, 3, none⟩ = some d ∧ w.cell? ⟨g, 4, none⟩ = some e :=
  ⟨by rw [h.cell]; rfl, by rw [h.cell]; rfl, by rw [h.cell]; rfl, by rw [h.cell]; rfl, by rw [h.cell]; rfl⟩
theorem nbV_no {xs : List SSheet} {id : Int} (h : ¬ (goodS xs = true ∧ 0 ≤ findS xs id)) : nbV xs id = ([], false) := if_neg h
theorem nbV_yes {xs : List SSheet} {id : Int} (h1 : goodS xs = true) {k : Nat} (hk : findS xs id = (k : Int)) : nbV xs id = (filtTo (fun c => nbB c (SSheet.at xs k)) xs xs.length, true) := by
  unfold nbV; rw [if_pos ⟨h1, by omega⟩, hk, Int.toNat_natCast]
end Go.Proofs.YtplemibckjnbhaaGreatDoor
