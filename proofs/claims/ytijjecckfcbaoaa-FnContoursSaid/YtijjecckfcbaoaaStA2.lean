/- Contracts of the helpers of the laws on lists of Corner: conversion, equality, marks, and the library's search with a predicate. Conditions: lengths up to 1048576 where a slice is made or marked. -/
import Derived.Test.YtijjecckfcbaoaaProg
import Derived.Test.YtijjecckfcbaoaaOwn
import Derived.Test.YtijjecckfcbaoaaOpen
import Derived.Shelf.GgClosure.Gives
namespace Go.Proofs.Ytijjecckfcbaoaa
open Go.RowKit Go.ChangeShapes Go.WideShapes Go.Deep
set_option linter.unusedVariables false
structure SA2 where
  (x y : Int)
def SA2.zero : SA2 := ⟨0, 0⟩
def SA2.enc (c : SA2) : Nat → Value := fun j => match j with | 0 => .int .i64 c.x | _ => .int .i64 c.y
theorem SA2.one : ∀ (c : SA2) (j : Nat), (SA2.enc c j).oneCell' = true := fun c j => by unfold SA2.enc; split <;> rfl
theorem SA2.info : (Try.prog.info? 76).map (fun i => (i.zero, i.size, i.bytes)) = some (some (.agg #[.int .i64 0, .int .i64 0]), 2, 16) := by kernel_rfl
def SA2.wf (c : SA2) : Prop := (Lit.int .i64 c.x).wf = true ∧ (Lit.int .i64 c.y).wf = true
theorem SA2.cells {w : World} {B : Nat} {A : Option Addr} {xs : List SA2} (h : Row 2 SA2.enc w B A xs) {i : Nat} (hi : i < xs.length) {wr : World} (hb : Below B w wr) :
    ∃ b off, A = some ⟨b, off, none⟩ ∧ b < B ∧ wr.cell? ⟨b, off + i * 2, none⟩ = some (.int .i64 xs[i].x) ∧ wr.cell? ⟨b, off + i * 2 + 1, none⟩ = some (.int .i64 xs[i].y) := by
  obtain ⟨b, off, rfl, hl, hc⟩ := h.get hi
  have hcell := fun j hj => (hb.cell (p := ⟨b, off + i * 2 + j, none⟩) hl).trans (hc j hj)
  exact ⟨b, off, rfl, hl, hcell 0 (by omega), hcell 1 (by omega)⟩

/-- the numbers from k0 on, 2 an element -/
def SA2.marks (k0 : Int) (n : Nat) : List SA2 := (List.range n).map fun (i : Nat) => (⟨k0 + (i : Int) * 2 + 0, k0 + (i : Int) * 2 + 1⟩ : SA2)
theorem SA2.marks_length (k0 : Int) (n : Nat) : (SA2.marks k0 n).length = n := by simp [SA2.marks]
theorem SA2.marks_get (k0 : Int) (n i : Nat) (h : i < (SA2.marks k0 n).length) : (SA2.marks k0 n)[i] = ⟨k0 + (i : Int) * 2 + 0, k0 + (i : Int) * 2 + 1⟩ := by simp [SA2.marks]
end Go.Proofs.Ytijjecckfcbaoaa
