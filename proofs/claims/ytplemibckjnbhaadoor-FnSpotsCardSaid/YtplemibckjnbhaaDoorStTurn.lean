/- Contracts of the helpers of the laws on lists of GridTurn: conversion, equality, marks, and the library's search with a predicate. Conditions: lengths up to 1048576 where a slice is made or marked. -/
import Derived.Test.YtplemibckjnbhaaDoorProg
import Derived.Test.YtplemibckjnbhaaDoorOwn
import Derived.Test.YtplemibckjnbhaaDoorOpen
import Derived.Shelf.GgClosure.Gives
namespace Go.Proofs.YtplemibckjnbhaaDoor
open Go.RowKit Go.ChangeShapes Go.WideShapes Go.Deep
set_option linter.unusedVariables false
structure STurn where
  (q num den e n : Int)
def STurn.zero : STurn := ⟨0, 0, 0, 0, 0⟩
def STurn.enc (c : STurn) : Nat → Value := fun j => match j with | 0 => .int .i64 c.q | 1 => .int .i64 c.num | 2 => .int .i64 c.den | 3 => .int .i64 c.e | _ => .int .i64 c.n
theorem STurn.one : ∀ (c : STurn) (j : Nat), (STurn.enc c j).oneCell' = true := fun c j => by unfold STurn.enc; split <;> rfl
theorem STurn.info : (Tryd.prog.info? 35).map (fun i => (i.zero, i.size, i.bytes)) = some (some (.agg #[.int .i64 0, .int .i64 0, .int .i64 0, .int .i64 0, .int .i64 0]), 5, 40) := by kernel_rfl
def STurn.wf (c : STurn) : Prop := (Lit.int .i64 c.q).wf = true ∧ (Lit.int .i64 c.num).wf = true ∧ (Lit.int .i64 c.den).wf = true ∧ (Lit.int .i64 c.e).wf = true ∧ (Lit.int .i64 c.n).wf = true
theorem STurn.cells {w : World} {B : Nat} {A : Option Addr} {xs : List STurn} (h : Row 5 STurn.enc w B A xs) {i : Nat} (hi : i < xs.length) {wr : World} (hb : Below B w wr) :
    ∃ b off, A = some ⟨b, off, none⟩ ∧ b < B ∧ wr.cell? ⟨b, off + i * 5, none⟩ = some (.int .i64 xs[i].q) ∧ wr.cell? ⟨b, off + i * 5 + 1, none⟩ = some (.int .i64 xs[i].num) ∧ wr.cell? ⟨b, off + i * 5 + 2, none⟩ = some (.int .i64 xs[i].den) ∧ wr.cell? ⟨b, off + i * 5 + 3, none⟩ = some (.int .i64 xs[i].e) ∧ wr.cell? ⟨b, off + i * 5 + 4, none⟩ = some (.int .i64 xs[i].n) := by
  obtain ⟨b, off, rfl, hl, hc⟩ := h.get hi
  have hcell := fun j hj => (hb.cell (p := ⟨b, off + i * 5 + j, none⟩) hl).trans (hc j hj)
  exact ⟨b, off, rfl, hl, hcell 0 (by omega), hcell 1 (by omega), hcell 2 (by omega), hcell 3 (by omega), hcell 4 (by omega)⟩
/-- the numbers from k0 on, 5 an element -/
def STurn.marks (k0 : Int) (n : Nat) : List STurn := (List.range n).map fun (i : Nat) => (⟨k0 + (i : Int) * 5 + 0, k0 + (i : Int) * 5 + 1, k0 + (i : Int) * 5 + 2, k0 + (i : Int) * 5 + 3, k0 + (i : Int) * 5 + 4⟩ : STurn)
theorem STurn.marks_length (k0 : Int) (n : Nat) : (STurn.marks k0 n).length = n := by simp [STurn.marks]
theorem STurn.marks_get (k0 : Int) (n i : Nat) (h : i < (STurn.marks k0 n).length) : (STurn.marks k0 n)[i] = ⟨k0 + (i : Int) * 5 + 0, k0 + (i : Int) * 5 + 1, k0 + (i : Int) * 5 + 2, k0 + (i : Int) * 5 + 3, k0 + (i : Int) * 5 + 4⟩ := by simp [STurn.marks]
/-- the predicate g with the captured values cp answers p, in whatever world in which what lay below B stays -/
def STurn.Pred (g : FuncId) (cp : Array Value) (p : STurn → Bool) (B : Nat) (w : World) : Prop :=
  ∀ (W : World) (c : STurn), Below B w W → Calls Tryd.prog g (#[.agg #[.int .i64 c.q, .int .i64 c.num, .int .i64 c.den, .int .i64 c.e, .int .i64 c.n]] ++ cp) W fun e w' => e = .returned (.bool (p c)) ∧ Below B w w'
end Go.Proofs.YtplemibckjnbhaaDoor
