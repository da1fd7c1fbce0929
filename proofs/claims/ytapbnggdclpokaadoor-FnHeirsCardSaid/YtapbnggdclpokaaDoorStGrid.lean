/- Contracts of the helpers of the laws on slices of slices of ints: conversion, equality, sizes, and the library's search with a predicate. Conditions: lengths up to 1048576 where slices are made. -/
import Derived.Test.YtapbnggdclpokaaDoorStInt
namespace Go.Proofs.YtapbnggdclpokaaDoor
open Go.RowKit Go.ChangeShapes Go.WideShapes Go.Deep
set_option linter.unusedVariables false
/-- a row as it lies in memory -/
structure SRow where
  (xs : List Int) (A : Option Addr) (cap : Nat)
def SRow.enc (r : SRow) : Nat → Value := fun _ => .slice r.A r.xs.length r.cap
theorem SRow.one : ∀ (r : SRow) (j : Nat), (SRow.enc r j).oneCell' = true := fun _ _ => rfl
def SRow.ok (w : World) (B : Nat) (r : SRow) : Prop := Row 1 encI w B r.A r.xs ∧ r.xs.length ≤ r.cap ∧ r.cap ≤ maxLen
theorem SRow.info : (Tryd.prog.info? 38).map (fun i => (i.zero, i.size, i.bytes)) = some (some (.slice none 0 0), 1, 24) := by kernel_rfl
theorem SRow.ok.below {w w' : World} {B B' : Nat} {r : SRow} (h : r.ok w B) (hb : Below B w w') (hB : B ≤ B') : r.ok w' B' := ⟨h.1.below hb (Nat.le_refl _) hB, h.2⟩
theorem SRow.ok.below2 {w w' : World} {B B0 B' : Nat} {r : SRow} (h : r.ok w B) (hb : Below B0 w w') (h0 : B ≤ B0) (hB : B ≤ B') : r.ok w' B' := ⟨h.1.below hb h0 hB, h.2⟩
theorem SRow.ok.is {w : World} {r : SRow} (h : r.ok w w.heap.size) : Is 1 encI w (.slice r.A r.xs.length r.cap) r.xs := ⟨_, _, rfl, h.1, h.2.1, h.2.2⟩
def IsG (w : World) (v : Value) (xss : List (List Int)) : Prop := ∃ rs : List SRow, rs.map (·.xs) = xss ∧ Is 1 SRow.enc w v rs ∧ ∀ r ∈ rs, r.ok w w.heap.size
theorem IsG.below {w w' : World} {v : Value} {xss : List (List Int)} (h : IsG w v xss) {B : Nat} (hb : Below B w w') (hB : w.heap.size ≤ B) : IsG w' v xss := by
  obtain ⟨rs, h1, h2, h3⟩ := h
  exact ⟨rs, h1, h2.below hb hB, fun r hr => (h3 r hr).below2 hb hB hb.size⟩
theorem Grid.open {H : Type} {enc' : TypeId × Value → H} {w : World} {sp : Nat → Bool} {held : Bool} {t e : TypeId} (ht : Tryd.prog.underlying t = some (.slice e)) (he : Tryd.prog.underlying e = some (.slice 3)) (hk : Tryd.prog.cellsOf e = 1) {A : Option Addr} {len cap : Nat} {d : DataW H} {p : List MemPlace}
    (h : DataW.Trod enc' Tryd.prog w 0 sp held t (.slice A len cap) d p) : ∃ zs : List SRow, zs.length = len ∧ (∀ z ∈ zs, z.ok w w.heap.size) ∧ len ≤ cap ∧ cap ≤ maxLen ∧ Row 1 SRow.enc w w.heap.size A zs := by
  refine row_of_slice (by omega) ht hk (fun n cs y hy hl => ?_) h
  rcases open_slice he hy with ⟨hcs, _⟩ | ⟨a, l, c, m, n', D, Pl, hcs, _⟩
  · subst hcs
    exact ⟨⟨[], none, 0⟩, ⟨Row.nil, Nat.le_refl _, Nat.zero_le _⟩, fun j hj => by
      obtain rfl : j = 0 := by omega
      rfl⟩
  · subst hcs
    have htr : DataW.Trod enc' Tryd.prog w 0 sp held e (.slice (some a) l c) y.1 y.2 := ⟨n, by simpa [Value.cells] using hy⟩
    obtain ⟨zs, rfl, _, h1, h2, h3⟩ := Ints.open he Tryd.underlying3 (by kernel_rfl) htr
    exact ⟨⟨zs, some a, c⟩, ⟨h3, h1, h2⟩, fun j hj => by
      obtain rfl : j = 0 := by omega
      rfl⟩
theorem SRow.cell {w : World} {B : Nat} {A : Option Addr} {rs : List SRow} (h : Row 1 SRow.enc w B A rs) {i : Nat} (hi : i < rs.length) {wr : World} (hb : Below B w wr) :
    ∃ b off, A = some ⟨b, off, none⟩ ∧ b < B ∧ wr.cell? ⟨b, off + i, none⟩ = some (.slice rs[i].A rs[i].xs.length rs[i].cap) := by
  obtain ⟨b, off, rfl, hl, hc⟩ := h.get hi
  have h0 := (hb.cell (p := ⟨b, off + i * 1 + 0, none⟩) hl).trans (hc 0 (by omega))
  rw [Nat.mul_one, Nat.add_zero] at h0
  exact ⟨b, off, rfl, hl, h0⟩
def szG (xss : List (List Int)) : Nat := xss.length + (xss.map List.length).sum
def szGTo (xss : List (List Int)) (i : Nat) : Nat := xss.length + ((xss.take i).map List.length).sum
theorem sumG_take_le (l : List Nat) : ∀ i, (l.take i).sum ≤ l.sum := by
  induction l with
  | nil => simp
  | cons a l ih =>
    intro i
    cases i with
    | zero => simp
    | succ i => have := ih i; simp; omega
theorem szGTo_le (xss : List (List Int)) (i : Nat) : szGTo xss i ≤ szG xss := by
  unfold szGTo szG
  rw [List.map_take]
  have := sumG_take_le (xss.map List.length) i
  omega
theorem szGTo_succ {xss : List (List Int)} {i : Nat} (h : i < xss.length) : szGTo xss (i + 1) = szGTo xss i + xss[i].length := by
  unfold szGTo; rw [take_snoc' h, List.map_append, List.sum_append]; simp; omega
theorem szG_row {xss : List (List Int)} {i : Nat} (h : i < xss.length) : xss[i].length ≤ szG xss := by
  have h1 := szGTo_succ h; have h2 := szGTo_le xss (i + 1); omega
/-- the predicate g with the captured values cp answers p of a row, in whatever world in which what lay below B stays -/
def PredG (g : FuncId) (cp : Array Value) (p : List Int → Bool) (B : Nat) (w : World) : Prop :=
  ∀ (W : World) (r : SRow), Below B w W → r.ok w B → Calls Tryd.prog g (#[.slice r.A r.xs.length r.cap] ++ cp) W fun e w' => e = .returned (.bool (p r.xs)) ∧ Below B w w'
end Go.Proofs.YtapbnggdclpokaaDoor
