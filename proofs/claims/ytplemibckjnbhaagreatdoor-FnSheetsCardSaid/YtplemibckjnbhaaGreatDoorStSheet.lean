/- Contracts of the helpers of the laws on lists of Sheet: conversion, equality, marks, and the library's search with a predicate. Conditions: lengths up to 1048576 where a slice is made or marked. -/
import Derived.Test.YtplemibckjnbhaaGreatDoorProg
import Derived.Test.YtplemibckjnbhaaGreatDoorOwn
import Derived.Test.YtplemibckjnbhaaGreatDoorLayX
import Derived.Shelf.GgClosure.Gives
namespace Go.Proofs.YtplemibckjnbhaaGreatDoor
open Go.RowKit Go.ChangeShapes Go.WideShapes Go.Deep
set_option linter.unusedVariables false
structure SSheet where
  (id row col scale year : Int)
def SSheet.zero : SSheet := ⟨0, 0, 0, 0, 0⟩
def SSheet.enc (c : SSheet) : Nat → Value := fun j => match j with | 0 => .int .i64 c.id | 1 => .int .i64 c.row | 2 => .int .i64 c.col | 3 => .int .i64 c.scale | _ => .int .i64 c.year
theorem SSheet.one : ∀ (c : SSheet) (j : Nat), (SSheet.enc c j).oneCell' = true := fun c j => by unfold SSheet.enc; split <;> rfl
theorem SSheet.info : (Tryz.prog.info? 50).map (fun i => (i.zero, i.size, i.bytes)) = some (some (.agg #[.int .i64 0, .int .i64 0, .int .i64 0, .int .i64 0, .int .i64 0]), 5, 40) := by kernel_rfl
def SSheet.wf (c : SSheet) : Prop := (Lit.int .i64 c.id).wf = true ∧ (Lit.int .i64 c.row).wf = true ∧ (Lit.int .i64 c.col).wf = true ∧ (Lit.int .i64 c.scale).wf = true ∧ (Lit.int .i64 c.year).wf = true
theorem SSheet.cells {w : World} {B : Nat} {A : Option Addr} {xs : List SSheet} (h : Row 5 SSheet.enc w B A xs) {i : Nat} (hi : i < xs.length) {wr : World} (hb : Below B w wr) :
    ∃ b off, A = some ⟨b, off, none⟩ ∧ b < B ∧ wr.cell? ⟨b, off + i * 5, none⟩ = some (.int .i64 xs[i].id) ∧ wr.cell? ⟨b, off + i * 5 + 1, none⟩ = some (.int .i64 xs[i].row) ∧ wr.cell? ⟨b, off + i * 5 + 2, none⟩ = some (.int .i64 xs[i].col) ∧ wr.cell? ⟨b, off + i * 5 + 3, none⟩ = some (.int .i64 xs[i].scale) ∧ wr.cell? ⟨b, off + i * 5 + 4, none⟩ = some (.int .i64 xs[i].year) := by
  obtain ⟨b, off, rfl, hl, hc⟩ := h.get hi
  have hcell := fun j hj => (hb.cell (p := ⟨b, off + i * 5 + j, none⟩) hl).trans (hc j hj)
  exact ⟨b, off, rfl, hl, hcell 0 (by omega), hcell 1 (by omega), hcell 2 (by omega), hcell 3 (by omega), hcell 4 (by omega)⟩
/-- the numbers from k0 on, 5 an element -/
def SSheet.marks (k0 : Int) (n : Nat) : List SSheet := (List.range n).map fun (i : Nat) => (⟨k0 + (i : Int) * 5 + 0, k0 + (i : Int) * 5 + 1, k0 + (i : Int) * 5 + 2, k0 + (i : Int) * 5 + 3, k0 + (i : Int) * 5 + 4⟩ : SSheet)
theorem SSheet.marks_length (k0 : Int) (n : Nat) : (SSheet.marks k0 n).length = n := by simp [SSheet.marks]
theorem SSheet.marks_get (k0 : Int) (n i : Nat) (h : i < (SSheet.marks k0 n).length) : (SSheet.marks k0 n)[i] = ⟨k0 + (i : Int) * 5 + 0, k0 + (i : Int) * 5 + 1, k0 + (i : Int) * 5 + 2, k0 + (i : Int) * 5 + 3, k0 + (i : Int) * 5 + 4⟩ := by simp [SSheet.marks]
/-- the predicate g with the captured values cp answers p, in whatever world in which what lay below B stays -/
def SSheet.Pred (g : FuncId) (cp : Array Value) (p : SSheet → Bool) (B : Nat) (w : World) : Prop :=
  ∀ (W : World) (c : SSheet), Below B w W → Calls Tryz.prog g (#[.agg #[.int .i64 c.id, .int .i64 c.row, .int .i64 c.col, .int .i64 c.scale, .int .i64 c.year]] ++ cp) W fun e w' => e = .returned (.bool (p c)) ∧ Below B w w'
theorem IndexFuncSheet_any (g : FuncId) (cp : Array Value) (p : SSheet → Bool) (A : Option Addr) (cap : Nat) (xs : List SSheet) (w : World) (hr : Row 5 SSheet.enc w w.heap.size A xs) (hm : xs.length ≤ 9223372036854775807)
    (eg : ∀ args w, (callFunc g args).run Tryz.prog w = .ok (.enter g args) w) (hp : SSheet.Pred g cp p w.heap.size w) :
    Calls Tryz.prog 111 #[.slice A xs.length cap, .func (.func g) #[] cp] w fun e w' => e = .returned (.int .i64 (idxF p xs)) ∧ Below w.heap.size w w' := by
  generalize hB : w.heap.size = B at hr hp ⊢
  have HB := hide hB; clear hB
  have HR := hide hr; clear hr
  have HP := hide hp; clear hp
  go_enter Tryz.func111, Tryz.ntmps111
  go_wp2_with fail
  go_loopw [8] (fun i wr => ∃ (k : Nat), k ≤ xs.length ∧ i = .int .i64 k ∧ (∀ c ∈ xs.take k, p c = false) ∧ Below B w wr) (fun i _ => xs.length - (intOf i).toNat)
  case atStart => exact ⟨0, Nat.zero_le _, rfl, by simp, Below.refl _ _⟩
  case round =>
    obtain ⟨i, hi, rfl, hno, hbel⟩ := hrel
    have HN := hide hno; clear hno
    by_cases hlt : i < xs.length
    · obtain ⟨b, off, rfl, hb, c0, c1, c2, c3, c4⟩ := SSheet.cells HR.out hlt hbel
      have hcall := HP.out wr xs[i] hbel
      generalize hy : xs[i] = y at hcall c0 c1 c2 c3 c4
      have HY := hide hy; clear hy
      cases hq : p y with
      | true =>
        rw [hq] at hcall
        have HQ := hide hq; clear hq
        go_wp2_with (go_at_fn g; refine hcall.mono ?_; rintro e w' ⟨rfl, hb'⟩)
        go_ret
        refine ⟨ret_int ?_, hb'⟩
        exact (idxF_hit hlt (by rw [HY.out]; exact HQ.out) HN.out).symm
      | false =>
        rw [hq] at hcall
        have HQ := hide hq; clear hq
        go_wp2_with (go_at_fn g; refine hcall.mono ?_; rintro e w' ⟨rfl, hb'⟩)
        refine ⟨⟨i + 1, by omega, by go_num, ?_, hb'⟩, by simp [intOf]; omega⟩
        rw [take_snoc' hlt, HY.out]
        intro c hc
        rcases List.mem_append.1 hc with h | h
        · exact HN.out c h
        · rw [List.mem_singleton.1 h]; exact HQ.out
    · have hk : i = xs.length := by omega
      have HK := hide hk; clear hk
      go_wp2_with fail
      go_ret
      refine ⟨ret_int (idxF_miss ?_).symm, hbel⟩
      have := HN.out; rw [HK.out, List.take_length] at this; exact this
end Go.Proofs.YtplemibckjnbhaaGreatDoor
