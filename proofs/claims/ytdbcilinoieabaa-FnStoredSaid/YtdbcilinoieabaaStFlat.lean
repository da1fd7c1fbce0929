/- Contracts of the helpers of the laws on lists of Flat: conversion, equality, marks, and the library's search with a predicate. Conditions: lengths up to 1048576 where a slice is made or marked. -/
import Derived.Test.YtdbcilinoieabaaProg
import Derived.Test.YtdbcilinoieabaaOwn
import Derived.Test.YtdbcilinoieabaaOpen
import Derived.Shelf.GgClosure.Gives
namespace Go.Proofs.Ytdbcilinoieabaa
open Go.RowKit Go.ChangeShapes Go.WideShapes Go.Deep
set_option linter.unusedVariables false
structure SFlat where
  (ident wide high grams : Int)
def SFlat.zero : SFlat := ⟨0, 0, 0, 0⟩
def SFlat.enc (c : SFlat) : Nat → Value := fun j => match j with | 0 => .int .i64 c.ident | 1 => .int .i64 c.wide | 2 => .int .i64 c.high | _ => .int .i64 c.grams
theorem SFlat.one : ∀ (c : SFlat) (j : Nat), (SFlat.enc c j).oneCell' = true := fun c j => by unfold SFlat.enc; split <;> rfl
theorem SFlat.info : (Try.prog.info? 68).map (fun i => (i.zero, i.size, i.bytes)) = some (some (.agg #[.int .i64 0, .int .i64 0, .int .i64 0, .int .i64 0]), 4, 32) := by kernel_rfl
def SFlat.wf (c : SFlat) : Prop := (Lit.int .i64 c.ident).wf = true ∧ (Lit.int .i64 c.wide).wf = true ∧ (Lit.int .i64 c.high).wf = true ∧ (Lit.int .i64 c.grams).wf = true
theorem SFlat.cells {w : World} {B : Nat} {A : Option Addr} {xs : List SFlat} (h : Row 4 SFlat.enc w B A xs) {i : Nat} (hi : i < xs.length) {wr : World} (hb : Below B w wr) :
    ∃ b off, A = some ⟨b, off, none⟩ ∧ b < B ∧ wr.cell? ⟨b, off + i * 4, none⟩ = some (.int .i64 xs[i].ident) ∧ wr.cell? ⟨b, off + i * 4 + 1, none⟩ = some (.int .i64 xs[i].wide) ∧ wr.cell? ⟨b, off + i * 4 + 2, none⟩ = some (.int .i64 xs[i].high) ∧ wr.cell? ⟨b, off + i * 4 + 3, none⟩ = some (.int .i64 xs[i].grams) := by
  obtain ⟨b, off, rfl, hl, hc⟩ := h.get hi
  have hcell := fun j hj => (hb.cell (p := ⟨b, off + i * 4 + j, none⟩) hl).trans (hc j hj)
  exact ⟨b, off, rfl, hl, hcell 0 (by omega), hcell 1 (by omega), hcell 2 (by omega), hcell 3 (by omega)⟩
/-- the numbers from k0 on, 4 an element -/
def SFlat.marks (k0 : Int) (n : Nat) : List SFlat := (List.range n).map fun (i : Nat) => (⟨k0 + (i : Int) * 4 + 0, k0 + (i : Int) * 4 + 1, k0 + (i : Int) * 4 + 2, k0 + (i : Int) * 4 + 3⟩ : SFlat)
theorem SFlat.marks_length (k0 : Int) (n : Nat) : (SFlat.marks k0 n).length = n := by simp [SFlat.marks]
theorem SFlat.marks_get (k0 : Int) (n i : Nat) (h : i < (SFlat.marks k0 n).length) : (SFlat.marks k0 n)[i] = ⟨k0 + (i : Int) * 4 + 0, k0 + (i : Int) * 4 + 1, k0 + (i : Int) * 4 + 2, k0 + (i : Int) * 4 + 3⟩ := by simp [SFlat.marks]
/-- the predicate g with the captured values cp answers p, in whatever world in which what lay below B stays -/
def SFlat.Pred (g : FuncId) (cp : Array Value) (p : SFlat → Bool) (B : Nat) (w : World) : Prop :=
  ∀ (W : World) (c : SFlat), Below B w W → Calls Try.prog g (#[.agg #[.int .i64 c.ident, .int .i64 c.wide, .int .i64 c.high, .int .i64 c.grams]] ++ cp) W fun e w' => e = .returned (.bool (p c)) ∧ Below B w w'
theorem IndexFuncFlat_any (g : FuncId) (cp : Array Value) (p : SFlat → Bool) (A : Option Addr) (cap : Nat) (xs : List SFlat) (w : World) (hr : Row 4 SFlat.enc w w.heap.size A xs) (hm : xs.length ≤ 9223372036854775807)
    (eg : ∀ args w, (callFunc g args).run Try.prog w = .ok (.enter g args) w) (hp : SFlat.Pred g cp p w.heap.size w) :
    Calls Try.prog 187 #[.slice A xs.length cap, .func (.func g) #[] cp] w fun e w' => e = .returned (.int .i64 (idxF p xs)) ∧ Below w.heap.size w w' := by
  generalize hB : w.heap.size = B at hr hp ⊢
  have HB := hide hB; clear hB
  have HR := hide hr; clear hr
  have HP := hide hp; clear hp
  go_enter Try.func187, Try.ntmps187
  go_wp2_with fail
  go_loopw [8] (fun i wr => ∃ (k : Nat), k ≤ xs.length ∧ i = .int .i64 k ∧ (∀ c ∈ xs.take k, p c = false) ∧ Below B w wr) (fun i _ => xs.length - (intOf i).toNat)
  case atStart => exact ⟨0, Nat.zero_le _, rfl, by simp, Below.refl _ _⟩
  case round =>
    obtain ⟨i, hi, rfl, hno, hbel⟩ := hrel
    have HN := hide hno; clear hno
    by_cases hlt : i < xs.length
    · obtain ⟨b, off, rfl, hb, c0, c1, c2, c3⟩ := SFlat.cells HR.out hlt hbel
      have hcall := HP.out wr xs[i] hbel
      generalize hy : xs[i] = y at hcall c0 c1 c2 c3
      have HY := hide hy; clear hy
      cases hq : p y with
      | true =>
        rw [hq] at hcall
        have HQ := hide hq; clear hq
        go_wp2_with (go_at_fn g; refine hcall.mono ?_; rintro e w' ⟨rfl, hb'⟩)
        go_ret
        refine ⟨ret_int ?_, hb'⟩
        exact (idxF_hit hlt (by rw [HY.out]; exact HQ.out) HN.out).symm
      | false =>
        rw [hq] at hcall
        have HQ := hide hq; clear hq
        go_wp2_with (go_at_fn g; refine hcall.mono ?_; rintro e w' ⟨rfl, hb'⟩)
        refine ⟨⟨i + 1, by omega, by go_num, ?_, hb'⟩, by simp [intOf]; omega⟩
        rw [take_snoc' hlt, HY.out]
        intro c hc
        rcases List.mem_append.1 hc with h | h
        · exact HN.out c h
        · rw [List.mem_singleton.1 h]; exact HQ.out
    · have hk : i = xs.length := by omega
      have HK := hide hk; clear hk
      go_wp2_with fail
      go_ret
      refine ⟨ret_int (idxF_miss ?_).symm, hbel⟩
      have := HN.out; rw [HK.out, List.take_length] at this; exact this
end Go.Proofs.Ytdbcilinoieabaa
