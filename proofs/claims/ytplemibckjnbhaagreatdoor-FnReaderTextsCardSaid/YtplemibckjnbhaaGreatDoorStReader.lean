/- Contracts of the helpers of the laws on lists of Reader: conversion, equality, marks, and the library's search with a predicate. Conditions: lengths up to 1048576 where a slice is made or marked. -/
import Derived.Test.YtplemibckjnbhaaGreatDoorProg
import Derived.Test.YtplemibckjnbhaaGreatDoorOwn
import Derived.Test.YtplemibckjnbhaaGreatDoorOpen
import Derived.Shelf.GgClosure.Gives
namespace Go.Proofs.YtplemibckjnbhaaGreatDoor
open Go.RowKit Go.ChangeShapes Go.WideShapes Go.Deep
set_option linter.unusedVariables false
structure SReader where
  (ident : Int) (name : ByteArray) (joined cls fines : Int)
def SReader.zero : SReader := ⟨0, ⟨#[]⟩, 0, 0, 0⟩
def SReader.enc (c : SReader) : Nat → Value := fun j => match j with | 0 => .int .i64 c.ident | 1 => .string c.name | 2 => .int .i64 c.joined | 3 => .int .i64 c.cls | _ => .int .i64 c.fines
theorem SReader.one : ∀ (c : SReader) (j : Nat), (SReader.enc c j).oneCell' = true := fun c j => by unfold SReader.enc; split <;> rfl
theorem SReader.info : (Tryz.prog.info? 25).map (fun i => (i.zero, i.size, i.bytes)) = some (some (.agg #[.int .i64 0, .string ⟨#[]⟩, .int .i64 0, .int .i64 0, .int .i64 0]), 5, 48) := by kernel_rfl
def SReader.wf (c : SReader) : Prop := (Lit.int .i64 c.ident).wf = true ∧ c.name.size ≤ maxLen ∧ (Lit.int .i64 c.joined).wf = true ∧ (Lit.int .i64 c.cls).wf = true ∧ (Lit.int .i64 c.fines).wf = true
theorem SReader.cells {w : World} {B : Nat} {A : Option Addr} {xs : List SReader} (h : Row 5 SReader.enc w B A xs) {i : Nat} (hi : i < xs.length) {wr : World} (hb : Below B w wr) :
    ∃ b off, A = some ⟨b, off, none⟩ ∧ b < B ∧ wr.cell? ⟨b, off + i * 5, none⟩ = some (.int .i64 xs[i].ident) ∧ wr.cell? ⟨b, off + i * 5 + 1, none⟩ = some (.string xs[i].name) ∧ wr.cell? ⟨b, off + i * 5 + 2, none⟩ = some (.int .i64 xs[i].joined) ∧ wr.cell? ⟨b, off + i * 5 + 3, none⟩ = some (.int .i64 xs[i].cls) ∧ wr.cell? ⟨b, off + i * 5 + 4, none⟩ = some (.int .i64 xs[i].fines) := by
  obtain ⟨b, off, rfl, hl, hc⟩ := h.get hi
  have hcell := fun j hj => (hb.cell (p := ⟨b, off + i * 5 + j, none⟩) hl).trans (hc j hj)
  exact ⟨b, off, rfl, hl, hcell 0 (by omega), hcell 1 (by omega), hcell 2 (by omega), hcell 3 (by omega), hcell 4 (by omega)⟩
/-- what a list counts for: its elements, and the bytes of their names -/
def SReader.sz (xs : List SReader) : Nat := xs.length + (xs.map fun c => c.name.size).sum
theorem SReader.len_sz (xs : List SReader) : xs.length ≤ SReader.sz xs := by unfold SReader.sz; omega
def SReader.szTo (xs : List SReader) (i : Nat) : Nat := xs.length + ((xs.take i).map fun c => c.name.size).sum
theorem SReader.szTo_succ {xs : List SReader} {i : Nat} (h : i < xs.length) : SReader.szTo xs (i + 1) = SReader.szTo xs i + xs[i].name.size := by
  unfold SReader.szTo; rw [take_snoc' h, List.map_append, List.sum_append]; simp; omega
theorem sum_take_le (l : List Nat) : ∀ i, (l.take i).sum ≤ l.sum := by
  induction l with
  | nil => simp
  | cons a l ih =>
    intro i
    cases i with
    | zero => simp
    | succ i => have := ih i; simp; omega
theorem SReader.szTo_le (xs : List SReader) (i : Nat) : SReader.szTo xs i ≤ SReader.sz xs := by
  unfold SReader.szTo SReader.sz
  rw [List.map_take]
  have := sum_take_le (xs.map fun c => c.name.size) i
  omega
/-! ### the text of a mark -/
def mkLoop (n : Nat) (s : ByteArray) : ByteArray := if h : n = 0 then s else mkLoop (n / 10) (⟨#[UInt8.ofNat (48 + n % 10)]⟩ ++ s)
termination_by n
decreasing_by omega
def mkText (k : Int) : ByteArray := ⟨#[109]⟩ ++ mkLoop k.toNat ⟨#[]⟩
/-- the numbers from k0 on, 5 an element -/
def SReader.marks (k0 : Int) (n : Nat) : List SReader := (List.range n).map fun (i : Nat) => (⟨k0 + (i : Int) * 5 + 0, mkText (k0 + (i : Int) * 5 + 1), k0 + (i : Int) * 5 + 2, k0 + (i : Int) * 5 + 3, k0 + (i : Int) * 5 + 4⟩ : SReader)
theorem SReader.marks_length (k0 : Int) (n : Nat) : (SReader.marks k0 n).length = n := by simp [SReader.marks]
theorem SReader.marks_get (k0 : Int) (n i : Nat) (h : i < (SReader.marks k0 n).length) : (SReader.marks k0 n)[i] = ⟨k0 + (i : Int) * 5 + 0, mkText (k0 + (i : Int) * 5 + 1), k0 + (i : Int) * 5 + 2, k0 + (i : Int) * 5 + 3, k0 + (i : Int) * 5 + 4⟩ := by simp [SReader.marks]
/-- the predicate g with the captured values cp answers p, in whatever world in which what lay below B stays -/
def SReader.Pred (g : FuncId) (cp : Array Value) (p : SReader → Bool) (B : Nat) (w : World) : Prop :=
  ∀ (W : World) (c : SReader), Below B w W → Calls Tryz.prog g (#[.agg #[.int .i64 c.ident, .string c.name, .int .i64 c.joined, .int .i64 c.cls, .int .i64 c.fines]] ++ cp) W fun e w' => e = .returned (.bool (p c)) ∧ Below B w w'
theorem IndexFuncReader_any (g : FuncId) (cp : Array Value) (p : SReader → Bool) (A : Option Addr) (cap : Nat) (xs : List SReader) (w : World) (hr : Row 5 SReader.enc w w.heap.size A xs) (hm : xs.length ≤ 9223372036854775807)
    (eg : ∀ args w, (callFunc g args).run Tryz.prog w = .ok (.enter g args) w) (hp : SReader.Pred g cp p w.heap.size w) :
    Calls Tryz.prog 105 #[.slice A xs.length cap, .func (.func g) #[] cp] w fun e w' => e = .returned (.int .i64 (idxF p xs)) ∧ Below w.heap.size w w' := by
  generalize hB : w.heap.size = B at hr hp ⊢
  have HB := hide hB; clear hB
  have HR := hide hr; clear hr
  have HP := hide hp; clear hp
  go_enter Tryz.func105, Tryz.ntmps105
  go_wp2_with fail
  go_loopw [8] (fun i wr => ∃ (k : Nat), k ≤ xs.length ∧ i = .int .i64 k ∧ (∀ c ∈ xs.take k, p c = false) ∧ Below B w wr) (fun i _ => xs.length - (intOf i).toNat)
  case atStart => exact ⟨0, Nat.zero_le _, rfl, by simp, Below.refl _ _⟩
  case round =>
    obtain ⟨i, hi, rfl, hno, hbel⟩ := hrel
    have HN := hide hno; clear hno
    by_cases hlt : i < xs.length
    · obtain ⟨b, off, rfl, hb, c0, c1, c2, c3, c4⟩ := SReader.cells HR.out hlt hbel
      have hcall := HP.out wr xs[i] hbel
      generalize hy : xs[i] = y at hcall c0 c1 c2 c3 c4
      have HY := hide hy; clear hy
      cases hq : p y with
      | true =>
        rw [hq] at hcall
        have HQ := hide hq; clear hq
        go_wp2_with (go_at_fn g; refine hcall.mono ?_; rintro e w' ⟨rfl, hb'⟩)
        go_ret
        refine ⟨ret_int ?_, hb'⟩
        exact (idxF_hit hlt (by rw [HY.out]; exact HQ.out) HN.out).symm
      | false =>
        rw [hq] at hcall
        have HQ := hide hq; clear hq
        go_wp2_with (go_at_fn g; refine hcall.mono ?_; rintro e w' ⟨rfl, hb'⟩)
        refine ⟨⟨i + 1, by omega, by go_num, ?_, hb'⟩, by simp [intOf]; omega⟩
        rw [take_snoc' hlt, HY.out]
        intro c hc
        rcases List.mem_append.1 hc with h | h
        · exact HN.out c h
        · rw [List.mem_singleton.1 h]; exact HQ.out
    · have hk : i = xs.length := by omega
      have HK := hide hk; clear hk
      go_wp2_with fail
      go_ret
      refine ⟨ret_int (idxF_miss ?_).symm, hbel⟩
      have := HN.out; rw [HK.out, List.take_length] at this; exact this
end Go.Proofs.YtplemibckjnbhaaGreatDoor
