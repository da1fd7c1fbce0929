/- Contracts of the helpers of the laws on lists of Maker: conversion, equality, marks, and the library's search with a predicate. Conditions: lengths up to 1048576 where a slice is made or marked. -/
import Derived.Test.YtapbnggdclpokaaDoorProg
import Derived.Test.YtapbnggdclpokaaDoorOwn
import Derived.Test.YtapbnggdclpokaaDoorOpen
import Derived.Shelf.GgClosure.Gives
namespace Go.Proofs.YtapbnggdclpokaaDoor
open Go.RowKit Go.ChangeShapes Go.WideShapes Go.Deep
set_option linter.unusedVariables false
structure SMaker where
  (ident : Int) (name : ByteArray) (frm untl heir : Int)
def SMaker.zero : SMaker := ⟨0, ⟨#[]⟩, 0, 0, 0⟩
def SMaker.enc (c : SMaker) : Nat → Value := fun j => match j with | 0 => .int .i64 c.ident | 1 => .string c.name | 2 => .int .i64 c.frm | 3 => .int .i64 c.untl | _ => .int .i64 c.heir
theorem SMaker.one : ∀ (c : SMaker) (j : Nat), (SMaker.enc c j).oneCell' = true := fun c j => by unfold SMaker.enc; split <;> rfl
theorem SMaker.info : (Tryd.prog.info? 27).map (fun i => (i.zero, i.size, i.bytes)) = some (some (.agg #[.int .i64 0, .string ⟨#[]⟩, .int .i64 0, .int .i64 0, .int .i64 0]), 5, 48) := by kernel_rfl
def SMaker.wf (c : SMaker) : Prop := (Lit.int .i64 c.ident).wf = true ∧ c.name.size ≤ maxLen ∧ (Lit.int .i64 c.frm).wf = true ∧ (Lit.int .i64 c.untl).wf = true ∧ (Lit.int .i64 c.heir).wf = true
theorem SMaker.cells {w : World} {B : Nat} {A : Option Addr} {xs : List SMaker} (h : Row 5 SMaker.enc w B A xs) {i : Nat} (hi : i < xs.length) {wr : World} (hb : Below B w wr) :
    ∃ b off, A = some ⟨b, off, none⟩ ∧ b < B ∧ wr.cell? ⟨b, off + i * 5, none⟩ = some (.int .i64 xs[i].ident) ∧ wr.cell? ⟨b, off + i * 5 + 1, none⟩ = some (.string xs[i].name) ∧ wr.cell? ⟨b, off + i * 5 + 2, none⟩ = some (.int .i64 xs[i].frm) ∧ wr.cell? ⟨b, off + i * 5 + 3, none⟩ = some (.int .i64 xs[i].untl) ∧ wr.cell? ⟨b, off + i * 5 + 4, none⟩ = some (.int .i64 xs[i].heir) := by
  obtain ⟨b, off, rfl, hl, hc⟩ := h.get hi
  have hcell := fun j hj => (hb.cell (p := ⟨b, off + i * 5 + j, none⟩) hl).trans (hc j hj)
  exact ⟨b, off, rfl, hl, hcell 0 (by omega), hcell 1 (by omega), hcell 2 (by omega), hcell 3 (by omega), hcell 4 (by omega)⟩
theorem toMaker_any (a0 : Int) (a1 : ByteArray) (a2 a3 a4 : Int) (w : World) :
    Calls Tryd.prog 7 #[.agg #[.int .i64 a0, .string a1, .int .i64 a2, .int .i64 a3, .int .i64 a4]] w fun e w' => e = .returned (.agg #[.int .i64 a0, .string a1, .int .i64 a2, .int .i64 a3, .int .i64 a4]) ∧ Below w.heap.size w w' := by
  go_enter Tryd.func7, Tryd.ntmps7
  go_wp2
  exact bodyPost_ret (v := .agg #[.int .i64 a0, .string a1, .int .i64 a2, .int .i64 a3, .int .i64 a4]) (by simp [results, Tryd.results7, go_sem]) rfl ⟨rfl, (((Below.refl _ _).alloc (Nat.le_refl _) _).alloc (by simp) _).alloc (by simp; omega) _⟩
/-- what a list counts for: its elements, and the bytes of their names -/
def SMaker.sz (xs : List SMaker) : Nat := xs.length + (xs.map fun c => c.name.size).sum
theorem SMaker.len_sz (xs : List SMaker) : xs.length ≤ SMaker.sz xs := by unfold SMaker.sz; omega
def SMaker.szTo (xs : List SMaker) (i : Nat) : Nat := xs.length + ((xs.take i).map fun c => c.name.size).sum
theorem SMaker.szTo_succ {xs : List SMaker} {i : Nat} (h : i < xs.length) : SMaker.szTo xs (i + 1) = SMaker.szTo xs i + xs[i].name.size := by
  unfold SMaker.szTo; rw [take_snoc' h, List.map_append, List.sum_append]; simp; omega
theorem sum_take_le (l : List Nat) : ∀ i, (l.take i).sum ≤ l.sum := by
  induction l with
  | nil => simp
  | cons a l ih =>
    intro i
    cases i with
    | zero => simp
    | succ i => have := ih i; simp; omega
theorem SMaker.szTo_le (xs : List SMaker) (i : Nat) : SMaker.szTo xs i ≤ SMaker.sz xs := by
  unfold SMaker.szTo SMaker.sz
  rw [List.map_take]
  have := sum_take_le (xs.map fun c => c.name.size) i
  omega
theorem szMaker_any (a0 : Int) (a1 : ByteArray) (a2 a3 a4 left : Int) (w : World) (h0 : 0 ≤ left) (h1 : left ≤ 1048576) (hm : a1.size ≤ 9223372036854775807) :
    Calls Tryd.prog 5 #[.agg #[.int .i64 a0, .string a1, .int .i64 a2, .int .i64 a3, .int .i64 a4], .int .i64 left] w fun e w' => e = .returned (.int .i64 (szR left a1.size)) ∧ Below w.heap.size w w' := by
  by_cases h : left < a1.size
  · have h' : left - a1.size < 0 := by omega
    have hr : szR left a1.size = -1 := if_pos h
    have HR := hide hr; clear hr h
    go_enter Tryd.func5, Tryd.ntmps5
    go_wp2_with fail
    go_ret
    exact ⟨ret_int HR.out.symm, below_alloc _ _⟩
  · have h' : ¬ left - a1.size < 0 := by omega
    have hr : szR left a1.size = left - a1.size := if_neg h
    have HR := hide hr; clear hr h
    go_enter Tryd.func5, Tryd.ntmps5
    go_wp2_with fail
    go_ret
    exact ⟨ret_int HR.out.symm, below_alloc _ _⟩
/-! ### the text of a mark -/
def mkLoop (n : Nat) (s : ByteArray) : ByteArray := if h : n = 0 then s else mkLoop (n / 10) (⟨#[UInt8.ofNat (48 + n % 10)]⟩ ++ s)
termination_by n
decreasing_by omega
def mkText (k : Int) : ByteArray := ⟨#[109]⟩ ++ mkLoop k.toNat ⟨#[]⟩
/-- the numbers from k0 on, 5 an element -/
def SMaker.marks (k0 : Int) (n : Nat) : List SMaker := (List.range n).map fun (i : Nat) => (⟨k0 + (i : Int) * 5 + 0, mkText (k0 + (i : Int) * 5 + 1), k0 + (i : Int) * 5 + 2, k0 + (i : Int) * 5 + 3, k0 + (i : Int) * 5 + 4⟩ : SMaker)
theorem SMaker.marks_length (k0 : Int) (n : Nat) : (SMaker.marks k0 n).length = n := by simp [SMaker.marks]
theorem SMaker.marks_get (k0 : Int) (n i : Nat) (h : i < (SMaker.marks k0 n).length) : (SMaker.marks k0 n)[i] = ⟨k0 + (i : Int) * 5 + 0, mkText (k0 + (i : Int) * 5 + 1), k0 + (i : Int) * 5 + 2, k0 + (i : Int) * 5 + 3, k0 + (i : Int) * 5 + 4⟩ := by simp [SMaker.marks]
/-- the predicate g with the captured values cp answers p, in whatever world in which what lay below B stays -/
def SMaker.Pred (g : FuncId) (cp : Array Value) (p : SMaker → Bool) (B : Nat) (w : World) : Prop :=
  ∀ (W : World) (c : SMaker), Below B w W → Calls Tryd.prog g (#[.agg #[.int .i64 c.ident, .string c.name, .int .i64 c.frm, .int .i64 c.untl, .int .i64 c.heir]] ++ cp) W fun e w' => e = .returned (.bool (p c)) ∧ Below B w w'
theorem IndexFuncMaker_any (g : FuncId) (cp : Array Value) (p : SMaker → Bool) (A : Option Addr) (cap : Nat) (xs : List SMaker) (w : World) (hr : Row 5 SMaker.enc w w.heap.size A xs) (hm : xs.length ≤ 9223372036854775807)
    (eg : ∀ args w, (callFunc g args).run Tryd.prog w = .ok (.enter g args) w) (hp : SMaker.Pred g cp p w.heap.size w) :
    Calls Tryd.prog 68 #[.slice A xs.length cap, .func (.func g) #[] cp] w fun e w' => e = .returned (.int .i64 (idxF p xs)) ∧ Below w.heap.size w w' := by
  generalize hB : w.heap.size = B at hr hp ⊢
  have HB := hide hB; clear hB
  have HR := hide hr; clear hr
  have HP := hide hp; clear hp
  go_enter Tryd.func68, Tryd.ntmps68
  go_wp2_with fail
  go_loopw [8] (fun i wr => ∃ (k : Nat), k ≤ xs.length ∧ i = .int .i64 k ∧ (∀ c ∈ xs.take k, p c = false) ∧ Below B w wr) (fun i _ => xs.length - (intOf i).toNat)
  case atStart => exact ⟨0, Nat.zero_le _, rfl, by simp, Below.refl _ _⟩
  case round =>
    obtain ⟨i, hi, rfl, hno, hbel⟩ := hrel
    have HN := hide hno; clear hno
    by_cases hlt : i < xs.length
    · obtain ⟨b, off, rfl, hb, c0, c1, c2, c3, c4⟩ := SMaker.cells HR.out hlt hbel
      have hcall := HP.out wr xs[i] hbel
      generalize hy : xs[i] = y at hcall c0 c1 c2 c3 c4
      have HY := hide hy; clear hy
      cases hq : p y with
      | true =>
        rw [hq] at hcall
        have HQ := hide hq; clear hq
        go_wp2_with (go_at_fn g; refine hcall.mono ?_; rintro e w' ⟨rfl, hb'⟩)
        go_ret
        refine ⟨ret_int ?_, hb'⟩
        exact (idxF_hit hlt (by rw [HY.out]; exact HQ.out) HN.out).symm
      | false =>
        rw [hq] at hcall
        have HQ := hide hq; clear hq
        go_wp2_with (go_at_fn g; refine hcall.mono ?_; rintro e w' ⟨rfl, hb'⟩)
        refine ⟨⟨i + 1, by omega, by go_num, ?_, hb'⟩, by simp [intOf]; omega⟩
        rw [take_snoc' hlt, HY.out]
        intro c hc
        rcases List.mem_append.1 hc with h | h
        · exact HN.out c h
        · rw [List.mem_singleton.1 h]; exact HQ.out
    · have hk : i = xs.length := by omega
      have HK := hide hk; clear hk
      go_wp2_with fail
      go_ret
      refine ⟨ret_int (idxF_miss ?_).symm, hbel⟩
      have := HN.out; rw [HK.out, List.take_length] at this; exact this
theorem ContainsFuncMaker_any (g : FuncId) (cp : Array Value) (p : SMaker → Bool) (A : Option Addr) (cap : Nat) (xs : List SMaker) (w : World) (hr : Row 5 SMaker.enc w w.heap.size A xs) (hm : xs.length ≤ 9223372036854775807)
    (eg : ∀ args w, (callFunc g args).run Tryd.prog w = .ok (.enter g args) w) (hp : SMaker.Pred g cp p w.heap.size w) :
    Calls Tryd.prog 48 #[.slice A xs.length cap, .func (.func g) #[] cp] w fun e w' => e = .returned (.bool (xs.any p)) ∧ Below w.heap.size w w' := by
  have HR := hide hr; clear hr
  have HP := hide hp; clear hp
  go_enter Tryd.func48, Tryd.ntmps48
  go_wp2_with (go_at_call 68; refine (IndexFuncMaker_any _ _ _ _ _ _ _ HR.out hm eg HP.out).mono ?_; rintro e w' ⟨rfl, hb'⟩)
  go_ret
  exact ⟨ret_bool (idxF_any p xs), hb'⟩
end Go.Proofs.YtapbnggdclpokaaDoor
