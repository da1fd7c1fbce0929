/- Contracts of the helpers of the laws on lists of Loan: conversion, equality, marks, and the library's search with a predicate. Conditions: lengths up to 1048576 where a slice is made or marked. -/
import Derived.Test.YtplemibckjnbhaaProg
import Derived.Test.YtplemibckjnbhaaOwn
import Derived.Test.YtplemibckjnbhaaOpen
import Derived.Shelf.GgClosure.Gives
namespace Go.Proofs.Ytplemibckjnbhaa
open Go.RowKit Go.ChangeShapes Go.WideShapes Go.Deep
set_option linter.unusedVariables false
structure SLoan where
  (sheet reader out due back : Int)
def SLoan.zero : SLoan := ⟨0, 0, 0, 0, 0⟩
def SLoan.enc (c : SLoan) : Nat → Value := fun j => match j with | 0 => .int .i64 c.sheet | 1 => .int .i64 c.reader | 2 => .int .i64 c.out | 3 => .int .i64 c.due | _ => .int .i64 c.back
theorem SLoan.one : ∀ (c : SLoan) (j : Nat), (SLoan.enc c j).oneCell' = true := fun c j => by unfold SLoan.enc; split <;> rfl
theorem SLoan.info : (Try.prog.info? 97).map (fun i => (i.zero, i.size, i.bytes)) = some (some (.agg #[.int .i64 0, .int .i64 0, .int .i64 0, .int .i64 0, .int .i64 0]), 5, 40) := by kernel_rfl
def SLoan.wf (c : SLoan) : Prop := (Lit.int .i64 c.sheet).wf = true ∧ (Lit.int .i64 c.reader).wf = true ∧ (Lit.int .i64 c.out).wf = true ∧ (Lit.int .i64 c.due).wf = true ∧ (Lit.int .i64 c.back).wf = true
theorem SLoan.cells {w : World} {B : Nat} {A : Option Addr} {xs : List SLoan} (h : Row 5 SLoan.enc w B A xs) {i : Nat} (hi : i < xs.length) {wr : World} (hb : Below B w wr) :
    ∃ b off, A = some ⟨b, off, none⟩ ∧ b < B ∧ wr.cell? ⟨b, off + i * 5, none⟩ = some (.int .i64 xs[i].sheet) ∧ wr.cell? ⟨b, off + i * 5 + 1, none⟩ = some (.int .i64 xs[i].reader) ∧ wr.cell? ⟨b, off + i * 5 + 2, none⟩ = some (.int .i64 xs[i].out) ∧ wr.cell? ⟨b, off + i * 5 + 3, none⟩ = some (.int .i64 xs[i].due) ∧ wr.cell? ⟨b, off + i * 5 + 4, none⟩ = some (.int .i64 xs[i].back) := by
  obtain ⟨b, off, rfl, hl, hc⟩ := h.get hi
  have hcell := fun j hj => (hb.cell (p := ⟨b, off + i * 5 + j, none⟩) hl).trans (hc j hj)
  exact ⟨b, off, rfl, hl, hcell 0 (by omega), hcell 1 (by omega), hcell 2 (by omega), hcell 3 (by omega), hcell 4 (by omega)⟩
theorem SLoan.open {H : Type} {enc' : TypeId × Value → H} {w : World} {sp : Nat → Bool} {held : Bool} {A : Option Addr} {len cap : Nat} {d : DataW H} {p : List MemPlace}
    (h : DataW.Trod enc' Try.prog w 0 sp held 22 (.slice A len cap) d p) : ∃ zs : List SLoan, zs.length = len ∧ (∀ z ∈ zs, z.wf) ∧ len ≤ cap ∧ cap ≤ maxLen ∧ Row 5 SLoan.enc w w.heap.size A zs := by
  refine row_of_slice (by omega) Try.underlying22 (by kernel_rfl) (fun n cs y ht hl => ?_) h
  obtain ⟨q, hf⟩ := fields_of_struct Try.underlying99 (by kernel_rfl) ht (by rw [hl]; rfl)
  obtain ⟨v0, z0, h0, t0⟩ := hf 0 _ rfl
  obtain ⟨x0, e0, _, w0⟩ := DataW.trod_int Try.underlying3 t0
  simp only [List.cons.injEq, and_true] at e0; subst e0
  obtain ⟨v1, z1, h1, t1⟩ := hf 1 _ rfl
  obtain ⟨x1, e1, _, w1⟩ := DataW.trod_int Try.underlying3 t1
  simp only [List.cons.injEq, and_true] at e1; subst e1
  obtain ⟨v2, z2, h2, t2⟩ := hf 2 _ rfl
  obtain ⟨x2, e2, _, w2⟩ := DataW.trod_int Try.underlying3 t2
  simp only [List.cons.injEq, and_true] at e2; subst e2
  obtain ⟨v3, z3, h3, t3⟩ := hf 3 _ rfl
  obtain ⟨x3, e3, _, w3⟩ := DataW.trod_int Try.underlying3 t3
  simp only [List.cons.injEq, and_true] at e3; subst e3
  obtain ⟨v4, z4, h4, t4⟩ := hf 4 _ rfl
  obtain ⟨x4, e4, _, w4⟩ := DataW.trod_int Try.underlying3 t4
  simp only [List.cons.injEq, and_true] at e4; subst e4
  refine ⟨⟨x0, x1, x2, x3, x4⟩, ⟨w0, w1, w2, w3, w4⟩, fun j hj => ?_⟩
  have hj' : j = 0 ∨ j = 1 ∨ j = 2 ∨ j = 3 ∨ j = 4 := by omega
  rcases hj' with rfl | rfl | rfl | rfl | rfl
  · exact h0
  · exact h1
  · exact h2
  · exact h3
  · exact h4
theorem toLoan_any (a0 a1 a2 a3 a4 : Int) (w : World) :
    Calls Try.prog 80 #[.agg #[.int .i64 a0, .int .i64 a1, .int .i64 a2, .int .i64 a3, .int .i64 a4]] w fun e w' => e = .returned (.agg #[.int .i64 a0, .int .i64 a1, .int .i64 a2, .int .i64 a3, .int .i64 a4]) ∧ Below w.heap.size w w' := by
  go_enter Try.func80, Try.ntmps80
  go_wp2
  exact bodyPost_ret (v := .agg #[.int .i64 a0, .int .i64 a1, .int .i64 a2, .int .i64 a3, .int .i64 a4]) (by simp [results, Try.results80, go_sem]) rfl ⟨rfl, (((Below.refl _ _).alloc (Nat.le_refl _) _).alloc (by simp) _).alloc (by simp; omega) _⟩
theorem toLoanS_any (A : Option Addr) (cap : Nat) (xs : List SLoan) (w : World) (hr : Row 5 SLoan.enc w w.heap.size A xs) (hm : xs.length ≤ 1048576) :
    Calls Try.prog 12 #[.slice A xs.length cap] w fun e w' => ∃ g, e = .returned (.slice (some ⟨g, 0, none⟩) xs.length xs.length) ∧ Own 5 SLoan.enc 97 w' w.heap.size (.slice (some ⟨g, 0, none⟩) xs.length xs.length) xs ∧ Row 5 SLoan.enc w' w'.heap.size (some ⟨g, 0, none⟩) xs ∧ Below w.heap.size w w' := by
  generalize hB : w.heap.size = B at hr ⊢
  have HB := hide hB; clear hB
  have HR := hide hr; clear hr
  have hmk := run_make_n (P := Try.prog) 25 97 _ 5 40 Try.underlying25 SLoan.info xs.length (by omega) (by omega)
  go_enter Try.func12, Try.ntmps12
  go_wp2_with fail
  go_loopw [4] (fun i wr => ∃ (k : Nat) (cs : Array Value), k ≤ xs.length ∧ i = .int .i64 k ∧ Blk wr w.heap.size 97 cs ∧ cs.size = xs.length * 5 ∧ Filled 5 SLoan.enc cs k xs ∧ Below B w wr) (fun i _ => xs.length - (intOf i).toNat)
  case atStart => exact ⟨0, _, Nat.zero_le _, rfl, Blk.new _ _ _, by rw [size_madeCells], Filled.zero, (Below.refl _ _).alloc (by rw [HB.out]; exact Nat.le_refl _) _⟩
  case round =>
    obtain ⟨i, cs, hi, rfl, hblk, hsz, hfill, hbel⟩ := hrel
    have hlt0 := hblk.lt
    have HBL := hide hblk; clear hblk
    have HS := hide hsz; clear hsz
    have HF := hide hfill; clear hfill
    by_cases hlt : i < xs.length
    · obtain ⟨b, off, rfl, hb, c0, c1, c2, c3, c4⟩ := SLoan.cells HR.out hlt hbel
      go_wp2_with fail
      refine (toLoan_any _ _ _ _ _ _).mono ?_; rintro e w1 ⟨rfl, hb1⟩
      have hbl1 := HBL.out.below hb1 hlt0
      have h0 := hbl1.some (i := i * 5) (by rw [HS.out]; omega)
      have h1 := hbl1.some (i := i * 5 + 1) (by rw [HS.out]; omega)
      have h2 := hbl1.some (i := i * 5 + 2) (by rw [HS.out]; omega)
      have h3 := hbl1.some (i := i * 5 + 3) (by rw [HS.out]; omega)
      have h4 := hbl1.some (i := i * 5 + 4) (by rw [HS.out]; omega)
      have hf := hbl1.frozen
      have HB1 := hide hbl1; clear hbl1
      go_wp2_with fail
      refine ⟨⟨i + 1, _, by omega, by go_num, (((((HB1.out.set _ _).set _ _).set _ _).set _ _).set _ _), by simp [HS.out], HF.out.step5 hlt HS.out rfl rfl rfl rfl rfl, ?_⟩, by simp [intOf]; omega⟩
      have hB' : B ≤ w.heap.size := by rw [HB.out]; exact Nat.le_refl _
      exact ((((((bstep hbel hb1 (by omega)).setCell hB' _).setCell hB' _).setCell hB' _).setCell hB' _).setCell hB' _)
    · have hk : i = xs.length := by omega
      have HK := hide hk; clear hk
      go_wp2
      go_ret
      rw [HK.out] at HF
      exact ⟨_, rfl, Own.made rfl (by rw [HB.out]; exact Nat.le_refl _) HBL.out HS.out (by simp only [maxLen]; omega) HF.out, HF.out.row HBL.out hlt0, hbel⟩
theorem toLoanS_is (v : Value) (xs : List SLoan) (w : World) (h : Is 5 SLoan.enc w v xs) (hm : xs.length ≤ 1048576) :
    Calls Try.prog 12 #[v] w fun e w' => ∃ v', e = .returned v' ∧ Own 5 SLoan.enc 97 w' w.heap.size v' xs ∧ Below w.heap.size w w' := by
  obtain ⟨A, cap, rfl, hr, _, _⟩ := h
  exact (toLoanS_any A cap xs w hr hm).mono fun e w' ⟨g, he, ho, _, hb⟩ => ⟨_, he, ho, hb⟩
theorem szLoanS_any (A : Option Addr) (n cap : Nat) (left : Int) (w : World) (h0 : 0 ≤ left) (h1 : left ≤ 1048576) (hm : n ≤ 9223372036854775807) :
    Calls Try.prog 10 #[.slice A n cap, .int .i64 left] w fun e w' => e = .returned (.int .i64 (szR left n)) ∧ w = w' := by
  by_cases h : left < n
  · have h' : left - n < 0 := by omega
    have hr : szR left n = -1 := if_pos h
    have HR := hide hr; clear hr h
    go_enter Try.func10, Try.ntmps10
    go_wp2
    go_ret
    exact ⟨ret_int HR.out.symm, rfl⟩
  · have h' : ¬ left - n < 0 := by omega
    have hr : szR left n = left - n := if_neg h
    have HR := hide hr; clear hr h
    go_enter Try.func10, Try.ntmps10
    go_wp2
    go_ret
    exact ⟨ret_int HR.out.symm, rfl⟩
theorem eqLoan_same (a0 a1 a2 a3 a4 : Int) (w : World) :
    Calls Try.prog 82 #[.agg #[.int .i64 a0, .int .i64 a1, .int .i64 a2, .int .i64 a3, .int .i64 a4], .agg #[.int .i64 a0, .int .i64 a1, .int .i64 a2, .int .i64 a3, .int .i64 a4]] w fun e w' => e = .returned (.bool true) ∧ (w.alloc (.cells #[.int .i64 a0, .int .i64 a1, .int .i64 a2, .int .i64 a3, .int .i64 a4] 97)).alloc (.cells #[.int .i64 a0, .int .i64 a1, .int .i64 a2, .int .i64 a3, .int .i64 a4] 97) = w' := by
  go_enter Try.func82, Try.ntmps82
  go_wp2
  go_ret
  exact ⟨rfl, rfl⟩
theorem eqLoanS_same (A A' : Option Addr) (cap cap' : Nat) (xs : List SLoan) (w : World) (hr : Row 5 SLoan.enc w w.heap.size A xs) (hr' : Row 5 SLoan.enc w w.heap.size A' xs) (hm : xs.length ≤ 9223372036854775807) :
    Calls Try.prog 14 #[.slice A xs.length cap, .slice A' xs.length cap'] w fun e w' => e = .returned (.bool true) ∧ Below w.heap.size w w' := by
  generalize hB : w.heap.size = B at hr hr' ⊢
  have HB := hide hB; clear hB
  have HR := hide hr; clear hr
  have HR' := hide hr'; clear hr'
  go_enter Try.func14, Try.ntmps14
  go_wp2_with fail
  go_loopw [5] (fun i wr => ∃ (k : Nat), k ≤ xs.length ∧ i = .int .i64 k ∧ Below B w wr) (fun i _ => xs.length - (intOf i).toNat)
  case atStart => exact ⟨0, Nat.zero_le _, rfl, Below.refl _ _⟩
  case round =>
    obtain ⟨i, hi, rfl, hbel⟩ := hrel
    have hsz : B ≤ wr.heap.size := by have := hbel.size; rw [HB.out] at this; exact this
    by_cases hlt : i < xs.length
    · obtain ⟨b, off, rfl, hb, c0, c1, c2, c3, c4⟩ := SLoan.cells HR.out hlt hbel
      obtain ⟨b', off', rfl, hb', c0', c1', c2', c3', c4'⟩ := SLoan.cells HR'.out hlt hbel
      go_wp2_with fail
      go_region_held3 (fun w' => w'.cell? ⟨b, off + i * 5, none⟩ = some (.int .i64 xs[i].sheet) ∧ w'.cell? ⟨b, off + i * 5 + 1, none⟩ = some (.int .i64 xs[i].reader) ∧ w'.cell? ⟨b, off + i * 5 + 2, none⟩ = some (.int .i64 xs[i].out) ∧ w'.cell? ⟨b, off + i * 5 + 3, none⟩ = some (.int .i64 xs[i].due) ∧ w'.cell? ⟨b, off + i * 5 + 4, none⟩ = some (.int .i64 xs[i].back) ∧ w'.cell? ⟨b', off' + i * 5, none⟩ = some (.int .i64 xs[i].sheet) ∧ w'.cell? ⟨b', off' + i * 5 + 1, none⟩ = some (.int .i64 xs[i].reader) ∧ w'.cell? ⟨b', off' + i * 5 + 2, none⟩ = some (.int .i64 xs[i].out) ∧ w'.cell? ⟨b', off' + i * 5 + 3, none⟩ = some (.int .i64 xs[i].due) ∧ w'.cell? ⟨b', off' + i * 5 + 4, none⟩ = some (.int .i64 xs[i].back)) (go_keep) ((go_at_call 82; refine (eqLoan_same _ _ _ _ _ _).mono ?_; rintro e w' ⟨rfl, rfl⟩))
      all_goals
        go_wp2_with fail
        refine ⟨⟨i + 1, by omega, by go_num, ?_⟩, by simp [intOf]; omega⟩
        exact Below.drew ((hbel.alloc hsz _).alloc (by simp; omega) _)
    · have hk : i = xs.length := by omega
      have HK := hide hk; clear hk
      go_wp2
      go_ret
      exact ⟨rfl, hbel⟩
theorem eqLoanS_is (v v' : Value) (xs : List SLoan) (w : World) (h : Is 5 SLoan.enc w v xs) (h' : Is 5 SLoan.enc w v' xs) :
    Calls Try.prog 14 #[v, v'] w fun e w' => e = .returned (.bool true) ∧ Below w.heap.size w w' := by
  have hm := h.len
  obtain ⟨A, cap, rfl, hr, _, _⟩ := h
  obtain ⟨A', cap', rfl, hr', _, _⟩ := h'
  exact eqLoanS_same A A' cap cap' xs w hr hr' hm
/-- the numbers from k0 on, 5 an element -/
def SLoan.marks (k0 : Int) (n : Nat) : List SLoan := (List.range n).map fun (i : Nat) => (⟨k0 + (i : Int) * 5 + 0, k0 + (i : Int) * 5 + 1, k0 + (i : Int) * 5 + 2, k0 + (i : Int) * 5 + 3, k0 + (i : Int) * 5 + 4⟩ : SLoan)
theorem SLoan.marks_length (k0 : Int) (n : Nat) : (SLoan.marks k0 n).length = n := by simp [SLoan.marks]
theorem SLoan.marks_get (k0 : Int) (n i : Nat) (h : i < (SLoan.marks k0 n).length) : (SLoan.marks k0 n)[i] = ⟨k0 + (i : Int) * 5 + 0, k0 + (i : Int) * 5 + 1, k0 + (i : Int) * 5 + 2, k0 + (i : Int) * 5 + 3, k0 + (i : Int) * 5 + 4⟩ := by simp [SLoan.marks]
/-- the predicate g with the captured values cp answers p, in whatever world in which what lay below B stays -/
def SLoan.Pred (g : FuncId) (cp : Array Value) (p : SLoan → Bool) (B : Nat) (w : World) : Prop :=
  ∀ (W : World) (c : SLoan), Below B w W → Calls Try.prog g (#[.agg #[.int .i64 c.sheet, .int .i64 c.reader, .int .i64 c.out, .int .i64 c.due, .int .i64 c.back]] ++ cp) W fun e w' => e = .returned (.bool (p c)) ∧ Below B w w'
end Go.Proofs.Ytplemibckjnbhaa
