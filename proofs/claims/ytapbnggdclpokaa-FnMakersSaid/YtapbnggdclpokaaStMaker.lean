/- Contracts of the helpers of the laws on lists of Maker: conversion, equality, marks, and the library's search with a predicate. Conditions: lengths up to 1048576 where a slice is made or marked. -/
import Derived.Test.YtapbnggdclpokaaProg
import Derived.Test.YtapbnggdclpokaaOwn
import Derived.Test.YtapbnggdclpokaaOpen
import Derived.Shelf.GgClosure.Gives
namespace Go.Proofs.Ytapbnggdclpokaa
open Go.RowKit Go.ChangeShapes Go.WideShapes Go.Deep
set_option linter.unusedVariables false
structure SMaker where
  (ident : Int) (name : ByteArray) (frm untl heir : Int)
def SMaker.zero : SMaker := ⟨0, ⟨#[]⟩, 0, 0, 0⟩
def SMaker.enc (c : SMaker) : Nat → Value := fun j => match j with | 0 => .int .i64 c.ident | 1 => .string c.name | 2 => .int .i64 c.frm | 3 => .int .i64 c.untl | _ => .int .i64 c.heir
theorem SMaker.one : ∀ (c : SMaker) (j : Nat), (SMaker.enc c j).oneCell' = true := fun c j => by unfold SMaker.enc; split <;> rfl
theorem SMaker.info : (Try.prog.info? 60).map (fun i => (i.zero, i.size, i.bytes)) = some (some (.agg #[.int .i64 0, .string ⟨#[]⟩, .int .i64 0, .int .i64 0, .int .i64 0]), 5, 48) := by kernel_rfl
def SMaker.wf (c : SMaker) : Prop := (Lit.int .i64 c.ident).wf = true ∧ c.name.size ≤ maxLen ∧ (Lit.int .i64 c.frm).wf = true ∧ (Lit.int .i64 c.untl).wf = true ∧ (Lit.int .i64 c.heir).wf = true
theorem SMaker.cells {w : World} {B : Nat} {A : Option Addr} {xs : List SMaker} (h : Row 5 SMaker.enc w B A xs) {i : Nat} (hi : i < xs.length) {wr : World} (hb : Below B w wr) :
    ∃ b off, A = some ⟨b, off, none⟩ ∧ b < B ∧ wr.cell? ⟨b, off + i * 5, none⟩ = some (.int .i64 xs[i].ident) ∧ wr.cell? ⟨b, off + i * 5 + 1, none⟩ = some (.string xs[i].name) ∧ wr.cell? ⟨b, off + i * 5 + 2, none⟩ = some (.int .i64 xs[i].frm) ∧ wr.cell? ⟨b, off + i * 5 + 3, none⟩ = some (.int .i64 xs[i].untl) ∧ wr.cell? ⟨b, off + i * 5 + 4, none⟩ = some (.int .i64 xs[i].heir) := by
  obtain ⟨b, off, rfl, hl, hc⟩ := h.get hi
  have hcell := fun j hj => (hb.cell (p := ⟨b, off + i * 5 + j, none⟩) hl).trans (hc j hj)
  exact ⟨b, off, rfl, hl, hcell 0 (by omega), hcell 1 (by omega), hcell 2 (by omega), hcell 3 (by omega), hcell 4 (by omega)⟩
theorem SMaker.open {H : Type} {enc' : TypeId × Value → H} {w : World} {sp : Nat → Bool} {held : Bool} {A : Option Addr} {len cap : Nat} {d : DataW H} {p : List MemPlace}
    (h : DataW.Trod enc' Try.prog w 0 sp held 22 (.slice A len cap) d p) : ∃ zs : List SMaker, zs.length = len ∧ (∀ z ∈ zs, z.wf) ∧ len ≤ cap ∧ cap ≤ maxLen ∧ Row 5 SMaker.enc w w.heap.size A zs := by
  refine row_of_slice (by omega) Try.underlying22 (by kernel_rfl) (fun n cs y ht hl => ?_) h
  obtain ⟨q, hf⟩ := fields_of_struct Try.underlying57 (by kernel_rfl) ht (by rw [hl]; rfl)
  obtain ⟨v0, z0, h0, t0⟩ := hf 0 _ rfl
  obtain ⟨x0, e0, _, w0⟩ := DataW.trod_int Try.underlying3 t0
  simp only [List.cons.injEq, and_true] at e0; subst e0
  obtain ⟨v1, z1, h1, t1⟩ := hf 1 _ rfl
  obtain ⟨x1, e1, _, w1⟩ := DataW.trod_string Try.underlying9 t1
  simp only [List.cons.injEq, and_true] at e1; subst e1
  obtain ⟨v2, z2, h2, t2⟩ := hf 2 _ rfl
  obtain ⟨x2, e2, _, w2⟩ := DataW.trod_int Try.underlying3 t2
  simp only [List.cons.injEq, and_true] at e2; subst e2
  obtain ⟨v3, z3, h3, t3⟩ := hf 3 _ rfl
  obtain ⟨x3, e3, _, w3⟩ := DataW.trod_int Try.underlying3 t3
  simp only [List.cons.injEq, and_true] at e3; subst e3
  obtain ⟨v4, z4, h4, t4⟩ := hf 4 _ rfl
  obtain ⟨x4, e4, _, w4⟩ := DataW.trod_int Try.underlying3 t4
  simp only [List.cons.injEq, and_true] at e4; subst e4
  refine ⟨⟨x0, x1, x2, x3, x4⟩, ⟨w0, w1, w2, w3, w4⟩, fun j hj => ?_⟩
  have hj' : j = 0 ∨ j = 1 ∨ j = 2 ∨ j = 3 ∨ j = 4 := by omega
  rcases hj' with rfl | rfl | rfl | rfl | rfl
  · exact h0
  · exact h1
  · exact h2
  · exact h3
  · exact h4
theorem toMaker_any (a0 : Int) (a1 : ByteArray) (a2 a3 a4 : Int) (w : World) :
    Calls Try.prog 52 #[.agg #[.int .i64 a0, .string a1, .int .i64 a2, .int .i64 a3, .int .i64 a4]] w fun e w' => e = .returned (.agg #[.int .i64 a0, .string a1, .int .i64 a2, .int .i64 a3, .int .i64 a4]) ∧ Below w.heap.size w w' := by
  go_enter Try.func52, Try.ntmps52
  go_wp2
  exact bodyPost_ret (v := .agg #[.int .i64 a0, .string a1, .int .i64 a2, .int .i64 a3, .int .i64 a4]) (by simp [results, Try.results52, go_sem]) rfl ⟨rfl, (((Below.refl _ _).alloc (Nat.le_refl _) _).alloc (by simp) _).alloc (by simp; omega) _⟩
theorem toMakerS_any (A : Option Addr) (cap : Nat) (xs : List SMaker) (w : World) (hr : Row 5 SMaker.enc w w.heap.size A xs) (hm : xs.length ≤ 1048576) :
    Calls Try.prog 15 #[.slice A xs.length cap] w fun e w' => ∃ g, e = .returned (.slice (some ⟨g, 0, none⟩) xs.length xs.length) ∧ Own 5 SMaker.enc 60 w' w.heap.size (.slice (some ⟨g, 0, none⟩) xs.length xs.length) xs ∧ Row 5 SMaker.enc w' w'.heap.size (some ⟨g, 0, none⟩) xs ∧ Below w.heap.size w w' := by
  generalize hB : w.heap.size = B at hr ⊢
  have HB := hide hB; clear hB
  have HR := hide hr; clear hr
  have hmk := run_make_n (P := Try.prog) 26 60 _ 5 48 Try.underlying26 SMaker.info xs.length (by omega) (by omega)
  go_enter Try.func15, Try.ntmps15
  go_wp2_with fail
  go_loopw [4] (fun i wr => ∃ (k : Nat) (cs : Array Value), k ≤ xs.length ∧ i = .int .i64 k ∧ Blk wr w.heap.size 60 cs ∧ cs.size = xs.length * 5 ∧ Filled 5 SMaker.enc cs k xs ∧ Below B w wr) (fun i _ => xs.length - (intOf i).toNat)
  case atStart => exact ⟨0, _, Nat.zero_le _, rfl, Blk.new _ _ _, by rw [size_madeCells], Filled.zero, (Below.refl _ _).alloc (by rw [HB.out]; exact Nat.le_refl _) _⟩
  case round =>
    obtain ⟨i, cs, hi, rfl, hblk, hsz, hfill, hbel⟩ := hrel
    have hlt0 := hblk.lt
    have HBL := hide hblk; clear hblk
    have HS := hide hsz; clear hsz
    have HF := hide hfill; clear hfill
    by_cases hlt : i < xs.length
    · obtain ⟨b, off, rfl, hb, c0, c1, c2, c3, c4⟩ := SMaker.cells HR.out hlt hbel
      go_wp2_with fail
      refine (toMaker_any _ _ _ _ _ _).mono ?_; rintro e w1 ⟨rfl, hb1⟩
      have hbl1 := HBL.out.below hb1 hlt0
      have h0 := hbl1.some (i := i * 5) (by rw [HS.out]; omega)
      have h1 := hbl1.some (i := i * 5 + 1) (by rw [HS.out]; omega)
      have h2 := hbl1.some (i := i * 5 + 2) (by rw [HS.out]; omega)
      have h3 := hbl1.some (i := i * 5 + 3) (by rw [HS.out]; omega)
      have h4 := hbl1.some (i := i * 5 + 4) (by rw [HS.out]; omega)
      have hf := hbl1.frozen
      have HB1 := hide hbl1; clear hbl1
      go_wp2_with fail
      refine ⟨⟨i + 1, _, by omega, by go_num, (((((HB1.out.set _ _).set _ _).set _ _).set _ _).set _ _), by simp [HS.out], HF.out.step5 hlt HS.out rfl rfl rfl rfl rfl, ?_⟩, by simp [intOf]; omega⟩
      have hB' : B ≤ w.heap.size := by rw [HB.out]; exact Nat.le_refl _
      exact ((((((bstep hbel hb1 (by omega)).setCell hB' _).setCell hB' _).setCell hB' _).setCell hB' _).setCell hB' _)
    · have hk : i = xs.length := by omega
      have HK := hide hk; clear hk
      go_wp2
      go_ret
      rw [HK.out] at HF
      exact ⟨_, rfl, Own.made rfl (by rw [HB.out]; exact Nat.le_refl _) HBL.out HS.out (by simp only [maxLen]; omega) HF.out, HF.out.row HBL.out hlt0, hbel⟩
theorem toMakerS_is (v : Value) (xs : List SMaker) (w : World) (h : Is 5 SMaker.enc w v xs) (hm : xs.length ≤ 1048576) :
    Calls Try.prog 15 #[v] w fun e w' => ∃ v', e = .returned v' ∧ Own 5 SMaker.enc 60 w' w.heap.size v' xs ∧ Below w.heap.size w w' := by
  obtain ⟨A, cap, rfl, hr, _, _⟩ := h
  exact (toMakerS_any A cap xs w hr hm).mono fun e w' ⟨g, he, ho, _, hb⟩ => ⟨_, he, ho, hb⟩
/-- what a list counts for: its elements, and the bytes of their names -/
def SMaker.sz (xs : List SMaker) : Nat := xs.length + (xs.map fun c => c.name.size).sum
theorem SMaker.len_sz (xs : List SMaker) : xs.length ≤ SMaker.sz xs := by unfold SMaker.sz; omega
def SMaker.szTo (xs : List SMaker) (i : Nat) : Nat := xs.length + ((xs.take i).map fun c => c.name.size).sum
theorem SMaker.szTo_succ {xs : List SMaker} {i : Nat} (h : i < xs.length) : SMaker.szTo xs (i + 1) = SMaker.szTo xs i + xs[i].name.size := by
  unfold SMaker.szTo; rw [take_snoc' h, List.map_append, List.sum_append]; simp; omega
theorem sum_take_le (l : List Nat) : ∀ i, (l.take i).sum ≤ l.sum := by
  induction l with
  | nil => simp
  | cons a l ih =>
    intro i
    cases i with
    | zero => simp
    | succ i => have := ih i; simp; omega
theorem SMaker.szTo_le (xs : List SMaker) (i : Nat) : SMaker.szTo xs i ≤ SMaker.sz xs := by
  unfold SMaker.szTo SMaker.sz
  rw [List.map_take]
  have := sum_take_le (xs.map fun c => c.name.size) i
  omega
theorem szMaker_any (a0 : Int) (a1 : ByteArray) (a2 a3 a4 left : Int) (w : World) (h0 : 0 ≤ left) (h1 : left ≤ 1048576) (hm : a1.size ≤ 9223372036854775807) :
    Calls Try.prog 48 #[.agg #[.int .i64 a0, .string a1, .int .i64 a2, .int .i64 a3, .int .i64 a4], .int .i64 left] w fun e w' => e = .returned (.int .i64 (szR left a1.size)) ∧ Below w.heap.size w w' := by
  by_cases h : left < a1.size
  · have h' : left - a1.size < 0 := by omega
    have hr : szR left a1.size = -1 := if_pos h
    have HR := hide hr; clear hr h
    go_enter Try.func48, Try.ntmps48
    go_wp2_with fail
    go_ret
    exact ⟨ret_int HR.out.symm, below_alloc _ _⟩
  · have h' : ¬ left - a1.size < 0 := by omega
    have hr : szR left a1.size = left - a1.size := if_neg h
    have HR := hide hr; clear hr h
    go_enter Try.func48, Try.ntmps48
    go_wp2_with fail
    go_ret
    exact ⟨ret_int HR.out.symm, below_alloc _ _⟩
theorem szMakerS_is (v : Value) (xs : List SMaker) (left : Int) (w : World) (h : Is 5 SMaker.enc w v xs) (h0 : 0 ≤ left) (h1 : left ≤ 1048576) (hw : ∀ z ∈ xs, z.wf) :
    Calls Try.prog 13 #[v, .int .i64 left] w fun e w' => e = .returned (.int .i64 (szR left (SMaker.sz xs))) ∧ Below w.heap.size w w' := by
  have hlen := h.len
  obtain ⟨A, cap, rfl, hr, _, _⟩ := h
  have hz := SMaker.len_sz xs
  by_cases hn : left < xs.length
  · have h' : left - xs.length < 0 := by omega
    have hs : szR left (SMaker.sz xs) = -1 := if_pos (by omega)
    have HS := hide hs; clear hs hn hr hz hw
    go_enter Try.func13, Try.ntmps13
    go_wp2_with fail
    go_ret
    exact ⟨ret_int HS.out.symm, Below.refl _ _⟩
  have h' : ¬ left - xs.length < 0 := by omega
  generalize hB : w.heap.size = B at hr ⊢
  have HB := hide hB; clear hB
  have HR := hide hr; clear hr
  have HW := hide hw; clear hw
  go_enter Try.func13, Try.ntmps13
  go_wp2_with fail
  go_loopw [1, 5] (fun q i wr => ∃ (k : Nat), k ≤ xs.length ∧ i = .int .i64 k ∧ q = .int .i64 (left - SMaker.szTo xs k) ∧ (SMaker.szTo xs k : Int) ≤ left ∧ Below B w wr) (fun _ i _ => xs.length - (intOf i).toNat)
  case atStart => exact ⟨0, Nat.zero_le _, rfl, by simp [SMaker.szTo], by simp [SMaker.szTo]; omega, Below.refl _ _⟩
  case round =>
    obtain ⟨i, hi, rfl, rfl, hle, hbel⟩ := hrel
    have hsz : B ≤ wr.heap.size := by have := hbel.size; rw [HB.out] at this; exact this
    by_cases hlt : i < xs.length
    · obtain ⟨b, off, rfl, hb, c0, c1, c2, c3, c4⟩ := SMaker.cells HR.out hlt hbel
      have hwf : xs[i].name.size ≤ 9223372036854775807 := Nat.le_trans (HW.out xs[i] (List.getElem_mem hlt)).2.1 (by decide)
      have hsu := SMaker.szTo_succ hlt
      have hto := SMaker.szTo_le xs (i + 1)
      generalize xs[i].ident = y0 at *; generalize xs[i].name = y1 at *; generalize xs[i].frm = y2 at *; generalize xs[i].untl = y3 at *; generalize xs[i].heir = y4 at *
      generalize SMaker.szTo xs i = s0 at *
      have hcall := fun W => szMaker_any y0 y1 y2 y3 y4 (left - s0) W (by omega) (by omega) hwf
      by_cases hq : left - s0 < y1.size
      · rw [show szR (left - (s0 : Int)) y1.size = -1 from if_pos hq] at hcall
        have hs : szR left (SMaker.sz xs) = -1 := if_pos (by omega)
        have HC := hide hcall; have HS := hide hs; clear hcall hs hsu hto hwf
        go_wp2_with fail
        refine (HC.out _).mono ?_; rintro e w1 ⟨rfl, hb1⟩
        go_wp2_with fail
        go_ret
        exact ⟨ret_int HS.out.symm, bstep hbel hb1 hsz⟩
      · rw [show szR (left - (s0 : Int)) y1.size = left - s0 - y1.size from if_neg hq] at hcall
        have hnn : ¬ left - s0 - y1.size < 0 := by omega
        have HC := hide hcall; have HSU := hide hsu; clear hcall hsu hto hwf
        go_wp2_with fail
        refine (HC.out _).mono ?_; rintro e w1 ⟨rfl, hb1⟩
        go_wp2_with fail
        refine ⟨⟨i + 1, by omega, by go_num, ?_, ?_, bstep hbel hb1 hsz⟩, by simp [intOf]; omega⟩
        · rw [HSU.out]; congr 1; omega
        · rw [HSU.out]; omega
    · have hk : i = xs.length := by omega
      have hz2 : SMaker.szTo xs xs.length = SMaker.sz xs := by simp [SMaker.szTo, SMaker.sz]
      rw [hk, hz2] at hle
      have hs : szR left (SMaker.sz xs) = left - SMaker.sz xs := if_neg (by omega)
      have HS := hide hs; have HZ := hide hz2; clear hs hz2 hle
      have HK := hide hk; clear hk
      go_wp2_with fail
      go_ret
      refine ⟨ret_int ?_, hbel⟩
      rw [HK.out, HZ.out, HS.out]
theorem eqMaker_same (a0 : Int) (a1 : ByteArray) (a2 a3 a4 : Int) (w : World) :
    Calls Try.prog 55 #[.agg #[.int .i64 a0, .string a1, .int .i64 a2, .int .i64 a3, .int .i64 a4], .agg #[.int .i64 a0, .string a1, .int .i64 a2, .int .i64 a3, .int .i64 a4]] w fun e w' => e = .returned (.bool true) ∧ (w.alloc (.cells #[.int .i64 a0, .string a1, .int .i64 a2, .int .i64 a3, .int .i64 a4] 60)).alloc (.cells #[.int .i64 a0, .string a1, .int .i64 a2, .int .i64 a3, .int .i64 a4] 60) = w' := by
  have t0 : (a1.toList == a1.toList) = true := by simp
  go_enter Try.func55, Try.ntmps55
  go_wp2
  go_ret
  exact ⟨rfl, rfl⟩
theorem eqMakerS_same (A A' : Option Addr) (cap cap' : Nat) (xs : List SMaker) (w : World) (hr : Row 5 SMaker.enc w w.heap.size A xs) (hr' : Row 5 SMaker.enc w w.heap.size A' xs) (hm : xs.length ≤ 9223372036854775807) :
    Calls Try.prog 17 #[.slice A xs.length cap, .slice A' xs.length cap'] w fun e w' => e = .returned (.bool true) ∧ Below w.heap.size w w' := by
  generalize hB : w.heap.size = B at hr hr' ⊢
  have HB := hide hB; clear hB
  have HR := hide hr; clear hr
  have HR' := hide hr'; clear hr'
  go_enter Try.func17, Try.ntmps17
  go_wp2_with fail
  go_loopw [5] (fun i wr => ∃ (k : Nat), k ≤ xs.length ∧ i = .int .i64 k ∧ Below B w wr) (fun i _ => xs.length - (intOf i).toNat)
  case atStart => exact ⟨0, Nat.zero_le _, rfl, Below.refl _ _⟩
  case round =>
    obtain ⟨i, hi, rfl, hbel⟩ := hrel
    have hsz : B ≤ wr.heap.size := by have := hbel.size; rw [HB.out] at this; exact this
    by_cases hlt : i < xs.length
    · obtain ⟨b, off, rfl, hb, c0, c1, c2, c3, c4⟩ := SMaker.cells HR.out hlt hbel
      obtain ⟨b', off', rfl, hb', c0', c1', c2', c3', c4'⟩ := SMaker.cells HR'.out hlt hbel
      go_wp2_with fail
      go_region_held3 (fun w' => w'.cell? ⟨b, off + i * 5, none⟩ = some (.int .i64 xs[i].ident) ∧ w'.cell? ⟨b, off + i * 5 + 1, none⟩ = some (.string xs[i].name) ∧ w'.cell? ⟨b, off + i * 5 + 2, none⟩ = some (.int .i64 xs[i].frm) ∧ w'.cell? ⟨b, off + i * 5 + 3, none⟩ = some (.int .i64 xs[i].untl) ∧ w'.cell? ⟨b, off + i * 5 + 4, none⟩ = some (.int .i64 xs[i].heir) ∧ w'.cell? ⟨b', off' + i * 5, none⟩ = some (.int .i64 xs[i].ident) ∧ w'.cell? ⟨b', off' + i * 5 + 1, none⟩ = some (.string xs[i].name) ∧ w'.cell? ⟨b', off' + i * 5 + 2, none⟩ = some (.int .i64 xs[i].frm) ∧ w'.cell? ⟨b', off' + i * 5 + 3, none⟩ = some (.int .i64 xs[i].untl) ∧ w'.cell? ⟨b', off' + i * 5 + 4, none⟩ = some (.int .i64 xs[i].heir)) (go_keep) ((go_at_call 55; refine (eqMaker_same _ _ _ _ _ _).mono ?_; rintro e w' ⟨rfl, rfl⟩))
      all_goals
        go_wp2_with fail
        refine ⟨⟨i + 1, by omega, by go_num, ?_⟩, by simp [intOf]; omega⟩
        exact Below.drew ((hbel.alloc hsz _).alloc (by simp; omega) _)
    · have hk : i = xs.length := by omega
      have HK := hide hk; clear hk
      go_wp2
      go_ret
      exact ⟨rfl, hbel⟩
theorem eqMakerS_is (v v' : Value) (xs : List SMaker) (w : World) (h : Is 5 SMaker.enc w v xs) (h' : Is 5 SMaker.enc w v' xs) :
    Calls Try.prog 17 #[v, v'] w fun e w' => e = .returned (.bool true) ∧ Below w.heap.size w w' := by
  have hm := h.len
  obtain ⟨A, cap, rfl, hr, _, _⟩ := h
  obtain ⟨A', cap', rfl, hr', _, _⟩ := h'
  exact eqMakerS_same A A' cap cap' xs w hr hr' hm
/-! ### the text of a mark -/
def mkLoop (n : Nat) (s : ByteArray) : ByteArray := if h : n = 0 then s else mkLoop (n / 10) (⟨#[UInt8.ofNat (48 + n % 10)]⟩ ++ s)
termination_by n
decreasing_by omega
def mkText (k : Int) : ByteArray := ⟨#[109]⟩ ++ mkLoop k.toNat ⟨#[]⟩
theorem markText_any (k : Int) (w : World) (h0 : 0 < k) (h1 : k ≤ 134217728) :
    Calls Try.prog 67 #[.int .i64 k] w fun e w' => e = .returned (.string (mkText k)) ∧ Below w.heap.size w w' := by
  generalize hB : w.heap.size = B
  have HB := hide hB; clear hB
  have hk0 : ¬ k ≤ 0 := by omega
  go_enter Try.func67, Try.ntmps67
  go_wp2_with fail
  go_loopw [0, 3] (fun q s wr => ∃ (n : Nat) (str : ByteArray), n + str.size ≤ 134217728 ∧ q = .int .i64 n ∧ s = .string str ∧ mkLoop n str = mkLoop k.toNat ⟨#[]⟩ ∧ Below B w wr) (fun q _ _ => (intOf q).toNat)
  case atStart => exact ⟨k.toNat, ⟨#[]⟩, by show k.toNat + 0 ≤ 134217728; omega, by rw [Int.toNat_of_nonneg (by omega)], rfl, rfl, Below.refl _ _⟩
  case round =>
    obtain ⟨n, str, hn, rfl, rfl, hloop, hbel⟩ := hrel
    have HL := hide hloop; clear hloop
    have hsz : B ≤ wr.heap.size := by have := hbel.size; rw [HB.out] at this; exact this
    by_cases hz : n = 0
    · subst hz
      have hns : ¬ 9223372036854775807 < 1 + str.size := by omega
      go_wp2_with fail
      go_ret
      refine ⟨?_, hbel⟩
      unfold mkText
      rw [← HL.out, mkLoop, dif_pos rfl]
      rfl
    · have hp : 0 < n := by omega
      have hp' : (0 : Int) < n := by omega
      have hr0 : (0 : Int) ≤ 48 + (n : Int) % 10 ∧ 48 + (n : Int) % 10 ≤ 57 := by omega
      obtain ⟨hr1, hr2⟩ := hr0
      have hns : ¬ 9223372036854775807 < 1 + str.size := by omega
      have hu : (48 + (n : Int) % 10) = ((UInt8.ofNat (48 + n % 10)).toNat : Int) := by
        rw [UInt8.toNat_ofNat']; omega
      have hcv : ∀ x : UInt8, (convert 50 9 (.slice (some ⟨wr.heap.size, 0, none⟩) 1 1)).run Try.prog (wr.alloc (.cells #[.int .u8 (x.toNat : Int)] 5)) = .ok (.string ⟨#[x]⟩) (wr.alloc (.cells #[.int .u8 (x.toNat : Int)] 5)) := fun x =>
        run_convert_is (xs := [x]) Try.underlying50 Try.underlying5 Try.underlying9 ⟨some ⟨wr.heap.size, 0, none⟩, 1, rfl, .inr ⟨wr.heap.size, 0, rfl, by simp, fun i y hy j hj => by
          obtain rfl : j = 0 := by omega
          obtain ⟨hi, rfl⟩ := List.getElem?_eq_some_iff.1 hy
          obtain rfl : i = 0 := by simpa using hi
          rw [(Blk.new wr _ _).cell]; rfl⟩, Nat.le_refl _, by decide⟩
      have hcv1 := hcv (UInt8.ofNat (48 + n % 10))
      rw [← hu] at hcv1
      clear hcv
      have hl2 : mkLoop (n / 10) (⟨#[UInt8.ofNat (48 + n % 10)]⟩ ++ str) = mkLoop k.toNat ⟨#[]⟩ := by
        rw [← HL.out]; conv => rhs; rw [mkLoop]
        rw [dif_neg hz]
      have HL2 := hide hl2; have HU := hide hu; clear hl2 hu
      generalize UInt8.ofNat (48 + n % 10) = cc at *
      go_wp2_with fail
      refine ⟨⟨n / 10, _, by rw [ByteArray.size_append]; show n / 10 + (1 + str.size) ≤ 134217728; omega, ?_, rfl, HL2.out, hbel.alloc hsz _⟩, ?_⟩
      · congr 1
      · simp [intOf]; omega
/-- the numbers from k0 on, 5 an element -/
def SMaker.marks (k0 : Int) (n : Nat) : List SMaker := (List.range n).map fun (i : Nat) => (⟨k0 + (i : Int) * 5 + 0, mkText (k0 + (i : Int) * 5 + 1), k0 + (i : Int) * 5 + 2, k0 + (i : Int) * 5 + 3, k0 + (i : Int) * 5 + 4⟩ : SMaker)
theorem SMaker.marks_length (k0 : Int) (n : Nat) : (SMaker.marks k0 n).length = n := by simp [SMaker.marks]
theorem SMaker.marks_get (k0 : Int) (n i : Nat) (h : i < (SMaker.marks k0 n).length) : (SMaker.marks k0 n)[i] = ⟨k0 + (i : Int) * 5 + 0, mkText (k0 + (i : Int) * 5 + 1), k0 + (i : Int) * 5 + 2, k0 + (i : Int) * 5 + 3, k0 + (i : Int) * 5 + 4⟩ := by simp [SMaker.marks]
theorem markMakerS_any (v : Value) (xs : List SMaker) (k0 : Int) (base : Nat) (w : World) (ho : Own 5 SMaker.enc 60 w base v xs) (hm : xs.length ≤ 1048576) (h0 : 0 ≤ k0) (h1 : k0 ≤ 16777216) :
    Calls Try.prog 26 #[v, .int .i64 k0] w fun e w' => e = .returned (.int .i64 (k0 + (xs.length : Int) * 5)) ∧ Own 5 SMaker.enc 60 w' base v (SMaker.marks k0 xs.length) ∧ w.grownBy w' v.ownBlock := by
  rcases ho with ⟨rfl, rfl⟩ | ⟨g, cap, cs0, rfl, hg, hblk0, hle, hcm, hs0, hf0⟩
  · go_enter Try.func26, Try.ntmps26
    go_wp2_with fail
    go_loop [1, 5] (fun q i => q = .int .i64 k0 ∧ i = .int .i64 0) (fun _ _ => 0)
    case atStart => exact ⟨rfl, rfl⟩
    case round =>
      obtain ⟨rfl, rfl⟩ := hrel
      go_wp2
      go_ret
      exact ⟨ret_int (by show k0 = _; simp), .inl ⟨rfl, rfl⟩, World.grownBy.refl _ _⟩
  · generalize hn : xs.length = n at hle hm ⊢
    have HN := hide hn; clear hn hf0
    have H0 := hide hblk0; clear hblk0
    have HS0 := hide hs0; clear hs0
    have hcap : n * 5 ≤ cs0.size := by rw [HS0.out]; exact Nat.mul_le_mul_right _ hle
    go_enter Try.func26, Try.ntmps26
    go_wp2_with fail
    go_loopw [1, 5] (fun q i wr => ∃ (k : Nat) (cs : Array Value), k ≤ n ∧ i = .int .i64 k ∧ q = .int .i64 (k0 + (k : Int) * 5) ∧ Blk wr g 60 cs ∧ cs.size = cs0.size ∧ Filled 5 SMaker.enc cs k (SMaker.marks k0 n) ∧ w.grownBy wr (some g)) (fun _ i _ => n - (intOf i).toNat)
    case atStart => exact ⟨0, cs0, Nat.zero_le _, rfl, by simp, H0.out, rfl, Filled.zero, World.grownBy.refl _ _⟩
    case round =>
      obtain ⟨i, cs, hi, rfl, rfl, hblk, hsz, hfill, hgr⟩ := hrel
      have HS := hide hsz; clear hsz
      have HF := hide hfill; clear hfill
      have HG := hide hgr; clear hgr
      by_cases hlt : i < n
      · have q0 : 0 ≤ k0 + (i : Int) * 5 := by omega
        have q1 : k0 + (i : Int) * 5 ≤ 33554432 := by omega
        have hgl := hblk.lt
        have h0 := hblk.some (i := i * 5) (by rw [HS.out]; omega)
        have hf := hblk.frozen
        have HB := hide hblk; clear hblk
        have hmt : 0 < k0 + (i : Int) * 5 + 1 ∧ k0 + (i : Int) * 5 + 1 ≤ 134217728 := by omega
        have HMT := hide hmt; clear hmt
        go_wp2_with fail
        refine (markText_any _ _ HMT.out.1 HMT.out.2).mono ?_; rintro e w1 ⟨rfl, hb1⟩
        have hbk := (HB.out.set (i * 5) (.int .i64 (k0 + (i : Int) * 5))).below hb1 (by simpa [World.setCell] using hgl)
        have hg1 := (grownBy_setCell HG.out (i * 5) (.int .i64 (k0 + (i : Int) * 5)))
        have hg2 := hg1.trans (show World.grownBy _ w1 (some g) from ⟨hb1.os, hb1.tape, hb1.output, hb1.size, fun k hk _ => hb1.block k hk⟩)
        clear h0 hf hg1
        have h1 := hbk.some (i := i * 5 + 1) (by simp [HS.out]; omega)
        have h2 := hbk.some (i := i * 5 + 2) (by simp [HS.out]; omega)
        have h3 := hbk.some (i := i * 5 + 3) (by simp [HS.out]; omega)
        have h4 := hbk.some (i := i * 5 + 4) (by simp [HS.out]; omega)
        have hf := hbk.frozen
        have HBK := hide hbk; have HG2 := hide hg2; clear hbk hg2 hb1
        go_wp2_with fail
        refine ⟨⟨i + 1, _, by omega, by go_num, ?_, ((((HBK.out.set _ _).set _ _).set _ _).set _ _), by simp [HS.out], ?_, ?_⟩, by simp [intOf]; omega⟩
        · congr 1; simp only [Int.natCast_add]; omega
        · refine HF.out.step5' (by rw [SMaker.marks_length]; exact hlt) (by rw [HS.out]; omega) ?_ ?_ ?_ ?_ ?_
          all_goals (rw [SMaker.marks_get]; simp only [SMaker.enc] <;> congr 1 <;> omega)
        · exact (grownBy_setCell (grownBy_setCell (grownBy_setCell (grownBy_setCell HG2.out _ _) _ _) _ _) _ _)
      · have hk : i = n := by omega
        have HK := hide hk; clear hk
        have HB := hide hblk; clear hblk
        go_wp2
        go_ret
        rw [HK.out] at HF
        refine ⟨ret_int (by rw [HK.out]), .inr ⟨g, cap, cs, ?_, hg, HB.out, ?_, hcm, by rw [HS.out, HS0.out], ?_⟩, HG.out⟩
        · rw [SMaker.marks_length]
        · rw [SMaker.marks_length]; exact hle
        · rw [SMaker.marks_length]; exact HF.out
theorem heldMakerS_any (A : Option Addr) (cap n : Nat) (k0 : Int) (w : World) (hr : Row 5 SMaker.enc w w.heap.size A (SMaker.marks k0 n)) (hm : n ≤ 1048576) (h0 : 0 ≤ k0) (h1 : k0 ≤ 16777216) :
    Calls Try.prog 27 #[.slice A n cap, .int .i64 k0] w fun e w' => e = .returned (.int .i64 (k0 + (n : Int) * 5)) ∧ Below w.heap.size w w' := by
  generalize hB : w.heap.size = B at hr ⊢
  have HB := hide hB; clear hB
  have HR := hide hr; clear hr
  go_enter Try.func27, Try.ntmps27
  go_wp2_with fail
  go_loopw [1, 5] (fun q i wr => ∃ k : Nat, k ≤ n ∧ i = .int .i64 k ∧ q = .int .i64 (k0 + (k : Int) * 5) ∧ Below B w wr) (fun _ i _ => n - (intOf i).toNat)
  case atStart => exact ⟨0, Nat.zero_le _, rfl, by simp, Below.refl _ _⟩
  case round =>
    obtain ⟨i, hi, rfl, rfl, hbel⟩ := hrel
    have hsz : B ≤ wr.heap.size := by have := hbel.size; rw [HB.out] at this; exact this
    by_cases hlt : i < n
    · have q0 : 0 ≤ k0 + (i : Int) * 5 := by omega
      have q1 : k0 + (i : Int) * 5 ≤ 33554432 := by omega
      obtain ⟨b, off, rfl, hb, c0, c1, c2, c3, c4⟩ := SMaker.cells HR.out (i := i) (by rw [SMaker.marks_length]; exact hlt) hbel
      simp only [SMaker.marks_get, Int.add_zero] at c0 c1 c2 c3 c4
      have t0 : (k0 + (i : Int) * 5 != k0 + (i : Int) * 5) = false := by simp
      have hcall := fun W => markText_any (k0 + (i : Int) * 5 + 1) W (by omega) (by omega)
      generalize mkText (k0 + (i : Int) * 5 + 1) = tx at *
      have HC := hide hcall; clear hcall
      have n1 := fun n => later_cell c1 n
      have t1 : (tx.toList == tx.toList) = true := by simp
      have t2 : (k0 + (i : Int) * 5 + 2 != k0 + (i : Int) * 5 + 2) = false := by simp
      have t3 : (k0 + (i : Int) * 5 + 3 != k0 + (i : Int) * 5 + 3) = false := by simp
      have t4 : (k0 + (i : Int) * 5 + 4 != k0 + (i : Int) * 5 + 4) = false := by simp
      go_wp2_with fail
      (refine wp_region_later (by kernel_rfl) (by kernel_rfl) ?_; (repeat (go_big_quiet_step ((go_at_call 67; exact later_call (HC.out _))))); refine wpQuiet_nil ?_; intro _ hw'; obtain ⟨nq, hw''⟩ := hw'; subst hw'')
      have B3 := bstep hbel nq.h hsz
      replace c2 := later_cell c2 nq; replace c3 := later_cell c3 nq; replace c4 := later_cell c4 nq
      generalize nq.W = W3 at B3 c2 c3 c4
      go_wp2_with fail
      go_round
      case rel => exact ⟨i + 1, by omega, by go_num, by congr 1; simp only [Int.natCast_add]; omega, B3⟩
      case measure => simp [intOf]; omega
    · have hk : i = n := by omega
      have HK := hide hk; clear hk
      go_wp2
      go_ret
      exact ⟨ret_int (by rw [HK.out]), hbel⟩
theorem heldMakerS_is (v : Value) (k0 : Int) (n : Nat) (w : World) (h : Is 5 SMaker.enc w v (SMaker.marks k0 n)) (hm : n ≤ 1048576) (h0 : 0 ≤ k0) (h1 : k0 ≤ 16777216) :
    Calls Try.prog 27 #[v, .int .i64 k0] w fun e w' => e = .returned (.int .i64 (k0 + (n : Int) * 5)) ∧ Below w.heap.size w w' := by
  obtain ⟨A, cap, rfl, hr, _, _⟩ := h
  rw [SMaker.marks_length]
  exact heldMakerS_any A cap n k0 w hr hm h0 h1
/-- the predicate g with the captured values cp answers p, in whatever world in which what lay below B stays -/
def SMaker.Pred (g : FuncId) (cp : Array Value) (p : SMaker → Bool) (B : Nat) (w : World) : Prop :=
  ∀ (W : World) (c : SMaker), Below B w W → Calls Try.prog g (#[.agg #[.int .i64 c.ident, .string c.name, .int .i64 c.frm, .int .i64 c.untl, .int .i64 c.heir]] ++ cp) W fun e w' => e = .returned (.bool (p c)) ∧ Below B w w'
theorem IndexFuncMaker_any (g : FuncId) (cp : Array Value) (p : SMaker → Bool) (A : Option Addr) (cap : Nat) (xs : List SMaker) (w : World) (hr : Row 5 SMaker.enc w w.heap.size A xs) (hm : xs.length ≤ 9223372036854775807)
    (eg : ∀ args w, (callFunc g args).run Try.prog w = .ok (.enter g args) w) (hp : SMaker.Pred g cp p w.heap.size w) :
    Calls Try.prog 87 #[.slice A xs.length cap, .func (.func g) #[] cp] w fun e w' => e = .returned (.int .i64 (idxF p xs)) ∧ Below w.heap.size w w' := by
  generalize hB : w.heap.size = B at hr hp ⊢
  have HB := hide hB; clear hB
  have HR := hide hr; clear hr
  have HP := hide hp; clear hp
  go_enter Try.func87, Try.ntmps87
  go_wp2_with fail
  go_loopw [8] (fun i wr => ∃ (k : Nat), k ≤ xs.length ∧ i = .int .i64 k ∧ (∀ c ∈ xs.take k, p c = false) ∧ Below B w wr) (fun i _ => xs.length - (intOf i).toNat)
  case atStart => exact ⟨0, Nat.zero_le _, rfl, by simp, Below.refl _ _⟩
  case round =>
    obtain ⟨i, hi, rfl, hno, hbel⟩ := hrel
    have HN := hide hno; clear hno
    by_cases hlt : i < xs.length
    · obtain ⟨b, off, rfl, hb, c0, c1, c2, c3, c4⟩ := SMaker.cells HR.out hlt hbel
      have hcall := HP.out wr xs[i] hbel
      generalize hy : xs[i] = y at hcall c0 c1 c2 c3 c4
      have HY := hide hy; clear hy
      cases hq : p y with
      | true =>
        rw [hq] at hcall
        have HQ := hide hq; clear hq
        go_wp2_with (go_at_fn g; refine hcall.mono ?_; rintro e w' ⟨rfl, hb'⟩)
        go_ret
        refine ⟨ret_int ?_, hb'⟩
        exact (idxF_hit hlt (by rw [HY.out]; exact HQ.out) HN.out).symm
      | false =>
        rw [hq] at hcall
        have HQ := hide hq; clear hq
        go_wp2_with (go_at_fn g; refine hcall.mono ?_; rintro e w' ⟨rfl, hb'⟩)
        refine ⟨⟨i + 1, by omega, by go_num, ?_, hb'⟩, by simp [intOf]; omega⟩
        rw [take_snoc' hlt, HY.out]
        intro c hc
        rcases List.mem_append.1 hc with h | h
        · exact HN.out c h
        · rw [List.mem_singleton.1 h]; exact HQ.out
    · have hk : i = xs.length := by omega
      have HK := hide hk; clear hk
      go_wp2_with fail
      go_ret
      refine ⟨ret_int (idxF_miss ?_).symm, hbel⟩
      have := HN.out; rw [HK.out, List.take_length] at this; exact this
theorem ContainsFuncMaker_any (g : FuncId) (cp : Array Value) (p : SMaker → Bool) (A : Option Addr) (cap : Nat) (xs : List SMaker) (w : World) (hr : Row 5 SMaker.enc w w.heap.size A xs) (hm : xs.length ≤ 9223372036854775807)
    (eg : ∀ args w, (callFunc g args).run Try.prog w = .ok (.enter g args) w) (hp : SMaker.Pred g cp p w.heap.size w) :
    Calls Try.prog 74 #[.slice A xs.length cap, .func (.func g) #[] cp] w fun e w' => e = .returned (.bool (xs.any p)) ∧ Below w.heap.size w w' := by
  have HR := hide hr; clear hr
  have HP := hide hp; clear hp
  go_enter Try.func74, Try.ntmps74
  go_wp2_with (go_at_call 87; refine (IndexFuncMaker_any _ _ _ _ _ _ _ HR.out hm eg HP.out).mono ?_; rintro e w' ⟨rfl, hb'⟩)
  go_ret
  exact ⟨ret_bool (idxF_any p xs), hb'⟩
end Go.Proofs.Ytapbnggdclpokaa
