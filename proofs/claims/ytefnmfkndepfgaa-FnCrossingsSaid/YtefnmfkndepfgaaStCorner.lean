/- Contracts of the helpers of the laws on lists of Corner: conversion, equality, marks, and the library's search with a predicate. Conditions: lengths up to 1048576 where a slice is made or marked. -/
import Derived.Test.YtefnmfkndepfgaaProg
import Derived.Test.YtefnmfkndepfgaaOwn
import Derived.Test.YtefnmfkndepfgaaOpen
import Derived.Shelf.GgClosure.Gives
namespace Go.Proofs.Ytefnmfkndepfgaa
open Go.RowKit Go.ChangeShapes Go.WideShapes Go.Deep
set_option linter.unusedVariables false
structure SCorner where
  (x y : Int)
def SCorner.zero : SCorner := ⟨0, 0⟩
def SCorner.enc (c : SCorner) : Nat → Value := fun j => match j with | 0 => .int .i64 c.x | _ => .int .i64 c.y
theorem SCorner.one : ∀ (c : SCorner) (j : Nat), (SCorner.enc c j).oneCell' = true := fun c j => by unfold SCorner.enc; split <;> rfl
theorem SCorner.info : (Try.prog.info? 58).map (fun i => (i.zero, i.size, i.bytes)) = some (some (.agg #[.int .i64 0, .int .i64 0]), 2, 16) := by kernel_rfl
def SCorner.wf (c : SCorner) : Prop := (Lit.int .i64 c.x).wf = true ∧ (Lit.int .i64 c.y).wf = true
theorem SCorner.cells {w : World} {B : Nat} {A : Option Addr} {xs : List SCorner} (h : Row 2 SCorner.enc w B A xs) {i : Nat} (hi : i < xs.length) {wr : World} (hb : Below B w wr) :
    ∃ b off, A = some ⟨b, off, none⟩ ∧ b < B ∧ wr.cell? ⟨b, off + i * 2, none⟩ = some (.int .i64 xs[i].x) ∧ wr.cell? ⟨b, off + i * 2 + 1, none⟩ = some (.int .i64 xs[i].y) := by
  obtain ⟨b, off, rfl, hl, hc⟩ := h.get hi
  have hcell := fun j hj => (hb.cell (p := ⟨b, off + i * 2 + j, none⟩) hl).trans (hc j hj)
  exact ⟨b, off, rfl, hl, hcell 0 (by omega), hcell 1 (by omega)⟩
theorem SCorner.open {H : Type} {enc' : TypeId × Value → H} {w : World} {sp : Nat → Bool} {held : Bool} {A : Option Addr} {len cap : Nat} {d : DataW H} {p : List MemPlace}
    (h : DataW.Trod enc' Try.prog w 0 sp held 22 (.slice A len cap) d p) : ∃ zs : List SCorner, zs.length = len ∧ (∀ z ∈ zs, z.wf) ∧ len ≤ cap ∧ cap ≤ maxLen ∧ Row 2 SCorner.enc w w.heap.size A zs := by
  refine row_of_slice (by omega) Try.underlying22 (by kernel_rfl) (fun n cs y ht hl => ?_) h
  obtain ⟨q, hf⟩ := fields_of_struct Try.underlying60 (by kernel_rfl) ht (by rw [hl]; rfl)
  obtain ⟨v0, z0, h0, t0⟩ := hf 0 _ rfl
  obtain ⟨x0, e0, _, w0⟩ := DataW.trod_int Try.underlying3 t0
  simp only [List.cons.injEq, and_true] at e0; subst e0
  obtain ⟨v1, z1, h1, t1⟩ := hf 1 _ rfl
  obtain ⟨x1, e1, _, w1⟩ := DataW.trod_int Try.underlying3 t1
  simp only [List.cons.injEq, and_true] at e1; subst e1
  refine ⟨⟨x0, x1⟩, ⟨w0, w1⟩, fun j hj => ?_⟩
  have hj' : j = 0 ∨ j = 1 := by omega
  rcases hj' with rfl | rfl
  · exact h0
  · exact h1
theorem toCorner_any (a0 a1 : Int) (w : World) :
    Calls Try.prog 54 #[.agg #[.int .i64 a0, .int .i64 a1]] w fun e w' => e = .returned (.agg #[.int .i64 a0, .int .i64 a1]) ∧ Below w.heap.size w w' := by
  go_enter Try.func54, Try.ntmps54
  go_wp2
  exact bodyPost_ret (v := .agg #[.int .i64 a0, .int .i64 a1]) (by simp [results, Try.results54, go_sem]) rfl ⟨rfl, (((Below.refl _ _).alloc (Nat.le_refl _) _).alloc (by simp) _).alloc (by simp; omega) _⟩
theorem toCornerS_any (A : Option Addr) (cap : Nat) (xs : List SCorner) (w : World) (hr : Row 2 SCorner.enc w w.heap.size A xs) (hm : xs.length ≤ 1048576) :
    Calls Try.prog 17 #[.slice A xs.length cap] w fun e w' => ∃ g, e = .returned (.slice (some ⟨g, 0, none⟩) xs.length xs.length) ∧ Own 2 SCorner.enc 58 w' w.heap.size (.slice (some ⟨g, 0, none⟩) xs.length xs.length) xs ∧ Row 2 SCorner.enc w' w'.heap.size (some ⟨g, 0, none⟩) xs ∧ Below w.heap.size w w' := by
  generalize hB : w.heap.size = B at hr ⊢
  have HB := hide hB; clear hB
  have HR := hide hr; clear hr
  have hmk := run_make_n (P := Try.prog) 25 58 _ 2 16 Try.underlying25 SCorner.info xs.length (by omega) (by omega)
  go_enter Try.func17, Try.ntmps17
  go_wp2_with fail
  go_loopw [4] (fun i wr => ∃ (k : Nat) (cs : Array Value), k ≤ xs.length ∧ i = .int .i64 k ∧ Blk wr w.heap.size 58 cs ∧ cs.size = xs.length * 2 ∧ Filled 2 SCorner.enc cs k xs ∧ Below B w wr) (fun i _ => xs.length - (intOf i).toNat)
  case atStart => exact ⟨0, _, Nat.zero_le _, rfl, Blk.new _ _ _, by rw [size_madeCells], Filled.zero, (Below.refl _ _).alloc (by rw [HB.out]; exact Nat.le_refl _) _⟩
  case round =>
    obtain ⟨i, cs, hi, rfl, hblk, hsz, hfill, hbel⟩ := hrel
    have hlt0 := hblk.lt
    have HBL := hide hblk; clear hblk
    have HS := hide hsz; clear hsz
    have HF := hide hfill; clear hfill
    by_cases hlt : i < xs.length
    · obtain ⟨b, off, rfl, hb, c0, c1⟩ := SCorner.cells HR.out hlt hbel
      go_wp2_with fail
      refine (toCorner_any _ _ _).mono ?_; rintro e w1 ⟨rfl, hb1⟩
      have hbl1 := HBL.out.below hb1 hlt0
      have h0 := hbl1.some (i := i * 2) (by rw [HS.out]; omega)
      have h1 := hbl1.some (i := i * 2 + 1) (by rw [HS.out]; omega)
      have hf := hbl1.frozen
      have HB1 := hide hbl1; clear hbl1
      go_wp2_with fail
      refine ⟨⟨i + 1, _, by omega, by go_num, ((HB1.out.set _ _).set _ _), by simp [HS.out], HF.out.step2 hlt HS.out rfl rfl, ?_⟩, by simp [intOf]; omega⟩
      have hB' : B ≤ w.heap.size := by rw [HB.out]; exact Nat.le_refl _
      exact (((bstep hbel hb1 (by omega)).setCell hB' _).setCell hB' _)
    · have hk : i = xs.length := by omega
      have HK := hide hk; clear hk
      go_wp2
      go_ret
      rw [HK.out] at HF
      exact ⟨_, rfl, Own.made rfl (by rw [HB.out]; exact Nat.le_refl _) HBL.out HS.out (by simp only [maxLen]; omega) HF.out, HF.out.row HBL.out hlt0, hbel⟩
theorem toCornerS_is (v : Value) (xs : List SCorner) (w : World) (h : Is 2 SCorner.enc w v xs) (hm : xs.length ≤ 1048576) :
    Calls Try.prog 17 #[v] w fun e w' => ∃ v', e = .returned v' ∧ Own 2 SCorner.enc 58 w' w.heap.size v' xs ∧ Below w.heap.size w w' := by
  obtain ⟨A, cap, rfl, hr, _, _⟩ := h
  exact (toCornerS_any A cap xs w hr hm).mono fun e w' ⟨g, he, ho, _, hb⟩ => ⟨_, he, ho, hb⟩
theorem szCornerS_any (A : Option Addr) (n cap : Nat) (left : Int) (w : World) (h0 : 0 ≤ left) (h1 : left ≤ 1048576) (hm : n ≤ 9223372036854775807) :
    Calls Try.prog 15 #[.slice A n cap, .int .i64 left] w fun e w' => e = .returned (.int .i64 (szR left n)) ∧ w = w' := by
  by_cases h : left < n
  · have h' : left - n < 0 := by omega
    have hr : szR left n = -1 := if_pos h
    have HR := hide hr; clear hr h
    go_enter Try.func15, Try.ntmps15
    go_wp2
    go_ret
    exact ⟨ret_int HR.out.symm, rfl⟩
  · have h' : ¬ left - n < 0 := by omega
    have hr : szR left n = left - n := if_neg h
    have HR := hide hr; clear hr h
    go_enter Try.func15, Try.ntmps15
    go_wp2
    go_ret
    exact ⟨ret_int HR.out.symm, rfl⟩
theorem eqCorner_same (a0 a1 : Int) (w : World) :
    Calls Try.prog 57 #[.agg #[.int .i64 a0, .int .i64 a1], .agg #[.int .i64 a0, .int .i64 a1]] w fun e w' => e = .returned (.bool true) ∧ (w.alloc (.cells #[.int .i64 a0, .int .i64 a1] 58)).alloc (.cells #[.int .i64 a0, .int .i64 a1] 58) = w' := by
  go_enter Try.func57, Try.ntmps57
  go_wp2
  go_ret
  exact ⟨rfl, rfl⟩
theorem eqCornerS_same (A A' : Option Addr) (cap cap' : Nat) (xs : List SCorner) (w : World) (hr : Row 2 SCorner.enc w w.heap.size A xs) (hr' : Row 2 SCorner.enc w w.heap.size A' xs) (hm : xs.length ≤ 9223372036854775807) :
    Calls Try.prog 19 #[.slice A xs.length cap, .slice A' xs.length cap'] w fun e w' => e = .returned (.bool true) ∧ Below w.heap.size w w' := by
  generalize hB : w.heap.size = B at hr hr' ⊢
  have HB := hide hB; clear hB
  have HR := hide hr; clear hr
  have HR' := hide hr'; clear hr'
  go_enter Try.func19, Try.ntmps19
  go_wp2_with fail
  go_loopw [5] (fun i wr => ∃ (k : Nat), k ≤ xs.length ∧ i = .int .i64 k ∧ Below B w wr) (fun i _ => xs.length - (intOf i).toNat)
  case atStart => exact ⟨0, Nat.zero_le _, rfl, Below.refl _ _⟩
  case round =>
    obtain ⟨i, hi, rfl, hbel⟩ := hrel
    have hsz : B ≤ wr.heap.size := by have := hbel.size; rw [HB.out] at this; exact this
    by_cases hlt : i < xs.length
    · obtain ⟨b, off, rfl, hb, c0, c1⟩ := SCorner.cells HR.out hlt hbel
      obtain ⟨b', off', rfl, hb', c0', c1'⟩ := SCorner.cells HR'.out hlt hbel
      go_wp2_with fail
      go_region_held3 (fun w' => w'.cell? ⟨b, off + i * 2, none⟩ = some (.int .i64 xs[i].x) ∧ w'.cell? ⟨b, off + i * 2 + 1, none⟩ = some (.int .i64 xs[i].y) ∧ w'.cell? ⟨b', off' + i * 2, none⟩ = some (.int .i64 xs[i].x) ∧ w'.cell? ⟨b', off' + i * 2 + 1, none⟩ = some (.int .i64 xs[i].y)) (go_keep) ((go_at_call 57; refine (eqCorner_same _ _ _).mono ?_; rintro e w' ⟨rfl, rfl⟩))
      all_goals
        go_wp2_with fail
        refine ⟨⟨i + 1, by omega, by go_num, ?_⟩, by simp [intOf]; omega⟩
        exact Below.drew ((hbel.alloc hsz _).alloc (by simp; omega) _)
    · have hk : i = xs.length := by omega
      have HK := hide hk; clear hk
      go_wp2
      go_ret
      exact ⟨rfl, hbel⟩
theorem eqCornerS_is (v v' : Value) (xs : List SCorner) (w : World) (h : Is 2 SCorner.enc w v xs) (h' : Is 2 SCorner.enc w v' xs) :
    Calls Try.prog 19 #[v, v'] w fun e w' => e = .returned (.bool true) ∧ Below w.heap.size w w' := by
  have hm := h.len
  obtain ⟨A, cap, rfl, hr, _, _⟩ := h
  obtain ⟨A', cap', rfl, hr', _, _⟩ := h'
  exact eqCornerS_same A A' cap cap' xs w hr hr' hm
/-- the numbers from k0 on, 2 an element -/
def SCorner.marks (k0 : Int) (n : Nat) : List SCorner := (List.range n).map fun (i : Nat) => (⟨k0 + (i : Int) * 2 + 0, k0 + (i : Int) * 2 + 1⟩ : SCorner)
theorem SCorner.marks_length (k0 : Int) (n : Nat) : (SCorner.marks k0 n).length = n := by simp [SCorner.marks]
theorem SCorner.marks_get (k0 : Int) (n i : Nat) (h : i < (SCorner.marks k0 n).length) : (SCorner.marks k0 n)[i] = ⟨k0 + (i : Int) * 2 + 0, k0 + (i : Int) * 2 + 1⟩ := by simp [SCorner.marks]
theorem markCornerS_any (v : Value) (xs : List SCorner) (k0 : Int) (base : Nat) (w : World) (ho : Own 2 SCorner.enc 58 w base v xs) (hm : xs.length ≤ 1048576) (h0 : 0 ≤ k0) (h1 : k0 ≤ 16777216) :
    Calls Try.prog 24 #[v, .int .i64 k0] w fun e w' => e = .returned (.int .i64 (k0 + (xs.length : Int) * 2)) ∧ Own 2 SCorner.enc 58 w' base v (SCorner.marks k0 xs.length) ∧ w.grownBy w' v.ownBlock := by
  rcases ho with ⟨rfl, rfl⟩ | ⟨g, cap, cs0, rfl, hg, hblk0, hle, hcm, hs0, hf0⟩
  · go_enter Try.func24, Try.ntmps24
    go_wp2_with fail
    go_loop [1, 5] (fun q i => q = .int .i64 k0 ∧ i = .int .i64 0) (fun _ _ => 0)
    case atStart => exact ⟨rfl, rfl⟩
    case round =>
      obtain ⟨rfl, rfl⟩ := hrel
      go_wp2
      go_ret
      exact ⟨ret_int (by show k0 = _; simp), .inl ⟨rfl, rfl⟩, World.grownBy.refl _ _⟩
  · generalize hn : xs.length = n at hle hm ⊢
    have HN := hide hn; clear hn hf0
    have H0 := hide hblk0; clear hblk0
    have HS0 := hide hs0; clear hs0
    have hcap : n * 2 ≤ cs0.size := by rw [HS0.out]; exact Nat.mul_le_mul_right _ hle
    go_enter Try.func24, Try.ntmps24
    go_wp2_with fail
    go_loopw [1, 5] (fun q i wr => ∃ (k : Nat) (cs : Array Value), k ≤ n ∧ i = .int .i64 k ∧ q = .int .i64 (k0 + (k : Int) * 2) ∧ Blk wr g 58 cs ∧ cs.size = cs0.size ∧ Filled 2 SCorner.enc cs k (SCorner.marks k0 n) ∧ w.grownBy wr (some g)) (fun _ i _ => n - (intOf i).toNat)
    case atStart => exact ⟨0, cs0, Nat.zero_le _, rfl, by simp, H0.out, rfl, Filled.zero, World.grownBy.refl _ _⟩
    case round =>
      obtain ⟨i, cs, hi, rfl, rfl, hblk, hsz, hfill, hgr⟩ := hrel
      have HS := hide hsz; clear hsz
      have HF := hide hfill; clear hfill
      have HG := hide hgr; clear hgr
      by_cases hlt : i < n
      · have q0 : 0 ≤ k0 + (i : Int) * 2 := by omega
        have q1 : k0 + (i : Int) * 2 ≤ 33554432 := by omega
        have h0 := hblk.some (i := i * 2) (by rw [HS.out]; omega)
        have h1 := hblk.some (i := i * 2 + 1) (by rw [HS.out]; omega)
        have hf := hblk.frozen
        have HB := hide hblk; clear hblk
        go_wp2_with fail
        refine ⟨⟨i + 1, _, by omega, by go_num, ?_, ((HB.out.set _ _).set _ _), by simp [HS.out], ?_, ?_⟩, by simp [intOf]; omega⟩
        · congr 1; simp only [Int.natCast_add]; omega
        · refine HF.out.step2' (by rw [SCorner.marks_length]; exact hlt) (by rw [HS.out]; omega) ?_ ?_
          all_goals (rw [SCorner.marks_get]; simp only [SCorner.enc] <;> congr 1 <;> omega)
        · exact (grownBy_setCell (grownBy_setCell HG.out _ _) _ _)
      · have hk : i = n := by omega
        have HK := hide hk; clear hk
        have HB := hide hblk; clear hblk
        go_wp2
        go_ret
        rw [HK.out] at HF
        refine ⟨ret_int (by rw [HK.out]), .inr ⟨g, cap, cs, ?_, hg, HB.out, ?_, hcm, by rw [HS.out, HS0.out], ?_⟩, HG.out⟩
        · rw [SCorner.marks_length]
        · rw [SCorner.marks_length]; exact hle
        · rw [SCorner.marks_length]; exact HF.out
theorem heldCornerS_any (A : Option Addr) (cap n : Nat) (k0 : Int) (w : World) (hr : Row 2 SCorner.enc w w.heap.size A (SCorner.marks k0 n)) (hm : n ≤ 1048576) (h0 : 0 ≤ k0) (h1 : k0 ≤ 16777216) :
    Calls Try.prog 25 #[.slice A n cap, .int .i64 k0] w fun e w' => e = .returned (.int .i64 (k0 + (n : Int) * 2)) ∧ w = w' := by
  have HR := hide hr; clear hr
  go_enter Try.func25, Try.ntmps25
  go_wp2_with fail
  go_loop [1, 5] (fun q i => ∃ k : Nat, k ≤ n ∧ i = .int .i64 k ∧ q = .int .i64 (k0 + (k : Int) * 2)) (fun _ i => n - (intOf i).toNat)
  case atStart => exact ⟨0, Nat.zero_le _, rfl, by simp⟩
  case round =>
    obtain ⟨i, hi, rfl, rfl⟩ := hrel
    by_cases hlt : i < n
    · have q0 : 0 ≤ k0 + (i : Int) * 2 := by omega
      have q1 : k0 + (i : Int) * 2 ≤ 33554432 := by omega
      obtain ⟨b, off, rfl, hb, c0, c1⟩ := SCorner.cells HR.out (i := i) (by rw [SCorner.marks_length]; exact hlt) (Below.refl _ _)
      simp only [SCorner.marks_get, Int.add_zero] at c0 c1
      have t0 : (k0 + (i : Int) * 2 != k0 + (i : Int) * 2) = false := by simp
      have t1 : (k0 + (i : Int) * 2 + 1 != k0 + (i : Int) * 2 + 1) = false := by simp
      go_wp2_with fail
      go_round
      case rel => exact ⟨i + 1, by omega, by go_num, by congr 1; simp only [Int.natCast_add]; omega⟩
      case measure => simp [intOf]; omega
    · have hk : i = n := by omega
      have HK := hide hk; clear hk
      go_wp2
      go_ret
      exact ⟨ret_int (by rw [HK.out]), rfl⟩
theorem heldCornerS_is (v : Value) (k0 : Int) (n : Nat) (w : World) (h : Is 2 SCorner.enc w v (SCorner.marks k0 n)) (hm : n ≤ 1048576) (h0 : 0 ≤ k0) (h1 : k0 ≤ 16777216) :
    Calls Try.prog 25 #[v, .int .i64 k0] w fun e w' => e = .returned (.int .i64 (k0 + (n : Int) * 2)) ∧ w = w' := by
  obtain ⟨A, cap, rfl, hr, _, _⟩ := h
  rw [SCorner.marks_length]
  exact heldCornerS_any A cap n k0 w hr hm h0 h1
/-- the predicate g with the captured values cp answers p, in whatever world in which what lay below B stays -/
def SCorner.Pred (g : FuncId) (cp : Array Value) (p : SCorner → Bool) (B : Nat) (w : World) : Prop :=
  ∀ (W : World) (c : SCorner), Below B w W → Calls Try.prog g (#[.agg #[.int .i64 c.x, .int .i64 c.y]] ++ cp) W fun e w' => e = .returned (.bool (p c)) ∧ Below B w w'
end Go.Proofs.Ytefnmfkndepfgaa
