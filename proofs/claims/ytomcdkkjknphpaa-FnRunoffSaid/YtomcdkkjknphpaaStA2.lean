/- Contracts of the helpers of the laws on lists of Corner: conversion, equality, marks, and the library's search with a predicate. Conditions: lengths up to 1048576 where a slice is made or marked. -/
import Derived.Test.YtomcdkkjknphpaaProg
import Derived.Test.YtomcdkkjknphpaaOwn
import Derived.Test.YtomcdkkjknphpaaOpen
import Derived.Shelf.GgClosure.Gives
namespace Go.Proofs.Ytomcdkkjknphpaa
open Go.RowKit Go.ChangeShapes Go.WideShapes Go.Deep
set_option linter.unusedVariables false
structure SA2 where
  (x y : Int)
def SA2.zero : SA2 := ⟨0, 0⟩
def SA2.enc (c : SA2) : Nat → Value := fun j => match j with | 0 => .int .i64 c.x | _ => .int .i64 c.y
theorem SA2.one : ∀ (c : SA2) (j : Nat), (SA2.enc c j).oneCell' = true := fun c j => by unfold SA2.enc; split <;> rfl
theorem SA2.info : (Try.prog.info? 50).map (fun i => (i.zero, i.size, i.bytes)) = some (some (.agg #[.int .i64 0, .int .i64 0]), 2, 16) := by kernel_rfl
def SA2.wf (c : SA2) : Prop := (Lit.int .i64 c.x).wf = true ∧ (Lit.int .i64 c.y).wf = true
theorem SA2.cells {w : World} {B : Nat} {A : Option Addr} {xs : List SA2} (h : Row 2 SA2.enc w B A xs) {i : Nat} (hi : i < xs.length) {wr : World} (hb : Below B w wr) :
    ∃ b off, A = some ⟨b, off, none⟩ ∧ b < B ∧ wr.cell? ⟨b, off + i * 2, none⟩ = some (.int .i64 xs[i].x) ∧ wr.cell? ⟨b, off + i * 2 + 1, none⟩ = some (.int .i64 xs[i].y) := by
  obtain ⟨b, off, rfl, hl, hc⟩ := h.get hi
  have hcell := fun j hj => (hb.cell (p := ⟨b, off + i * 2 + j, none⟩) hl).trans (hc j hj)
  exact ⟨b, off, rfl, hl, hcell 0 (by omega), hcell 1 (by omega)⟩

theorem eqIntA2_same (a0 a1 : Int) (w : World) :
    Calls Try.prog 76 #[.agg #[.int .i64 a0, .int .i64 a1], .agg #[.int .i64 a0, .int .i64 a1]] w fun e w' => e = .returned (.bool true) ∧ Below w.heap.size w w' := by
  generalize hB : w.heap.size = B
  have HB := hide hB
  go_enter Try.func76, Try.ntmps76
  go_wp2_with fail
  go_loopw [5] (fun i wr => ∃ (k : Nat), k ≤ 2 ∧ i = .int .i64 k ∧ Below (B + 2) ((w.alloc (.cells #[.int .i64 a0, .int .i64 a1] 50)).alloc (.cells #[.int .i64 a0, .int .i64 a1] 50)) wr) (fun i _ => 2 - (intOf i).toNat)
  case atStart => exact ⟨0, by omega, rfl, Below.refl _ _⟩
  case round =>
    obtain ⟨i, hi, rfl, hbel⟩ := hrel
    have d0 := fun o => hbel.cell (p := ⟨w.heap.size, o, none⟩) (by simp; omega)
    have d1 := fun o => hbel.cell (p := ⟨w.heap.size + 1, o, none⟩) (by simp; omega)
    by_cases hlt : i < 2
    · have c0 := d0 0; have c1 := d0 1; have c2 := d1 0; have c3 := d1 1
      simp [go_sem] at c0 c1 c2 c3
      rw [HB.out] at c0 c1 c2 c3
      clear d0 d1
      have hi' : i = 0 ∨ i = 1 := by omega
      rcases hi' with rfl | rfl
      · have t0 : (a0 != a0) = false := by simp
        go_wp2_with fail
        go_quiet (fail)
        all_goals
          go_wp2_with fail
          refine ⟨⟨1, by omega, by go_num, ?_⟩, by simp [intOf]⟩
          exact below_drewN hbel _
      · have t0 : (a1 != a1) = false := by simp
        go_wp2_with fail
        go_quiet (fail)
        all_goals
          go_wp2_with fail
          refine ⟨⟨2, by omega, by go_num, ?_⟩, by simp [intOf]⟩
          exact below_drewN hbel _
    · have hk : i = 2 := by omega
      subst hk
      go_wp2
      go_ret
      refine ⟨rfl, ?_⟩
      rw [← hB] at hbel ⊢
      exact ((below_alloc w _).alloc (by simp) _).trans (hbel.mono (by omega))
theorem eqIntA2S_same (A A' : Option Addr) (cap cap' : Nat) (xs : List SA2) (w : World) (hr : Row 2 SA2.enc w w.heap.size A xs) (hr' : Row 2 SA2.enc w w.heap.size A' xs) (hm : xs.length ≤ 9223372036854775807) :
    Calls Try.prog 42 #[.slice A xs.length cap, .slice A' xs.length cap'] w fun e w' => e = .returned (.bool true) ∧ Below w.heap.size w w' := by
  generalize hB : w.heap.size = B at hr hr' ⊢
  have HB := hide hB; clear hB
  have HR := hide hr; clear hr
  have HR' := hide hr'; clear hr'
  go_enter Try.func42, Try.ntmps42
  go_wp2_with fail
  go_loopw [5] (fun i wr => ∃ (k : Nat), k ≤ xs.length ∧ i = .int .i64 k ∧ Below B w wr) (fun i _ => xs.length - (intOf i).toNat)
  case atStart => exact ⟨0, Nat.zero_le _, rfl, Below.refl _ _⟩
  case round =>
    obtain ⟨i, hi, rfl, hbel⟩ := hrel
    have hsz : B ≤ wr.heap.size := by have := hbel.size; rw [HB.out] at this; exact this
    by_cases hlt : i < xs.length
    · obtain ⟨b, off, rfl, hb, c0, c1⟩ := SA2.cells HR.out hlt hbel
      obtain ⟨b', off', rfl, hb', c0', c1'⟩ := SA2.cells HR'.out hlt hbel
      have HC := fun W => eqIntA2_same xs[i].x xs[i].y W
      have n0 := fun n => later_cell c0 n; have n1 := fun n => later_cell c1 n
      have n2 := fun n => later_cell c0' n; have n3 := fun n => later_cell c1' n
      generalize xs[i].x = ax at *; generalize xs[i].y = ay at *
      have HCC := hide HC; clear HC
      go_wp2_with fail
      (refine wp_region_later (by kernel_rfl) (by kernel_rfl) ?_; (repeat (go_big_quiet_step ((go_at_call 76; exact later_call (HCC.out _))))); refine wpQuiet_nil ?_; intro _ hw'; obtain ⟨nq, hw''⟩ := hw'; subst hw'')
      have B3 := bstep hbel nq.h hsz
      go_wp2_with fail
      refine ⟨⟨i + 1, by omega, by go_num, B3⟩, by simp [intOf]; omega⟩
    · have hk : i = xs.length := by omega
      have HK := hide hk; clear hk
      go_wp2
      go_ret
      exact ⟨rfl, hbel⟩
theorem eqIntA2S_is (v v' : Value) (xs : List SA2) (w : World) (h : Is 2 SA2.enc w v xs) (h' : Is 2 SA2.enc w v' xs) :
    Calls Try.prog 42 #[v, v'] w fun e w' => e = .returned (.bool true) ∧ Below w.heap.size w w' := by
  have hm := h.len
  obtain ⟨A, cap, rfl, hr, _, _⟩ := h
  obtain ⟨A', cap', rfl, hr', _, _⟩ := h'
  exact eqIntA2S_same A A' cap cap' xs w hr hr' hm
/-- the numbers from k0 on, 2 an element -/
def SA2.marks (k0 : Int) (n : Nat) : List SA2 := (List.range n).map fun (i : Nat) => (⟨k0 + (i : Int) * 2 + 0, k0 + (i : Int) * 2 + 1⟩ : SA2)
theorem SA2.marks_length (k0 : Int) (n : Nat) : (SA2.marks k0 n).length = n := by simp [SA2.marks]
theorem SA2.marks_get (k0 : Int) (n i : Nat) (h : i < (SA2.marks k0 n).length) : (SA2.marks k0 n)[i] = ⟨k0 + (i : Int) * 2 + 0, k0 + (i : Int) * 2 + 1⟩ := by simp [SA2.marks]
theorem markIntA2S_any (v : Value) (xs : List SA2) (k0 : Int) (base : Nat) (w : World) (ho : Own 2 SA2.enc 50 w base v xs) (hm : xs.length ≤ 1048576) (h0 : 0 ≤ k0) (h1 : k0 ≤ 16777216) :
    Calls Try.prog 44 #[v, .int .i64 k0] w fun e w' => e = .returned (.int .i64 (k0 + (xs.length : Int) * 2)) ∧ Own 2 SA2.enc 50 w' base v (SA2.marks k0 xs.length) ∧ w.grownBy w' v.ownBlock := by
  rcases ho with ⟨rfl, rfl⟩ | ⟨g, cap, cs0, rfl, hg, hblk0, hle, hcm, hs0, hf0⟩
  · go_enter Try.func44, Try.ntmps44
    go_wp2_with fail
    go_loop [1, 5] (fun q i => q = .int .i64 k0 ∧ i = .int .i64 0) (fun _ _ => 0)
    case atStart => exact ⟨rfl, rfl⟩
    case round =>
      obtain ⟨rfl, rfl⟩ := hrel
      go_wp2
      go_ret
      exact ⟨ret_int (by show k0 = _; simp), .inl ⟨rfl, rfl⟩, World.grownBy.refl _ _⟩
  · generalize hn : xs.length = n at hle hm ⊢
    have HN := hide hn; clear hn hf0
    have H0 := hide hblk0; clear hblk0
    have HS0 := hide hs0; clear hs0
    have hcap : n * 2 ≤ cs0.size := by rw [HS0.out]; exact Nat.mul_le_mul_right _ hle
    go_enter Try.func44, Try.ntmps44
    go_wp2_with fail
    go_loopw [1, 5] (fun q i wr => ∃ (k : Nat) (cs : Array Value), k ≤ n ∧ i = .int .i64 k ∧ q = .int .i64 (k0 + (k : Int) * 2) ∧ Blk wr g 50 cs ∧ cs.size = cs0.size ∧ Filled 2 SA2.enc cs k (SA2.marks k0 n) ∧ w.grownBy wr (some g)) (fun _ i _ => n - (intOf i).toNat)
    case atStart => exact ⟨0, cs0, Nat.zero_le _, rfl, by simp, H0.out, rfl, Filled.zero, World.grownBy.refl _ _⟩
    case round =>
      obtain ⟨i, cs, hi, rfl, rfl, hblk, hsz, hfill, hgr⟩ := hrel
      have HS := hide hsz; clear hsz
      have HF := hide hfill; clear hfill
      have HG := hide hgr; clear hgr
      by_cases hlt : i < n
      · have q0 : 0 ≤ k0 + (i : Int) * 2 := by omega
        have q1 : k0 + (i : Int) * 2 ≤ 33554432 := by omega
        have HB0 := hide hblk; clear hblk
        have hin : (i : Int) < n := by omega
        go_wp2_with fail
        go_loopw [1, 6] (fun q j wr2 => ∃ (jj : Nat) (cs' : Array Value), jj ≤ 2 ∧ j = .int .i64 jj ∧ q = .int .i64 (k0 + (i : Int) * 2 + (jj : Int)) ∧ Blk wr2 g 50 cs' ∧ cs'.size = cs0.size ∧ Filled 2 SA2.enc cs' i (SA2.marks k0 n) ∧ (∀ c : Nat, c < jj → cs'[i * 2 + c]? = some (.int .i64 (k0 + (i : Int) * 2 + (c : Int)))) ∧ w.grownBy wr2 (some g)) (fun _ j _ => 2 - (intOf j).toNat)
        case atStart => exact ⟨0, cs, by omega, rfl, by simp, HB0.out, HS.out, HF.out, fun c hc => absurd hc (by omega), HG.out⟩
        case round =>
          obtain ⟨j, cs', hj, rfl, rfl, hblk, hsz, hfill, hset, hgr⟩ := hrel
          have HSa := hide hsz; clear hsz
          have HFa := hide hfill; clear hfill
          have HSET := hide hset; clear hset
          have HGa := hide hgr; clear hgr
          by_cases hjl : j < 2
          · have hjl' : (j : Int) < 2 := by omega
            have h0 := hblk.some (i := i * 2 + j) (by rw [HSa.out]; omega)
            have hf := hblk.frozen
            have HB := hide hblk; clear hblk
            go_wp2_with fail
            go_round
            case measure => simp [intOf]; omega
            case rel =>
            refine ⟨j + 1, _, by omega, by go_num, ?_, HB.out.set _ _, by simp [HSa.out], ?_, ?_, grownBy_setCell HGa.out _ _⟩
            · congr 1; simp only [Int.natCast_add]; omega
            · intro p x hp hx c hc
              rw [Array.getElem?_setIfInBounds_ne (by omega)]
              exact HFa.out p x hp hx c hc
            · intro c hc
              by_cases hcj : c = j
              · subst hcj; rw [Array.getElem?_setIfInBounds_self_of_lt (by rw [HSa.out]; omega)]
              · rw [Array.getElem?_setIfInBounds_ne (by omega)]; exact HSET.out c (by omega)
          · have hj2 : j = 2 := by omega
            subst hj2
            have HB := hide hblk; clear hblk
            go_wp2_with fail
            go_round
            case measure => simp [intOf]; omega
            case rel =>
            refine ⟨i + 1, cs', by omega, by go_num, ?_, HB.out, HSa.out, ?_, HGa.out⟩
            · congr 1; simp only [Int.natCast_add]; omega
            · refine HFa.out.step (by rw [SA2.marks_length]; exact hlt) (fun c hc => ?_) (fun m hm => rfl)
              rw [HSET.out c hc, SA2.marks_get]
              have hc' : c = 0 ∨ c = 1 := by omega
              rcases hc' with rfl | rfl <;> simp [SA2.enc]
      · have hk : i = n := by omega
        have HK := hide hk; clear hk
        have HB := hide hblk; clear hblk
        go_wp2
        go_ret
        rw [HK.out] at HF
        refine ⟨ret_int (by rw [HK.out]), .inr ⟨g, cap, cs, ?_, hg, HB.out, ?_, hcm, by rw [HS.out, HS0.out], ?_⟩, HG.out⟩
        · rw [SA2.marks_length]
        · rw [SA2.marks_length]; exact hle
        · rw [SA2.marks_length]; exact HF.out
theorem heldIntA2S_any (A : Option Addr) (cap n : Nat) (k0 : Int) (w : World) (hr : Row 2 SA2.enc w w.heap.size A (SA2.marks k0 n)) (hm : n ≤ 1048576) (h0 : 0 ≤ k0) (h1 : k0 ≤ 16777216) :
    Calls Try.prog 45 #[.slice A n cap, .int .i64 k0] w fun e w' => e = .returned (.int .i64 (k0 + (n : Int) * 2)) ∧ w = w' := by
  have HR := hide hr; clear hr
  go_enter Try.func45, Try.ntmps45
  go_wp2_with fail
  go_loop [1, 5] (fun q i => ∃ k : Nat, k ≤ n ∧ i = .int .i64 k ∧ q = .int .i64 (k0 + (k : Int) * 2)) (fun _ i => n - (intOf i).toNat)
  case atStart => exact ⟨0, Nat.zero_le _, rfl, by simp⟩
  case round =>
    obtain ⟨i, hi, rfl, rfl⟩ := hrel
    by_cases hlt : i < n
    · have q0 : 0 ≤ k0 + (i : Int) * 2 := by omega
      have q1 : k0 + (i : Int) * 2 ≤ 33554432 := by omega
      obtain ⟨b, off, rfl, hb, c0, c1⟩ := SA2.cells HR.out (i := i) (by rw [SA2.marks_length]; exact hlt) (Below.refl _ _)
      simp only [SA2.marks_get, Int.add_zero] at c0 c1
      have hin : (i : Int) < n := by omega
      go_wp2_with fail
      go_loop [1, 6] (fun q j => ∃ (jj : Nat), jj ≤ 2 ∧ j = .int .i64 jj ∧ q = .int .i64 (k0 + (i : Int) * 2 + (jj : Int))) (fun _ j => 2 - (intOf j).toNat)
      case atStart => exact ⟨0, by omega, rfl, by simp⟩
      case round =>
        obtain ⟨j, hj, rfl, rfl⟩ := hrel
        by_cases hjl : j < 2
        · have hj' : j = 0 ∨ j = 1 := by omega
          rcases hj' with rfl | rfl
          · have t0 : (k0 + (i : Int) * 2 != k0 + (i : Int) * 2 + ((0 : Nat) : Int)) = false := by simp
            have e0 : k0 + (i : Int) * 2 + ((0 : Nat) : Int) = k0 + (i : Int) * 2 := by simp
            go_wp2_with fail
            go_round
            case measure => simp [intOf]
            case rel => exact ⟨1, by omega, by go_num, by congr 1⟩
          · have t0 : (k0 + (i : Int) * 2 + 1 != k0 + (i : Int) * 2 + ((1 : Nat) : Int)) = false := by simp
            go_wp2_with fail
            go_round
            case measure => simp [intOf]
            case rel => exact ⟨2, by omega, by go_num, by congr 1; omega⟩
        · have hj2 : j = 2 := by omega
          subst hj2
          go_wp2_with fail
          go_round
          case rel => exact ⟨i + 1, by omega, by go_num, by congr 1; simp only [Int.natCast_add]; omega⟩
          case measure => simp [intOf]; omega
    · have hk : i = n := by omega
      have HK := hide hk; clear hk
      go_wp2
      go_ret
      exact ⟨ret_int (by rw [HK.out]), rfl⟩
theorem heldIntA2S_is (v : Value) (k0 : Int) (n : Nat) (w : World) (h : Is 2 SA2.enc w v (SA2.marks k0 n)) (hm : n ≤ 1048576) (h0 : 0 ≤ k0) (h1 : k0 ≤ 16777216) :
    Calls Try.prog 45 #[v, .int .i64 k0] w fun e w' => e = .returned (.int .i64 (k0 + (n : Int) * 2)) ∧ w = w' := by
  obtain ⟨A, cap, rfl, hr, _, _⟩ := h
  rw [SA2.marks_length]
  exact heldIntA2S_any A cap n k0 w hr hm h0 h1
end Go.Proofs.Ytomcdkkjknphpaa
