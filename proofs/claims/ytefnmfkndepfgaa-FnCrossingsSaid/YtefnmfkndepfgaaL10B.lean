/- impl.IsRoadLine -/
import Derived.Test.YtefnmfkndepfgaaL10A
namespace Go.Proofs.Ytefnmfkndepfgaa
open Go.RowKit
set_option linter.unusedVariables false
theorem implIsRoadLine_any0 (A : Option Addr) (cap : Nat) (xs : List SCorner) (w : World) (hr : Row 2 SCorner.enc w w.heap.size A xs) (hm : xs.length ≤ 9223372036854775807) :
    Calls Try.prog 18 #[.slice A xs.length cap] w fun e w' => e = .returned (.bool (roadB xs)) ∧ Below w.heap.size w w' := by
  generalize hB : w.heap.size = B at hr ⊢
  have HB := hide hB; clear hB
  have HR := hide hr; clear hr
  go_enter Try.func18, Try.ntmps18
  go_wp2_with fail
  go_loopw [7] (fun i wr => ∃ k : Nat, k ≤ xs.length ∧ i = .int .i64 k ∧ (List.range k).all (cornB xs) = true ∧ Below B w wr) (fun i _ => xs.length - (intOf i).toNat)
  case atStart => exact ⟨0, Nat.zero_le _, rfl, by simp, Below.refl _ _⟩
  case round =>
    obtain ⟨i, hi, rfl, hall, hbel⟩ := hrel
    have hsz : B ≤ wr.heap.size := by have := hbel.size; rw [HB.out] at this; exact this
    have HA := hide hall; clear hall
    by_cases hlt : i < xs.length
    · obtain ⟨b, off, rfl, hb, c0, c1⟩ := SCorner.cells HR.out hlt hbel
      have hn0 : ∀ n : Later (wr.alloc (.cells #[.int .i64 xs[i].x, .int .i64 xs[i].y] 58)), n.W.cell? ⟨wr.heap.size, 0, none⟩ = some (.int .i64 xs[i].x) := later_cell (by simp)
      have hn1 : ∀ n : Later (wr.alloc (.cells #[.int .i64 xs[i].x, .int .i64 xs[i].y] 58)), n.W.cell? ⟨wr.heap.size, 1, none⟩ = some (.int .i64 xs[i].y) := later_cell (by simp)
      have hic := fun W => isCorner_any xs[i].x xs[i].y W
      have hbl := hbel.alloc hsz (.cells #[.int .i64 xs[i].x, .int .i64 xs[i].y] 58)
      have HBL := hide hbl; clear hbl
      by_cases hxy : (inB xs[i].x 0 9999 && inB xs[i].y 0 9999) = true
      case neg =>
        rw [Bool.not_eq_true] at hxy
        have HF := hide (show cornB xs i = false by simp only [cornB, getD_lt _ hlt, hxy, Bool.false_and])
        rw [hxy] at hic
        have HIC := hide hic; clear hic hxy
        generalize xs[i].x = x at c0 hn0 HBL HIC hn1
        generalize xs[i].y = y at c1 hn1 HBL HIC hn0
        go_wp2_with fail
        (refine wp_region_later (by kernel_rfl) (by kernel_rfl) ?_; (repeat (go_big_quiet_step ((go_at_call 55; exact later_alloc (HIC.out _))))); refine wpQuiet_nil ?_; intro _ hw'; obtain ⟨nq, hw''⟩ := hw'; subst hw'')
        go_wp2_with fail
        go_ret
        exact ⟨ret_bool (by unfold roadB; rw [all_range_no hlt HF.out]; rfl), bstep HBL.out nq.h (by simp; omega)⟩
      have HXY := hide hxy
      rw [hxy] at hic
      have HIC := hide hic; clear hic hxy
      by_cases h0 : i = 0
      · subst h0
        have HF := hide (show cornB xs 0 = true by rw [corn_first hlt, HXY.out])
        simp only [Nat.zero_mul, Nat.add_zero] at c0 c1
        generalize xs[0].x = x at c0 hn0 HBL HIC hn1
        generalize xs[0].y = y at c1 hn1 HBL HIC hn0
        go_wp2_with fail
        (refine wp_region_later (by kernel_rfl) (by kernel_rfl) ?_; (repeat (go_big_quiet_step ((go_at_call 55; exact later_alloc (HIC.out _))))); refine wpQuiet_nil ?_; intro _ hw'; obtain ⟨nq, hw''⟩ := hw'; subst hw'')
        go_wp2_with fail
        refine ⟨⟨0 + 1, by omega, by go_num, ?_, bstep HBL.out nq.h (by simp; omega)⟩, by simp [intOf]; omega⟩
        rw [all_range_succ, HA.out, HF.out]; rfl
      · obtain ⟨j, rfl⟩ : ∃ j, i = j + 1 := ⟨i - 1, by omega⟩
        obtain ⟨b', off', hA, hb', d0, d1⟩ := SCorner.cells HR.out (i := j) (by omega) hbel
        injection hA with hA; injection hA with hA1 hA2; subst hA1 hA2
        have hd0 : ∀ n : Later (wr.alloc (.cells #[.int .i64 xs[j+1].x, .int .i64 xs[j+1].y] 58)), n.W.cell? ⟨b, off + j * 2, none⟩ = some (.int .i64 xs[j].x) := later_cell ((World.cell?_alloc_lt wr _ _ (by show b < _; omega)).trans d0)
        have hd1 : ∀ n : Later (wr.alloc (.cells #[.int .i64 xs[j+1].x, .int .i64 xs[j+1].y] 58)), n.W.cell? ⟨b, off + j * 2 + 1, none⟩ = some (.int .i64 xs[j].y) := later_cell ((World.cell?_alloc_lt wr _ _ (by show b < _; omega)).trans d1)
        have hrun := SCorner.eql_run
        have hsame := corn_succ hlt
        rw [HXY.out, Bool.true_and] at hsame
        generalize xs[j+1].x = x at c0 hn0 HBL HIC hn1 hd0 hd1 hsame
        generalize xs[j+1].y = y at c1 hn1 HBL HIC hn0 hd0 hd1 hsame
        generalize xs[j].x = x' at d0 hd0 hsame
        generalize xs[j].y = y' at d1 hd1 hsame
        by_cases he : sameC x y x' y' = true
        · have he' : sameC x' y' x y = true := by rw [sameC_iff] at he ⊢; exact ⟨he.1.symm, he.2.symm⟩
          rw [he'] at hsame
          have HF := hide hsame; clear hsame he'
          go_wp2_with fail
          (refine wp_region_later (by kernel_rfl) (by kernel_rfl) ?_; (repeat (go_big_quiet_step ((go_at_call 55; exact later_alloc (HIC.out _))))); refine wpQuiet_nil ?_; intro _ hw'; obtain ⟨nq, hw''⟩ := hw'; subst hw'')
          go_wp2_with fail
          go_ret
          exact ⟨ret_bool (by unfold roadB; rw [all_range_no hlt HF.out]; rfl), bstep HBL.out nq.h (by simp; omega)⟩
        · have he' : sameC x' y' x y = false := by rw [sameC_iff] at he; rw [← Bool.not_eq_true, sameC_iff]; exact fun h => he ⟨h.1.symm, h.2.symm⟩
          rw [he'] at hsame
          have HF := hide hsame; clear hsame he'
          rw [Bool.not_eq_true] at he
          go_wp2_with fail
          (refine wp_region_later (by kernel_rfl) (by kernel_rfl) ?_; (repeat (go_big_quiet_step ((go_at_call 55; exact later_alloc (HIC.out _))))); refine wpQuiet_nil ?_; intro _ hw'; obtain ⟨nq, hw''⟩ := hw'; subst hw'')
          go_wp2_with fail
          refine ⟨⟨j + 1 + 1, by omega, by go_num, ?_, bstep HBL.out nq.h (by simp; omega)⟩, by simp [intOf]; omega⟩
          rw [all_range_succ, HA.out, HF.out]; rfl
    · have hk : i = xs.length := by omega
      have HK := hide hk; clear hk
      go_wp2_with (first | (go_at_call 56; refine (within_any _ _ _ _).mono ?_; rintro e w' ⟨rfl, rfl⟩))
      go_ret
      refine ⟨ret_bool ?_, hbel⟩
      have := HA.out; rw [HK.out] at this
      unfold roadB; rw [this, Bool.true_and]
theorem implIsRoadLine_any (v : Value) (xs : List SCorner) (w : World) (h : Is 2 SCorner.enc w v xs) :
    Calls Try.prog 18 #[v] w fun e w' => e = .returned (.bool (roadB xs)) ∧ Below w.heap.size w w' := by
  have hm := h.len
  obtain ⟨A, cap, rfl, hr, _, _⟩ := h
  exact implIsRoadLine_any0 A cap xs w hr hm
end Go.Proofs.Ytefnmfkndepfgaa
