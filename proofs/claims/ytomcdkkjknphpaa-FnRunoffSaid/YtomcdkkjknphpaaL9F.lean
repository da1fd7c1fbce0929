/- Contracts of NextSquare, in impl and spec: the Lean function nextV. No condition. -/
import Derived.Test.YtomcdkkjknphpaaL9E
namespace Go.Proofs.Ytomcdkkjknphpaa
open Go.RowKit
set_option linter.unusedVariables false
def nextV (xss : List (List Int)) (r c : Int) : (Int × Int) × Bool := if listedG xss r c && runN xss r c then (((bestN xss r c).x, (bestN xss r c).y), true) else ((0, 0), false)
theorem listed_parts {xss : List (List Int)} {r c : Int} (h : listedG xss r c = true) : reliefB xss = true ∧ (0 ≤ r ∧ r < xss.length) ∧ (0 ≤ c ∧ c < hdLen xss) := by
  unfold listedG at h
  rw [Bool.and_eq_true] at h
  exact ⟨h.1, hasSq_of.1 h.2⟩
set_option maxHeartbeats 1000000 in
theorem specNextSquare_any (v : Value) (xss : List (List Int)) (r c : Int) (w : World) (h : IsG w v xss) :
    Calls Try.prog 35 #[v, .int .i64 r, .int .i64 c] w fun e w' => e = .returned (.tuple #[.int .i64 (nextV xss r c).1.1, .int .i64 (nextV xss r c).1.2, .bool (nextV xss r c).2]) ∧ Below w.heap.size w w' := by
  have hsq := l9Square_is v xss r c w h
  by_cases hl : listedG xss r c = true
  case neg =>
    rw [Bool.not_eq_true] at hl
    rw [show nextV xss r c = ((0, 0), false) by unfold nextV; rw [hl]; rfl]
    rw [hl] at hsq
    have HS := hide hsq; clear hsq hl h
    go_enter Try.func35, Try.ntmps35
    go_wp2_with fail
    refine HS.out.mono ?_; rintro e w1 ⟨rfl, hb1⟩
    go_wp2_with fail
    go_ret3
    exact ⟨rfl, hb1⟩
  rw [hl] at hsq
  obtain ⟨hrel, hr, hc⟩ := listed_parts hl
  have hnext := fun W (hb : Below w.heap.size w W) => l9Next_is v xss r c W (h.below hb (Nat.le_refl _)) hrel hr hc
  have hV : nextV xss r c = if runN xss r c then (((bestN xss r c).x, (bestN xss r c).y), true) else ((0, 0), false) := by unfold nextV; rw [hl, Bool.true_and]
  rw [hV]
  generalize runN xss r c = rt at *
  generalize (bestN xss r c).x = qx at *
  generalize (bestN xss r c).y = qy at *
  have HS := hide hsq; have HN := hide hnext; clear hsq hnext hl h hrel hr hc hV
  cases rt with
  | false =>
    go_enter Try.func35, Try.ntmps35
    go_wp2_with fail
    refine HS.out.mono ?_; rintro e w1 ⟨rfl, hb1⟩
    go_wp2_with fail
    refine (HN.out _ hb1).mono ?_; rintro e w2 ⟨rfl, hb2⟩
    have B2 := bstep hb1 hb2 hb1.size
    have B3 := B2.alloc B2.size (.cells #[.int .i64 qx, .int .i64 qy] 50)
    go_wp2_with fail
    go_ret3
    exact ⟨rfl, B3⟩
  | true =>
    go_enter Try.func35, Try.ntmps35
    go_wp2_with fail
    refine HS.out.mono ?_; rintro e w1 ⟨rfl, hb1⟩
    go_wp2_with fail
    refine (HN.out _ hb1).mono ?_; rintro e w2 ⟨rfl, hb2⟩
    have B2 := bstep hb1 hb2 hb1.size
    have B3 := B2.alloc B2.size (.cells #[.int .i64 qx, .int .i64 qy] 50)
    have hbx := fun n : Later (w2.alloc (.cells #[.int .i64 qx, .int .i64 qy] 50)) => (Blk.new w2 50 #[.int .i64 qx, .int .i64 qy]).below n.h (by simp)
    have m0 := fun n => (((hbx n).cell 0) : n.W.cell? ⟨w2.heap.size, 0, none⟩ = some (.int .i64 qx))
    have m1 := fun n => (((hbx n).cell 1) : n.W.cell? ⟨w2.heap.size, 1, none⟩ = some (.int .i64 qy))
    clear hbx
    go_wp2_with fail
    (refine wp_region_later (by kernel_rfl) (by kernel_rfl) ?_; (repeat (go_big_quiet_step (fail))); refine wpQuiet_nil ?_; intro _ hw'; obtain ⟨nq, hw''⟩ := hw'; subst hw'')
    have B4 := B3.trans (nq.h.mono B3.size)
    go_wp2_with fail
    go_ret3
    exact ⟨rfl, B4⟩
set_option maxHeartbeats 1000000 in
theorem implNextSquare_any (v : Value) (xss : List (List Int)) (r c : Int) (w : World) (h : IsG w v xss) :
    Calls Try.prog 34 #[v, .int .i64 r, .int .i64 c] w fun e w' => e = .returned (.tuple #[.int .i64 (nextV xss r c).1.1, .int .i64 (nextV xss r c).1.2, .bool (nextV xss r c).2]) ∧ Below w.heap.size w w' := by
  have hsq := isListedSquare_is v xss r c w h
  by_cases hl : listedG xss r c = true
  case neg =>
    rw [Bool.not_eq_true] at hl
    rw [show nextV xss r c = ((0, 0), false) by unfold nextV; rw [hl]; rfl]
    rw [hl] at hsq
    have HS := hide hsq; clear hsq hl h
    go_enter Try.func34, Try.ntmps34
    go_wp2_with fail
    refine HS.out.mono ?_; rintro e w1 ⟨rfl, hb1⟩
    go_wp2_with fail
    go_ret3
    exact ⟨rfl, hb1⟩
  rw [hl] at hsq
  obtain ⟨hrel, hr, hc⟩ := listed_parts hl
  have hnext := fun W (hb : Below w.heap.size w W) => next_is v xss r c W (h.below hb (Nat.le_refl _)) hrel hr hc
  have hV : nextV xss r c = if runN xss r c then (((bestN xss r c).x, (bestN xss r c).y), true) else ((0, 0), false) := by unfold nextV; rw [hl, Bool.true_and]
  rw [hV]
  generalize runN xss r c = rt at *
  generalize (bestN xss r c).x = qx at *
  generalize (bestN xss r c).y = qy at *
  have HS := hide hsq; have HN := hide hnext; clear hsq hnext hl h hrel hr hc hV
  cases rt with
  | false =>
    go_enter Try.func34, Try.ntmps34
    go_wp2_with fail
    refine HS.out.mono ?_; rintro e w1 ⟨rfl, hb1⟩
    go_wp2_with fail
    refine (HN.out _ hb1).mono ?_; rintro e w2 ⟨rfl, hb2⟩
    have B2 := bstep hb1 hb2 hb1.size
    have B3 := B2.alloc B2.size (.cells #[.int .i64 qx, .int .i64 qy] 50)
    go_wp2_with fail
    go_ret3
    exact ⟨rfl, B3⟩
  | true =>
    go_enter Try.func34, Try.ntmps34
    go_wp2_with fail
    refine HS.out.mono ?_; rintro e w1 ⟨rfl, hb1⟩
    go_wp2_with fail
    refine (HN.out _ hb1).mono ?_; rintro e w2 ⟨rfl, hb2⟩
    have B2 := bstep hb1 hb2 hb1.size
    have B3 := B2.alloc B2.size (.cells #[.int .i64 qx, .int .i64 qy] 50)
    have hbx := fun n : Later (w2.alloc (.cells #[.int .i64 qx, .int .i64 qy] 50)) => (Blk.new w2 50 #[.int .i64 qx, .int .i64 qy]).below n.h (by simp)
    have m0 := fun n => (((hbx n).cell 0) : n.W.cell? ⟨w2.heap.size, 0, none⟩ = some (.int .i64 qx))
    have m1 := fun n => (((hbx n).cell 1) : n.W.cell? ⟨w2.heap.size, 1, none⟩ = some (.int .i64 qy))
    clear hbx
    go_wp2_with fail
    (refine wp_region_later (by kernel_rfl) (by kernel_rfl) ?_; (repeat (go_big_quiet_step (fail))); refine wpQuiet_nil ?_; intro _ hw'; obtain ⟨nq, hw''⟩ := hw'; subst hw'')
    have B4 := B3.trans (nq.h.mono B3.size)
    go_wp2_with fail
    go_ret3
    exact ⟨rfl, B4⟩
end Go.Proofs.Ytomcdkkjknphpaa
