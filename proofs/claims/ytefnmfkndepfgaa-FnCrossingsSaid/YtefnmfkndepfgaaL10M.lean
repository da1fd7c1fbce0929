/- Contracts of DetourOf, in impl and spec: the Lean function detourV. No condition. -/
import Derived.Test.YtefnmfkndepfgaaL10L
namespace Go.Proofs.Ytefnmfkndepfgaa
open Go.RowKit Go.Lib
set_option linter.unusedVariables false
theorem specDetourOf_any (v : Value) (xs : List SCorner) (w : World) (h : Is 2 SCorner.enc w v xs) :
    Calls Try.prog 34 #[v] w fun e w' => e = .returned (.tuple #[.int .i64 (detourV xs).1, .int .i64 (detourV xs).2.1, .bool (detourV xs).2.2]) ∧ Below w.heap.size w w' := by
  have hga := fun n : Later w => l10Good_is v xs n.W (h.below n.h (Nat.le_refl _))
  by_cases h1 : roadB xs = true
  case neg =>
    rw [show detourV xs = (0, 0, false) by simp [detourV, h1]]
    rw [Bool.not_eq_true] at h1
    rw [h1] at hga
    have HGa := hide hga; clear hga h
    go_enter Try.func34, Try.ntmps34
    go_wp2_with fail
    (refine wp_region_later (by kernel_rfl) (by kernel_rfl) ?_; (repeat (go_big_quiet_step ((go_at_call 53; (with_reducible exact later_call (HGa.out _)))))); refine wpQuiet_nil ?_; intro _ hw'; obtain ⟨nq, hw''⟩ := hw'; subst hw'')
    have B2 := bstep (Below.refl w.heap.size w) nq.h (Nat.le_refl _)
    generalize nq.W = W2 at B2
    go_wp2_with fail
    go_ret3
    exact ⟨rfl, B2⟩
  rw [h1] at hga
  have HGa := hide hga; clear hga
  obtain ⟨l1, l2⟩ := road_len h1
  have HI := hide h; have HOK := hide h1
  obtain ⟨A, cap, rfl, hr, _, _⟩ := h
  obtain ⟨m, hm⟩ : ∃ m, xs.length = m + 1 := ⟨xs.length - 1, by omega⟩
  obtain ⟨b, off, rfl, hb, d0, d1⟩ := SCorner.cells hr (i := 0) (by omega) (Below.refl _ _)
  obtain ⟨b', off', hA, hb', c0, c1⟩ := SCorner.cells hr (i := m) (by omega) (Below.refl _ _)
  injection hA with hA; injection hA with hA1 hA2; subst hA1 hA2
  rw [Nat.zero_mul, Nat.add_zero] at d0 d1
  have hdef : detourV xs = if !sameC xs[0].x xs[0].y xs[m].x xs[m].y then ((fracI (lensL xs).sum (partI xs[0].x xs[0].y xs[m].x xs[m].y)).1, (fracI (lensL xs).sum (partI xs[0].x xs[0].y xs[m].x xs[m].y)).2, true) else (0, 0, false) := by
    unfold detourV
    rw [show xs.length - 1 = m by omega, getD_lt _ (show m < xs.length by omega), getD_lt _ (show 0 < xs.length by omega), h1, Bool.true_and]
  have i0 := road_corn h1 (i := 0) (by omega)
  have i1 := road_corn h1 (i := m) (by omega)
  have hrun := SCorner.eql_run
  have n0 := fun n => later_cell c0 n; have n1 := fun n => later_cell c1 n
  have n2 := fun n => later_cell d0 n; have n3 := fun n => later_cell d1 n
  clear hr c0 c1 d0 d1
  have hidx : ((xs.length : Int) - 1).toNat = m := by omega
  generalize xs[m].x = bx at n0 hdef i1; generalize xs[m].y = b_ at n1 hdef i1
  generalize xs[0].x = ax at n2 hdef i0; generalize xs[0].y = ay at n3 hdef i0
  clear hm
  by_cases h3 : sameC ax ay bx b_ = true
  · rw [hdef, h3]
    clear hdef h1 i0 i1
    show Calls Try.prog 34 _ _ fun e w' => e = .returned (.tuple #[.int .i64 0, .int .i64 0, .bool false]) ∧ Below w.heap.size w w'
    go_enter Try.func34, Try.ntmps34
    go_wp2_with fail
    (refine wp_region_later (by kernel_rfl) (by kernel_rfl) ?_; (repeat (go_big_quiet_step ((go_at_call 53; (with_reducible exact later_call (HGa.out _)))))); refine wpQuiet_nil ?_; intro _ hw'; obtain ⟨nq, hw''⟩ := hw'; subst hw'')
    have B2 := bstep (Below.refl w.heap.size w) nq.h (Nat.le_refl _)
    generalize nq.W = W2 at B2
    go_wp2_with fail
    go_ret3
    exact ⟨rfl, B2⟩
  have hne : ¬ (ax = bx ∧ ay = b_) := fun h => h3 (sameC_iff.2 h)
  rw [Bool.not_eq_true] at h3
  rw [hdef, h3]
  show Calls Try.prog 34 _ _ fun e w' => e = .returned (.tuple #[.int .i64 (fracI (lensL xs).sum (partI ax ay bx b_)).1, .int .i64 (fracI (lensL xs).sum (partI ax ay bx b_)).2, .bool true]) ∧ Below w.heap.size w w'
  obtain ⟨s0, s1⟩ := sumN_bd HOK.out (xs.length - 1) (by omega)
  change 0 ≤ (lensL xs).sum at s0
  change (lensL xs).sum ≤ _ at s1
  obtain ⟨p0, p1⟩ := part_bd i0 i1
  have p2 := part_pos hne
  have hpart := fun W => l10Part_any ax ay bx b_ W i0 i1
  have hfrac := fun W => l2Reduce_any (lensL xs).sum (partI ax ay bx b_) W s0 (by omega) p2 (by omega)
  have hlen := fun n : Later w => l10Length_any (.slice (some ⟨b, off, none⟩) xs.length cap) xs n.W (HI.out.below n.h (Nat.le_refl _)) HOK.out
  have HL := hide hlen; clear hlen
  generalize partI ax ay bx b_ = P at hpart hfrac ⊢
  generalize fracI (lensL xs).sum P = R at hfrac ⊢
  have HP := hide hpart; have HF := hide hfrac
  clear hpart hfrac hdef h1 i0 i1 hne p0 p1 p2 s0 s1
  go_enter Try.func34, Try.ntmps34
  go_wp2_with fail
  (refine wp_region_later (by kernel_rfl) (by kernel_rfl) ?_; (repeat (go_big_quiet_step ((go_at_call 53; (with_reducible exact later_call (HGa.out _)))))); refine wpQuiet_nil ?_; intro _ hw'; obtain ⟨nq, hw''⟩ := hw'; subst hw'')
  have B2 := bstep (Below.refl w.heap.size w) nq.h (Nat.le_refl _)
  have m0 := n0 nq; have m1 := n1 nq; have m2 := n2 nq; have m3 := n3 nq
  generalize nq.W = W2 at B2 m0 m1 m2 m3
  clear nq n0 n1 n2 n3 h3 hrun
  have n0 := fun n => later_cell m0 n; have n1 := fun n => later_cell m1 n
  have n2 := fun n => later_cell m2 n; have n3 := fun n => later_cell m3 n
  have hlen := fun n : Later W2 => l10Length_any (.slice (some ⟨b, off, none⟩) xs.length cap) xs n.W (HI.out.below (B2.trans (n.h.mono B2.size)) (Nat.le_refl _)) HOK.out
  generalize (lensL xs).sum = S at hlen HF
  replace HL := hide hlen; clear hlen
  go_wp2_with fail
  (refine wp_region_later (by kernel_rfl) (by kernel_rfl) ?_; (repeat (go_big_quiet_step ((first | (go_at_call 62; exact later_call (HL.out _)) | (go_at_call 66; exact later_call (HP.out _)) | (go_at_call 67; exact later_call (HF.out _)))))); refine wpQuiet_nil ?_; intro _ hw'; obtain ⟨nq, hw''⟩ := hw'; subst hw'')
  have B3 := bstep B2 nq.h B2.size
  generalize nq.W = W3 at B3
  go_wp2_with fail
  go_ret3
  exact ⟨rfl, B3⟩
theorem implDetourOf_any (v : Value) (xs : List SCorner) (w : World) (h : Is 2 SCorner.enc w v xs) :
    Calls Try.prog 35 #[v] w fun e w' => e = .returned (.tuple #[.int .i64 (detourV xs).1, .int .i64 (detourV xs).2.1, .bool (detourV xs).2.2]) ∧ Below w.heap.size w w' := by
  have hga := fun n : Later w => implIsRoadLine_any v xs n.W (h.below n.h (Nat.le_refl _))
  by_cases h1 : roadB xs = true
  case neg =>
    rw [show detourV xs = (0, 0, false) by simp [detourV, h1]]
    rw [Bool.not_eq_true] at h1
    rw [h1] at hga
    have HGa := hide hga; clear hga h
    go_enter Try.func35, Try.ntmps35
    go_wp2_with fail
    (refine wp_region_later (by kernel_rfl) (by kernel_rfl) ?_; (repeat (go_big_quiet_step ((go_at_call 18; (with_reducible exact later_call (HGa.out _)))))); refine wpQuiet_nil ?_; intro _ hw'; obtain ⟨nq, hw''⟩ := hw'; subst hw'')
    have B2 := bstep (Below.refl w.heap.size w) nq.h (Nat.le_refl _)
    generalize nq.W = W2 at B2
    go_wp2_with fail
    go_ret3
    exact ⟨rfl, B2⟩
  rw [h1] at hga
  have HGa := hide hga; clear hga
  obtain ⟨l1, l2⟩ := road_len h1
  have HI := hide h; have HOK := hide h1
  obtain ⟨A, cap, rfl, hr, _, _⟩ := h
  obtain ⟨m, hm⟩ : ∃ m, xs.length = m + 1 := ⟨xs.length - 1, by omega⟩
  obtain ⟨b, off, rfl, hb, d0, d1⟩ := SCorner.cells hr (i := 0) (by omega) (Below.refl _ _)
  obtain ⟨b', off', hA, hb', c0, c1⟩ := SCorner.cells hr (i := m) (by omega) (Below.refl _ _)
  injection hA with hA; injection hA with hA1 hA2; subst hA1 hA2
  rw [Nat.zero_mul, Nat.add_zero] at d0 d1
  have hdef : detourV xs = if !sameC xs[0].x xs[0].y xs[m].x xs[m].y then ((fracI (lensL xs).sum (partI xs[0].x xs[0].y xs[m].x xs[m].y)).1, (fracI (lensL xs).sum (partI xs[0].x xs[0].y xs[m].x xs[m].y)).2, true) else (0, 0, false) := by
    unfold detourV
    rw [show xs.length - 1 = m by omega, getD_lt _ (show m < xs.length by omega), getD_lt _ (show 0 < xs.length by omega), h1, Bool.true_and]
  have i0 := road_corn h1 (i := 0) (by omega)
  have i1 := road_corn h1 (i := m) (by omega)
  have hrun := SCorner.eql_run
  have n0 := fun n => later_cell c0 n; have n1 := fun n => later_cell c1 n
  have n2 := fun n => later_cell d0 n; have n3 := fun n => later_cell d1 n
  clear hr c0 c1 d0 d1
  have hidx : ((xs.length : Int) - 1).toNat = m := by omega
  generalize xs[m].x = bx at n0 hdef i1; generalize xs[m].y = b_ at n1 hdef i1
  generalize xs[0].x = ax at n2 hdef i0; generalize xs[0].y = ay at n3 hdef i0
  clear hm
  by_cases h3 : sameC ax ay bx b_ = true
  · rw [hdef, h3]
    clear hdef h1 i0 i1
    show Calls Try.prog 35 _ _ fun e w' => e = .returned (.tuple #[.int .i64 0, .int .i64 0, .bool false]) ∧ Below w.heap.size w w'
    go_enter Try.func35, Try.ntmps35
    go_wp2_with fail
    (refine wp_region_later (by kernel_rfl) (by kernel_rfl) ?_; (repeat (go_big_quiet_step ((go_at_call 18; (with_reducible exact later_call (HGa.out _)))))); refine wpQuiet_nil ?_; intro _ hw'; obtain ⟨nq, hw''⟩ := hw'; subst hw'')
    have B2 := bstep (Below.refl w.heap.size w) nq.h (Nat.le_refl _)
    generalize nq.W = W2 at B2
    go_wp2_with fail
    go_ret3
    exact ⟨rfl, B2⟩
  have hne : ¬ (ax = bx ∧ ay = b_) := fun h => h3 (sameC_iff.2 h)
  rw [Bool.not_eq_true] at h3
  rw [hdef, h3]
  show Calls Try.prog 35 _ _ fun e w' => e = .returned (.tuple #[.int .i64 (fracI (lensL xs).sum (partI ax ay bx b_)).1, .int .i64 (fracI (lensL xs).sum (partI ax ay bx b_)).2, .bool true]) ∧ Below w.heap.size w w'
  obtain ⟨s0, s1⟩ := sumN_bd HOK.out (xs.length - 1) (by omega)
  change 0 ≤ (lensL xs).sum at s0
  change (lensL xs).sum ≤ _ at s1
  obtain ⟨p0, p1⟩ := part_bd i0 i1
  have p2 := part_pos hne
  have hpart := fun W => partLength_any ax ay bx b_ W i0 i1
  have hfrac := fun W => fraction_any (lensL xs).sum (partI ax ay bx b_) W s0 (by omega) p2 (by omega)
  generalize partI ax ay bx b_ = P at hpart hfrac ⊢
  generalize fracI (lensL xs).sum P = R at hfrac ⊢
  have HP := hide hpart; have HF := hide hfrac
  clear hpart hfrac hdef h1 i0 i1 hne p0 p1 p2 s0 s1
  go_enter Try.func35, Try.ntmps35
  go_wp2_with fail
  (refine wp_region_later (by kernel_rfl) (by kernel_rfl) ?_; (repeat (go_big_quiet_step ((go_at_call 18; (with_reducible exact later_call (HGa.out _)))))); refine wpQuiet_nil ?_; intro _ hw'; obtain ⟨nq, hw''⟩ := hw'; subst hw'')
  have B2 := bstep (Below.refl w.heap.size w) nq.h (Nat.le_refl _)
  have m0 := n0 nq; have m1 := n1 nq; have m2 := n2 nq; have m3 := n3 nq
  generalize nq.W = W2 at B2 m0 m1 m2 m3
  clear nq n0 n1 n2 n3 h3 hrun
  have n0 := fun n => later_cell m0 n; have n1 := fun n => later_cell m1 n
  have n2 := fun n => later_cell m2 n; have n3 := fun n => later_cell m3 n
  have hall := lensL_all HOK.out
  have hll := lensL_len (xs := xs)
  have hsz := B2.size
  have hbW : b < W2.heap.size := by omega
  have HALL := hide hall; have HLL := hide hll; clear hall hll n0 n1 n2 n3
  have p0 : (0 : Int) ≤ (xs.length : Int) - 1 := by omega
  have p1 : (xs.length : Int) - 1 < xs.length := by omega
  have p2 : (0 : Int) < (xs.length : Int) := by omega
  have r1 : IntKind.i64.wrap ((xs.length : Int) - 1) = (xs.length : Int) - 1 := IntWalk.i64_in _ (by omega)
  go_wp2_with fail
  generalize hN : xs.length = N at HI HLL l1 l2 hidx p0 p1 p2 r1 ⊢
  have HN := hide hN; clear hN
  have z0 : 0 < N := by omega
  have z1 : (1 : Int) ≤ (N : Int) := by omega
  have z2 : 1 ≤ N := by omega
  have z3 : (0 : Int) ≤ 0 := by omega
  have z4 : ¬ (N : Int) ≤ 0 := by omega
  have z5 : ¬ N = 0 := by omega
  go_region_held3 (fun w' => w'.cell? ⟨b, off + m * 2, none⟩ = some (.int .i64 bx) ∧ w'.cell? ⟨b, off + m * 2 + 1, none⟩ = some (.int .i64 b_) ∧ w'.cell? ⟨b, off, none⟩ = some (.int .i64 ax) ∧ w'.cell? ⟨b, off + 1, none⟩ = some (.int .i64 ay)) (go_keep)
    (first
      | (go_at_call 64; refine (lengths_any _ xs _ (HI.out.below B2.drew (Nat.le_refl _)) HOK.out).mono ?_; rintro e w3 ⟨r, rfl, ho, hb3⟩; have hc3 : ∀ o, w3.cell? ⟨b, o, none⟩ = W2.cell? ⟨b, o, none⟩ := (fun o => hb3.cell (p := ⟨b, o, none⟩) hbW); have B3 := bstep B2.drew hb3 hsz; have hs3 : w.heap.size ≤ w3.heap.size := B3.size; have HO := hide ho; clear ho hb3)
      | (go_at_call 63; refine (sum_any _ (lensL xs) _ HO.out.is 2000000 (by omega) (by rw [HLL.out]; omega) HALL.out).mono ?_; rintro e w' ⟨rfl, rfl⟩)
      | (go_at_call 69; refine (HP.out _).mono ?_; rintro e w4 ⟨rfl, hb4⟩; have hc4 : ∀ o, w4.cell? ⟨b, o, none⟩ = W2.cell? ⟨b, o, none⟩ := (fun o => (hb4.cell (p := ⟨b, o, none⟩) (by show b < w3.heap.size; omega)).trans (hc3 o)); have B4 := bstep B3 hb4 hs3; have hs4 : w.heap.size ≤ w4.heap.size := B4.size; clear hb4)
      | (go_at_call 68; refine (HF.out _).mono ?_; rintro e w5 ⟨rfl, hb5⟩; have hc5 : ∀ o, w5.cell? ⟨b, o, none⟩ = W2.cell? ⟨b, o, none⟩ := (fun o => (hb5.cell (p := ⟨b, o, none⟩) (by show b < w4.heap.size; omega)).trans (hc4 o)); have B5 := bstep B4 hb5 hs4; clear hb5))
  all_goals
    go_wp2_with fail
    go_ret3
    exact ⟨rfl, B5⟩
end Go.Proofs.Ytefnmfkndepfgaa
