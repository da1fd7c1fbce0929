/- Contract of spec's IsClearRoad: the Lean function clearV. No condition. -/
import Derived.Test.YtefnmfkndepfgaaL10T
namespace Go.Proofs.Ytefnmfkndepfgaa
open Go.RowKit Go.Lib
set_option linter.unusedVariables false
theorem clearB_no {xs : List SCorner} {p : Nat} (hp : p + 1 < xs.length) (h : (bendOk xs p && rowAll xs p) = false) : clearB xs = false := by
  unfold clearB
  rw [List.all_eq_false]
  exact ⟨p, List.mem_range.2 (by omega), by rw [h]; simp⟩
set_option maxHeartbeats 1000000 in
theorem specIsClearRoad_any (v : Value) (xs : List SCorner) (w : World) (h : Is 2 SCorner.enc w v xs) :
    Calls Try.prog 49 #[v] w fun e w' => e = .returned (.tuple #[.bool (clearV xs).1, .bool (clearV xs).2]) ∧ Below w.heap.size w w' := by
  have hgood := l10Good_is v xs w h
  have HI := hide h; clear h
  by_cases hok : roadB xs = true
  case neg =>
    rw [show clearV xs = (false, false) by simp [clearV, hok]]
    rw [Bool.not_eq_true] at hok
    rw [hok] at hgood
    have HG := hide hgood; clear hgood
    go_enter Try.func49, Try.ntmps49
    go_wp2_with fail
    refine HG.out.mono ?_; rintro e w1 ⟨rfl, hb1⟩
    go_wp2_with fail
    go_ret2
    exact ⟨rfl, hb1⟩
  rw [show clearV xs = (clearB xs, true) by simp [clearV, hok]]
  rw [hok] at hgood
  obtain ⟨hl2, hl12⟩ := road_len hok
  have HG := hide hgood; have HOK := hide hok; clear hgood hok
  go_enter Try.func49, Try.ntmps49
  go_wp2_with fail
  refine HG.out.mono ?_; rintro e w1 ⟨rfl, hb1⟩
  have hI1 := HI.out.below hb1 (Nat.le_refl _)
  obtain ⟨A, cap, rfl, hr, _, _⟩ := hI1
  have s1 := hb1.size
  generalize hB : w1.heap.size = B at hr s1
  have HB := hide hB; have HR := hide hr; clear hB hr
  go_wp2_with fail
  go_loopw [4] (fun k wr => ∃ p : Nat, p + 1 ≤ xs.length ∧ k = .int .i64 ((p : Int) + 1) ∧ (List.range p).all (fun p => bendOk xs p && rowAll xs p) = true ∧ Below B w1 wr) (fun k _ => xs.length - (intOf k).toNat)
  case atStart => exact ⟨0, by omega, rfl, by simp, Below.refl _ _⟩
  case round =>
    obtain ⟨p, hp, rfl, hall, hbel0⟩ := hrel
    have HALL := hide hall; clear hall
    have hsz0 : B ≤ wr.heap.size := by have := hbel0.size; rw [HB.out] at this; exact this
    by_cases hlp : p + 1 < xs.length
    · have hlp' : (p : Int) + 1 < (xs.length : Int) := by omega
      by_cases hl3 : p + 2 < xs.length
      · have hl3' : (p : Int) + 1 + 1 < (xs.length : Int) := by omega
        obtain ⟨b, off, hA0, hb, c0, c1⟩ := SCorner.cells HR.out (i := p) (by omega) hbel0
        obtain ⟨b', off', hA, hb', d0, d1⟩ := SCorner.cells HR.out (i := p + 1) (by omega) hbel0
        rw [hA0] at hA; injection hA with hA; injection hA with hA1 hA2; subst hA1 hA2
        obtain ⟨b', off', hA, hb', e0, e1⟩ := SCorner.cells HR.out (i := p + 2) (by omega) hbel0
        rw [hA0] at hA; injection hA with hA; injection hA with hA1 hA2; subst hA1 hA2
        subst hA0
        have hcall := fun W => l10Bend_any _ _ _ _ _ _ W (road_corn HOK.out (i := p) (by omega)) (road_corn HOK.out (i := p + 1) (by omega)) (road_corn HOK.out (i := p + 2) (by omega))
        rw [← bendAt_eq hl3] at hcall
        have n0 := fun n => later_cell c0 n; have n1 := fun n => later_cell c1 n
        have n2 := fun n => later_cell d0 n; have n3 := fun n => later_cell d1 n
        have n4 := fun n => later_cell e0 n; have n5 := fun n => later_cell e1 n
        generalize xs[p].x = ax at *; generalize xs[p].y = ay at *
        generalize xs[p+1].x = bx at *; generalize xs[p+1].y = b_ at *
        generalize xs[p+2].x = cx at *; generalize xs[p+2].y = cy at *
        have hbo : bendOk xs p = !(bendAt xs p == 98) := by unfold bendOk; rw [decide_eq_true hl3, Bool.true_and]
        have HC := hide hcall; clear hcall
        generalize hu : bendAt xs p = u at hbo HC
        cases hq : (u == 98) with
        | true =>
          rw [hq] at hbo
          have HBO := hide hbo; clear hbo hu
          go_wp2_with fail
          (refine wp_region_later (by kernel_rfl) (by kernel_rfl) ?_; (repeat (go_big_quiet_step ((go_at_call 58; exact later_call (HC.out _))))); refine wpQuiet_nil ?_; intro _ hw'; obtain ⟨nq, hw''⟩ := hw'; subst hw'')
          have B3 := bstep hbel0 nq.h hsz0
          generalize nq.W = W3 at B3
          go_wp2_with fail
          go_ret2
          refine ⟨?_, hb1.trans (B3.mono s1)⟩
          rw [clearB_no (p := p) (by omega) (by rw [HBO.out]; rfl)]
          rfl
        | false =>
          rw [hq] at hbo
          have HBO := hide hbo; clear hbo hu
          go_wp2_with fail
          (refine wp_region_later (by kernel_rfl) (by kernel_rfl) ?_; (repeat (go_big_quiet_step ((go_at_call 58; exact later_call (HC.out _))))); refine wpQuiet_nil ?_; intro _ hw'; obtain ⟨nq, hw''⟩ := hw'; subst hw'')
          have BEL0 := bstep hbel0 nq.h hsz0
          generalize nq.W = W3 at BEL0
          clear n0 n1 n2 n3 n4 n5 c0 c1 d0 d1 e0 e1 nq hq
          go_wp2_with fail
          go_loopw [5] (fun k wr => ∃ r : Nat, p + 2 ≤ r ∧ (r + 1 ≤ xs.length ∨ r = p + 2) ∧ k = .int .i64 ((r : Int) + 1) ∧ rowFree xs p (r - (p + 2)) = true ∧ Below B w1 wr) (fun k _ => xs.length - (intOf k).toNat)
          case atStart => exact ⟨p + 2, Nat.le_refl _, .inr rfl, by go_num, by simp [rowFree], BEL0⟩
          case round =>
            obtain ⟨r, hr1, hr2, rfl, hfree, hbel⟩ := hrel
            have HFR := hide hfree; clear hfree
            have hsz : B ≤ wr.heap.size := by have := hbel.size; rw [HB.out] at this; exact this
            by_cases hlt : r + 1 < xs.length
            · obtain ⟨b, off, hA0, hb, c0, c1⟩ := SCorner.cells HR.out (i := p) (by omega) hbel
              injection hA0 with hA0; injection hA0 with hA1 hA2; subst hA1 hA2
              obtain ⟨b', off', hA, hb', d0, d1⟩ := SCorner.cells HR.out (i := p + 1) (by omega) hbel
              injection hA with hA; injection hA with hA1 hA2; subst hA1 hA2
              obtain ⟨b', off', hA, hb', e0, e1⟩ := SCorner.cells HR.out (i := r) (by omega) hbel
              injection hA with hA; injection hA with hA1 hA2; subst hA1 hA2
              obtain ⟨b', off', hA, hb', f0, f1⟩ := SCorner.cells HR.out (i := r + 1) (by omega) hbel
              injection hA with hA; injection hA with hA1 hA2; subst hA1 hA2
              have i0 := road_corn HOK.out (i := p) (by omega)
              have i1 := road_corn HOK.out (i := p + 1) (by omega)
              have i2 := road_corn HOK.out (i := r) (by omega)
              have i3 := road_corn HOK.out (i := r + 1) (by omega)
              have hcall := fun W => l10Cross_any _ _ _ _ _ _ _ _ W i0 i1 i2 i3
              have hpair := pairAt_eq (xs := xs) (i := p) (k := r) (by omega) hlt

              clear i0 i1 i2 i3
              generalize xs[p].x = ax at *; generalize xs[p].y = ay at *
              generalize xs[p+1].x = bx at *; generalize xs[p+1].y = b_ at *
              generalize xs[r].x = px at *; generalize xs[r].y = py at *
              generalize xs[r+1].x = qx at *; generalize xs[r+1].y = qy at *
              rw [← hpair] at hcall
              have n0 := fun n => later_cell c0 n; have n1 := fun n => later_cell c1 n
              have n2 := fun n => later_cell d0 n; have n3 := fun n => later_cell d1 n
              have n4 := fun n => later_cell e0 n; have n5 := fun n => later_cell e1 n
              have n6 := fun n => later_cell f0 n; have n7 := fun n => later_cell f1 n
              cases hpr : pairAt xs p r with
              | true =>
                rw [hpr] at hcall
                have HC := hide hcall
                have HPR := hide hpr
                clear hcall hpr hpair
                go_wp2_with fail
                (refine wp_region_later (by kernel_rfl) (by kernel_rfl) ?_; (repeat (go_big_quiet_step ((go_at_call 70; exact later_call (HC.out _))))); refine wpQuiet_nil ?_; intro _ hw'; obtain ⟨nq, hw''⟩ := hw'; subst hw'')
                have B3 := bstep hbel nq.h hsz
                generalize nq.W = W3 at B3
                go_wp2_with fail
                go_ret2
                refine ⟨?_, hb1.trans (B3.mono s1)⟩
                rw [clearB_no (p := p) (by omega) (by rw [show rowAll xs p = false from rowFree_no (t := r - (p + 2)) (by omega) (by rw [show p + 2 + (r - (p + 2)) = r by omega]; exact HPR.out), Bool.and_false])]
                rfl
              | false =>
                rw [hpr] at hcall
                have HC := hide hcall
                have HPR := hide hpr
                clear hcall hpr hpair
                go_wp2_with fail
                (refine wp_region_later (by kernel_rfl) (by kernel_rfl) ?_; (repeat (go_big_quiet_step ((go_at_call 70; exact later_call (HC.out _))))); refine wpQuiet_nil ?_; intro _ hw'; obtain ⟨nq, hw''⟩ := hw'; subst hw'')
                have B3 := bstep hbel nq.h hsz
                generalize nq.W = W3 at B3
                go_wp2_with fail
                go_round
                case measure => (simp [intOf] <;> omega)
                case rel =>
                refine ⟨r + 1, by omega, .inl (by omega), by go_num, ?_, B3⟩
                rw [show r + 1 - (p + 2) = (r - (p + 2)) + 1 by omega, rowFree_succ, HFR.out, show p + 2 + (r - (p + 2)) = r by omega, HPR.out]; rfl
            · have hrow : rowAll xs p = true := by unfold rowAll; rw [show xs.length - (p + 3) = r - (p + 2) by omega]; exact HFR.out
              have HROW := hide hrow; clear hrow
              have hge : ¬ ((r : Int) + 1 < xs.length) := by omega
              go_wp2_with fail
              go_round
              case measure => (simp [intOf] <;> omega)
              case rel =>
              refine ⟨p + 1, by omega, by go_num, ?_, hbel⟩
              rw [List.range_succ, List.all_append, HALL.out]; simp [HROW.out, HBO.out]
      · have hl3' : ¬ ((p : Int) + 1 + 1 < (xs.length : Int)) := by omega
        have hl4 : decide ((p : Int) + 1 + 1 < (xs.length : Int)) = false := decide_eq_false hl3'
        have hbo : bendOk xs p = true := by unfold bendOk; rw [decide_eq_false hl3]; rfl
        have HBO := hide hbo; clear hbo
        go_wp2_with fail
        (refine wp_region_later (by kernel_rfl) (by kernel_rfl) ?_; (repeat (go_big_quiet_step (fail))); refine wpQuiet_nil ?_; intro _ hw'; obtain ⟨nq, hw''⟩ := hw'; subst hw'')
        have BEL0 := bstep hbel0 nq.h hsz0
        generalize nq.W = W3 at BEL0
        clear nq
        go_wp2_with fail
        go_loopw [5] (fun k wr => ∃ r : Nat, p + 2 ≤ r ∧ (r + 1 ≤ xs.length ∨ r = p + 2) ∧ k = .int .i64 ((r : Int) + 1) ∧ rowFree xs p (r - (p + 2)) = true ∧ Below B w1 wr) (fun k _ => xs.length - (intOf k).toNat)
        case atStart => exact ⟨p + 2, Nat.le_refl _, .inr rfl, by go_num, by simp [rowFree], BEL0⟩
        case round =>
          obtain ⟨r, hr1, hr2, rfl, hfree, hbel⟩ := hrel
          have HFR := hide hfree; clear hfree
          have hsz : B ≤ wr.heap.size := by have := hbel.size; rw [HB.out] at this; exact this
          by_cases hlt : r + 1 < xs.length
          · exfalso; omega
          · have hrow : rowAll xs p = true := by unfold rowAll; rw [show xs.length - (p + 3) = r - (p + 2) by omega]; exact HFR.out
            have HROW := hide hrow; clear hrow
            have hge : ¬ ((r : Int) + 1 < xs.length) := by omega
            go_wp2_with fail
            go_round
            case measure => (simp [intOf] <;> omega)
            case rel =>
            refine ⟨p + 1, by omega, by go_num, ?_, hbel⟩
            rw [List.range_succ, List.all_append, HALL.out]; simp [HROW.out, HBO.out]
    · have hk : xs.length - 1 = p := by omega
      have HK := hide hk; clear hk
      have hge : ¬ ((p : Int) + 1 < xs.length) := by omega
      go_wp2_with fail
      go_ret2
      refine ⟨?_, hb1.trans (hbel0.mono s1)⟩
      unfold clearB
      rw [HK.out, HALL.out]
      rfl
end Go.Proofs.Ytefnmfkndepfgaa
