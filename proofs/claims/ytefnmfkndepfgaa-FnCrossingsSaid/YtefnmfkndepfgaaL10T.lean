/- Contracts of isClear and of IsClearRoad, in impl and spec. isClear: the list is a road. -/
import Derived.Test.YtefnmfkndepfgaaL10S
namespace Go.Proofs.Ytefnmfkndepfgaa
open Go.RowKit Go.Lib
set_option linter.unusedVariables false
theorem isClear_any (v : Value) (xs : List SCorner) (w : World) (h : Is 2 SCorner.enc w v xs) (hok : roadB xs = true) :
    Calls Try.prog 76 #[v] w fun e w' => e = .returned (.bool (clearB xs)) ∧ Below w.heap.size w w' := by
  obtain ⟨hl2, hl12⟩ := road_len hok
  have HOK := hide hok; have HI := hide h; clear hok h
  rw [clearB_split]
  generalize hany : ((bendsL xs).any fun c => ((98 : UInt8).toNat : Int) == (c.toNat : Int)) = any
  have HANY := hide hany; clear hany
  cases any with
  | true =>
    go_enter Try.func76, Try.ntmps76
    go_wp2_with fail
    refine (bends_any v xs _ HI.out HOK.out).mono ?_; rintro e w1 ⟨rr, rfl, ho, hb1⟩
    obtain ⟨A', cap', rfl, hr', _, _⟩ := ho.row
    have HR' := hide hr'; clear hr' ho
    go_wp2_with fail
    refine (ContainsB_any A' cap' (bendsL xs) 98 _ HR'.out (by have := bendsN_len xs (xs.length - 2); unfold bendsL; omega)).mono ?_; rintro e w' ⟨rfl, rfl⟩
    rw [HANY.out]
    go_wp2_with fail
    go_ret
    exact ⟨rfl, hb1⟩
  | false =>
    rw [Bool.not_false, Bool.true_and]
    go_enter Try.func76, Try.ntmps76
    go_wp2_with fail
    refine (bends_any v xs _ HI.out HOK.out).mono ?_; rintro e w1 ⟨rr, rfl, ho, hb1⟩
    obtain ⟨A', cap', rfl, hr', _, _⟩ := ho.row
    have HR' := hide hr'; clear hr' ho
    go_wp2_with fail
    refine (ContainsB_any A' cap' (bendsL xs) 98 _ HR'.out (by have := bendsN_len xs (xs.length - 2); unfold bendsL; omega)).mono ?_; rintro e w' ⟨rfl, rfl⟩
    rw [HANY.out]
    clear HR'
    have hI1 := HI.out.below hb1 (Nat.le_refl _)
    obtain ⟨A, cap, rfl, hr, _, _⟩ := hI1
    have s1 := hb1.size
    generalize hB : w1.heap.size = B at hr s1
    have HB := hide hB; have HR := hide hr; clear hB hr
    go_wp2_with fail
    go_loopw [3] (fun k wr => ∃ p : Nat, p + 1 ≤ xs.length ∧ k = .int .i64 ((p : Int) + 1) ∧ (List.range p).all (rowAll xs) = true ∧ Below B w1 wr) (fun k _ => xs.length - (intOf k).toNat)
    case atStart => exact ⟨0, by omega, rfl, by simp, Below.refl _ _⟩
    case round =>
      obtain ⟨p, hp, rfl, hall, hbel0⟩ := hrel
      have HALL := hide hall; clear hall
      by_cases hlp : p + 1 < xs.length
      · have hlp' : (p : Int) + 1 < (xs.length : Int) := by omega
        go_wp2_with fail
        go_loopw [4] (fun k wr => ∃ r : Nat, p + 2 ≤ r ∧ (r + 1 ≤ xs.length ∨ r = p + 2) ∧ k = .int .i64 ((r : Int) + 1) ∧ rowFree xs p (r - (p + 2)) = true ∧ Below B w1 wr) (fun k _ => xs.length - (intOf k).toNat)
        case atStart => exact ⟨p + 2, Nat.le_refl _, .inr rfl, by go_num, by simp [rowFree], hbel0⟩
        case round =>
          obtain ⟨r, hr1, hr2, rfl, hfree, hbel⟩ := hrel
          have HFR := hide hfree; clear hfree
          have hsz : B ≤ wr.heap.size := by have := hbel.size; rw [HB.out] at this; exact this
          by_cases hlt : r + 1 < xs.length
          · obtain ⟨b, off, rfl, hb, c0, c1⟩ := SCorner.cells HR.out (i := p) (by omega) hbel
            obtain ⟨b', off', hA, hb', d0, d1⟩ := SCorner.cells HR.out (i := p + 1) (by omega) hbel
            injection hA with hA; injection hA with hA1 hA2; subst hA1 hA2
            obtain ⟨b', off', hA, hb', e0, e1⟩ := SCorner.cells HR.out (i := r) (by omega) hbel
            injection hA with hA; injection hA with hA1 hA2; subst hA1 hA2
            obtain ⟨b', off', hA, hb', f0, f1⟩ := SCorner.cells HR.out (i := r + 1) (by omega) hbel
            injection hA with hA; injection hA with hA1 hA2; subst hA1 hA2
            have i0 := road_corn HOK.out (i := p) (by omega)
            have i1 := road_corn HOK.out (i := p + 1) (by omega)
            have i2 := road_corn HOK.out (i := r) (by omega)
            have i3 := road_corn HOK.out (i := r + 1) (by omega)
            have hcall := fun W => meet_any _ _ _ _ _ _ _ _ W i0 i1 i2 i3
            have hpair := pairAt_eq (xs := xs) (i := p) (k := r) (by omega) hlt
            have hmt := cross_meet (road_ne HOK.out (i := p) (by omega)) (road_ne HOK.out (i := r) (by omega))
            rw [hmt] at hpair
            clear i0 i1 i2 i3
            generalize xs[p].x = ax at *; generalize xs[p].y = ay at *
            generalize xs[p+1].x = bx at *; generalize xs[p+1].y = b_ at *
            generalize xs[r].x = px at *; generalize xs[r].y = py at *
            generalize xs[r+1].x = qx at *; generalize xs[r+1].y = qy at *
            rw [← hpair] at hcall
            have n0 := fun n => later_cell c0 n; have n1 := fun n => later_cell c1 n
            have n2 := fun n => later_cell d0 n; have n3 := fun n => later_cell d1 n
            have n4 := fun n => later_cell e0 n; have n5 := fun n => later_cell e1 n
            have n6 := fun n => later_cell f0 n; have n7 := fun n => later_cell f1 n
            cases hpr : pairAt xs p r with
            | true =>
              rw [hpr] at hcall
              have HC := hide hcall
              have HPR := hide hpr
              clear hcall hpr hpair
              go_wp2_with fail
              (refine wp_region_later (by kernel_rfl) (by kernel_rfl) ?_; (repeat (go_big_quiet_step ((go_at_call 71; exact later_call (HC.out _))))); refine wpQuiet_nil ?_; intro _ hw'; obtain ⟨nq, hw''⟩ := hw'; subst hw'')
              have B3 := bstep hbel nq.h hsz
              generalize nq.W = W3 at B3
              go_wp2_with fail
              go_ret
              refine ⟨ret_bool ?_, hb1.trans (B3.mono s1)⟩
              symm
              rw [List.all_eq_false]
              exact ⟨p, List.mem_range.2 (by omega), by rw [show rowAll xs p = false from rowFree_no (t := r - (p + 2)) (by omega) (by rw [show p + 2 + (r - (p + 2)) = r by omega]; exact HPR.out)]; simp⟩
            | false =>
              rw [hpr] at hcall
              have HC := hide hcall
              have HPR := hide hpr
              clear hcall hpr hpair
              go_wp2_with fail
              (refine wp_region_later (by kernel_rfl) (by kernel_rfl) ?_; (repeat (go_big_quiet_step ((go_at_call 71; exact later_call (HC.out _))))); refine wpQuiet_nil ?_; intro _ hw'; obtain ⟨nq, hw''⟩ := hw'; subst hw'')
              have B3 := bstep hbel nq.h hsz
              generalize nq.W = W3 at B3
              go_wp2_with fail
              go_round
              case measure => simp [intOf]; omega
              case rel =>
              refine ⟨r + 1, by omega, .inl (by omega), by go_num, ?_, B3⟩
              rw [show r + 1 - (p + 2) = (r - (p + 2)) + 1 by omega, rowFree_succ, HFR.out, show p + 2 + (r - (p + 2)) = r by omega, HPR.out]; rfl
          · have hrow : rowAll xs p = true := by unfold rowAll; rw [show xs.length - (p + 3) = r - (p + 2) by omega]; exact HFR.out
            have HROW := hide hrow; clear hrow
            have hge : ¬ ((r : Int) + 1 < xs.length) := by omega
            go_wp2_with fail
            go_round
            case measure => simp [intOf]; omega
            case rel =>
            refine ⟨p + 1, by omega, by go_num, ?_, hbel⟩
            rw [List.range_succ, List.all_append, HALL.out]; simp [HROW.out]
      · have hk : xs.length - 1 = p := by omega
        have HK := hide hk; clear hk
        have hge : ¬ ((p : Int) + 1 < xs.length) := by omega
        go_wp2_with fail
        go_ret
        refine ⟨ret_bool ?_, hb1.trans (hbel0.mono s1)⟩
        rw [HK.out, HALL.out]
theorem implIsClearRoad_any (v : Value) (xs : List SCorner) (w : World) (h : Is 2 SCorner.enc w v xs) :
    Calls Try.prog 48 #[v] w fun e w' => e = .returned (.tuple #[.bool (clearV xs).1, .bool (clearV xs).2]) ∧ Below w.heap.size w w' := by
  have hgood := implIsRoadLine_any v xs w h
  have HI := hide h; clear h
  by_cases hok : roadB xs = true
  · rw [show clearV xs = (clearB xs, true) by simp [clearV, hok]]
    rw [hok] at hgood
    have HG := hide hgood; have HOK := hide hok; clear hgood hok
    go_enter Try.func48, Try.ntmps48
    go_wp2_with fail
    refine HG.out.mono ?_; rintro e w1 ⟨rfl, hb1⟩
    go_wp2_with fail
    refine (isClear_any v xs _ (HI.out.below hb1 (Nat.le_refl _)) HOK.out).mono ?_; rintro e w2 ⟨rfl, hb2⟩
    go_wp2_with fail
    go_ret2
    exact ⟨rfl, bstep hb1 hb2 hb1.size⟩
  · rw [show clearV xs = (false, false) by simp [clearV, hok]]
    rw [Bool.not_eq_true] at hok
    rw [hok] at hgood
    have HG := hide hgood; clear hgood
    go_enter Try.func48, Try.ntmps48
    go_wp2_with fail
    refine HG.out.mono ?_; rintro e w1 ⟨rfl, hb1⟩
    go_wp2_with fail
    go_ret2
    exact ⟨rfl, hb1⟩
end Go.Proofs.Ytefnmfkndepfgaa
