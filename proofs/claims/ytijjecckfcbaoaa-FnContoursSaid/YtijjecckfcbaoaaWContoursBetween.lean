/- Contracts of ContoursBetween in impl and spec (both return the Lean function cbt), and the walk of FnExactContoursBetween: it returns true for all ints; old memory stays. No condition. -/
import Derived.Test.YtijjecckfcbaoaaL8B
namespace Go.Proofs.Ytijjecckfcbaoaa
open Go.RowKit
/-- the number of contours between two heights; the Bool says whether there is one -/
def cbt (a b s : Int) : Int × Bool := if inB a (-200000) 200000 && inB b (-200000) 200000 && inB s 1 1000 then (max a b / s - min a b / s, true) else (0, false)
theorem cbt_no {a b s : Int} (h : (inB a (-200000) 200000 && inB b (-200000) 200000 && inB s 1 1000) = false) : cbt a b s = (0, false) := by simp [cbt, h]
theorem cbt_yes {a b s : Int} (ha : inB a (-200000) 200000 = true) (hb : inB b (-200000) 200000 = true) (hs : inB s 1 1000 = true) : cbt a b s = (max a b / s - min a b / s, true) := by simp [cbt, ha, hb, hs]

theorem specCbt_any (a b s : Int) (w : World) :
    Calls Try.prog 18 #[.int .i64 a, .int .i64 b, .int .i64 s] w fun e w' => e = .returned (.tuple #[.int .i64 (cbt a b s).1, .bool (cbt a b s).2]) ∧ w = w' := by
  by_cases ha : inB a (-200000) 200000 = true
  case neg =>
    rw [cbt_no (by simp [ha])]; rw [Bool.not_eq_true] at ha
    go_enter Try.func18, Try.ntmps18
    go_wp2_with (first | (go_at_call 52; refine (l1In_any _ _ _ _).mono ?_; rintro e w' ⟨rfl, rfl⟩))
    go_ret2
    exact ⟨rfl, rfl⟩
  by_cases hb : inB b (-200000) 200000 = true
  case neg =>
    rw [cbt_no (by simp [hb])]; rw [Bool.not_eq_true] at hb
    go_enter Try.func18, Try.ntmps18
    go_wp2_with (first | (go_at_call 52; refine (l1In_any _ _ _ _).mono ?_; rintro e w' ⟨rfl, rfl⟩))
    go_ret2
    exact ⟨rfl, rfl⟩
  by_cases hs : inB s 1 1000 = true
  case neg =>
    rw [cbt_no (by simp [hs])]; rw [Bool.not_eq_true] at hs
    go_enter Try.func18, Try.ntmps18
    go_wp2_with (first | (go_at_call 52; refine (l1In_any _ _ _ _).mono ?_; rintro e w' ⟨rfl, rfl⟩))
    go_ret2
    exact ⟨rfl, rfl⟩
  rw [cbt_yes ha hb hs]
  have ha' := inB_iff.1 ha; have hb' := inB_iff.1 hb; have hs' := inB_iff.1 hs
  obtain ⟨q1, q2⟩ := quo_bd (a := max a b) (b := s) (n := 200000) (by omega) (by omega) (by omega) (by omega)
  obtain ⟨q3, q4⟩ := quo_bd (a := min a b) (b := s) (n := 200000) (by omega) (by omega) (by omega) (by omega)
  go_enter Try.func18, Try.ntmps18
  go_wp2_with (first | (go_at_call 52; refine (l1In_any _ _ _ _).mono ?_; rintro e w' ⟨rfl, rfl⟩) | (go_at_call 53; refine (l1Most_any _ _ _).mono ?_; rintro e w' ⟨rfl, rfl⟩) | (go_at_call 59; refine (l1Least_any _ _ _).mono ?_; rintro e w' ⟨rfl, rfl⟩) | (go_at_call 58; refine (l8Floor_any _ _ _ (by omega) (by omega) (by omega) (by omega)).mono ?_; rintro e w' ⟨rfl, rfl⟩))
  go_ret2
  exact ⟨rfl, rfl⟩

theorem implCbt_any (a b s : Int) (w : World) :
    Calls Try.prog 19 #[.int .i64 a, .int .i64 b, .int .i64 s] w fun e w' => e = .returned (.tuple #[.int .i64 (cbt a b s).1, .bool (cbt a b s).2]) ∧ Below w.heap.size w w' := by
  have hH : hgtB 2 [a, b] = (inB a (-200000) 200000 && inB b (-200000) 200000) := by simp [hgtB]
  have hrow : Row 1 encI (w.alloc (.cells #[.int .i64 a, .int .i64 b] 3)) (w.alloc (.cells #[.int .i64 a, .int .i64 b] 3)).heap.size (some ⟨w.heap.size, 0, none⟩) [a, b] := by
    refine Filled.row (cs := #[.int .i64 a, .int .i64 b]) (fun j x hj hx c hc => ?_) (Blk.new _ _ _) (by simp)
    obtain rfl : c = 0 := by omega
    rcases j with _ | _ | j
    · simp at hx; subst hx; rfl
    · simp at hx; subst hx; rfl
    · simp at hx
  have hcall := areHeights_any 2 (some ⟨w.heap.size, 0, none⟩) 2 [a, b] _ hrow (by simp)
  rw [hH] at hcall
  have HC := hide hcall; clear hcall hrow hH
  by_cases ha : inB a (-200000) 200000 = true
  case neg =>
    rw [cbt_no (by simp [ha])]; rw [Bool.not_eq_true] at ha
    go_enter Try.func19, Try.ntmps19
    go_wp2_with fail
    refine HC.out.mono ?_; rintro e w1 ⟨rfl, hb1⟩
    rw [ha]
    go_wp2_with fail
    go_ret2
    exact ⟨rfl, bstep (below_alloc _ _) hb1 (by simp)⟩
  by_cases hb : inB b (-200000) 200000 = true
  case neg =>
    rw [cbt_no (by simp [hb])]; rw [Bool.not_eq_true] at hb
    go_enter Try.func19, Try.ntmps19
    go_wp2_with fail
    refine HC.out.mono ?_; rintro e w1 ⟨rfl, hb1⟩
    rw [ha, hb]
    go_wp2_with fail
    go_ret2
    exact ⟨rfl, bstep (below_alloc _ _) hb1 (by simp)⟩
  by_cases hs : inB s 1 1000 = true
  case neg =>
    rw [cbt_no (by simp [hs])]; rw [Bool.not_eq_true] at hs
    go_enter Try.func19, Try.ntmps19
    go_wp2_with fail
    refine HC.out.mono ?_; rintro e w1 ⟨rfl, hb1⟩
    rw [ha, hb]
    go_wp2_with (first | (go_at_call 56; refine (isStep_any _ _).mono ?_; rintro e w' ⟨rfl, rfl⟩))
    go_ret2
    exact ⟨rfl, bstep (below_alloc _ _) hb1 (by simp)⟩
  rw [cbt_yes ha hb hs]
  have ha' := inB_iff.1 ha; have hb' := inB_iff.1 hb; have hs' := inB_iff.1 hs
  obtain ⟨q1, q2⟩ := quo_bd (a := max a b) (b := s) (n := 200000) (by omega) (by omega) (by omega) (by omega)
  obtain ⟨q3, q4⟩ := quo_bd (a := min a b) (b := s) (n := 200000) (by omega) (by omega) (by omega) (by omega)
  go_enter Try.func19, Try.ntmps19
  go_wp2_with fail
  refine HC.out.mono ?_; rintro e w1 ⟨rfl, hb1⟩
  rw [ha, hb]
  go_wp2_with (first | (go_at_call 56; refine (isStep_any _ _).mono ?_; rintro e w' ⟨rfl, rfl⟩) | (go_at_call 61; refine (floorDiv_any _ _ _ (by omega) (by omega) (by omega) (by omega)).mono ?_; rintro e w' ⟨rfl, rfl⟩))
  go_ret2
  exact ⟨rfl, bstep (below_alloc _ _) hb1 (by simp)⟩

theorem law_ContoursBetween (a b s : Int) (w : World) (_ : (Lit.int .i64 a).wf = true) (_ : (Lit.int .i64 b).wf = true) (_ : (Lit.int .i64 s).wf = true) :
    Calls Try.prog 4 #[.int .i64 a, .int .i64 b, .int .i64 s] w fun e w' => e = .returned (.bool true) ∧ Below w.heap.size w w' := by
  have h1 := specCbt_any a b s; have h2 := implCbt_any a b s
  generalize cbt a b s = r at h1 h2
  obtain ⟨n, ok⟩ := r
  have H1 := hide h1; have H2 := hide h2; clear h1 h2
  have t1 : (n != n) = false := by simp
  have t2 : (ok != ok) = false := by simp
  go_enter Try.func4, Try.ntmps4
  go_wp2_with fail
  refine (H1.out _).mono ?_; rintro e w1 ⟨rfl, rfl⟩
  go_wp2_with fail
  refine (H2.out _).mono ?_; rintro e w2 ⟨rfl, hb2⟩
  go_wp2_with fail
  go_ret
  exact ⟨rfl, hb2⟩
end Go.Proofs.Ytijjecckfcbaoaa
