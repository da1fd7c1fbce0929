/- Contracts of the small functions on claims and ranges (within, l1In, l8One, isClaim, isStep, l1Most, eqClaim): each returns what its Lean function says. isClaim: for a number of marks above the least int. -/
import Derived.Test.YtijjecckfcbaoaaProg
import Derived.Test.YtijjecckfcbaoaaBase
namespace Go.Proofs.Ytijjecckfcbaoaa
open Go.RowKit
theorem within_any (n lo hi : Int) (w : World) :
    Calls Try.prog 55 #[.int .i64 n, .int .i64 lo, .int .i64 hi] w fun e w' => e = .returned (.bool (inB n lo hi)) ∧ w = w' := by
  go_enter Try.func55, Try.ntmps55
  go_wp2
  all_goals go_ret
  all_goals (refine ⟨ret_bool (bool_of_iff ?_), rfl⟩; simp [inB_iff, *]; try omega)
theorem l1In_any (n lo hi : Int) (w : World) :
    Calls Try.prog 52 #[.int .i64 n, .int .i64 lo, .int .i64 hi] w fun e w' => e = .returned (.bool (inB n lo hi)) ∧ w = w' := by
  go_enter Try.func52, Try.ntmps52
  go_wp2
  all_goals go_ret
  all_goals (refine ⟨ret_bool (bool_of_iff ?_), rfl⟩; simp [inB_iff, *]; try omega)
def oneB (n lo hi le mo : Int) : Bool := decide (0 ≤ lo ∧ lo < n ∧ 0 ≤ hi ∧ hi < n ∧ lo ≠ hi ∧ -9999 ≤ le ∧ le ≤ mo ∧ mo ≤ 9999)
theorem oneB_iff {n lo hi le mo : Int} : oneB n lo hi le mo = true ↔ (0 ≤ lo ∧ lo < n ∧ 0 ≤ hi ∧ hi < n ∧ lo ≠ hi ∧ -9999 ≤ le ∧ le ≤ mo ∧ mo ≤ 9999) := decide_eq_true_iff
theorem l8One_any (n lo hi le mo : Int) (w : World) :
    Calls Try.prog 54 #[.int .i64 n, .agg #[.int .i64 lo, .int .i64 hi, .int .i64 le, .int .i64 mo]] w fun e w' => e = .returned (.bool (oneB n lo hi le mo)) ∧ w.alloc (.cells #[.int .i64 lo, .int .i64 hi, .int .i64 le, .int .i64 mo] 23) = w' := by
  go_enter Try.func54, Try.ntmps54
  go_wp2_with (first | (go_at_call 52; refine (l1In_any _ _ _ _).mono ?_; rintro e w' ⟨rfl, rfl⟩))
  all_goals go_ret
  all_goals refine ⟨ret_bool (bool_of_iff ?_), by first | rfl | simp [*]⟩
  all_goals (simp [oneB_iff, inB_iff] at *; try omega)
theorem isClaim_any (n lo hi le mo : Int) (w : World) (h0 : -9223372036854775808 < n) (h1 : n ≤ 9223372036854775807) :
    Calls Try.prog 57 #[.int .i64 n, .agg #[.int .i64 lo, .int .i64 hi, .int .i64 le, .int .i64 mo]] w fun e w' => e = .returned (.bool (oneB n lo hi le mo)) ∧ w.alloc (.cells #[.int .i64 lo, .int .i64 hi, .int .i64 le, .int .i64 mo] 23) = w' := by
  go_enter Try.func57, Try.ntmps57
  go_wp2_with (first | (go_at_call 55; refine (within_any _ _ _ _).mono ?_; rintro e w' ⟨rfl, rfl⟩))
  all_goals go_ret
  all_goals refine ⟨ret_bool (bool_of_iff ?_), by first | rfl | simp [*]⟩
  all_goals (simp [oneB_iff, inB_iff] at *; try omega)
theorem isStep_any (n : Int) (w : World) :
    Calls Try.prog 56 #[.int .i64 n] w fun e w' => e = .returned (.bool (inB n 1 1000)) ∧ w = w' := by
  go_enter Try.func56, Try.ntmps56
  go_wp2_with (first | (go_at_call 55; refine (within_any _ _ _ _).mono ?_; rintro e w' ⟨rfl, rfl⟩))
  go_ret
  exact ⟨rfl, rfl⟩
theorem l1Most_any (a b : Int) (w : World) :
    Calls Try.prog 53 #[.int .i64 a, .int .i64 b] w fun e w' => e = .returned (.int .i64 (max a b)) ∧ w = w' := by
  go_enter Try.func53, Try.ntmps53
  go_wp2
  all_goals go_ret
  all_goals (refine ⟨ret_int ?_, rfl⟩; omega)
theorem eqClaim_any (a b c d a' b' c' d' : Int) (w : World) :
    Calls Try.prog 17 #[.agg #[.int .i64 a, .int .i64 b, .int .i64 c, .int .i64 d], .agg #[.int .i64 a', .int .i64 b', .int .i64 c', .int .i64 d']] w fun e w' =>
      e = .returned (.bool (decide (a = a' ∧ b = b' ∧ c = c' ∧ d = d'))) ∧ (w.alloc (.cells #[.int .i64 a, .int .i64 b, .int .i64 c, .int .i64 d] 23)).alloc (.cells #[.int .i64 a', .int .i64 b', .int .i64 c', .int .i64 d'] 23) = w' := by
  go_enter Try.func17, Try.ntmps17
  go_wp2
  all_goals go_ret
  all_goals refine ⟨ret_bool (bool_of_iff ?_), by first | rfl | simp [*]⟩
  all_goals (simp at *; try omega)
end Go.Proofs.Ytijjecckfcbaoaa
