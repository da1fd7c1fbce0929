/- Contracts of the small functions on loans, in impl and spec: ids, days, one loan. No condition. -/
import Derived.Test.YtplemibckjnbhaaStLoan
import Derived.Test.YtplemibckjnbhaaL1
namespace Go.Proofs.Ytplemibckjnbhaa
open Go.RowKit
set_option linter.unusedVariables false
theorem isId_any (n : Int) (w : World) : Calls Try.prog 86 #[.int .i64 n] w fun e w' => e = .returned (.bool (inB n 1 999)) ∧ w = w' := by
  go_enter Try.func86, Try.ntmps86
  go_wp2_with (first | (go_at_call 110; refine (within_any _ _ _ _).mono ?_; rintro e w' ⟨rfl, rfl⟩))
  go_ret
  exact ⟨rfl, rfl⟩
theorem isDay_any (n : Int) (w : World) : Calls Try.prog 87 #[.int .i64 n] w fun e w' => e = .returned (.bool (inB n 0 4000)) ∧ w = w' := by
  go_enter Try.func87, Try.ntmps87
  go_wp2_with (first | (go_at_call 110; refine (within_any _ _ _ _).mono ?_; rintro e w' ⟨rfl, rfl⟩))
  go_ret
  exact ⟨rfl, rfl⟩
theorem l11Id_any (n : Int) (w : World) : Calls Try.prog 228 #[.int .i64 n] w fun e w' => e = .returned (.bool (inB n 1 999)) ∧ w = w' := by
  go_enter Try.func228, Try.ntmps228
  go_wp2_with (first | (go_at_call 100; refine (l1In_any _ _ _ _).mono ?_; rintro e w' ⟨rfl, rfl⟩))
  go_ret
  exact ⟨rfl, rfl⟩
theorem l2Day_any (n : Int) (w : World) : Calls Try.prog 84 #[.int .i64 n] w fun e w' => e = .returned (.bool (inB n 0 4000)) ∧ w = w' := by
  go_enter Try.func84, Try.ntmps84
  go_wp2_with (first | (go_at_call 100; refine (l1In_any _ _ _ _).mono ?_; rintro e w' ⟨rfl, rfl⟩))
  go_ret
  exact ⟨rfl, rfl⟩
/-- whether one loan is valid -/
def SLoan.okB (c : SLoan) : Bool := decide (1 ≤ c.sheet ∧ c.sheet ≤ 999 ∧ 1 ≤ c.reader ∧ c.reader ≤ 999 ∧ 0 ≤ c.out ∧ c.out ≤ 4000 ∧ 0 ≤ c.due ∧ c.due ≤ 4000 ∧ c.out ≤ c.due ∧ (c.back = -1 ∨ (0 ≤ c.back ∧ c.back ≤ 4000 ∧ c.out ≤ c.back)))
theorem SLoan.okB_iff {a0 a1 a2 a3 a4 : Int} : SLoan.okB ⟨a0, a1, a2, a3, a4⟩ = true ↔ (1 ≤ a0 ∧ a0 ≤ 999 ∧ 1 ≤ a1 ∧ a1 ≤ 999 ∧ 0 ≤ a2 ∧ a2 ≤ 4000 ∧ 0 ≤ a3 ∧ a3 ≤ 4000 ∧ a2 ≤ a3 ∧ (a4 = -1 ∨ (0 ≤ a4 ∧ a4 ≤ 4000 ∧ a2 ≤ a4))) := decide_eq_true_iff
theorem l11One_any (a0 a1 a2 a3 a4 : Int) (w : World) :
    Calls Try.prog 178 #[.agg #[.int .i64 a0, .int .i64 a1, .int .i64 a2, .int .i64 a3, .int .i64 a4]] w fun e w' => e = .returned (.bool (SLoan.okB ⟨a0, a1, a2, a3, a4⟩)) ∧ w.alloc (.cells #[.int .i64 a0, .int .i64 a1, .int .i64 a2, .int .i64 a3, .int .i64 a4] 97) = w' := by
  go_enter Try.func178, Try.ntmps178
  go_wp2_with (first | (go_at_call 228; refine (l11Id_any _ _).mono ?_; rintro e w' ⟨rfl, rfl⟩) | (go_at_call 84; refine (l2Day_any _ _).mono ?_; rintro e w' ⟨rfl, rfl⟩))
  all_goals go_ret
  all_goals refine ⟨ret_bool (bool_of_iff ?_), by first | rfl | simp [*]⟩
  all_goals (simp [SLoan.okB_iff, inB_iff, inB_no] at *; try omega)
theorem isLoan_any (a0 a1 a2 a3 a4 : Int) (w : World) :
    Calls Try.prog 81 #[.agg #[.int .i64 a0, .int .i64 a1, .int .i64 a2, .int .i64 a3, .int .i64 a4]] w fun e w' => e = .returned (.bool (SLoan.okB ⟨a0, a1, a2, a3, a4⟩)) ∧ w.alloc (.cells #[.int .i64 a0, .int .i64 a1, .int .i64 a2, .int .i64 a3, .int .i64 a4] 97) = w' := by
  go_enter Try.func81, Try.ntmps81
  go_wp2_with (first | (go_at_call 86; refine (isId_any _ _).mono ?_; rintro e w' ⟨rfl, rfl⟩) | (go_at_call 87; refine (isDay_any _ _).mono ?_; rintro e w' ⟨rfl, rfl⟩))
  all_goals go_ret
  all_goals refine ⟨ret_bool (bool_of_iff ?_), by first | rfl | simp [*]⟩
  all_goals (simp [SLoan.okB_iff, inB_iff, inB_no] at *; try omega)
end Go.Proofs.Ytplemibckjnbhaa
