/- Contracts of the small functions on ranges, in impl and spec: each returns what its Lean function says and leaves the world as it was. No condition. -/
import Derived.Test.YtdbcilinoieabaaProg
import Derived.Test.YtdbcilinoieabaaBase
namespace Go.Proofs.Ytdbcilinoieabaa
open Go.RowKit
theorem within_any (n lo hi : Int) (w : World) :
    Calls Try.prog 91 #[.int .i64 n, .int .i64 lo, .int .i64 hi] w fun e w' => e = .returned (.bool (inB n lo hi)) ∧ w = w' := by
  go_enter Try.func91, Try.ntmps91
  go_wp2
  all_goals go_ret
  all_goals (refine ⟨ret_bool (bool_of_iff ?_), rfl⟩; simp [inB_iff, *]; try omega)
theorem l1In_any (n lo hi : Int) (w : World) :
    Calls Try.prog 81 #[.int .i64 n, .int .i64 lo, .int .i64 hi] w fun e w' => e = .returned (.bool (inB n lo hi)) ∧ w = w' := by
  go_enter Try.func81, Try.ntmps81
  go_wp2
  all_goals go_ret
  all_goals (refine ⟨ret_bool (bool_of_iff ?_), rfl⟩; simp [inB_iff, *]; try omega)
theorem l1Most_any (a b : Int) (w : World) :
    Calls Try.prog 224 #[.int .i64 a, .int .i64 b] w fun e w' => e = .returned (.int .i64 (max a b)) ∧ w = w' := by
  go_enter Try.func224, Try.ntmps224
  go_wp2
  all_goals go_ret
  all_goals (refine ⟨ret_int ?_, rfl⟩; omega)
theorem l1Least_any (a b : Int) (w : World) :
    Calls Try.prog 97 #[.int .i64 a, .int .i64 b] w fun e w' => e = .returned (.int .i64 (min a b)) ∧ w = w' := by
  go_enter Try.func97, Try.ntmps97
  go_wp2
  all_goals go_ret
  all_goals (refine ⟨ret_int ?_, rfl⟩; omega)
end Go.Proofs.Ytdbcilinoieabaa
