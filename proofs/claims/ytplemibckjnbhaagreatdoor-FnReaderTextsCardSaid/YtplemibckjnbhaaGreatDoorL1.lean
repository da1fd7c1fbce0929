/- Contracts of the small functions on ranges, in impl and spec: each returns what its Lean function says and leaves the world as it was. No condition. -/
import Derived.Test.YtplemibckjnbhaaGreatDoorProg
import Derived.Test.YtplemibckjnbhaaGreatDoorBase
namespace Go.Proofs.YtplemibckjnbhaaGreatDoor
open Go.RowKit
theorem within_any (n lo hi : Int) (w : World) :
    Calls Tryz.prog 51 #[.int .i64 n, .int .i64 lo, .int .i64 hi] w fun e w' => e = .returned (.bool (inB n lo hi)) ∧ w = w' := by
  go_enter Tryz.func51, Tryz.ntmps51
  go_wp2
  all_goals go_ret
  all_goals (refine ⟨ret_bool (bool_of_iff ?_), rfl⟩; simp [inB_iff, *]; try omega)
theorem l1In_any (n lo hi : Int) (w : World) :
    Calls Tryz.prog 75 #[.int .i64 n, .int .i64 lo, .int .i64 hi] w fun e w' => e = .returned (.bool (inB n lo hi)) ∧ w = w' := by
  go_enter Tryz.func75, Tryz.ntmps75
  go_wp2
  all_goals go_ret
  all_goals (refine ⟨ret_bool (bool_of_iff ?_), rfl⟩; simp [inB_iff, *]; try omega)
theorem l1Most_any (a b : Int) (w : World) :
    Calls Tryz.prog 92 #[.int .i64 a, .int .i64 b] w fun e w' => e = .returned (.int .i64 (max a b)) ∧ w = w' := by
  go_enter Tryz.func92, Tryz.ntmps92
  go_wp2
  all_goals go_ret
  all_goals (refine ⟨ret_int ?_, rfl⟩; omega)
theorem l1Least_any (a b : Int) (w : World) :
    Calls Tryz.prog 91 #[.int .i64 a, .int .i64 b] w fun e w' => e = .returned (.int .i64 (min a b)) ∧ w = w' := by
  go_enter Tryz.func91, Tryz.ntmps91
  go_wp2
  all_goals go_ret
  all_goals (refine ⟨ret_int ?_, rfl⟩; omega)
end Go.Proofs.YtplemibckjnbhaaGreatDoor
