/- Small helpers of the laws over a code of bytes. No condition. -/
import Derived.Test.YtomcdkkjknphpaaStInt
namespace Go.Proofs.Ytomcdkkjknphpaa
open Go.RowKit
set_option linter.unusedVariables false
theorem vBig_is (A : Option Addr) (len cap : Nat) (w : World) :
    Calls Try.prog 20 #[.slice A len cap] w fun e w' => e = .returned (.bool (decide ((65536 : Int) < len))) ∧ w = w' := by
  go_enter Try.func20, Try.ntmps20
  go_wp2_with fail
  go_ret
  exact ⟨rfl, rfl⟩