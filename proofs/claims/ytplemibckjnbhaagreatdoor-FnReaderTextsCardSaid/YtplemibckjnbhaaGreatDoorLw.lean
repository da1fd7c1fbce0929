/- Small helpers of the laws over a code of bytes. No condition. -/
import Derived.Test.YtplemibckjnbhaaGreatDoorStInt
namespace Go.Proofs.YtplemibckjnbhaaGreatDoor
open Go.RowKit
set_option linter.unusedVariables false
theorem vBig_is (A : Option Addr) (len cap : Nat) (w : World) :
    Calls Tryz.prog 25 #[.slice A len cap] w fun e w' => e = .returned (.bool (decide ((65536 : Int) < len))) ∧ w = w' := by
  go_enter Tryz.func25, Tryz.ntmps25
  go_wp2_with fail
  go_ret
  exact ⟨rfl, rfl⟩
theorem rBig_is (A : Option Addr) (len cap : Nat) (w : World) :
    Calls Tryz.prog 5 #[.slice A len cap] w fun e w' => e = .returned (.bool (decide ((65536 : Int) < len))) ∧ w = w' := by
  go_enter Tryz.func5, Tryz.ntmps5
  go_wp2_with fail
  go_ret
  exact ⟨rfl, rfl⟩
end Go.Proofs.YtplemibckjnbhaaGreatDoor
