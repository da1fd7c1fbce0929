/- Small helpers of the laws over a code of bytes. No condition. -/
import Derived.Test.YtefnmfkndepfgaaStInt
namespace Go.Proofs.Ytefnmfkndepfgaa
open Go.RowKit
set_option linter.unusedVariables false
theorem vBig_is (A : Option Addr) (len cap : Nat) (w : World) :
    Calls Try.prog 41 #[.slice A len cap] w fun e w' => e = .returned (.bool (decide ((65536 : Int) < len))) ∧ w = w' := by
  go_enter Try.func41, Try.ntmps41
  go_wp2_with fail
  go_ret
  exact ⟨rfl, rfl⟩
end Go.Proofs.Ytefnmfkndepfgaa
