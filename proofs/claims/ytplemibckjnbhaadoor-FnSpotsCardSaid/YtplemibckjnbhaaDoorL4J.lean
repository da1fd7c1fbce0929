/- Contracts of TurnBack in impl and spec: the Lean function tbV. No condition. -/
import Derived.Test.YtplemibckjnbhaaDoorL4I
namespace Go.Proofs.YtplemibckjnbhaaDoor
open Go.RowKit
set_option linter.unusedVariables false
end Go.Proofs.YtplemibckjnbhaaDoor
