/- Contract of back in impl. Conditions: valid turns, bounds of the numbers (Bd k for k up to 3). -/
import Derived.Test.YtplemibckjnbhaaDoorL4D
namespace Go.Proofs.YtplemibckjnbhaaDoor
open Go.RowKit
set_option linter.unusedVariables false
end Go.Proofs.YtplemibckjnbhaaDoor
