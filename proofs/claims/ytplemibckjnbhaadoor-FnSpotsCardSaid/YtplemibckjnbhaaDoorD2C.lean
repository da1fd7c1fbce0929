/- The drawing of a sheet's id and of a scale, and the drawing functions of FnNeighbors. No condition beyond a cursor that has stepped less than 2^60 times. (Printed by mksheet8.py.) -/
import Derived.Test.YtplemibckjnbhaaDoorD2B
namespace Go.Proofs.YtplemibckjnbhaaDoor
open Go.RowKit
set_option linter.unusedVariables false
theorem results_tmp2_s {fn : Func} {t u : Tmp} (h : fn.results = #[.tmp t, .tmp u]) (tmps : Array Value) (P : Program) (w : World) :
    (results fn tmps).run P w = .ok (.tuple #[tmps.getD t undef, tmps.getD u undef]) w := by
  simp [results, h]
end Go.Proofs.YtplemibckjnbhaaDoor
