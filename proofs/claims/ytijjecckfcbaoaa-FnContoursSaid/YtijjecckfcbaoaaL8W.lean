/- Contracts of the drawing functions of claims: some claims, of the call's own. No condition but a code's own. -/
import Derived.Test.YtijjecckfcbaoaaL8V
namespace Go.Proofs.Ytijjecckfcbaoaa
open Go.RowKit
set_option linter.unusedVariables false
/-- what a drawing of claims gives -/
def DrawnC (w w' : World) (e : Ending) : Prop := ∃ (n : Int) (v : Value), e = .returned (.tuple #[.int .i64 n, v]) ∧ (0 ≤ n ∧ n ≤ 11) ∧ ∃ xs : List SClaim, xs.length ≤ 100 ∧ Own 4 SClaim.enc 23 w' w.heap.size v xs ∧ Below w.heap.size w w'
theorem drawAreClaims_is (w : World) (v : Value) (A : Option Addr) (cap : Nat) (code : List Int) (h : Code w v A cap code) :
    Calls Try.prog 66 #[v] w fun e w' => DrawnC w w' e := by
  have hC := cur_new h
  have ba := below_alloc w (.cells #[v, .int .i64 0, .int .u64 0] 82)
  obtain rfl := h.eq
  have HC := hide hC; have BA := hide ba; clear hC ba h
  go_enter Try.func66, Try.ntmps66
  go_wp2_with fail
  refine (claims_is _ _ _ 0 A cap code HC.out (by omega) BA.out.size).mono ?_; rintro e w' ⟨n, v', rfl, hn, xs, hx, ho, hC, hg⟩
  have HO := hide (ownLow ho BA.out.size); have HB := hide (below_cur BA.out hg); clear ho hC hg
  go_wp2_with fail
  go_ret2
  exact ⟨n, v', rfl, hn, xs, hx, HO.out, HB.out⟩
theorem drawLowestHeights_is (w : World) (v : Value) (A : Option Addr) (cap : Nat) (code : List Int) (h : Code w v A cap code) :
    Calls Try.prog 26 #[v] w fun e w' => DrawnC w w' e := by
  have hd := drawAreClaims_is w v A cap code h
  have HD := hide hd; clear hd h
  go_enter Try.func26, Try.ntmps26
  go_wp2_with fail
  refine HD.out.mono ?_; rintro e w' ⟨n, v', rfl, hn, xs, hx, ho, hb⟩
  have HO := hide ho; have HB := hide hb; clear ho hb
  go_wp2_with fail
  go_ret2
  exact ⟨n, v', rfl, hn, xs, hx, HO.out, HB.out⟩
end Go.Proofs.Ytijjecckfcbaoaa
