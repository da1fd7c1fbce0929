/- Contracts of the tests of turns, chains and places, in impl and spec: the Lean functions turnB, chainB, placeB. Conditions: none beyond lengths below 2^63. -/
import Derived.Test.YtplemibckjnbhaaDoorL1
import Derived.Test.YtplemibckjnbhaaDoorL4A
namespace Go.Proofs.YtplemibckjnbhaaDoor
open Go.RowKit
set_option linter.unusedVariables false
def turnB (q num den e n : Int) : Bool := decide (0 ≤ q ∧ q ≤ 3 ∧ 1 ≤ num ∧ num ≤ 20 ∧ 1 ≤ den ∧ den ≤ 20 ∧ -99999 ≤ e ∧ e ≤ 99999 ∧ -99999 ≤ n ∧ n ≤ 99999)
theorem turnB_iff {q num den e n : Int} : turnB q num den e n = true ↔ (0 ≤ q ∧ q ≤ 3 ∧ 1 ≤ num ∧ num ≤ 20 ∧ 1 ≤ den ∧ den ≤ 20 ∧ -99999 ≤ e ∧ e ≤ 99999 ∧ -99999 ≤ n ∧ n ≤ 99999) := decide_eq_true_iff
def STurn.okB (t : STurn) : Bool := turnB t.q t.num t.den t.e t.n
theorem STurn.okB_iff {t : STurn} : t.okB = true ↔ t.ok := decide_eq_true_iff
def placeB (x y : Int) : Bool := inB x 0 99999 && inB y 0 99999
/-- whether a list is a chain -/
def chainB (xs : List STurn) : Bool := xs.all STurn.okB && decide (xs.length ≤ 4)
theorem chainB_iff {xs : List STurn} : chainB xs = true ↔ (∀ t ∈ xs, t.ok) ∧ xs.length ≤ 4 := by
  simp only [chainB, Bool.and_eq_true, List.all_eq_true, STurn.okB_iff, decide_eq_true_eq]
theorem chainB_no {xs : List STurn} {i : Nat} (hi : i < xs.length) (h : STurn.okB xs[i] = false) : chainB xs = false := by
  unfold chainB
  rw [Bool.and_eq_false_iff]; left
  exact List.all_eq_false.2 ⟨xs[i], List.getElem_mem hi, by rw [h]; simp⟩
theorem l4Place_any (x y : Int) (w : World) :
    Calls Tryd.prog 74 #[.int .i64 x, .int .i64 y] w fun e w' => e = .returned (.bool (placeB x y)) ∧ w = w' := by
  go_enter Tryd.func74, Tryd.ntmps74
  go_wp2_with (first | (go_at_call 84; refine (l1In_any _ _ _ _).mono ?_; rintro e w' ⟨rfl, rfl⟩))
  all_goals go_ret
  all_goals (refine ⟨ret_bool ?_, rfl⟩; simp [placeB, *])
theorem isPlace_any (x y : Int) (w : World) :
    Calls Tryd.prog 63 #[.int .i64 x, .int .i64 y] w fun e w' => e = .returned (.bool (placeB x y)) ∧ w = w' := by
  go_enter Tryd.func63, Tryd.ntmps63
  go_wp2_with (first | (go_at_call 61; refine (within_any _ _ _ _).mono ?_; rintro e w' ⟨rfl, rfl⟩))
  all_goals go_ret
  all_goals (refine ⟨ret_bool ?_, rfl⟩; simp [placeB, *])
theorem l4Turn_any (q num den e n : Int) (w : World) :
    Calls Tryd.prog 58 #[.agg #[.int .i64 q, .int .i64 num, .int .i64 den, .int .i64 e, .int .i64 n]] w fun r w' => r = .returned (.bool (turnB q num den e n)) ∧ w.alloc (.cells #[.int .i64 q, .int .i64 num, .int .i64 den, .int .i64 e, .int .i64 n] 35) = w' := by
  go_enter Tryd.func58, Tryd.ntmps58
  go_wp2_with (first | (go_at_call 84; refine (l1In_any _ _ _ _).mono ?_; rintro e w' ⟨rfl, rfl⟩))
  all_goals go_ret
  all_goals refine ⟨ret_bool (bool_of_iff ?_), by first | rfl | simp [*]⟩
  all_goals (simp [turnB_iff, inB_iff] at *; try omega)
theorem IsGridTurn_any (q num den e n : Int) (w : World) :
    Calls Tryd.prog 18 #[.agg #[.int .i64 q, .int .i64 num, .int .i64 den, .int .i64 e, .int .i64 n]] w fun r w' => r = .returned (.bool (turnB q num den e n)) ∧ w.alloc (.cells #[.int .i64 q, .int .i64 num, .int .i64 den, .int .i64 e, .int .i64 n] 35) = w' := by
  go_enter Tryd.func18, Tryd.ntmps18
  go_wp2_with (first | (go_at_call 61; refine (within_any _ _ _ _).mono ?_; rintro e w' ⟨rfl, rfl⟩))
  all_goals go_ret
  all_goals refine ⟨ret_bool (bool_of_iff ?_), by first | rfl | simp [*]⟩
  all_goals (simp [turnB_iff, inB_iff] at *; try omega)
end Go.Proofs.YtplemibckjnbhaaDoor
