/- Contracts of what says whether a list is a road, in impl and spec: both answer the Lean function roadB. Conditions: lengths below 2^63. -/
import Derived.Test.YtefnmfkndepfgaaL1
import Derived.Test.YtefnmfkndepfgaaStCorner
import Derived.Test.YtefnmfkndepfgaaStInt
namespace Go.Proofs.Ytefnmfkndepfgaa
open Go.RowKit
set_option linter.unusedVariables false
/-- two corners are the same -/
def sameC (a b c d : Int) : Bool := decide (a = c ∧ b = d)
theorem sameC_iff {a b c d : Int} : sameC a b c d = true ↔ a = c ∧ b = d := decide_eq_true_iff
theorem SCorner.eql_run (a b c d : Int) (w : World) : (binOp .eql 58 (.agg #[.int .i64 a, .int .i64 b]) (.agg #[.int .i64 c, .int .i64 d])).run Try.prog w = .ok (.bool (sameC a b c d)) w := by
  unfold sameC
  have u3 := Try.underlying3
  have hS : Try.prog.underlying 58 = some (.struct (Try.prog.fieldsOf 58)) := by kernel_rfl
  have hp : Try.prog.stoodInHeld 58 = false := by kernel_rfl
  rw [run_eql_struct, show (10000 : Nat) = 9999 + 1 from rfl, run_equalIn_agg w 9999 58 _ _ hS hp]
  simp only [Program.fieldsOf, Try.underlying58]
  go_simp
  by_cases h1 : a = c <;> by_cases h2 : b = d <;> simp [h1, h2]
theorem SCorner.neq_run (a b c d : Int) (w : World) : (binOp .neq 58 (.agg #[.int .i64 a, .int .i64 b]) (.agg #[.int .i64 c, .int .i64 d])).run Try.prog w = .ok (.bool (!sameC a b c d)) w := by
  unfold sameC
  have u3 := Try.underlying3
  have hS : Try.prog.underlying 58 = some (.struct (Try.prog.fieldsOf 58)) := by kernel_rfl
  have hp : Try.prog.stoodInHeld 58 = false := by kernel_rfl
  rw [run_neq_struct, show (10000 : Nat) = 9999 + 1 from rfl, run_equalIn_agg w 9999 58 _ _ hS hp]
  simp only [Program.fieldsOf, Try.underlying58]
  go_simp
  by_cases h1 : a = c <;> by_cases h2 : b = d <;> simp [h1, h2]
theorem SCorner.eqGuard : Try.prog.eqGuardType Try.prog.depth 58 = false := by kernel_rfl
theorem isCorner_any (x y : Int) (w : World) :
    Calls Try.prog 55 #[.agg #[.int .i64 x, .int .i64 y]] w fun e w' => e = .returned (.bool (inB x 0 9999 && inB y 0 9999)) ∧ w.alloc (.cells #[.int .i64 x, .int .i64 y] 58) = w' := by
  go_enter Try.func55, Try.ntmps55
  go_wp2_with (first | (go_at_call 56; refine (within_any _ _ _ _).mono ?_; rintro e w' ⟨rfl, rfl⟩))
  all_goals go_ret
  all_goals refine ⟨ret_bool ?_, rfl⟩
  all_goals simp [*]
/-- a corner of a road is valid, and is another one than that ahead of it -/
def cornB (xs : List SCorner) (i : Nat) : Bool := inB (xs.getD i SCorner.zero).x 0 9999 && inB (xs.getD i SCorner.zero).y 0 9999 && !(decide (0 < i) && sameC (xs.getD (i - 1) SCorner.zero).x (xs.getD (i - 1) SCorner.zero).y (xs.getD i SCorner.zero).x (xs.getD i SCorner.zero).y)
/-- whether a list is a road -/
def roadB (xs : List SCorner) : Bool := (List.range xs.length).all (cornB xs) && inB xs.length 2 12
theorem all_range_succ (p : Nat → Bool) (n : Nat) : (List.range (n + 1)).all p = ((List.range n).all p && p n) := by
  rw [List.range_succ, List.all_append]; simp
theorem all_range_no {p : Nat → Bool} {n i : Nat} (hi : i < n) (h : p i = false) : (List.range n).all p = false :=
  List.all_eq_false.2 ⟨i, List.mem_range.2 hi, by simp [h]⟩
theorem getD_lt {α : Type} {xs : List α} {i : Nat} (d : α) (h : i < xs.length) : xs.getD i d = xs[i] := by
  rw [List.getD_eq_getElem?_getD, List.getElem?_eq_getElem h]; rfl
theorem corn_first {xs : List SCorner} (h : 0 < xs.length) : cornB xs 0 = (inB xs[0].x 0 9999 && inB xs[0].y 0 9999) := by
  simp only [cornB, getD_lt _ h, Nat.lt_irrefl, decide_false, Bool.false_and, Bool.not_false, Bool.and_true]
theorem corn_next {xs : List SCorner} {i : Nat} (h : i < xs.length) (h0 : 0 < i) : cornB xs i = (inB xs[i].x 0 9999 && inB xs[i].y 0 9999 && !sameC xs[i-1].x xs[i-1].y xs[i].x xs[i].y) := by
  simp only [cornB, getD_lt _ h, getD_lt _ (show i - 1 < xs.length by omega), decide_eq_true h0, Bool.true_and]

theorem corn_succ {xs : List SCorner} {j : Nat} (h : j + 1 < xs.length) : cornB xs (j + 1) = (inB xs[j+1].x 0 9999 && inB xs[j+1].y 0 9999 && !sameC xs[j].x xs[j].y xs[j+1].x xs[j+1].y) := corn_next h (by omega)
theorem l10Good_any (A : Option Addr) (cap : Nat) (xs : List SCorner) (w : World) (hr : Row 2 SCorner.enc w w.heap.size A xs) (hm : xs.length ≤ 9223372036854775807) :
    Calls Try.prog 53 #[.slice A xs.length cap] w fun e w' => e = .returned (.bool (roadB xs)) ∧ Below w.heap.size w w' := by
  generalize hB : w.heap.size = B at hr ⊢
  have HB := hide hB; clear hB
  have HR := hide hr; clear hr
  go_enter Try.func53, Try.ntmps53
  go_wp2_with fail
  go_loopw [3] (fun i wr => ∃ k : Nat, k ≤ xs.length ∧ i = .int .i64 k ∧ (List.range k).all (cornB xs) = true ∧ Below B w wr) (fun i _ => xs.length - (intOf i).toNat)
  case atStart => exact ⟨0, Nat.zero_le _, rfl, by simp, Below.refl _ _⟩
  case round =>
    obtain ⟨i, hi, rfl, hall, hbel⟩ := hrel
    have HA := hide hall; clear hall
    by_cases hlt : i < xs.length
    · obtain ⟨b, off, rfl, hb, c0, c1⟩ := SCorner.cells HR.out hlt hbel
      by_cases hx : inB xs[i].x 0 9999 = true
      case neg =>
        rw [Bool.not_eq_true] at hx
        have HF := hide (show cornB xs i = false by simp only [cornB, getD_lt _ hlt, hx, Bool.false_and])
        go_wp2_with fail
        go_quiet ((go_at_call 78; exact quiet_l (l1In_any _ _ _ _)))
        all_goals
          go_wp2_with fail
          go_ret
          exact ⟨ret_bool (by unfold roadB; rw [all_range_no hlt HF.out]; rfl), below_drewN hbel _⟩
      by_cases hy : inB xs[i].y 0 9999 = true
      case neg =>
        rw [Bool.not_eq_true] at hy
        have HF := hide (show cornB xs i = false by simp only [cornB, getD_lt _ hlt, hy, Bool.and_false, Bool.false_and])
        go_wp2_with fail
        go_quiet ((go_at_call 78; exact quiet_l (l1In_any _ _ _ _)))
        all_goals
          go_wp2_with fail
          go_ret
          exact ⟨ret_bool (by unfold roadB; rw [all_range_no hlt HF.out]; rfl), below_drewN hbel _⟩
      by_cases h0 : i = 0
      · subst h0
        have HF := hide (show cornB xs 0 = true by rw [corn_first hlt, hx, hy]; rfl)
        simp only [Nat.zero_mul, Nat.add_zero] at c0 c1
        go_wp2_with fail
        go_quiet ((go_at_call 78; exact quiet_l (l1In_any _ _ _ _)))
        all_goals
          go_wp2_with fail
          refine ⟨⟨0 + 1, by omega, by go_num, ?_, below_drewN hbel _⟩, by simp [intOf]; omega⟩
          rw [all_range_succ, HA.out, HF.out]; rfl
      · obtain ⟨j, rfl⟩ : ∃ j, i = j + 1 := ⟨i - 1, by omega⟩
        obtain ⟨b', off', hA, hb', d0, d1⟩ := SCorner.cells HR.out (i := j) (by omega) hbel
        injection hA with hA; injection hA with hA1 hA2; subst hA1 hA2
        have hrun := SCorner.eql_run
        by_cases he : sameC xs[j].x xs[j].y xs[j+1].x xs[j+1].y = true
        · have HF := hide (show cornB xs (j + 1) = false by rw [corn_next hlt (by omega), hx, hy]; simp [he])
          go_wp2_with fail
          go_quiet ((go_at_call 78; exact quiet_l (l1In_any _ _ _ _)))
          all_goals
            go_wp2_with fail
            go_ret
            exact ⟨ret_bool (by unfold roadB; rw [all_range_no hlt HF.out]; rfl), below_drewN hbel _⟩
        · rw [Bool.not_eq_true] at he
          have HF := hide (show cornB xs (j + 1) = true by rw [corn_next hlt (by omega), hx, hy]; simp [he])
          go_wp2_with fail
          go_quiet ((go_at_call 78; exact quiet_l (l1In_any _ _ _ _)))
          all_goals
            go_wp2_with fail
            refine ⟨⟨j + 1 + 1, by omega, by go_num, ?_, below_drewN hbel _⟩, by simp [intOf]; omega⟩
            rw [all_range_succ, HA.out, HF.out]; rfl
    · have hk : i = xs.length := by omega
      have HK := hide hk; clear hk
      go_wp2_with (first | (go_at_call 78; refine (l1In_any _ _ _ _).mono ?_; rintro e w' ⟨rfl, rfl⟩))
      go_ret
      refine ⟨ret_bool ?_, hbel⟩
      have := HA.out; rw [HK.out] at this
      unfold roadB; rw [this, Bool.true_and]
theorem l10Good_is (v : Value) (xs : List SCorner) (w : World) (h : Is 2 SCorner.enc w v xs) :
    Calls Try.prog 53 #[v] w fun e w' => e = .returned (.bool (roadB xs)) ∧ Below w.heap.size w w' := by
  have hm := h.len
  obtain ⟨A, cap, rfl, hr, _, _⟩ := h
  exact l10Good_any A cap xs w hr hm
theorem specIsRoadLine_any (v : Value) (xs : List SCorner) (w : World) (h : Is 2 SCorner.enc w v xs) :
    Calls Try.prog 16 #[v] w fun e w' => e = .returned (.bool (roadB xs)) ∧ Below w.heap.size w w' := by
  have H := hide h; clear h
  go_enter Try.func16, Try.ntmps16
  go_wp2_with (go_at_call 53; refine (l10Good_is _ _ _ H.out).mono ?_; rintro e w1 ⟨rfl, hb1⟩)
  go_ret
  exact ⟨rfl, hb1⟩
end Go.Proofs.Ytefnmfkndepfgaa
