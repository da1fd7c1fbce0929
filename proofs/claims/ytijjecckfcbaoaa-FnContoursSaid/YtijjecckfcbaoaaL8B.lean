/- Contracts of heights and contours. -/
import Derived.Test.YtijjecckfcbaoaaL8A
import Derived.Test.YtijjecckfcbaoaaStInt
namespace Go.Proofs.Ytijjecckfcbaoaa
open Go.RowKit
theorem quo_bd {a b n : Int} (hb : 1 ≤ b) (hn : 0 ≤ n) (ha : -n ≤ a) (ha2 : a ≤ n) : -n ≤ a / b ∧ a / b ≤ n := by
  refine ⟨(Int.le_ediv_iff_mul_le (by omega)).2 ?_, Int.lt_add_one_iff.1 ((Int.ediv_lt_iff_lt_mul (by omega)).2 ?_)⟩
  · have : n * 1 ≤ n * b := Int.mul_le_mul_of_nonneg_left hb hn
    rw [Int.neg_mul]; omega
  · have : (n + 1) * 1 ≤ (n + 1) * b := Int.mul_le_mul_of_nonneg_left hb (by omega)
    omega
theorem floor_down {a b : Int} (hb : 0 < b) (h : a.tmod b < 0) : a.tdiv b = a / b + 1 := by
  have h2 := Int.tdiv_eq_ediv (a := a) (b := b)
  split at h2
  · rename_i h3
    exfalso
    rcases h3 with h3 | h3
    · have := Int.tmod_nonneg b h3; omega
    · have := Int.tmod_eq_zero_of_dvd h3; omega
  · rw [h2, Int.sign_eq_one_of_pos hb]
theorem floor_same {a b : Int} (hb : 0 < b) (h : 0 ≤ a.tmod b) : a.tdiv b = a / b := by
  have h2 := Int.tdiv_eq_ediv (a := a) (b := b)
  split at h2
  · omega
  · rename_i h3
    exfalso
    have h4 : a < 0 := by
      rcases Int.lt_or_le a 0 with h | h
      · exact h
      · exact absurd (.inl h) h3
    have h5 : 0 ≤ (-a).tmod b := Int.tmod_nonneg b (by omega)
    rw [Int.neg_tmod] at h5
    exact h3 (.inr (Int.dvd_of_tmod_eq_zero (by omega)))
theorem floor_neg {a b : Int} (hb : 0 < b) : (b - 1 - a) / b = -(a / b) := by
  have h1 := Int.emod_nonneg a (show b ≠ 0 by omega)
  have h2 := Int.emod_lt_of_pos a hb
  have h3 := Int.mul_ediv_add_emod a b
  have h4 : b - 1 - a = (b - 1 - a % b) + b * (-(a / b)) := by rw [Int.mul_neg]; omega
  rw [h4, Int.add_mul_ediv_left _ _ (by omega), Int.ediv_eq_zero_of_lt (by omega) (by omega)]
  omega
theorem floorDiv_any (a b : Int) (w : World) (hb : 1 ≤ b) (hb2 : b ≤ 1000) (ha : -200000 ≤ a) (ha2 : a ≤ 200000) :
    Calls Try.prog 61 #[.int .i64 a, .int .i64 b] w fun e w' => e = .returned (.int .i64 (a / b)) ∧ w = w' := by
  obtain ⟨q1, q2⟩ := quo_bd (n := 200000) hb (by omega) ha ha2
  by_cases h : a.tmod b < 0
  · have hq := floor_down (by omega) h
    have q3 : -200001 ≤ a.tdiv b := by omega
    have q4 : a.tdiv b ≤ 200001 := by omega
    have HQ := hide hq; clear hq
    go_enter Try.func61, Try.ntmps61
    go_wp2
    go_ret
    exact ⟨ret_int (by have := HQ.out; show a.tdiv b - 1 = _; omega), rfl⟩
  · have hq := floor_same (by omega) (Int.not_lt.1 h)
    have HQ := hide hq; clear hq
    go_enter Try.func61, Try.ntmps61
    go_wp2
    go_ret
    exact ⟨ret_int HQ.out, rfl⟩
theorem l8Floor_any (a b : Int) (w : World) (hb : 1 ≤ b) (hb2 : b ≤ 1000) (ha : -200000 ≤ a) (ha2 : a ≤ 200000) :
    Calls Try.prog 58 #[.int .i64 a, .int .i64 b] w fun e w' => e = .returned (.int .i64 (a / b)) ∧ w = w' := by
  obtain ⟨q1, q2⟩ := quo_bd (n := 200000) hb (by omega) ha ha2
  have hq := floor_neg (a := a) (b := b) (by omega)
  have q3 : -200001 ≤ (b - 1 - a) / b := by omega
  have q4 : (b - 1 - a) / b ≤ 200001 := by omega
  have HQ := hide hq; clear hq
  go_enter Try.func58, Try.ntmps58
  go_wp2
  all_goals go_ret
  · exact ⟨ret_int (by have := HQ.out; show -((b - 1 - a) / b) = _; omega), rfl⟩
  · exact ⟨ret_int rfl, rfl⟩
/-- whether a list are heights for n marks -/
def hgtB (n : Int) (hs : List Int) : Bool := decide ((hs.length : Int) = n) && hs.all fun h => inB h (-200000) 200000
theorem areHeights1_any (h : Int) (w : World) :
    Calls Try.prog 84 #[.int .i64 h] w fun e w' => e = .returned (.bool (!inB h (-200000) 200000)) ∧ w = w' := by
  go_enter Try.func84, Try.ntmps84
  go_wp2_with (first | (go_at_call 55; refine (within_any _ _ _ _).mono ?_; rintro e w' ⟨rfl, rfl⟩))
  go_ret
  exact ⟨rfl, rfl⟩
theorem eg_areHeights1 : ∀ args w, (callFunc 84 args).run Try.prog w = .ok (.enter 84 args) w := fun _ _ => by kernel_rfl
theorem areHeights_any (n : Int) (A : Option Addr) (cap : Nat) (xs : List Int) (w : World) (hr : Row 1 encI w w.heap.size A xs) (hm : xs.length ≤ 9223372036854775807) :
    Calls Try.prog 60 #[.int .i64 n, .slice A xs.length cap] w fun e w' => e = .returned (.bool (hgtB n xs)) ∧ Below w.heap.size w w' := by
  by_cases hn : (xs.length : Int) = n
  · have hn' : ((xs.length : Int) == n) = true := by simp [hn]
    have hcont := ContainsFuncI_any 84 #[] (fun h => !inB h (-200000) 200000) A cap xs w hr hm eg_areHeights1 (fun W c hW => (areHeights1_any c W).mono fun e w' ⟨h1, h2⟩ => ⟨h1, h2 ▸ hW⟩)
    have HC := hide hcont; clear hcont hr
    have hv : (!xs.any fun h => !inB h (-200000) 200000) = hgtB n xs := by
      unfold hgtB; rw [decide_eq_true hn, Bool.true_and, any_not_all]
    have HV := hide hv; clear hv hn
    go_enter Try.func60, Try.ntmps60
    go_wp2_with (go_at_call 83; refine HC.out.mono ?_; rintro e w1 ⟨rfl, hb1⟩)
    go_ret
    exact ⟨ret_bool HV.out, hb1⟩
  · have hn' : ((xs.length : Int) == n) = false := by simp [hn]
    have hv : hgtB n xs = false := by unfold hgtB; rw [decide_eq_false hn, Bool.false_and]
    have HV := hide hv; clear hv hn
    go_enter Try.func60, Try.ntmps60
    go_wp2_with fail
    go_ret
    exact ⟨ret_bool HV.out.symm, Below.refl _ _⟩
end Go.Proofs.Ytijjecckfcbaoaa
