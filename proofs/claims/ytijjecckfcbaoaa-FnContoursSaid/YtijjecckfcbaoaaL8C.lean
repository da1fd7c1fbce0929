/- Contracts of ClaimOfContours in spec and impl: both return cocV (coc low high count step), for all ints; old memory stays. No condition. -/
import Derived.Test.YtijjecckfcbaoaaL8A
import Derived.Test.YtijjecckfcbaoaaL8B
namespace Go.Proofs.Ytijjecckfcbaoaa
open Go.RowKit
def zeroClaim : Value := .tuple #[.agg #[.int .i64 0, .int .i64 0, .int .i64 0, .int .i64 0], .bool false]
def someClaim (a b c d : Int) : Value := .tuple #[.agg #[.int .i64 a, .int .i64 b, .int .i64 c, .int .i64 d], .bool true]
def coc (lo hi c s : Int) : Option (Int × Int × Int × Int) := if inB c 0 9 && inB s 1 1000 && oneB 10 lo hi (max 0 ((c-1)*s+1)) ((c+1)*s-1) then some (lo, hi, max 0 ((c-1)*s+1), (c+1)*s-1) else none
def cocV (o : Option (Int × Int × Int × Int)) : Value := match o with | some (a, b, c, d) => someClaim a b c d | none => zeroClaim

theorem claim_bounds (c s : Int) (hc : inB c 0 9 = true) (hs : inB s 1 1000 = true) : (0 ≤ c ∧ c ≤ 9) ∧ (1 ≤ s ∧ s ≤ 1000) ∧ (-1000 ≤ (c-1)*s ∧ (c-1)*s ≤ 8000) ∧ 0 ≤ (c+1)*s ∧ (c+1)*s ≤ 10000 := by
  rw [inB_iff] at hc hs
  refine ⟨hc, hs, ?_⟩
  have : c = 0 ∨ c = 1 ∨ c = 2 ∨ c = 3 ∨ c = 4 ∨ c = 5 ∨ c = 6 ∨ c = 7 ∨ c = 8 ∨ c = 9 := by omega
  rcases this with rfl|rfl|rfl|rfl|rfl|rfl|rfl|rfl|rfl|rfl <;> omega

theorem spec_coc (lo hi c s : Int) (w : World) :
    Calls Try.prog 15 #[.int .i64 lo, .int .i64 hi, .int .i64 c, .int .i64 s] w fun e w' => e = .returned (cocV (coc lo hi c s)) ∧ Below w.heap.size w w' := by
  by_cases hc : inB c 0 9 = true
  case neg =>
    have hr : coc lo hi c s = none := by simp [coc, hc]
    rw [Bool.not_eq_true] at hc
    rw [hr]; clear hr
    go_enter Try.func15, Try.ntmps15
    go_wp2_with (first | (go_at_call 52; refine (l1In_any _ _ _ _).mono ?_; rintro e w' ⟨rfl, rfl⟩))
    exact bodyPost_ret (v := zeroClaim) (by simp [results, Try.results15, zeroClaim, go_sem]) rfl ⟨rfl, (Below.refl _ _).alloc (Nat.le_refl _) _⟩
  by_cases hs : inB s 1 1000 = true
  case neg =>
    have hr : coc lo hi c s = none := by simp [coc, hs]
    rw [Bool.not_eq_true] at hs
    rw [hr]; clear hr
    go_enter Try.func15, Try.ntmps15
    go_wp2_with (first | (go_at_call 52; refine (l1In_any _ _ _ _).mono ?_; rintro e w' ⟨rfl, rfl⟩))
    exact bodyPost_ret (v := zeroClaim) (by simp [results, Try.results15, zeroClaim, go_sem]) rfl ⟨rfl, (Below.refl _ _).alloc (Nat.le_refl _) _⟩
  obtain ⟨⟨_, _⟩, ⟨_, _⟩, ⟨_, _⟩, _, _⟩ := claim_bounds c s hc hs
  by_cases ho : oneB 10 lo hi (max 0 ((c-1)*s+1)) ((c+1)*s-1) = true
  · have hr : coc lo hi c s = some (lo, hi, max 0 ((c-1)*s+1), (c+1)*s-1) := by simp [coc, hc, hs, ho]
    rw [hr]; clear hr
    go_enter Try.func15, Try.ntmps15
    go_wp2_with (first | (go_at_call 52; refine (l1In_any _ _ _ _).mono ?_; rintro e w' ⟨rfl, rfl⟩) | (go_at_call 53; refine (l1Most_any _ _ _).mono ?_; rintro e w' ⟨rfl, rfl⟩) | (go_at_call 54; refine (l8One_any _ _ _ _ _ _).mono ?_; rintro e w1 ⟨rfl, rfl⟩))
    exact bodyPost_ret (v := someClaim lo hi (max 0 ((c-1)*s+1)) ((c+1)*s-1)) (by simp [results, Try.results15, someClaim, go_sem]) rfl ⟨rfl, (((Below.refl _ _).alloc (Nat.le_refl _) _).alloc (by simp) _).alloc (by simp; omega) _⟩
  · have hr : coc lo hi c s = none := by simp [coc, hc, hs, ho]
    rw [Bool.not_eq_true] at ho
    rw [hr]; clear hr
    go_enter Try.func15, Try.ntmps15
    go_wp2_with (first | (go_at_call 52; refine (l1In_any _ _ _ _).mono ?_; rintro e w' ⟨rfl, rfl⟩) | (go_at_call 53; refine (l1Most_any _ _ _).mono ?_; rintro e w' ⟨rfl, rfl⟩) | (go_at_call 54; refine (l8One_any _ _ _ _ _ _).mono ?_; rintro e w1 ⟨rfl, rfl⟩))
    exact bodyPost_ret (v := zeroClaim) (by simp [results, Try.results15, zeroClaim, go_sem]) rfl ⟨rfl, (((Below.refl _ _).alloc (Nat.le_refl _) _).alloc (by simp) _).alloc (by simp; omega) _⟩

theorem impl_coc (lo hi c s : Int) (w : World) :
    Calls Try.prog 16 #[.int .i64 lo, .int .i64 hi, .int .i64 c, .int .i64 s] w fun e w' => e = .returned (cocV (coc lo hi c s)) ∧ Below w.heap.size w w' := by
  by_cases hc : inB c 0 9 = true
  case neg =>
    have hr : coc lo hi c s = none := by simp [coc, hc]
    rw [Bool.not_eq_true] at hc
    rw [hr]; clear hr
    go_enter Try.func16, Try.ntmps16
    go_wp2_with (first | (go_at_call 55; refine (within_any _ _ _ _).mono ?_; rintro e w' ⟨rfl, rfl⟩))
    all_goals exact bodyPost_ret (v := zeroClaim) (by simp [results, Try.results16, zeroClaim, go_sem]) rfl ⟨rfl, ((Below.refl _ _).alloc (Nat.le_refl _) _).alloc (by simp) _⟩
  by_cases hs : inB s 1 1000 = true
  case neg =>
    have hr : coc lo hi c s = none := by simp [coc, hs]
    rw [Bool.not_eq_true] at hs
    rw [hr]; clear hr
    go_enter Try.func16, Try.ntmps16
    go_wp2_with (first | (go_at_call 55; refine (within_any _ _ _ _).mono ?_; rintro e w' ⟨rfl, rfl⟩) | (go_at_call 56; refine (isStep_any _ _).mono ?_; rintro e w' ⟨rfl, rfl⟩))
    all_goals exact bodyPost_ret (v := zeroClaim) (by simp [results, Try.results16, zeroClaim, go_sem]) rfl ⟨rfl, ((Below.refl _ _).alloc (Nat.le_refl _) _).alloc (by simp) _⟩
  obtain ⟨⟨_, _⟩, ⟨_, _⟩, ⟨_, _⟩, _, _⟩ := claim_bounds c s hc hs
  by_cases ho : oneB 10 lo hi (max 0 ((c-1)*s+1)) ((c+1)*s-1) = true
  · have hr : coc lo hi c s = some (lo, hi, max 0 ((c-1)*s+1), (c+1)*s-1) := by simp [coc, hc, hs, ho]
    rw [hr]; clear hr
    go_enter Try.func16, Try.ntmps16
    go_wp2_with (first | (go_at_call 55; refine (within_any _ _ _ _).mono ?_; rintro e w' ⟨rfl, rfl⟩) | (go_at_call 56; refine (isStep_any _ _).mono ?_; rintro e w' ⟨rfl, rfl⟩) | (go_at_call 57; refine (isClaim_any _ _ _ _ _ _ (by decide) (by decide)).mono ?_; rintro e w1 ⟨rfl, rfl⟩))
    exact bodyPost_ret (v := someClaim lo hi (max 0 ((c-1)*s+1)) ((c+1)*s-1)) (by simp [results, Try.results16, someClaim, go_sem]) rfl ⟨rfl, (((Below.refl _ _).alloc (Nat.le_refl _) _).alloc (by simp) _).alloc (by simp; omega) _⟩
  · have hr : coc lo hi c s = none := by simp [coc, hc, hs, ho]
    rw [Bool.not_eq_true] at ho
    rw [hr]; clear hr
    go_enter Try.func16, Try.ntmps16
    go_wp2_with (first | (go_at_call 55; refine (within_any _ _ _ _).mono ?_; rintro e w' ⟨rfl, rfl⟩) | (go_at_call 56; refine (isStep_any _ _).mono ?_; rintro e w' ⟨rfl, rfl⟩) | (go_at_call 57; refine (isClaim_any _ _ _ _ _ _ (by decide) (by decide)).mono ?_; rintro e w1 ⟨rfl, rfl⟩))
    exact bodyPost_ret (v := zeroClaim) (by simp [results, Try.results16, zeroClaim, go_sem]) rfl ⟨rfl, (((Below.refl _ _).alloc (Nat.le_refl _) _).alloc (by simp) _).alloc (by simp; omega) _⟩
end Go.Proofs.Ytijjecckfcbaoaa
