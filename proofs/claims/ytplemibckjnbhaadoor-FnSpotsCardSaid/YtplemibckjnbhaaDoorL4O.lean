/- Contracts of the whole part of a root in impl and spec: both return the Lean function rootI of the number; PlacesApart in both. Conditions: the number from 0 to 19999700000 (roots); places near the map. -/
import Derived.Test.YtplemibckjnbhaaDoorL4L
import Derived.IntWalk
namespace Go.Proofs.YtplemibckjnbhaaDoor
open Go.RowKit
set_option linter.unusedVariables false
theorem mul_bd {a b n m : Int} (h1 : -n ≤ a) (h2 : a ≤ n) (h3 : -m ≤ b) (h4 : b ≤ m) (hn : 0 ≤ n) (hm : 0 ≤ m) : -(n * m) ≤ a * b ∧ a * b ≤ n * m := by
  have h5 : a.natAbs ≤ n.natAbs := by omega
  have h6 : b.natAbs ≤ m.natAbs := by omega
  have h7 : (a * b).natAbs ≤ (n * m).natAbs := by rw [Int.natAbs_mul, Int.natAbs_mul]; exact Nat.mul_le_mul h5 h6
  have h8 : 0 ≤ n * m := Int.mul_nonneg hn hm
  omega
theorem root_bd {n : Int} (h : 0 ≤ n) (h2 : n ≤ 19999700000) : rootI n < 200000 := by
  obtain ⟨a, b, _⟩ := rootI_spec h
  exact sq_lt a (by omega) (by omega)
theorem l4Root_any (n : Int) (w : World) (h0 : 0 ≤ n) (h1 : n ≤ 19999700000) :
    Calls Tryd.prog 77 #[.int .i64 n] w fun e w' => e = .returned (.int .i64 (rootI n)) ∧ w = w' := by
  obtain ⟨ra, rb, rc⟩ := rootI_spec h0
  have rd := root_bd h0 h1
  have RB := hide rb; have RC := hide rc; clear rb rc
  generalize hR : rootI n = R at ra rd RB RC ⊢
  have HR := hide hR; clear hR
  go_enter Tryd.func77, Tryd.ntmps77
  go_wp2_with fail
  go_loop [3, 4] (fun l h => ∃ a b : Int, l = .int .i64 a ∧ h = .int .i64 b ∧ 0 ≤ a ∧ b ≤ 200000 ∧ a ≤ R ∧ R ≤ b) (fun l h => (intOf h - intOf l).toNat)
  case atStart => exact ⟨0, 200000, rfl, rfl, by omega, by omega, by omega, by omega⟩
  case round =>
    obtain ⟨a, b, rfl, rfl, g0, g1, g2, g3⟩ := hrel
    by_cases hlt : a < b
    · have m0 : a < (a + b + 1) / 2 := by omega
      have m1 : (a + b + 1) / 2 ≤ b := by omega
      have m2 : 0 ≤ (a + b + 1) / 2 := by omega
      have m3 : (a + b + 1) / 2 ≤ 200000 := by omega
      obtain ⟨k0, k1⟩ := mul_bd (a := (a + b + 1) / 2) (b := (a + b + 1) / 2) (n := 200000) (m := 200000) (by omega) (by omega) (by omega) (by omega) (by omega) (by omega)
      simp only [Int.reduceMul, Int.reduceNeg] at k0 k1
      by_cases hm : (a + b + 1) / 2 * ((a + b + 1) / 2) ≤ n
      · have hh : (a + b + 1) / 2 ≤ R := by
          have := RC.out
          have := sq_lt m2 (show 0 ≤ R + 1 by omega) (by omega)
          omega
        go_wp2_with fail
        go_round
        case rel => exact ⟨(a + b + 1) / 2, b, rfl, rfl, by omega, by omega, by omega, by omega⟩
        case measure => simp only [intOf, Array.getD]; simp; omega
      · have hh : R ≤ (a + b + 1) / 2 - 1 := by
          have h2 := RB.out
          have := sq_lt ra m2 (by omega)
          omega
        go_wp2_with fail
        go_round
        case rel => exact ⟨a, (a + b + 1) / 2 - 1, rfl, rfl, by omega, by omega, by omega, by omega⟩
        case measure => simp only [intOf, Array.getD]; simp; omega
    · have hab : a = R := by omega
      have HAB := hide hab; clear hab
      go_wp2_with fail
      go_ret
      exact ⟨ret_int HAB.out, rfl⟩
/-- the bits of the other root, the last one 0 -/
def bitI (j : Nat) : Int := if j = 0 then 0 else 2 ^ (j - 1)
theorem bitI_half (j : Nat) : bitI (j + 1) / 2 = bitI j := by
  cases j with
  | zero => rfl
  | succ j => simp only [bitI, Nat.add_one_ne_zero, if_false, Nat.add_sub_cancel]; rw [Int.pow_succ, Int.mul_ediv_cancel _ (by omega)]
theorem bitI_pos (j : Nat) : 0 < bitI (j + 1) := by
  simp only [bitI, Nat.add_one_ne_zero, if_false, Nat.add_sub_cancel]; exact Int.pow_pos (by omega)
theorem root_any (n : Int) (w : World) (h0 : 0 ≤ n) (h1 : n ≤ 3000000000000) :
    Calls Tryd.prog 76 #[.int .i64 n] w fun e w' => e = .returned (.int .i64 (rootI n)) ∧ w = w' := by
  go_enter Tryd.func76, Tryd.ntmps76
  go_wp2_with fail
  go_loop [3, 4] (fun l h => ∃ (r b c : Int) (j : Nat), l = .int .i64 r ∧ h = .int .i64 b ∧ Hid (b = bitI j) ∧ Hid (c = 2 * b ∨ (b = 0 ∧ c = 1)) ∧ 0 ≤ b ∧ 0 ≤ r ∧ r + c ≤ 2147483648 ∧ Hid (r * r ≤ n) ∧ Hid (n < (r + c) * (r + c)) ∧ Hid (j ≤ 31)) (fun _ h => (intOf h).toNat)
  case atStart =>
    exact ⟨0, 1073741824, 2147483648, 31, rfl, rfl, (by decide : (1073741824 : Int) = bitI 31), .inl rfl, by omega, by omega, by omega, (by show (0:Int) * 0 ≤ n; omega), (by show n < (0 + 2147483648) * (0 + 2147483648); omega), (by decide : 31 ≤ 31)⟩
  case round =>
    obtain ⟨r, b, c, j, rfl, rfl, hb, hc, g0, g1, g2, hsq, hn, hj⟩ := hrel
    by_cases hlt : 0 < b
    · have hc2 : c = 2 * b := by rcases hc.out with h | h <;> omega
      obtain ⟨j, rfl⟩ : ∃ k, j = k + 1 := by
        cases j with
        | zero => have := hb.out; simp [bitI] at this; omega
        | succ k => exact ⟨k, rfl⟩
      have hhalf : b / 2 = bitI j := by rw [hb.out]; exact bitI_half j
      have hnext : b = 2 * (b / 2) ∨ (b / 2 = 0 ∧ b = 1) := by
        cases j with
        | zero => right; have := hb.out; simp [bitI] at this; omega
        | succ k =>
          left
          have h3 := hb.out
          simp only [bitI, Nat.add_one_ne_zero, if_false, Nat.add_sub_cancel] at h3
          rw [Int.pow_succ] at h3; omega
      have HH := hide hhalf; have HNX := hide hnext; have HC2 := hide hc2
      have hrb : r + b ≤ 2147483648 := by omega
      obtain ⟨k0, k1⟩ := mul_bd (a := r + b) (b := r + b) (n := 2147483648) (m := 2147483648) (by omega) (by omega) (by omega) (by omega) (by omega) (by omega)
      simp only [Int.reduceMul, Int.reduceNeg] at k0 k1
      clear hhalf hnext hc2
      by_cases hm : (r + b) * (r + b) ≤ n
      · have HM := hide hm
        go_wp2_with fail
        refine ⟨⟨r + b, b / 2, b, j, rfl, rfl, HH.out, HNX.out, by omega, by omega, by have := HC2.out; omega, HM.out, ?_, (by have := hj.out; show j ≤ 31; omega)⟩, by simp [intOf]; omega⟩
        have h3 := hn.out; rw [HC2.out] at h3
        show n < (r + b + b) * (r + b + b)
        rw [show r + b + b = r + 2 * b by omega]; exact h3
      · have HM := hide hm
        go_wp2_with fail
        refine ⟨⟨r, b / 2, b, j, rfl, rfl, HH.out, HNX.out, by omega, by omega, by omega, hsq, (by have := HM.out; show n < (r + b) * (r + b); omega), (by have := hj.out; show j ≤ 31; omega)⟩, by simp [intOf]; omega⟩
    · have hr : r = rootI n := by
        have h3 := hn.out; have h4 := hsq.out
        have hc1 : c = 1 := by
          rcases hc.out with h | h
          · have : c = 0 := by omega
            subst this; rw [Int.add_zero] at h3; omega
          · exact h.2
        subst hc1
        exact root_eq h0 g1 h4 h3
      have HRR := hide hr; clear hr
      go_wp2_with fail
      go_ret
      exact ⟨ret_int HRR.out, rfl⟩
theorem PlacesApartI_is (x y u v : Int) (w : World) (hx : -1 ≤ x ∧ x ≤ 100000) (hy : -1 ≤ y ∧ y ≤ 100000) (hu : -1 ≤ u ∧ u ≤ 100000) (hv : -1 ≤ v ∧ v ≤ 100000) :
    Calls Tryd.prog 29 #[.int .i64 x, .int .i64 y, .int .i64 u, .int .i64 v] w fun e w' => e = .returned (.tuple #[.int .i64 (apartV x y u v).1, .bool (apartV x y u v).2]) ∧ w = w' := by
  have c1 := fun W => isPlace_any x y W
  have c2 := fun W => isPlace_any u v W
  cases h1 : placeB x y with
  | false =>
    have hv : apartV x y u v = (0, false) := by unfold apartV; rw [h1]; rfl
    rw [h1] at c1
    have C1 := hide c1; have HV := hide hv; clear c1 c2 h1 hv
    go_enter Tryd.func29, Tryd.ntmps29
    go_wp2_with (go_at_call 63; refine (C1.out _).mono ?_; rintro e w' ⟨rfl, rfl⟩)
    go_ret2
    rw [HV.out]
    exact ⟨rfl, rfl⟩
  | true =>
    cases h2 : placeB u v with
    | false =>
      have hv : apartV x y u v = (0, false) := by unfold apartV; rw [h1, h2]; rfl
      rw [h1] at c1; rw [h2] at c2
      have C1 := hide c1; have C2 := hide c2; have HV := hide hv; clear c1 c2 h1 h2 hv
      go_enter Tryd.func29, Tryd.ntmps29
      go_wp2_with fail
      refine (C1.out _).mono ?_; rintro e w' ⟨rfl, rfl⟩
      go_wp2_with fail
      refine (C2.out _).mono ?_; rintro e w' ⟨rfl, rfl⟩
      go_wp2_with fail
      go_ret2
      rw [HV.out]
      exact ⟨rfl, rfl⟩
    | true =>
      have hv : apartV x y u v = (rootI (apartD x y u v), true) := by unfold apartV; rw [h1, h2]; rfl
      obtain ⟨⟨x0, x1⟩, y0, y1⟩ := placeB_iff.1 h1
      obtain ⟨⟨u0, u1⟩, v0, v1⟩ := placeB_iff.1 h2
      have hb := apart_bd h1 h2
      obtain ⟨s1, s2⟩ := sq_bd (d := x - u) (by omega) (by omega)
      obtain ⟨s3, s4⟩ := sq_bd (d := y - v) (by omega) (by omega)
      have cr := fun W => root_any (apartD x y u v) W hb.1 (by omega)
      rw [h1] at c1; rw [h2] at c2
      generalize rootI (apartD x y u v) = r at *
      unfold apartD at cr
      have C1 := hide c1; have C2 := hide c2; have HV := hide hv; have CR := hide cr; clear c1 c2 h1 h2 hv cr hb hx hy hu
      go_enter Tryd.func29, Tryd.ntmps29
      go_wp2_with fail
      refine (C1.out _).mono ?_; rintro e w' ⟨rfl, rfl⟩
      go_wp2_with fail
      refine (C2.out _).mono ?_; rintro e w' ⟨rfl, rfl⟩
      go_wp2_with fail
      refine (CR.out _).mono ?_; rintro e w' ⟨rfl, rfl⟩
      go_wp2_with fail
      go_ret2
      rw [HV.out]
      exact ⟨rfl, rfl⟩
theorem PlacesApartS_is (x y u v : Int) (w : World) (hx : -1 ≤ x ∧ x ≤ 100000) (hy : -1 ≤ y ∧ y ≤ 100000) (hu : -1 ≤ u ∧ u ≤ 100000) (hv : -1 ≤ v ∧ v ≤ 100000) :
    Calls Tryd.prog 30 #[.int .i64 x, .int .i64 y, .int .i64 u, .int .i64 v] w fun e w' => e = .returned (.tuple #[.int .i64 (apartV x y u v).1, .bool (apartV x y u v).2]) ∧ w = w' := by
  have c1 := fun W => l4Place_any x y W
  have c2 := fun W => l4Place_any u v W
  cases h1 : placeB x y with
  | false =>
    have hv : apartV x y u v = (0, false) := by unfold apartV; rw [h1]; rfl
    rw [h1] at c1
    have C1 := hide c1; have HV := hide hv; clear c1 c2 h1 hv
    go_enter Tryd.func30, Tryd.ntmps30
    go_wp2_with (go_at_call 74; refine (C1.out _).mono ?_; rintro e w' ⟨rfl, rfl⟩)
    go_ret2
    rw [HV.out]
    exact ⟨rfl, rfl⟩
  | true =>
    cases h2 : placeB u v with
    | false =>
      have hv : apartV x y u v = (0, false) := by unfold apartV; rw [h1, h2]; rfl
      rw [h1] at c1; rw [h2] at c2
      have C1 := hide c1; have C2 := hide c2; have HV := hide hv; clear c1 c2 h1 h2 hv
      go_enter Tryd.func30, Tryd.ntmps30
      go_wp2_with fail
      refine (C1.out _).mono ?_; rintro e w' ⟨rfl, rfl⟩
      go_wp2_with fail
      refine (C2.out _).mono ?_; rintro e w' ⟨rfl, rfl⟩
      go_wp2_with fail
      go_ret2
      rw [HV.out]
      exact ⟨rfl, rfl⟩
    | true =>
      have hv : apartV x y u v = (rootI (apartD x y u v), true) := by unfold apartV; rw [h1, h2]; rfl
      obtain ⟨⟨x0, x1⟩, y0, y1⟩ := placeB_iff.1 h1
      obtain ⟨⟨u0, u1⟩, v0, v1⟩ := placeB_iff.1 h2
      have hb := apart_bd h1 h2
      obtain ⟨s1, s2⟩ := sq_bd (d := x - u) (by omega) (by omega)
      obtain ⟨s3, s4⟩ := sq_bd (d := y - v) (by omega) (by omega)
      have cr := fun W => l4Root_any (apartD x y u v) W hb.1 (by omega)
      rw [h1] at c1; rw [h2] at c2
      generalize rootI (apartD x y u v) = r at *
      unfold apartD at cr
      have C1 := hide c1; have C2 := hide c2; have HV := hide hv; have CR := hide cr; clear c1 c2 h1 h2 hv cr hb hx hy hu
      go_enter Tryd.func30, Tryd.ntmps30
      go_wp2_with fail
      refine (C1.out _).mono ?_; rintro e w' ⟨rfl, rfl⟩
      go_wp2_with fail
      refine (C2.out _).mono ?_; rintro e w' ⟨rfl, rfl⟩
      go_wp2_with fail
      refine (CR.out _).mono ?_; rintro e w' ⟨rfl, rfl⟩
      go_wp2_with fail
      go_ret2
      rw [HV.out]
      exact ⟨rfl, rfl⟩
end Go.Proofs.YtplemibckjnbhaaDoor
