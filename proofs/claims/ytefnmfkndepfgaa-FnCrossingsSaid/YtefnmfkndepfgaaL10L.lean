/- Contracts of the reduced fraction, in impl and spec: both halves divided by their greatest common divisor. Conditions: numerator from 0, denominator from 1, both up to 2^40. -/
import Derived.Test.YtefnmfkndepfgaaL10K
namespace Go.Proofs.Ytefnmfkndepfgaa
open Go.RowKit Go.Lib
set_option linter.unusedVariables false
def gcdI (a b : Int) : Int := (Nat.gcd a.toNat b.toNat : Int)
theorem gcdI_zero {a : Int} (h : 0 ≤ a) : gcdI a 0 = a := by simp [gcdI]; omega
theorem gcdI_step {a b : Int} (ha : 0 ≤ a) (hb : 0 < b) : gcdI b (a % b) = gcdI a b := by
  unfold gcdI
  have h : (a % b).toNat = a.toNat % b.toNat := Int.toNat_emod ha (by omega)
  rw [h, Nat.gcd_comm a.toNat, Nat.gcd_rec b.toNat a.toNat, Nat.gcd_comm]
theorem gcdI_pos {a b : Int} (hb : 0 < b) : 0 < gcdI a b := by
  unfold gcdI
  have := Nat.gcd_pos_of_pos_right a.toNat (show 0 < b.toNat by omega)
  omega
theorem gcd_any (a b : Int) (w : World) (ha : 0 ≤ a) (hb : 0 ≤ b) (ha' : a ≤ 1099511627776) (hb' : b ≤ 1099511627776) :
    Calls Try.prog 85 #[.int .i64 a, .int .i64 b] w fun e w' => e = .returned (.int .i64 (gcdI a b)) ∧ Below w.heap.size w w' := by
  generalize hg : gcdI a b = g
  have HG := hide hg; clear hg
  go_enter Try.func85, Try.ntmps85
  go_wp2_with fail
  go_loopw [0, 1] (fun p q wr => ∃ x y : Int, p = .int .i64 x ∧ q = .int .i64 y ∧ 0 ≤ x ∧ x ≤ 1099511627776 ∧ 0 ≤ y ∧ y ≤ 1099511627776 ∧ Hid (gcdI x y = g) ∧ Below w.heap.size w wr) (fun _ q _ => (intOf q).toNat)
  case atStart => exact ⟨a, b, rfl, rfl, ha, ha', hb, hb', HG, Below.refl _ _⟩
  case round =>
    obtain ⟨x, y, rfl, rfl, x0, x1, y0, y1, HX, hbel⟩ := hrel
    by_cases hy : y = 0
    · subst hy
      have hx := HX.out
      rw [gcdI_zero x0] at hx
      have HE := hide hx; clear hx
      go_wp2_with fail
      go_ret
      exact ⟨ret_int HE.out, hbel⟩
    · have hm := Int.emod_nonneg x hy
      have hm2 := Int.emod_lt_of_pos x (show 0 < y by omega)
      have hst := gcdI_step x0 (show 0 < y by omega)
      rw [HX.out] at hst
      have HST := hide hst; clear hst
      go_wp2_with fail
      go_region
      all_goals
        go_wp2_with fail
        refine ⟨⟨y, x % y, rfl, rfl, y0, y1, hm, by omega, HST, hbel.drew⟩, by simp [intOf]; omega⟩
theorem abs_any (n : Int) (w : World) (h0 : 0 ≤ n) (h1 : n ≤ 1099511627776) :
    Calls Try.prog 86 #[.int .i64 n] w fun e w' => e = .returned (.int .i64 n) ∧ w = w' := by
  have hmax : max n (-n) = n := by omega
  go_enter Try.func86, Try.ntmps86
  go_wp2_with fail
  go_ret
  exact ⟨ret_int (by omega), rfl⟩
/-- the two halves, divided by their greatest common divisor -/
def fracI (n d : Int) : Int × Int := (n / gcdI n d, d / gcdI n d)
theorem fraction_any (n d : Int) (w : World) (h0 : 0 ≤ n) (h1 : n ≤ 1099511627776) (h2 : 1 ≤ d) (h3 : d ≤ 1099511627776) :
    Calls Try.prog 68 #[.int .i64 n, .int .i64 d] w fun e w' => e = .returned (.tuple #[.int .i64 (fracI n d).1, .int .i64 (fracI n d).2]) ∧ Below w.heap.size w w' := by
  have hp := gcdI_pos (a := n) (b := d) (by omega)
  have hcall := fun W => gcd_any n d W h0 (by omega) h1 h3
  unfold fracI
  have q1 := Int.ediv_nonneg h0 (show 0 ≤ gcdI n d by omega)
  have q2 := Int.ediv_nonneg (show 0 ≤ d by omega) (show 0 ≤ gcdI n d by omega)
  have q3 := Int.ediv_le_self (gcdI n d) h0
  have q4 := Int.ediv_le_self (gcdI n d) (show 0 ≤ d by omega)
  generalize gcdI n d = g at hp hcall q1 q2 q3 q4 ⊢
  have HC := hide hcall; clear hcall
  have hg0 : ¬ g = 0 := by omega
  go_enter Try.func68, Try.ntmps68
  go_wp2_with fail
  refine (abs_any n w h0 h1).mono ?_; rintro e w' ⟨rfl, rfl⟩
  go_wp2_with fail
  refine (HC.out _).mono ?_; rintro e w1 ⟨rfl, hb1⟩
  go_wp2_with fail
  go_region
  all_goals
    go_wp2_with fail
    go_ret2
    exact ⟨rfl, hb1.drew⟩
theorem l2Reduce_any (n d : Int) (w : World) (h0 : 0 ≤ n) (h1 : n ≤ 1099511627776) (h2 : 1 ≤ d) (h3 : d ≤ 1099511627776) :
    Calls Try.prog 67 #[.int .i64 n, .int .i64 d] w fun e w' => e = .returned (.tuple #[.int .i64 (fracI n d).1, .int .i64 (fracI n d).2]) ∧ Below w.heap.size w w' := by
  have hp := gcdI_pos (a := n) (b := d) (by omega)
  unfold fracI
  have q1 := Int.ediv_nonneg h0 (show 0 ≤ gcdI n d by omega)
  have q2 := Int.ediv_nonneg (show 0 ≤ d by omega) (show 0 ≤ gcdI n d by omega)
  have q3 := Int.ediv_le_self (gcdI n d) h0
  have q4 := Int.ediv_le_self (gcdI n d) (show 0 ≤ d by omega)
  generalize hg : gcdI n d = g at hp q1 q2 q3 q4 ⊢
  have HG := hide hg; clear hg
  have hg0 : ¬ g = 0 := by omega
  have hmost : max n (-n) = n := by omega
  go_enter Try.func67, Try.ntmps67
  go_wp2_with fail
  refine (l1Most_any _ _ _).mono ?_; rintro e w' ⟨rfl, rfl⟩
  rw [hmost]
  clear hmost
  go_wp2_with fail
  go_loopw [6, 7] (fun p q wr => ∃ x y : Int, p = .int .i64 x ∧ q = .int .i64 y ∧ 0 ≤ x ∧ x ≤ 1099511627776 ∧ 0 ≤ y ∧ y ≤ 1099511627776 ∧ Hid (gcdI x y = g) ∧ Below w.heap.size w wr) (fun _ q _ => (intOf q).toNat)
  case atStart => exact ⟨n, d, rfl, rfl, h0, h1, by omega, h3, HG, Below.refl _ _⟩
  case round =>
    obtain ⟨x, y, rfl, rfl, x0, x1, y0, y1, HX, hbel⟩ := hrel
    by_cases hy : y = 0
    · subst hy
      have hx := HX.out
      rw [gcdI_zero x0] at hx
      subst hx
      go_wp2_with fail
      go_region
      all_goals
        go_wp2_with fail
        go_ret2
        exact ⟨rfl, hbel.drew⟩
    · have hm := Int.emod_nonneg x hy
      have hm2 := Int.emod_lt_of_pos x (show 0 < y by omega)
      have hst := gcdI_step x0 (show 0 < y by omega)
      rw [HX.out] at hst
      have HST := hide hst; clear hst
      go_wp2_with fail
      refine ⟨⟨y, x % y, rfl, rfl, y0, y1, hm, by omega, HST, hbel⟩, by simp [intOf]; omega⟩
def detourV (xs : List SCorner) : Int × Int × Bool :=
  if roadB xs && !sameC (xs.getD 0 SCorner.zero).x (xs.getD 0 SCorner.zero).y (xs.getD (xs.length - 1) SCorner.zero).x (xs.getD (xs.length - 1) SCorner.zero).y then
    ((fracI (lensL xs).sum (partI (xs.getD 0 SCorner.zero).x (xs.getD 0 SCorner.zero).y (xs.getD (xs.length - 1) SCorner.zero).x (xs.getD (xs.length - 1) SCorner.zero).y)).1,
     (fracI (lensL xs).sum (partI (xs.getD 0 SCorner.zero).x (xs.getD 0 SCorner.zero).y (xs.getD (xs.length - 1) SCorner.zero).x (xs.getD (xs.length - 1) SCorner.zero).y)).2, true)
  else (0, 0, false)
theorem root_pos {n : Int} (h : 1 ≤ n) : 1 ≤ rootI n := by
  obtain ⟨a, b, c⟩ := rootI_spec (show 0 ≤ n by omega)
  rcases Int.lt_or_le 0 (rootI n) with h1 | h1
  · omega
  · have h2 : rootI n = 0 := by omega
    rw [h2] at c; omega
theorem sq_pos {d : Int} (h : d ≠ 0) : 1 ≤ d * d := by
  rcases Int.lt_or_gt_of_ne h with h1 | h1
  · have := Int.mul_le_mul (show 1 ≤ -d by omega) (show 1 ≤ -d by omega) (by omega) (by omega)
    rw [Int.neg_mul_neg] at this; omega
  · have := Int.mul_le_mul (show 1 ≤ d by omega) (show 1 ≤ d by omega) (by omega) (by omega); omega
theorem part_pos {ax ay bx b_ : Int} (h : ¬ (ax = bx ∧ ay = b_)) : 1 ≤ partI ax ay bx b_ := by
  unfold partI
  apply root_pos
  have h1 : 0 ≤ (ax - bx) * (ax - bx) := by rcases Int.le_total 0 (ax - bx) with h3 | h3; exact Int.mul_nonneg h3 h3; exact Int.mul_nonneg_of_nonpos_of_nonpos h3 h3
  have h2 : 0 ≤ (ay - b_) * (ay - b_) := by rcases Int.le_total 0 (ay - b_) with h3 | h3; exact Int.mul_nonneg h3 h3; exact Int.mul_nonneg_of_nonpos_of_nonpos h3 h3
  by_cases hx : ax - bx = 0
  · have := sq_pos (d := ay - b_) (fun h0 => h ⟨by omega, by omega⟩); omega
  · have := sq_pos hx; omega
end Go.Proofs.Ytefnmfkndepfgaa
