/- Fractions in lowest terms: gcd, impl's fraction and spec's l2Reduce: the Lean function frac. Conditions: bounds of the numbers. (Printed by mkshat.py.) -/
import Derived.Test.YtplemibckjnbhaaGreatDoorLayX
import Derived.Test.YtplemibckjnbhaaGreatDoorOwn
import Derived.Shelf.GgClosure.Gives
namespace Go.Proofs.YtplemibckjnbhaaGreatDoor
open Go.RowKit
set_option linter.unusedVariables false
def frac (n d : Int) : Int × Int := (n / (Int.gcd n d : Int), d / (Int.gcd n d : Int))
def gcdI (a b : Int) : Int := (Nat.gcd a.toNat b.toNat : Int)
theorem gcdI_zero {a : Int} (h : 0 ≤ a) : gcdI a 0 = a := by simp [gcdI]; omega
theorem gcdI_step {a b : Int} (ha : 0 ≤ a) (hb : 0 < b) : gcdI b (a % b) = gcdI a b := by
  unfold gcdI
  have h : (a % b).toNat = a.toNat % b.toNat := Int.toNat_emod ha (by omega)
  rw [h, Nat.gcd_comm a.toNat, Nat.gcd_rec b.toNat a.toNat, Nat.gcd_comm]
theorem gcdI_pos {a b : Int} (hb : 0 < b) : 0 < gcdI a b := by
  unfold gcdI
  have := Nat.gcd_pos_of_pos_right a.toNat (show 0 < b.toNat by omega)
  omega
theorem gcd_any (a b : Int) (w : World) (ha : 0 ≤ a) (hb : 0 ≤ b) (ha' : a ≤ 2199023255552) (hb' : b ≤ 2199023255552) :
    Calls Tryz.prog 116 #[.int .i64 a, .int .i64 b] w fun e w' => e = .returned (.int .i64 (gcdI a b)) ∧ Below w.heap.size w w' := by
  generalize hg : gcdI a b = g
  have HG := hide hg; clear hg
  go_enter Tryz.func116, Tryz.ntmps116
  go_wp2_with fail
  go_loopw [0, 1] (fun p q wr => ∃ x y : Int, p = .int .i64 x ∧ q = .int .i64 y ∧ 0 ≤ x ∧ x ≤ 2199023255552 ∧ 0 ≤ y ∧ y ≤ 2199023255552 ∧ Hid (gcdI x y = g) ∧ Below w.heap.size w wr) (fun _ q _ => (intOf q).toNat)
  case atStart => exact ⟨a, b, rfl, rfl, ha, ha', hb, hb', HG, Below.refl _ _⟩
  case round =>
    obtain ⟨x, y, rfl, rfl, x0, x1, y0, y1, HX, hbel⟩ := hrel
    by_cases hy : y = 0
    · subst hy
      have hx := HX.out
      rw [gcdI_zero x0] at hx
      have HE := hide hx; clear hx
      go_wp2_with fail
      go_ret
      exact ⟨ret_int HE.out, hbel⟩
    · have hm := Int.emod_nonneg x hy
      have hm2 := Int.emod_lt_of_pos x (show 0 < y by omega)
      have hst := gcdI_step x0 (show 0 < y by omega)
      rw [HX.out] at hst
      have HST := hide hst; clear hst
      go_wp2_with fail
      go_region
      all_goals
        go_wp2_with fail
        refine ⟨⟨y, x % y, rfl, rfl, y0, y1, hm, by omega, HST, hbel.drew⟩, by simp [intOf]; omega⟩
theorem gcdI_le {a b M : Int} (ha : 0 ≤ a) (ha' : a ≤ M) (hb : 0 ≤ b) (hb' : b ≤ M) : 0 ≤ gcdI a b ∧ gcdI a b ≤ M := by
  unfold gcdI
  refine ⟨by omega, ?_⟩
  rcases Nat.eq_zero_or_pos b.toNat with h | h
  · rw [h, Nat.gcd_zero_right]; omega
  · have := Nat.gcd_le_right a.toNat h; omega
theorem gcdI_abs (x y : Int) : gcdI (max x (-x)) (max y (-y)) = (Int.gcd x y : Int) := by
  unfold gcdI Int.gcd
  rw [show (max x (-x)).toNat = x.natAbs by omega, show (max y (-y)).toNat = y.natAbs by omega]
theorem absI_any (n : Int) (w : World) (h0 : -2199023255552 ≤ n) (h1 : n ≤ 2199023255552) :
    Calls Tryz.prog 117 #[.int .i64 n] w fun e w' => e = .returned (.int .i64 (max n (-n))) ∧ w = w' := by
  go_enter Tryz.func117, Tryz.ntmps117
  go_wp2_with fail
  go_ret
  exact ⟨rfl, rfl⟩
theorem fraction4_any (n d : Int) (w : World) (h0 : 0 ≤ n) (h1 : n ≤ 2199023255552) (h2 : 1 ≤ d) (h3 : d ≤ 2199023255552) :
    Calls Tryz.prog 93 #[.int .i64 n, .int .i64 d] w fun e w' => e = .returned (.tuple #[.int .i64 (frac n d).1, .int .i64 (frac n d).2]) ∧ Below w.heap.size w w' := by
  have hgi : (Int.gcd n d : Int) = gcdI n d := by rw [← gcdI_abs, show max n (-n) = n by omega, show max d (-d) = d by omega]
  have hp := gcdI_pos (a := n) (b := d) (by omega)
  have hcall := fun W => gcd_any n d W h0 (by omega) h1 h3
  unfold frac
  rw [hgi]
  clear hgi
  have q1 := Int.ediv_nonneg h0 (show 0 ≤ gcdI n d by omega)
  have q2 := Int.ediv_nonneg (show 0 ≤ d by omega) (show 0 ≤ gcdI n d by omega)
  have q3 := Int.ediv_le_self (gcdI n d) h0
  have q4 := Int.ediv_le_self (gcdI n d) (show 0 ≤ d by omega)
  generalize gcdI n d = g at hp hcall q1 q2 q3 q4 ⊢
  have HC := hide hcall; clear hcall
  have hab := fun W => absI_any n W (by omega) h1
  rw [show max n (-n) = n by omega] at hab
  have HAB := hide hab; clear hab
  have hg0 : ¬ g = 0 := by omega
  go_enter Tryz.func93, Tryz.ntmps93
  go_wp2_with fail
  refine (HAB.out w).mono ?_; rintro e w' ⟨rfl, rfl⟩
  go_wp2_with fail
  refine (HC.out _).mono ?_; rintro e w1 ⟨rfl, hb1⟩
  go_wp2_with fail
  go_region
  all_goals
    go_wp2_with fail
    go_ret2
    exact ⟨rfl, hb1.drew⟩
theorem l2Reduce4_any (n d : Int) (w : World) (h0 : 0 ≤ n) (h1 : n ≤ 2199023255552) (h2 : 1 ≤ d) (h3 : d ≤ 2199023255552) :
    Calls Tryz.prog 94 #[.int .i64 n, .int .i64 d] w fun e w' => e = .returned (.tuple #[.int .i64 (frac n d).1, .int .i64 (frac n d).2]) ∧ Below w.heap.size w w' := by
  have hp := gcdI_pos (a := n) (b := d) (by omega)
  have hgi : (Int.gcd n d : Int) = gcdI n d := by rw [← gcdI_abs, show max n (-n) = n by omega, show max d (-d) = d by omega]
  unfold frac
  rw [hgi]
  clear hgi
  have q1 := Int.ediv_nonneg h0 (show 0 ≤ gcdI n d by omega)
  have q2 := Int.ediv_nonneg (show 0 ≤ d by omega) (show 0 ≤ gcdI n d by omega)
  have q3 := Int.ediv_le_self (gcdI n d) h0
  have q4 := Int.ediv_le_self (gcdI n d) (show 0 ≤ d by omega)
  generalize hg : gcdI n d = g at hp q1 q2 q3 q4 ⊢
  have HG := hide hg; clear hg
  have hg0 : ¬ g = 0 := by omega
  have hmost : max n (-n) = n := by omega
  go_enter Tryz.func94, Tryz.ntmps94
  go_wp2_with fail
  refine (l1Most_any _ _ _).mono ?_; rintro e w' ⟨rfl, rfl⟩
  rw [hmost]
  clear hmost
  go_wp2_with fail
  go_loopw [6, 7] (fun p q wr => ∃ x y : Int, p = .int .i64 x ∧ q = .int .i64 y ∧ 0 ≤ x ∧ x ≤ 2199023255552 ∧ 0 ≤ y ∧ y ≤ 2199023255552 ∧ Hid (gcdI x y = g) ∧ Below w.heap.size w wr) (fun _ q _ => (intOf q).toNat)
  case atStart => exact ⟨n, d, rfl, rfl, h0, h1, by omega, h3, HG, Below.refl _ _⟩
  case round =>
    obtain ⟨x, y, rfl, rfl, x0, x1, y0, y1, HX, hbel⟩ := hrel
    by_cases hy : y = 0
    · subst hy
      have hx := HX.out
      rw [gcdI_zero x0] at hx
      subst hx
      go_wp2_with fail
      go_region
      all_goals
        go_wp2_with fail
        go_ret2
        exact ⟨rfl, hbel.drew⟩
    · have hm := Int.emod_nonneg x hy
      have hm2 := Int.emod_lt_of_pos x (show 0 < y by omega)
      have hst := gcdI_step x0 (show 0 < y by omega)
      rw [HX.out] at hst
      have HST := hide hst; clear hst
      go_wp2_with fail
      refine ⟨⟨y, x % y, rfl, rfl, y0, y1, hm, by omega, HST, hbel⟩, by simp [intOf]; omega⟩
/-- a fraction in lowest terms has the value of the fraction -/
theorem frac_value {n d : Int} : (frac n d).1 * d = n * (frac n d).2 := by
  unfold frac
  obtain ⟨a, ha⟩ := Int.gcd_dvd_left n d
  obtain ⟨b, hb⟩ := Int.gcd_dvd_right n d
  by_cases h0 : (Int.gcd n d : Int) = 0
  · rw [h0] at ha hb
    rw [Int.zero_mul] at ha hb
    rw [ha, hb]; simp
  · have e1 : n / (Int.gcd n d : Int) = a := by
      conv => lhs; lhs; rw [ha]
      exact Int.mul_ediv_cancel_left _ h0
    have e2 : d / (Int.gcd n d : Int) = b := by
      conv => lhs; lhs; rw [hb]
      exact Int.mul_ediv_cancel_left _ h0
    show n / (Int.gcd n d : Int) * d = n * (d / (Int.gcd n d : Int))
    rw [e1, e2]
    generalize (Int.gcd n d : Int) = g at ha hb
    rw [ha, hb]
    rw [Int.mul_left_comm, Int.mul_assoc]
end Go.Proofs.YtplemibckjnbhaaGreatDoor
