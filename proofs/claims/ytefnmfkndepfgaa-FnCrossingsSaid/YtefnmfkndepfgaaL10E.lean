/- Contracts of the whole part of a root and of the length of a part, in impl and spec: both return the Lean function rootI of the number. Conditions: the number from 0 to 3000000000000. -/
import Derived.Test.YtefnmfkndepfgaaL10D
namespace Go.Proofs.Ytefnmfkndepfgaa
open Go.RowKit
set_option linter.unusedVariables false
/-- the whole part of the square root -/
def rootN : Nat → Nat
  | 0 => 0
  | n + 1 => if (rootN n + 1) * (rootN n + 1) ≤ n + 1 then rootN n + 1 else rootN n
theorem rootN_spec (n : Nat) : rootN n * rootN n ≤ n ∧ n < (rootN n + 1) * (rootN n + 1) := by
  induction n with
  | zero => simp [rootN]
  | succ n ih =>
    simp only [rootN]
    split
    · rename_i h
      refine ⟨h, ?_⟩
      have : (rootN n + 1 + 1) * (rootN n + 1 + 1) = (rootN n + 1) * (rootN n + 1) + 2 * (rootN n + 1) + 1 := by
        simp only [Nat.add_mul, Nat.mul_add]; omega
      omega
    · rename_i h
      omega
def rootI (n : Int) : Int := (rootN n.toNat : Int)
theorem rootI_spec {n : Int} (h : 0 ≤ n) : 0 ≤ rootI n ∧ rootI n * rootI n ≤ n ∧ n < (rootI n + 1) * (rootI n + 1) := by
  have := rootN_spec n.toNat
  refine ⟨by unfold rootI; omega, ?_, ?_⟩
  · have h1 : ((rootN n.toNat * rootN n.toNat : Nat) : Int) ≤ (n.toNat : Int) := by omega
    rw [Int.natCast_mul] at h1; unfold rootI; omega
  · have h1 : (n.toNat : Int) < (((rootN n.toNat + 1) * (rootN n.toNat + 1) : Nat) : Int) := by omega
    rw [Int.natCast_mul, Int.natCast_add] at h1; unfold rootI
    simp only [Int.natCast_one] at h1; omega
theorem sq_lt {a b : Int} (ha : 0 ≤ a) (hb : 0 ≤ b) (h : a * a < b * b) : a < b := by
  rcases Int.lt_or_le a b with h1 | h1
  · exact h1
  · have := Int.mul_le_mul h1 h1 hb (by omega); omega
theorem root_eq {n r : Int} (h : 0 ≤ n) (hr : 0 ≤ r) (h1 : r * r ≤ n) (h2 : n < (r + 1) * (r + 1)) : r = rootI n := by
  obtain ⟨a, b, c⟩ := rootI_spec h
  have d1 : r < rootI n + 1 := sq_lt hr (by omega) (by omega)
  have d2 : rootI n < r + 1 := sq_lt a (by omega) (by omega)
  omega
theorem root_bd {n : Int} (h : 0 ≤ n) (h2 : n ≤ 3000000000000) : rootI n < 2000000 := by
  obtain ⟨a, b, _⟩ := rootI_spec h
  exact sq_lt a (by omega) (by omega)
theorem l10Root_any (n : Int) (w : World) (h0 : 0 ≤ n) (h1 : n ≤ 3000000000000) :
    Calls Try.prog 83 #[.int .i64 n] w fun e w' => e = .returned (.int .i64 (rootI n)) ∧ w = w' := by
  obtain ⟨ra, rb, rc⟩ := rootI_spec h0
  have rd := root_bd h0 h1
  have RB := hide rb; have RC := hide rc; clear rb rc
  generalize hR : rootI n = R at ra rd RB RC ⊢
  have HR := hide hR; clear hR
  go_enter Try.func83, Try.ntmps83
  go_wp2_with fail
  go_loop [3, 4] (fun l h => ∃ a b : Int, l = .int .i64 a ∧ h = .int .i64 b ∧ 0 ≤ a ∧ b ≤ 2000000 ∧ a ≤ R ∧ R ≤ b) (fun l h => (intOf h - intOf l).toNat)
  case atStart => exact ⟨0, 2000000, rfl, rfl, by omega, by omega, by omega, by omega⟩
  case round =>
    obtain ⟨a, b, rfl, rfl, g0, g1, g2, g3⟩ := hrel
    by_cases hlt : a < b
    · have m0 : a < (a + b + 1) / 2 := by omega
      have m1 : (a + b + 1) / 2 ≤ b := by omega
      have m2 : 0 ≤ (a + b + 1) / 2 := by omega
      have m3 : (a + b + 1) / 2 ≤ 2000000 := by omega
      obtain ⟨k0, k1⟩ := mul_bd (a := (a + b + 1) / 2) (b := (a + b + 1) / 2) (n := 2000000) (m := 2000000) (by omega) (by omega) (by omega) (by omega) (by omega) (by omega)
      simp only [Int.reduceMul, Int.reduceNeg] at k0 k1
      by_cases hm : (a + b + 1) / 2 * ((a + b + 1) / 2) ≤ n
      · have hh : (a + b + 1) / 2 ≤ R := by
          have := RC.out
          have := sq_lt m2 (show 0 ≤ R + 1 by omega) (by omega)
          omega
        go_wp2_with fail
        go_round
        case rel => exact ⟨(a + b + 1) / 2, b, rfl, rfl, by omega, by omega, by omega, by omega⟩
        case measure => simp only [intOf, Array.getD]; simp; omega
      · have hh : R ≤ (a + b + 1) / 2 - 1 := by
          have h2 := RB.out
          have := sq_lt ra m2 (by omega)
          omega
        go_wp2_with fail
        go_round
        case rel => exact ⟨a, (a + b + 1) / 2 - 1, rfl, rfl, by omega, by omega, by omega, by omega⟩
        case measure => simp only [intOf, Array.getD]; simp; omega
    · have hab : a = R := by omega
      have HAB := hide hab; clear hab
      go_wp2_with fail
      go_ret
      exact ⟨ret_int HAB.out, rfl⟩
/-- the bits of the other root, the last one 0 -/
def bitI (j : Nat) : Int := if j = 0 then 0 else 2 ^ (j - 1)
theorem bitI_half (j : Nat) : bitI (j + 1) / 2 = bitI j := by
  cases j with
  | zero => rfl
  | succ j => simp only [bitI, Nat.add_one_ne_zero, if_false, Nat.add_sub_cancel]; rw [Int.pow_succ, Int.mul_ediv_cancel _ (by omega)]
theorem bitI_pos (j : Nat) : 0 < bitI (j + 1) := by
  simp only [bitI, Nat.add_one_ne_zero, if_false, Nat.add_sub_cancel]; exact Int.pow_pos (by omega)
theorem root_any (n : Int) (w : World) (h0 : 0 ≤ n) (h1 : n ≤ 3000000000000) :
    Calls Try.prog 87 #[.int .i64 n] w fun e w' => e = .returned (.int .i64 (rootI n)) ∧ w = w' := by
  go_enter Try.func87, Try.ntmps87
  go_wp2_with fail
  go_loop [3, 4] (fun l h => ∃ (r b c : Int) (j : Nat), l = .int .i64 r ∧ h = .int .i64 b ∧ Hid (b = bitI j) ∧ Hid (c = 2 * b ∨ (b = 0 ∧ c = 1)) ∧ 0 ≤ b ∧ 0 ≤ r ∧ r + c ≤ 2147483648 ∧ Hid (r * r ≤ n) ∧ Hid (n < (r + c) * (r + c)) ∧ Hid (j ≤ 31)) (fun _ h => (intOf h).toNat)
  case atStart =>
    exact ⟨0, 1073741824, 2147483648, 31, rfl, rfl, (by decide : (1073741824 : Int) = bitI 31), .inl rfl, by omega, by omega, by omega, (by show (0:Int) * 0 ≤ n; omega), (by show n < (0 + 2147483648) * (0 + 2147483648); omega), (by decide : 31 ≤ 31)⟩
  case round =>
    obtain ⟨r, b, c, j, rfl, rfl, hb, hc, g0, g1, g2, hsq, hn, hj⟩ := hrel
    by_cases hlt : 0 < b
    · have hc2 : c = 2 * b := by rcases hc.out with h | h <;> omega
      obtain ⟨j, rfl⟩ : ∃ k, j = k + 1 := by
        cases j with
        | zero => have := hb.out; simp [bitI] at this; omega
        | succ k => exact ⟨k, rfl⟩
      have hhalf : b / 2 = bitI j := by rw [hb.out]; exact bitI_half j
      have hnext : b = 2 * (b / 2) ∨ (b / 2 = 0 ∧ b = 1) := by
        cases j with
        | zero => right; have := hb.out; simp [bitI] at this; omega
        | succ k =>
          left
          have h3 := hb.out
          simp only [bitI, Nat.add_one_ne_zero, if_false, Nat.add_sub_cancel] at h3
          rw [Int.pow_succ] at h3; omega
      have HH := hide hhalf; have HNX := hide hnext; have HC2 := hide hc2
      have hrb : r + b ≤ 2147483648 := by omega
      obtain ⟨k0, k1⟩ := mul_bd (a := r + b) (b := r + b) (n := 2147483648) (m := 2147483648) (by omega) (by omega) (by omega) (by omega) (by omega) (by omega)
      simp only [Int.reduceMul, Int.reduceNeg] at k0 k1
      clear hhalf hnext hc2
      by_cases hm : (r + b) * (r + b) ≤ n
      · have HM := hide hm
        go_wp2_with fail
        refine ⟨⟨r + b, b / 2, b, j, rfl, rfl, HH.out, HNX.out, by omega, by omega, by have := HC2.out; omega, HM.out, ?_, (by have := hj.out; show j ≤ 31; omega)⟩, by simp [intOf]; omega⟩
        have h3 := hn.out; rw [HC2.out] at h3
        show n < (r + b + b) * (r + b + b)
        rw [show r + b + b = r + 2 * b by omega]; exact h3
      · have HM := hide hm
        go_wp2_with fail
        refine ⟨⟨r, b / 2, b, j, rfl, rfl, HH.out, HNX.out, by omega, by omega, by omega, hsq, (by have := HM.out; show n < (r + b) * (r + b); omega), (by have := hj.out; show j ≤ 31; omega)⟩, by simp [intOf]; omega⟩
    · have hr : r = rootI n := by
        have h3 := hn.out; have h4 := hsq.out
        have hc1 : c = 1 := by
          rcases hc.out with h | h
          · have : c = 0 := by omega
            subst this; rw [Int.add_zero] at h3; omega
          · exact h.2
        subst hc1
        exact root_eq h0 g1 h4 h3
      have HRR := hide hr; clear hr
      go_wp2_with fail
      go_ret
      exact ⟨ret_int HRR.out, rfl⟩
/-- the length of a part -/
def partI (ax ay bx b_ : Int) : Int := rootI (10000 * ((ax - bx) * (ax - bx) + (ay - b_) * (ay - b_)))
theorem sq_bd {d : Int} (h1 : -9999 ≤ d) (h2 : d ≤ 9999) : 0 ≤ d * d ∧ d * d ≤ 99980001 := by
  obtain ⟨_, h⟩ := mul_bd9 h1 h2 h1 h2
  refine ⟨?_, h⟩
  rcases Int.le_total 0 d with h3 | h3
  · exact Int.mul_nonneg h3 h3
  · have := Int.mul_nonneg (show 0 ≤ -d by omega) (show 0 ≤ -d by omega)
    rw [Int.neg_mul_neg] at this; exact this
theorem part_bd {ax ay bx b_ : Int} (ha : inC ax ay) (hb : inC bx b_) : 0 ≤ partI ax ay bx b_ ∧ partI ax ay bx b_ < 2000000 := by
  obtain ⟨⟨_, _⟩, _, _⟩ := ha; obtain ⟨⟨_, _⟩, _, _⟩ := hb
  obtain ⟨_, _⟩ := sq_bd (d := ax - bx) (by omega) (by omega)
  obtain ⟨_, _⟩ := sq_bd (d := ay - b_) (by omega) (by omega)
  exact ⟨(rootI_spec (by omega)).1, root_bd (by omega) (by omega)⟩
theorem l10Part_any (ax ay bx b_ : Int) (w : World) (ha : inC ax ay) (hb : inC bx b_) :
    Calls Try.prog 66 #[.agg #[.int .i64 ax, .int .i64 ay], .agg #[.int .i64 bx, .int .i64 b_]] w fun e w' => e = .returned (.int .i64 (partI ax ay bx b_)) ∧ Below w.heap.size w w' := by
  obtain ⟨⟨_, _⟩, _, _⟩ := ha; obtain ⟨⟨_, _⟩, _, _⟩ := hb
  obtain ⟨_, _⟩ := sq_bd (d := ax - bx) (by omega) (by omega)
  obtain ⟨_, _⟩ := sq_bd (d := ay - b_) (by omega) (by omega)
  have hr := fun W => l10Root_any (10000 * ((ax - bx) * (ax - bx) + (ay - b_) * (ay - b_))) W (by omega) (by omega)
  have HR := hide hr; clear hr
  go_enter Try.func66, Try.ntmps66
  go_wp2_with (go_at_call 83; refine (HR.out _).mono ?_; rintro e w' ⟨rfl, rfl⟩)
  go_ret
  exact ⟨rfl, (below_alloc _ _).alloc (by simp) _⟩
theorem partLength_any (ax ay bx b_ : Int) (w : World) (ha : inC ax ay) (hb : inC bx b_) :
    Calls Try.prog 69 #[.agg #[.int .i64 ax, .int .i64 ay], .agg #[.int .i64 bx, .int .i64 b_]] w fun e w' => e = .returned (.int .i64 (partI ax ay bx b_)) ∧ Below w.heap.size w w' := by
  obtain ⟨⟨_, _⟩, _, _⟩ := ha; obtain ⟨⟨_, _⟩, _, _⟩ := hb
  obtain ⟨_, _⟩ := sq_bd (d := ax - bx) (by omega) (by omega)
  obtain ⟨_, _⟩ := sq_bd (d := ay - b_) (by omega) (by omega)
  have hr := fun W => root_any (10000 * ((ax - bx) * (ax - bx) + (ay - b_) * (ay - b_))) W (by omega) (by omega)
  have HR := hide hr; clear hr
  have e0 : IntKind.i64.wrap (ax - bx) = ax - bx := IntWalk.i64_in _ (by omega)
  have e1 : IntKind.i64.wrap (ay - b_) = ay - b_ := IntWalk.i64_in _ (by clear e0; omega)
  go_enter Try.func69, Try.ntmps69
  go_wp2_with fail
  go_quiet (fail)
  clear e0 e1
  go_wp2_with (go_at_call 87; refine (HR.out _).mono ?_; rintro e w' ⟨rfl, rfl⟩)
  go_ret
  exact ⟨rfl, below_drewN ((below_alloc _ _).alloc (by simp) _) _⟩
end Go.Proofs.Ytefnmfkndepfgaa
