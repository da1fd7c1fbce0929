/- Contracts of the sides and bends of roads, in impl and spec. Conditions: coordinates from 0 to 9999. -/
import Derived.Test.YtefnmfkndepfgaaL10B
namespace Go.Proofs.Ytefnmfkndepfgaa
open Go.RowKit
set_option linter.unusedVariables false
/-- the coordinates of a corner are valid -/
def inC (x y : Int) : Prop := (0 ≤ x ∧ x ≤ 9999) ∧ 0 ≤ y ∧ y ≤ 9999
theorem mul_bd {a b n m : Int} (h1 : -n ≤ a) (h2 : a ≤ n) (h3 : -m ≤ b) (h4 : b ≤ m) (hn : 0 ≤ n) (hm : 0 ≤ m) : -(n * m) ≤ a * b ∧ a * b ≤ n * m := by
  have h5 : a.natAbs ≤ n.natAbs := by omega
  have h6 : b.natAbs ≤ m.natAbs := by omega
  have h7 : (a * b).natAbs ≤ (n * m).natAbs := by rw [Int.natAbs_mul, Int.natAbs_mul]; exact Nat.mul_le_mul h5 h6
  have h8 : 0 ≤ n * m := Int.mul_nonneg hn hm
  omega
theorem mul_bd9 {a b : Int} (h1 : -9999 ≤ a) (h2 : a ≤ 9999) (h3 : -9999 ≤ b) (h4 : b ≤ 9999) : -99980001 ≤ a * b ∧ a * b ≤ 99980001 := mul_bd (n := 9999) (m := 9999) h1 h2 h3 h4 (by omega) (by omega)
def sideI (ax ay bx b_ cx cy : Int) : Int := (bx - ax) * (cy - b_) - (b_ - ay) * (cx - bx)
def aheadI (ax ay bx b_ cx cy : Int) : Int := (bx - ax) * (cx - bx) + (b_ - ay) * (cy - b_)
def bendU (ax ay bx b_ cx cy : Int) : UInt8 := if 0 < sideI ax ay bx b_ cx cy then 108 else if sideI ax ay bx b_ cx cy < 0 then 114 else if 0 < aheadI ax ay bx b_ cx cy then 115 else 98
theorem l10Side_any (ax ay bx b_ cx cy : Int) (w : World) (ha : inC ax ay) (hb : inC bx b_) (hc : inC cx cy) :
    Calls Try.prog 79 #[.agg #[.int .i64 ax, .int .i64 ay], .agg #[.int .i64 bx, .int .i64 b_], .agg #[.int .i64 cx, .int .i64 cy]] w fun e w' => e = .returned (.int .i64 (sideI ax ay bx b_ cx cy)) ∧ (((w.alloc (.cells #[.int .i64 ax, .int .i64 ay] 58)).alloc (.cells #[.int .i64 bx, .int .i64 b_] 58)).alloc (.cells #[.int .i64 cx, .int .i64 cy] 58)) = w' := by
  obtain ⟨⟨_, _⟩, _, _⟩ := ha; obtain ⟨⟨_, _⟩, _, _⟩ := hb; obtain ⟨⟨_, _⟩, _, _⟩ := hc
  obtain ⟨_, _⟩ := mul_bd9 (a := bx - ax) (b := cy - b_) (by omega) (by omega) (by omega) (by omega)
  obtain ⟨_, _⟩ := mul_bd9 (a := b_ - ay) (b := cx - bx) (by omega) (by omega) (by omega) (by omega)
  go_enter Try.func79, Try.ntmps79
  go_wp2
  go_ret
  exact ⟨rfl, rfl⟩
theorem cross_any (ax ay bx b_ cx cy : Int) (w : World) (ha : inC ax ay) (hb : inC bx b_) (hc : inC cx cy) :
    Calls Try.prog 91 #[.agg #[.int .i64 ax, .int .i64 ay], .agg #[.int .i64 bx, .int .i64 b_], .agg #[.int .i64 cx, .int .i64 cy]] w fun e w' => e = .returned (.int .i64 (sideI ax ay bx b_ cx cy)) ∧ (((w.alloc (.cells #[.int .i64 ax, .int .i64 ay] 58)).alloc (.cells #[.int .i64 bx, .int .i64 b_] 58)).alloc (.cells #[.int .i64 cx, .int .i64 cy] 58)) = w' := by
  obtain ⟨⟨_, _⟩, _, _⟩ := ha; obtain ⟨⟨_, _⟩, _, _⟩ := hb; obtain ⟨⟨_, _⟩, _, _⟩ := hc
  obtain ⟨_, _⟩ := mul_bd9 (a := bx - ax) (b := cy - b_) (by omega) (by omega) (by omega) (by omega)
  obtain ⟨_, _⟩ := mul_bd9 (a := b_ - ay) (b := cx - bx) (by omega) (by omega) (by omega) (by omega)
  go_enter Try.func91, Try.ntmps91
  go_wp2
  go_ret
  exact ⟨rfl, rfl⟩
theorem l10Ahead_any (ax ay bx b_ cx cy : Int) (w : World) (ha : inC ax ay) (hb : inC bx b_) (hc : inC cx cy) :
    Calls Try.prog 80 #[.agg #[.int .i64 ax, .int .i64 ay], .agg #[.int .i64 bx, .int .i64 b_], .agg #[.int .i64 cx, .int .i64 cy]] w fun e w' => e = .returned (.int .i64 (aheadI ax ay bx b_ cx cy)) ∧ (((w.alloc (.cells #[.int .i64 ax, .int .i64 ay] 58)).alloc (.cells #[.int .i64 bx, .int .i64 b_] 58)).alloc (.cells #[.int .i64 cx, .int .i64 cy] 58)) = w' := by
  obtain ⟨⟨_, _⟩, _, _⟩ := ha; obtain ⟨⟨_, _⟩, _, _⟩ := hb; obtain ⟨⟨_, _⟩, _, _⟩ := hc
  obtain ⟨_, _⟩ := mul_bd9 (a := bx - ax) (b := cx - bx) (by omega) (by omega) (by omega) (by omega)
  obtain ⟨_, _⟩ := mul_bd9 (a := b_ - ay) (b := cy - b_) (by omega) (by omega) (by omega) (by omega)
  go_enter Try.func80, Try.ntmps80
  go_wp2
  go_ret
  exact ⟨rfl, rfl⟩
theorem below_corn3 (ax ay bx b_ cx cy : Int) (w : World) : Below w.heap.size w (((w.alloc (.cells #[.int .i64 ax, .int .i64 ay] 58)).alloc (.cells #[.int .i64 bx, .int .i64 b_] 58)).alloc (.cells #[.int .i64 cx, .int .i64 cy] 58)) := (((Below.refl _ _).alloc (Nat.le_refl _) _).alloc (by simp) _).alloc (by simp; omega) _
theorem l10Bend_any (ax ay bx b_ cx cy : Int) (w : World) (ha : inC ax ay) (hb : inC bx b_) (hc : inC cx cy) :
    Calls Try.prog 58 #[.agg #[.int .i64 ax, .int .i64 ay], .agg #[.int .i64 bx, .int .i64 b_], .agg #[.int .i64 cx, .int .i64 cy]] w fun e w' => e = .returned (.string ⟨#[bendU ax ay bx b_ cx cy]⟩) ∧ Below w.heap.size w w' := by
  have hS := fun W => l10Side_any ax ay bx b_ cx cy W ha hb hc
  have hA := fun W => l10Ahead_any ax ay bx b_ cx cy W ha hb hc
  have hv : bendU ax ay bx b_ cx cy = if 0 < sideI ax ay bx b_ cx cy then 108 else if sideI ax ay bx b_ cx cy < 0 then 114 else if 0 < aheadI ax ay bx b_ cx cy then 115 else 98 := rfl
  generalize sideI ax ay bx b_ cx cy = s at hS hv
  generalize aheadI ax ay bx b_ cx cy = h at hA hv
  generalize bendU ax ay bx b_ cx cy = v at hv ⊢
  have HS := hide hS; have HA := hide hA
  have hb3 := fun W => below_corn3 ax ay bx b_ cx cy W
  have HB3 := hide hb3
  clear hS hA hb3 ha hb hc
  by_cases h1 : 0 < s
  · rw [if_pos h1] at hv; subst hv
    go_enter Try.func58, Try.ntmps58
    go_wp2_with (go_at_call 79; refine (HS.out _).mono ?_; rintro e w' ⟨rfl, rfl⟩)
    go_ret
    exact ⟨rfl, bstep (HB3.out _) (HB3.out _) (HB3.out _).size⟩
  rw [if_neg h1] at hv
  by_cases h2 : s < 0
  · rw [if_pos h2] at hv; subst hv
    go_enter Try.func58, Try.ntmps58
    go_wp2_with (go_at_call 79; refine (HS.out _).mono ?_; rintro e w' ⟨rfl, rfl⟩)
    go_ret
    exact ⟨rfl, bstep (HB3.out _) (HB3.out _) (HB3.out _).size⟩
  rw [if_neg h2] at hv
  by_cases h3 : 0 < h
  · rw [if_pos h3] at hv; subst hv
    go_enter Try.func58, Try.ntmps58
    go_wp2_with (first | (go_at_call 79; refine (HS.out _).mono ?_; rintro e w' ⟨rfl, rfl⟩) | (go_at_call 80; refine (HA.out _).mono ?_; rintro e w' ⟨rfl, rfl⟩))
    go_ret
    exact ⟨rfl, bstep (bstep (HB3.out _) (HB3.out _) (HB3.out _).size) (HB3.out _) (bstep (HB3.out _) (HB3.out _) (HB3.out _).size).size⟩
  · rw [if_neg h3] at hv; subst hv
    go_enter Try.func58, Try.ntmps58
    go_wp2_with (first | (go_at_call 79; refine (HS.out _).mono ?_; rintro e w' ⟨rfl, rfl⟩) | (go_at_call 80; refine (HA.out _).mono ?_; rintro e w' ⟨rfl, rfl⟩))
    go_ret
    exact ⟨rfl, bstep (bstep (HB3.out _) (HB3.out _) (HB3.out _).size) (HB3.out _) (bstep (HB3.out _) (HB3.out _) (HB3.out _).size).size⟩
theorem bend_any (ax ay bx b_ cx cy : Int) (w : World) (ha : inC ax ay) (hb : inC bx b_) (hc : inC cx cy) :
    Calls Try.prog 81 #[.agg #[.int .i64 ax, .int .i64 ay], .agg #[.int .i64 bx, .int .i64 b_], .agg #[.int .i64 cx, .int .i64 cy]] w fun e w' => e = .returned (.int .u8 ((bendU ax ay bx b_ cx cy).toNat : Int)) ∧ Below w.heap.size w w' := by
  have hS := fun W => cross_any ax ay bx b_ cx cy W ha hb hc
  have hv : bendU ax ay bx b_ cx cy = if 0 < sideI ax ay bx b_ cx cy then 108 else if sideI ax ay bx b_ cx cy < 0 then 114 else if 0 < aheadI ax ay bx b_ cx cy then 115 else 98 := rfl
  obtain ⟨⟨_, _⟩, _, _⟩ := ha; obtain ⟨⟨_, _⟩, _, _⟩ := hb; obtain ⟨⟨_, _⟩, _, _⟩ := hc
  obtain ⟨_, _⟩ := mul_bd9 (a := bx - ax) (b := cx - bx) (by omega) (by omega) (by omega) (by omega)
  obtain ⟨_, _⟩ := mul_bd9 (a := b_ - ay) (b := cy - b_) (by omega) (by omega) (by omega) (by omega)
  generalize sideI ax ay bx b_ cx cy = s at hS hv
  unfold aheadI at hv
  generalize bendU ax ay bx b_ cx cy = v at hv ⊢
  have HS := hide hS
  have hb3 := fun W => below_corn3 ax ay bx b_ cx cy W
  have HB3 := hide hb3
  clear hS hb3
  by_cases h1 : 0 < s
  · rw [if_pos h1] at hv; subst hv
    go_enter Try.func81, Try.ntmps81
    go_wp2_with (go_at_call 91; refine (HS.out _).mono ?_; rintro e w' ⟨rfl, rfl⟩)
    go_ret
    exact ⟨rfl, bstep (HB3.out _) (HB3.out _) (HB3.out _).size⟩
  rw [if_neg h1] at hv
  by_cases h2 : s < 0
  · rw [if_pos h2] at hv; subst hv
    go_enter Try.func81, Try.ntmps81
    go_wp2_with (go_at_call 91; refine (HS.out _).mono ?_; rintro e w' ⟨rfl, rfl⟩)
    go_ret
    exact ⟨rfl, bstep (HB3.out _) (HB3.out _) (HB3.out _).size⟩
  rw [if_neg h2] at hv
  by_cases h3 : 0 < (bx - ax) * (cx - bx) + (b_ - ay) * (cy - b_)
  · rw [if_pos h3] at hv; subst hv
    go_enter Try.func81, Try.ntmps81
    go_wp2_with (go_at_call 91; refine (HS.out _).mono ?_; rintro e w' ⟨rfl, rfl⟩)
    go_ret
    exact ⟨rfl, bstep (HB3.out _) (HB3.out _) (HB3.out _).size⟩
  · rw [if_neg h3] at hv; subst hv
    go_enter Try.func81, Try.ntmps81
    go_wp2_with (go_at_call 91; refine (HS.out _).mono ?_; rintro e w' ⟨rfl, rfl⟩)
    go_ret
    exact ⟨rfl, bstep (HB3.out _) (HB3.out _) (HB3.out _).size⟩
end Go.Proofs.Ytefnmfkndepfgaa
