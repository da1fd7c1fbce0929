/- Plain law on two straight parts: spec's test (an end on the other part, or each part's ends on different sides of the other) and impl's test (the frames overlap, and no strict same side) agree where both parts have a length. No program here. -/
import Derived.Test.YtefnmfkndepfgaaL10M
namespace Go.Proofs.Ytefnmfkndepfgaa
open Go.RowKit Go.Lib
set_option linter.unusedVariables false
/-- p lies from a to b or from b to a -/
def btw (a b p : Int) : Prop := (a ≤ p ∧ p ≤ b) ∨ (b ≤ p ∧ p ≤ a)
theorem btw_iff {a b p : Int} : btw a b p ↔ (p - a) * (p - b) ≤ 0 := by
  unfold btw
  constructor
  · rintro (⟨h1, h2⟩ | ⟨h1, h2⟩)
    · exact Int.mul_nonpos_of_nonneg_of_nonpos (by omega) (by omega)
    · exact Int.mul_nonpos_of_nonpos_of_nonneg (by omega) (by omega)
  · intro h
    rcases Int.le_total a p with h1 | h1
    · rcases Int.le_total p b with h2 | h2
      · exact .inl ⟨h1, h2⟩
      · rcases Int.lt_or_eq_of_le h1 with h3 | h3
        · rcases Int.lt_or_eq_of_le h2 with h4 | h4
          · have := Int.mul_pos (show 0 < p - a by omega) (show 0 < p - b by omega); omega
          · exact .inl ⟨h1, by omega⟩
        · exact .inr ⟨h2, by omega⟩
    · rcases Int.le_total p b with h2 | h2
      · rcases Int.lt_or_eq_of_le h1 with h3 | h3
        · rcases Int.lt_or_eq_of_le h2 with h4 | h4
          · have := Int.mul_pos_of_neg_of_neg (show p - a < 0 by omega) (show p - b < 0 by omega); omega
          · exact .inr ⟨by omega, h1⟩
        · exact .inl ⟨by omega, h2⟩
      · exact .inr ⟨h2, h1⟩
theorem sq_nonneg' (x : Int) : 0 ≤ x * x := by
  rcases Int.le_total 0 x with h | h
  · exact Int.mul_nonneg h h
  · exact Int.mul_nonneg_of_nonpos_of_nonpos h h
theorem sq_zero {x : Int} (h : x * x ≤ 0) : x = 0 := by
  have := sq_nonneg' x
  rcases Int.mul_eq_zero.1 (show x * x = 0 by omega) with h | h <;> exact h
/-- x between a and b on their line: a and b are on different sides of every line through x -/
theorem mid_sides {ux uy vx vy dx dy : Int} (hx : ux * vx ≤ 0) (hy : uy * vy ≤ 0) (hc : ux * vy = uy * vx) : (dx * uy - dy * ux) * (dx * vy - dy * vx) ≤ 0 := by
  have e1 : (ux * vx) * ((dx * uy - dy * ux) * (dx * vy - dy * vx)) = (ux * vx * dy - ux * vy * dx) * (ux * vx * dy - ux * vy * dx) := by grind
  have e2 : (uy * vy) * ((dx * uy - dy * ux) * (dx * vy - dy * vx)) = (uy * vy * dx - ux * vy * dy) * (uy * vy * dx - ux * vy * dy) := by grind
  have s1 := sq_nonneg' (ux * vx * dy - ux * vy * dx)
  have s2 := sq_nonneg' (uy * vy * dx - ux * vy * dy)
  generalize hT : (dx * uy - dy * ux) * (dx * vy - dy * vx) = T at e1 e2 ⊢
  rcases Int.lt_or_le 0 T with h | h
  · rcases Int.lt_or_eq_of_le hx with h1 | h1
    · have := Int.mul_neg_of_neg_of_pos h1 h; omega
    · rcases Int.lt_or_eq_of_le hy with h2 | h2
      · have := Int.mul_neg_of_neg_of_pos h2 h; omega
      · have hz : (ux * vy) * (ux * vy) = 0 := by
          have : (ux * vy) * (ux * vy) = (ux * vx) * (uy * vy) := by grind
          rw [this, h1]; simp
        have hz2 := sq_zero (show (ux * vy) * (ux * vy) ≤ 0 by omega)
        have : T = 0 := by grind
        omega
  · exact h
/-- the other way: on the line, and outside: on the same side of a line through x, but for the line itself -/
theorem out_sides {ux uy vx vy dx dy : Int} (hc : ux * vy = uy * vx) (ho : 0 < ux * vx) (hs : (dx * uy - dy * ux) * (dx * vy - dy * vx) ≤ 0) : dx * uy - dy * ux = 0 ∧ dx * vy - dy * vx = 0 := by
  have e0 : ux * (dx * vy - dy * vx) = vx * (dx * uy - dy * ux) := by grind
  have e1 : (ux * vx) * ((dx * uy - dy * ux) * (dx * vy - dy * vx)) = (vx * (dx * uy - dy * ux)) * (vx * (dx * uy - dy * ux)) := by grind
  have hu : ux ≠ 0 := by rintro rfl; simp at ho
  have hv : vx ≠ 0 := by rintro rfl; simp at ho
  generalize dx * uy - dy * ux = r at *
  generalize dx * vy - dy * vx = s at *
  have h1 : vx * r = 0 := sq_zero (by
    have := Int.mul_nonneg (show 0 ≤ ux * vx by omega) (show 0 ≤ -(r * s) by omega)
    rw [Int.mul_neg] at this
    omega)
  have h2 : r = 0 := by rcases Int.mul_eq_zero.1 h1 with h | h; exact absurd h hv; exact h
  refine ⟨h2, ?_⟩
  rw [h2, Int.mul_zero] at e0
  rcases Int.mul_eq_zero.1 e0 with h | h
  · exact absurd h hu
  · exact h
/-- on the line, and between in one direction: between in the other too -/
theorem btw_other {ux uy vx vy : Int} (hc : ux * vy = uy * vx) (hx : ux * vx ≤ 0) (hne : ux ≠ vx) : uy * vy ≤ 0 := by
  have e : (ux * vx) * (uy * vy) = (ux * vy) * (ux * vy) := by grind
  have s := sq_nonneg' (ux * vy)
  rcases Int.lt_or_eq_of_le hx with h | h
  · rcases Int.lt_or_le 0 (uy * vy) with h1 | h1
    · have := Int.mul_neg_of_neg_of_pos h h1; omega
    · exact h1
  · rw [h, Int.zero_mul] at e
    have h1 := sq_zero (show (ux * vy) * (ux * vy) ≤ 0 by omega)
    have h2 : uy * vx = 0 := by omega
    rcases Int.mul_eq_zero.1 h1 with h3 | h3
    · rcases Int.mul_eq_zero.1 h2 with h4 | h4
      · rw [h4]; simp
      · exact absurd (h3.trans h4.symm) hne
    · rw [h3]; simp
theorem side_ident (ax ay bx b_ px py qx qy : Int) : sideI ax ay bx b_ px py * qx - sideI ax ay bx b_ qx qy * px = sideI px py qx qy bx b_ * ax - sideI px py qx qy ax ay * bx := by unfold sideI; grind
theorem side_ident_y (ax ay bx b_ px py qx qy : Int) : sideI ax ay bx b_ px py * qy - sideI ax ay bx b_ qx qy * py = sideI px py qx qy bx b_ * ay - sideI px py qx qy ax ay * b_ := by unfold sideI; grind
theorem side_diff (ax ay bx b_ px py qx qy : Int) : sideI ax ay bx b_ px py - sideI ax ay bx b_ qx qy = sideI px py qx qy bx b_ - sideI px py qx qy ax ay := by unfold sideI; grind
/-- two crossing parts are not one left of the other -/
theorem not_left {p q r s a b x y : Int} (hp : 0 < p) (hq : q < 0) (hs : 0 < s) (hr : r < 0) (hd : p - q = s - r) (hi : p * y - q * x = s * a - r * b) {M : Int} (ha : a ≤ M) (hb : b ≤ M) (hx : M < x) (hy : M < y) : False := by
  have h1 := Int.mul_nonneg (show 0 ≤ p by omega) (show 0 ≤ y - 1 - M by omega)
  have h2 := Int.mul_nonneg (show 0 ≤ -q by omega) (show 0 ≤ x - 1 - M by omega)
  have h3 := Int.mul_nonneg (show 0 ≤ s by omega) (show 0 ≤ M - a by omega)
  have h4 := Int.mul_nonneg (show 0 ≤ -r by omega) (show 0 ≤ M - b by omega)
  have hdM : (p - q) * M = (s - r) * M := by rw [hd]
  grind
end Go.Proofs.Ytefnmfkndepfgaa
