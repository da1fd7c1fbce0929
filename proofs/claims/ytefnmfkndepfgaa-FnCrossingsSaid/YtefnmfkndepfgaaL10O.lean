/- The plain law on two parts, ended: crossB (spec) = meetB (impl) for parts that have a length. No program here. -/
import Derived.Test.YtefnmfkndepfgaaL10N
namespace Go.Proofs.Ytefnmfkndepfgaa
open Go.RowKit Go.Lib
set_option linter.unusedVariables false
def OnP (ax ay bx b_ x y : Int) : Prop := sideI ax ay bx b_ x y = 0 ∧ btw ax bx x ∧ btw ay b_ y
def SplitP (ax ay bx b_ px py qx qy : Int) : Prop := (0 < sideI ax ay bx b_ px py ∧ sideI ax ay bx b_ qx qy < 0) ∨ (sideI ax ay bx b_ px py < 0 ∧ 0 < sideI ax ay bx b_ qx qy)
def Over (a b p q : Int) : Prop := ¬ (a < p ∧ a < q ∧ b < p ∧ b < q) ∧ ¬ (p < a ∧ p < b ∧ q < a ∧ q < b)
theorem on_sides {ax ay bx b_ x y : Int} (h : OnP ax ay bx b_ x y) (dx dy : Int) : (dx * (ay - y) - dy * (ax - x)) * (dx * (b_ - y) - dy * (bx - x)) ≤ 0 := by
  obtain ⟨h1, h2, h3⟩ := h
  rw [btw_iff] at h2 h3
  refine mid_sides ?_ ?_ ?_
  · have : (ax - x) * (bx - x) = (x - ax) * (x - bx) := by grind
    rw [this]; exact h2
  · have : (ay - y) * (b_ - y) = (y - ay) * (y - b_) := by grind
    rw [this]; exact h3
  · unfold sideI at h1; grind
theorem on_over {ax ay bx b_ px py : Int} (h : OnP ax ay bx b_ px py) (qx qy : Int) : Over ax bx px qx ∧ Over ay b_ py qy := by
  obtain ⟨_, h2, h3⟩ := h
  unfold btw at h2 h3; unfold Over
  omega
theorem over_swap {a b p q : Int} (h : Over a b p q) : Over p q a b := by unfold Over at *; omega
theorem over_flip {a b p q : Int} (h : Over a b p q) : Over a b q p := by unfold Over at *; omega
theorem side_flip (px py qx qy ax ay : Int) : sideI qx qy px py ax ay = - sideI px py qx qy ax ay := by unfold sideI; grind
theorem on_flip {ax ay bx b_ x y : Int} (h : OnP bx b_ ax ay x y) : OnP ax ay bx b_ x y := by
  obtain ⟨h1, h2, h3⟩ := h
  rw [side_flip] at h1
  refine ⟨by omega, ?_, ?_⟩
  · unfold btw at *; omega
  · unfold btw at *; omega
theorem mul_nonpos_iff' {p q : Int} : p * q ≤ 0 ↔ ¬ (0 < p ∧ 0 < q) ∧ ¬ (p < 0 ∧ q < 0) := by
  constructor
  · intro h
    refine ⟨fun ⟨a, b⟩ => ?_, fun ⟨a, b⟩ => ?_⟩
    · have := Int.mul_pos a b; omega
    · have := Int.mul_pos_of_neg_of_neg a b; omega
  · rintro ⟨h1, h2⟩
    rcases Int.lt_or_le 0 p with h3 | h3
    · exact Int.mul_nonpos_of_nonneg_of_nonpos (by omega) (by omega)
    · rcases Int.lt_or_le p 0 with h4 | h4
      · exact Int.mul_nonpos_of_nonpos_of_nonneg h3 (by omega)
      · rw [show p = 0 by omega]; simp
theorem split_over {ax ay bx b_ px py qx qy : Int} (h1 : SplitP ax ay bx b_ px py qx qy) (h2 : SplitP px py qx qy ax ay bx b_) : Over ax bx px qx ∧ Over ay b_ py qy := by
  have ix := side_ident ax ay bx b_ px py qx qy
  have iy := side_ident_y ax ay bx b_ px py qx qy
  have id := side_diff ax ay bx b_ px py qx qy
  unfold SplitP at h1 h2
  generalize sideI ax ay bx b_ px py = p at *
  generalize sideI ax ay bx b_ qx qy = q at *
  generalize sideI px py qx qy ax ay = r at *
  generalize sideI px py qx qy bx b_ = s at *
  have key : ∀ a b x y : Int, p * y - q * x = s * a - r * b → Over a b x y := by
    intro a b x y hi
    unfold Over
    rcases h1 with ⟨hp, hq⟩ | ⟨hp, hq⟩
    · have hs : 0 < s := by omega
      have hr : r < 0 := by omega
      refine ⟨fun ⟨c1, c2, c3, c4⟩ => ?_, fun ⟨c1, c2, c3, c4⟩ => ?_⟩
      · exact not_left (M := max a b) hp hq hs hr id hi (by omega) (by omega) (by omega) (by omega)
      · exact not_left (p := p) (q := q) (r := r) (s := s) (a := -a) (b := -b) (x := -x) (y := -y) (M := max (-a) (-b)) hp hq hs hr id (by grind) (by omega) (by omega) (by omega) (by omega) |>.elim
    · have hs : s < 0 := by omega
      have hr : 0 < r := by omega
      refine ⟨fun ⟨c1, c2, c3, c4⟩ => ?_, fun ⟨c1, c2, c3, c4⟩ => ?_⟩
      · exact not_left (p := -p) (q := -q) (r := -r) (s := -s) (M := max a b) (by omega) (by omega) (by omega) (by omega) (by omega) (show -p * y - -q * x = -s * a - -r * b by grind) (by omega) (by omega) (by omega) (by omega)
      · exact not_left (p := -p) (q := -q) (r := -r) (s := -s) (a := -a) (b := -b) (x := -x) (y := -y) (M := max (-a) (-b)) (by omega) (by omega) (by omega) (by omega) (by omega) (by grind) (by omega) (by omega) (by omega) (by omega)
  exact ⟨key _ _ _ _ ix, key _ _ _ _ iy⟩
theorem line_btw {ax ay bx b_ x y : Int} (hc : (ax - x) * (b_ - y) = (ay - y) * (bx - x)) (hne : ax ≠ bx) (h : btw ax bx x) : btw ay b_ y := by
  rw [btw_iff] at h ⊢
  have h1 : (ax - x) * (bx - x) ≤ 0 := by
    have : (ax - x) * (bx - x) = (x - ax) * (x - bx) := by grind
    rw [this]; exact h
  have h2 := btw_other hc h1 (by omega)
  have : (y - ay) * (y - b_) = (ay - y) * (b_ - y) := by grind
  rw [this]; exact h2
/-- an end that lies on the other part's line -/
theorem zero_case {ax ay bx b_ px py qx qy : Int} (hab : ¬ (ax = bx ∧ ay = b_)) (hxy : ¬ (px = qx ∧ py = qy)) (hp : sideI ax ay bx b_ px py = 0) (hrs : sideI px py qx qy ax ay * sideI px py qx qy bx b_ ≤ 0)
    (ox : Over ax bx px qx) (oy : Over ay b_ py qy) : OnP ax ay bx b_ px py ∨ OnP ax ay bx b_ qx qy ∨ OnP px py qx qy ax ay ∨ OnP px py qx qy bx b_ := by
  have id := side_diff ax ay bx b_ px py qx qy
  have hc : (ax - px) * (b_ - py) = (ay - py) * (bx - px) := by unfold sideI at hp; grind
  have er : sideI px py qx qy ax ay = (qx - px) * (ay - py) - (qy - py) * (ax - px) := by unfold sideI; grind
  have es : sideI px py qx qy bx b_ = (qx - px) * (b_ - py) - (qy - py) * (bx - px) := by unfold sideI; grind
  by_cases hq : sideI ax ay bx b_ qx qy = 0
  · -- all on one line
    have hrs2 : sideI px py qx qy ax ay = sideI px py qx qy bx b_ := by omega
    have e1 : (ax - px) * sideI px py qx qy bx b_ = (bx - px) * sideI px py qx qy ax ay := by rw [er, es]; grind
    have e2 : (ay - py) * sideI px py qx qy bx b_ = (b_ - py) * sideI px py qx qy ax ay := by rw [er, es]; grind
    have hr : sideI px py qx qy ax ay = 0 := by
      rw [← hrs2] at e1 e2
      generalize sideI px py qx qy ax ay = r at e1 e2
      have f1 : (ax - bx) * r = 0 := by grind
      have f2 : (ay - b_) * r = 0 := by grind
      rcases Int.mul_eq_zero.1 f1 with h | h
      · rcases Int.mul_eq_zero.1 f2 with h' | h'
        · exact absurd ⟨by omega, by omega⟩ hab
        · exact h'
      · exact h
    have hs : sideI px py qx qy bx b_ = 0 := by omega
    have cq : (ax - qx) * (b_ - qy) = (ay - qy) * (bx - qx) := by unfold sideI at hq; grind
    have ca : (px - ax) * (qy - ay) = (py - ay) * (qx - ax) := by unfold sideI at hr; grind
    have cb : (px - bx) * (qy - b_) = (py - b_) * (qx - bx) := by unfold sideI at hs; grind
    by_cases hx : ax = bx
    · have hy : ay ≠ b_ := fun h => hab ⟨hx, h⟩
      have hy2 : py ≠ qy := by
        intro h
        rw [er, h] at hr; rw [es, h] at hs
        have g1 : (qx - px) * (ay - qy) = 0 := by grind
        have g2 : (qx - px) * (b_ - qy) = 0 := by grind
        have hx2 : px ≠ qx := fun h' => hxy ⟨h', h⟩
        rcases Int.mul_eq_zero.1 g1 with h3 | h3
        · omega
        · rcases Int.mul_eq_zero.1 g2 with h4 | h4
          · omega
          · omega
      have hor : btw ay b_ py ∨ btw ay b_ qy ∨ btw py qy ay ∨ btw py qy b_ := by unfold Over at oy; unfold btw; omega
      rcases hor with h | h | h | h
      · exact .inl ⟨hp, line_btw (by grind) hy h, h⟩
      · exact .inr (.inl ⟨hq, line_btw (by grind) hy h, h⟩)
      · exact .inr (.inr (.inl ⟨hr, line_btw (by grind) hy2 h, h⟩))
      · exact .inr (.inr (.inr ⟨hs, line_btw (by grind) hy2 h, h⟩))
    · have hx2 : px ≠ qx := by
        intro h
        rw [er, h] at hr; rw [es, h] at hs
        have g1 : (qy - py) * (ax - qx) = 0 := by grind
        have g2 : (qy - py) * (bx - qx) = 0 := by grind
        have hy2 : py ≠ qy := fun h' => hxy ⟨h, h'⟩
        rcases Int.mul_eq_zero.1 g1 with h3 | h3
        · omega
        · rcases Int.mul_eq_zero.1 g2 with h4 | h4
          · omega
          · omega
      have hor : btw ax bx px ∨ btw ax bx qx ∨ btw px qx ax ∨ btw px qx bx := by unfold Over at ox; unfold btw; omega
      rcases hor with h | h | h | h
      · exact .inl ⟨hp, h, line_btw hc hx h⟩
      · exact .inr (.inl ⟨hq, h, line_btw cq hx h⟩)
      · exact .inr (.inr (.inl ⟨hr, h, line_btw ca hx2 h⟩))
      · exact .inr (.inr (.inr ⟨hs, h, line_btw cb hx2 h⟩))
  · left
    refine ⟨hp, ?_, ?_⟩
    · rw [btw_iff]
      rcases Int.lt_or_le 0 ((ax - px) * (bx - px)) with h | h
      · rw [er, es] at hrs
        obtain ⟨h1, h2⟩ := out_sides hc h hrs
        rw [hp, er, es, h1, h2] at id
        omega
      · have : (px - ax) * (px - bx) = (ax - px) * (bx - px) := by grind
        rw [this]; exact h
    · rw [btw_iff]
      rcases Int.lt_or_le 0 ((ay - py) * (b_ - py)) with h | h
      · rw [er, es] at hrs
        obtain ⟨h1, h2⟩ := out_sides (ux := ay - py) (uy := ax - px) (vx := b_ - py) (vy := bx - px) (dx := qy - py) (dy := qx - px) (by grind) h (by grind)
        omega
      · have : (py - ay) * (py - b_) = (ay - py) * (b_ - py) := by grind
        rw [this]; exact h

theorem cross_iff {ax ay bx b_ px py qx qy : Int} (hab : ¬ (ax = bx ∧ ay = b_)) (hxy : ¬ (px = qx ∧ py = qy)) :
    (OnP ax ay bx b_ px py ∨ OnP ax ay bx b_ qx qy ∨ OnP px py qx qy ax ay ∨ OnP px py qx qy bx b_ ∨ (SplitP ax ay bx b_ px py qx qy ∧ SplitP px py qx qy ax ay bx b_)) ↔
    (Over ax bx px qx ∧ Over ay b_ py qy ∧ sideI ax ay bx b_ px py * sideI ax ay bx b_ qx qy ≤ 0 ∧ sideI px py qx qy ax ay * sideI px py qx qy bx b_ ≤ 0) := by
  constructor
  · rintro (h | h | h | h | ⟨h1, h2⟩)
    · refine ⟨(on_over h _ 0).1, (on_over h 0 _).2, by rw [h.1]; simp, ?_⟩
      have := on_sides h (qx - px) (qy - py)
      have er : sideI px py qx qy ax ay = (qx - px) * (ay - py) - (qy - py) * (ax - px) := by unfold sideI; grind
      have es : sideI px py qx qy bx b_ = (qx - px) * (b_ - py) - (qy - py) * (bx - px) := by unfold sideI; grind
      rw [er, es]; exact this
    · refine ⟨over_flip (on_over h _ 0).1, over_flip (on_over h 0 _).2, by rw [h.1]; simp, ?_⟩
      exact on_sides h (qx - px) (qy - py)
    · refine ⟨over_swap (on_over h _ 0).1, over_swap (on_over h 0 _).2, ?_, by rw [h.1]; simp⟩
      have := on_sides h (bx - ax) (b_ - ay)
      have er : sideI ax ay bx b_ px py = (bx - ax) * (py - ay) - (b_ - ay) * (px - ax) := by unfold sideI; grind
      have es : sideI ax ay bx b_ qx qy = (bx - ax) * (qy - ay) - (b_ - ay) * (qx - ax) := by unfold sideI; grind
      rw [er, es]; exact this
    · refine ⟨over_swap (over_flip (on_over h _ 0).1), over_swap (over_flip (on_over h 0 _).2), ?_, by rw [h.1]; simp⟩
      exact on_sides h (bx - ax) (b_ - ay)
    · refine ⟨(split_over h1 h2).1, (split_over h1 h2).2, ?_, ?_⟩
      · rw [mul_nonpos_iff']; unfold SplitP at h1; omega
      · rw [mul_nonpos_iff']; unfold SplitP at h2; omega
  · rintro ⟨ox, oy, h1, h2⟩
    by_cases z1 : sideI ax ay bx b_ px py = 0
    · rcases zero_case hab hxy z1 h2 ox oy with h | h | h | h
      · exact .inl h
      · exact .inr (.inl h)
      · exact .inr (.inr (.inl h))
      · exact .inr (.inr (.inr (.inl h)))
    by_cases z2 : sideI ax ay bx b_ qx qy = 0
    · rcases zero_case (px := qx) (py := qy) (qx := px) (qy := py) hab (fun h => hxy ⟨h.1.symm, h.2.symm⟩) z2 (by rw [side_flip px py qx qy ax ay, side_flip px py qx qy bx b_, Int.neg_mul_neg]; exact h2) (over_flip ox) (over_flip oy) with h | h | h | h
      · exact .inr (.inl h)
      · exact .inl h
      · exact .inr (.inr (.inl (on_flip h)))
      · exact .inr (.inr (.inr (.inl (on_flip h))))
    by_cases z3 : sideI px py qx qy ax ay = 0
    · rcases zero_case hxy hab z3 h1 (over_swap ox) (over_swap oy) with h | h | h | h
      · exact .inr (.inr (.inl h))
      · exact .inr (.inr (.inr (.inl h)))
      · exact .inl h
      · exact .inr (.inl h)
    by_cases z4 : sideI px py qx qy bx b_ = 0
    · rcases zero_case (px := bx) (py := b_) (qx := ax) (qy := ay) hxy (fun h => hab ⟨h.1.symm, h.2.symm⟩) z4 (by rw [side_flip ax ay bx b_ px py, side_flip ax ay bx b_ qx qy, Int.neg_mul_neg]; exact h1) (over_flip (over_swap ox)) (over_flip (over_swap oy)) with h | h | h | h
      · exact .inr (.inr (.inr (.inl h)))
      · exact .inr (.inr (.inl h))
      · exact .inl (on_flip h)
      · exact .inr (.inl (on_flip h))
    · rw [mul_nonpos_iff'] at h1 h2
      exact .inr (.inr (.inr (.inr ⟨by unfold SplitP; omega, by unfold SplitP; omega⟩)))
end Go.Proofs.Ytefnmfkndepfgaa
