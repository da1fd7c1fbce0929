/- Contracts of spec's and impl's tests on two parts, and that they are one for parts with a length. Conditions: coordinates from 0 to 9999. -/
import Derived.Test.YtefnmfkndepfgaaL10O
namespace Go.Proofs.Ytefnmfkndepfgaa
open Go.RowKit Go.Lib
set_option linter.unusedVariables false
def inBox (ax ay bx b_ x y : Int) : Bool := inB x (min ax bx) (max ax bx) && inB y (min ay b_) (max ay b_)
def onB (ax ay bx b_ x y : Int) : Bool := decide (sideI ax ay bx b_ x y = 0) && inBox ax ay bx b_ x y
def splitB (ax ay bx b_ px py qx qy : Int) : Bool := (decide (0 < sideI ax ay bx b_ px py) && decide (sideI ax ay bx b_ qx qy < 0)) || (decide (sideI ax ay bx b_ px py < 0) && decide (0 < sideI ax ay bx b_ qx qy))
def crossB (ax ay bx b_ px py qx qy : Int) : Bool := onB ax ay bx b_ px py || (onB ax ay bx b_ qx qy || (onB px py qx qy ax ay || (onB px py qx qy bx b_ || (splitB ax ay bx b_ px py qx qy && splitB px py qx qy ax ay bx b_))))
def sgn (n : Int) : Int := if n < 0 then -1 else if 0 < n then 1 else 0
def meetB (ax ay bx b_ px py qx qy : Int) : Bool := !(decide (max ax bx < min px qx) || (decide (max px qx < min ax bx) || (decide (max ay b_ < min py qy) || decide (max py qy < min ay b_)))) &&
  (decide (sgn (sideI ax ay bx b_ px py) * sgn (sideI ax ay bx b_ qx qy) ≤ 0) && decide (sgn (sideI px py qx qy ax ay) * sgn (sideI px py qx qy bx b_) ≤ 0))
theorem sgn_mul (p q : Int) : sgn p * sgn q ≤ 0 ↔ p * q ≤ 0 := by
  rw [mul_nonpos_iff' (p := sgn p), mul_nonpos_iff' (p := p)]
  unfold sgn
  split <;> split <;> (try split) <;> (try split) <;> omega
theorem sgn_bd (p q : Int) : -1 ≤ sgn p * sgn q ∧ sgn p * sgn q ≤ 1 := by
  unfold sgn
  split <;> split <;> (try split) <;> (try split) <;> omega
theorem onB_iff {ax ay bx b_ x y : Int} : onB ax ay bx b_ x y = true ↔ OnP ax ay bx b_ x y := by
  unfold onB inBox OnP btw
  simp only [Bool.and_eq_true, decide_eq_true_eq, inB_iff]
  omega
theorem splitB_iff {ax ay bx b_ px py qx qy : Int} : splitB ax ay bx b_ px py qx qy = true ↔ SplitP ax ay bx b_ px py qx qy := by
  unfold splitB SplitP
  simp only [Bool.and_eq_true, Bool.or_eq_true, decide_eq_true_eq]
theorem cross_meet {ax ay bx b_ px py qx qy : Int} (hab : ¬ (ax = bx ∧ ay = b_)) (hxy : ¬ (px = qx ∧ py = qy)) : crossB ax ay bx b_ px py qx qy = meetB ax ay bx b_ px py qx qy := by
  rw [Bool.eq_iff_iff]
  have h := cross_iff hab hxy
  unfold crossB meetB
  simp only [Bool.or_eq_true, Bool.and_eq_true, onB_iff, splitB_iff]
  rw [h]
  simp only [Bool.not_eq_true', Bool.or_eq_false_iff, decide_eq_false_iff_not, decide_eq_true_eq, sgn_mul]
  have o1 : Over ax bx px qx ↔ ¬ max ax bx < min px qx ∧ ¬ max px qx < min ax bx := by unfold Over; omega
  have o2 : Over ay b_ py qy ↔ ¬ max ay b_ < min py qy ∧ ¬ max py qy < min ay b_ := by unfold Over; omega
  rw [o1, o2]
  constructor
  · rintro ⟨⟨a, b⟩, ⟨c, d⟩, e, f⟩; exact ⟨⟨a, b, c, d⟩, e, f⟩
  · rintro ⟨⟨a, b, c, d⟩, e, f⟩; exact ⟨⟨a, b⟩, ⟨c, d⟩, e, f⟩
theorem l10Between_any (ax ay bx b_ cx cy : Int) (w : World) :
    Calls Try.prog 96 #[.agg #[.int .i64 ax, .int .i64 ay], .agg #[.int .i64 bx, .int .i64 b_], .agg #[.int .i64 cx, .int .i64 cy]] w fun e w' => e = .returned (.bool (inBox ax ay bx b_ cx cy)) ∧ Below w.heap.size w w' := by
  unfold inBox
  have B3 := below_corn3 ax ay bx b_ cx cy w
  have HB := hide B3; clear B3
  have hi := fun W => l1In_any cx (min ax bx) (max ax bx) W
  have hj := fun W => l1In_any cy (min ay b_) (max ay b_) W
  generalize inB cx (min ax bx) (max ax bx) = i at hi ⊢
  generalize inB cy (min ay b_) (max ay b_) = j at hj ⊢
  have HI := hide hi; have HJ := hide hj; clear hi hj
  cases i
  all_goals
    have n0 : ∀ n : Later (((w.alloc (.cells #[.int .i64 ax, .int .i64 ay] 58)).alloc (.cells #[.int .i64 bx, .int .i64 b_] 58)).alloc (.cells #[.int .i64 cx, .int .i64 cy] 58)), n.W.cell? ⟨w.heap.size, 0, none⟩ = some (.int .i64 ax) := later_cell (by simp [go_sem])
    have n1 : ∀ n : Later (((w.alloc (.cells #[.int .i64 ax, .int .i64 ay] 58)).alloc (.cells #[.int .i64 bx, .int .i64 b_] 58)).alloc (.cells #[.int .i64 cx, .int .i64 cy] 58)), n.W.cell? ⟨w.heap.size, 1, none⟩ = some (.int .i64 ay) := later_cell (by simp [go_sem])
    have n2 : ∀ n : Later (((w.alloc (.cells #[.int .i64 ax, .int .i64 ay] 58)).alloc (.cells #[.int .i64 bx, .int .i64 b_] 58)).alloc (.cells #[.int .i64 cx, .int .i64 cy] 58)), n.W.cell? ⟨w.heap.size + 1, 0, none⟩ = some (.int .i64 bx) := later_cell (by simp [go_sem])
    have n3 : ∀ n : Later (((w.alloc (.cells #[.int .i64 ax, .int .i64 ay] 58)).alloc (.cells #[.int .i64 bx, .int .i64 b_] 58)).alloc (.cells #[.int .i64 cx, .int .i64 cy] 58)), n.W.cell? ⟨w.heap.size + 1, 1, none⟩ = some (.int .i64 b_) := later_cell (by simp [go_sem])
    have n4 : ∀ n : Later (((w.alloc (.cells #[.int .i64 ax, .int .i64 ay] 58)).alloc (.cells #[.int .i64 bx, .int .i64 b_] 58)).alloc (.cells #[.int .i64 cx, .int .i64 cy] 58)), n.W.cell? ⟨w.heap.size + 1 + 1, 0, none⟩ = some (.int .i64 cx) := later_cell (by simp [go_sem])
    have n5 : ∀ n : Later (((w.alloc (.cells #[.int .i64 ax, .int .i64 ay] 58)).alloc (.cells #[.int .i64 bx, .int .i64 b_] 58)).alloc (.cells #[.int .i64 cx, .int .i64 cy] 58)), n.W.cell? ⟨w.heap.size + 1 + 1, 1, none⟩ = some (.int .i64 cy) := later_cell (by simp [go_sem])
    go_enter Try.func96, Try.ntmps96
    go_wp2_with fail
    (refine wp_region_later (by kernel_rfl) (by kernel_rfl) ?_; (repeat (go_big_quiet_step ((first | (go_at_call 78; (with_reducible exact later_same (HI.out _))) | (go_at_call 78; (with_reducible exact later_same (HJ.out _))) | (go_at_call 94; exact later_same (l1Least_any _ _ _)) | (go_at_call 84; exact later_same (l1Most_any _ _ _)))))); refine wpQuiet_nil ?_; intro _ hw'; obtain ⟨nq, hw''⟩ := hw'; subst hw'')
    have B2 := bstep HB.out nq.h HB.out.size
    generalize nq.W = W2 at B2
    go_wp2_with fail
    go_ret
    exact ⟨rfl, B2⟩
theorem l10On_any (ax ay bx b_ cx cy : Int) (w : World) (ha : inC ax ay) (hb : inC bx b_) (hc : inC cx cy) :
    Calls Try.prog 88 #[.agg #[.int .i64 ax, .int .i64 ay], .agg #[.int .i64 bx, .int .i64 b_], .agg #[.int .i64 cx, .int .i64 cy]] w fun e w' => e = .returned (.bool (onB ax ay bx b_ cx cy)) ∧ Below w.heap.size w w' := by
  unfold onB
  have hS := fun W => l10Side_any ax ay bx b_ cx cy W ha hb hc
  have hN := fun W => l10Between_any ax ay bx b_ cx cy W
  have hb3 := fun W => below_corn3 ax ay bx b_ cx cy W
  have HB3 := hide hb3
  generalize sideI ax ay bx b_ cx cy = s at hS ⊢
  generalize inBox ax ay bx b_ cx cy = o at hN ⊢
  have HS := hide hS; have HN := hide hN; clear hS hN ha hb hc hb3
  by_cases h : s = 0
  · subst h
    go_enter Try.func88, Try.ntmps88
    go_wp2_with fail
    refine (HS.out _).mono ?_; rintro e w' ⟨rfl, rfl⟩
    go_wp2_with fail
    refine (HN.out _).mono ?_; rintro e w1 ⟨rfl, hb1⟩
    go_wp2_with fail
    go_ret
    exact ⟨by simp, bstep (bstep (HB3.out _) (HB3.out _) (HB3.out _).size) hb1 (bstep (HB3.out _) (HB3.out _) (HB3.out _).size).size⟩
  · have h2 : (s == 0) = false := beq_false_of_ne h
    go_enter Try.func88, Try.ntmps88
    go_wp2_with fail
    refine (HS.out _).mono ?_; rintro e w' ⟨rfl, rfl⟩
    go_wp2_with fail
    go_ret
    exact ⟨by simp [h], bstep (HB3.out _) (HB3.out _) (HB3.out _).size⟩
theorem sign_any (n : Int) (w : World) :
    Calls Try.prog 90 #[.int .i64 n] w fun e w' => e = .returned (.int .i64 (sgn n)) ∧ w = w' := by
  unfold sgn
  by_cases h1 : n < 0
  · rw [if_pos h1]
    go_enter Try.func90, Try.ntmps90
    go_wp2
    all_goals (go_ret; exact ⟨rfl, rfl⟩)
  · rw [if_neg h1]
    by_cases h2 : 0 < n
    · rw [if_pos h2]
      go_enter Try.func90, Try.ntmps90
      go_wp2
      all_goals (go_ret; exact ⟨rfl, rfl⟩)
    · rw [if_neg h2]
      go_enter Try.func90, Try.ntmps90
      go_wp2
      all_goals (go_ret; exact ⟨rfl, rfl⟩)
end Go.Proofs.Ytefnmfkndepfgaa
