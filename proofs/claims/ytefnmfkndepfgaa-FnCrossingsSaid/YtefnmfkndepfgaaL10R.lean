/- Contract of impl's test on two parts: meetB. Conditions: coordinates from 0 to 9999. -/
import Derived.Test.YtefnmfkndepfgaaL10Q
namespace Go.Proofs.Ytefnmfkndepfgaa
open Go.RowKit Go.Lib
set_option linter.unusedVariables false
set_option maxHeartbeats 2000000 in
theorem meet_any (ax ay bx b_ px py qx qy : Int) (w : World) (ha : inC ax ay) (hb : inC bx b_) (hp : inC px py) (hq : inC qx qy) :
    Calls Try.prog 71 #[.agg #[.int .i64 ax, .int .i64 ay], .agg #[.int .i64 bx, .int .i64 b_], .agg #[.int .i64 px, .int .i64 py], .agg #[.int .i64 qx, .int .i64 qy]] w fun e w' => e = .returned (.bool (meetB ax ay bx b_ px py qx qy)) ∧ Below w.heap.size w w' := by
  unfold meetB
  have h1 := fun W => cross_b ax ay bx b_ px py W ha hb hp
  have h2 := fun W => cross_b ax ay bx b_ qx qy W ha hb hq
  have h3 := fun W => cross_b px py qx qy ax ay W hp hq ha
  have h4 := fun W => cross_b px py qx qy bx b_ W hp hq hb
  have B4 := below_corn4 ax ay bx b_ px py qx qy w
  generalize sideI ax ay bx b_ px py = p at h1 ⊢
  generalize sideI ax ay bx b_ qx qy = q at h2 ⊢
  generalize sideI px py qx qy ax ay = r at h3 ⊢
  generalize sideI px py qx qy bx b_ = s at h4 ⊢
  have H1 := hide h1; have H2 := hide h2; have H3 := hide h3; have H4 := hide h4; have HB := hide B4
  clear h1 h2 h3 h4 B4 ha hb hp hq
  by_cases k1 : max ax bx < min px qx
  · go_enter Try.func71, Try.ntmps71
    go_wp2_with fail
    go_ret
    exact ⟨by simp [k1], HB.out⟩
  by_cases k2 : max px qx < min ax bx
  · go_enter Try.func71, Try.ntmps71
    go_wp2_with fail
    go_ret
    exact ⟨by simp [k2], HB.out⟩
  by_cases k3 : max ay b_ < min py qy
  · go_enter Try.func71, Try.ntmps71
    go_wp2_with fail
    go_ret
    exact ⟨by simp [k3], HB.out⟩
  by_cases k4 : max py qy < min ay b_
  · go_enter Try.func71, Try.ntmps71
    go_wp2_with fail
    go_ret
    exact ⟨by simp [k4], HB.out⟩
  have n0 : ∀ n : Later ((((w.alloc (.cells #[.int .i64 ax, .int .i64 ay] 58)).alloc (.cells #[.int .i64 bx, .int .i64 b_] 58)).alloc (.cells #[.int .i64 px, .int .i64 py] 58)).alloc (.cells #[.int .i64 qx, .int .i64 qy] 58)), n.W.cell? ⟨w.heap.size, 0, none⟩ = some (.int .i64 ax) := later_cell (by simp [go_sem])
  have n1 : ∀ n : Later ((((w.alloc (.cells #[.int .i64 ax, .int .i64 ay] 58)).alloc (.cells #[.int .i64 bx, .int .i64 b_] 58)).alloc (.cells #[.int .i64 px, .int .i64 py] 58)).alloc (.cells #[.int .i64 qx, .int .i64 qy] 58)), n.W.cell? ⟨w.heap.size, 1, none⟩ = some (.int .i64 ay) := later_cell (by simp [go_sem])
  have n2 : ∀ n : Later ((((w.alloc (.cells #[.int .i64 ax, .int .i64 ay] 58)).alloc (.cells #[.int .i64 bx, .int .i64 b_] 58)).alloc (.cells #[.int .i64 px, .int .i64 py] 58)).alloc (.cells #[.int .i64 qx, .int .i64 qy] 58)), n.W.cell? ⟨w.heap.size + 1, 0, none⟩ = some (.int .i64 bx) := later_cell (by simp [go_sem])
  have n3 : ∀ n : Later ((((w.alloc (.cells #[.int .i64 ax, .int .i64 ay] 58)).alloc (.cells #[.int .i64 bx, .int .i64 b_] 58)).alloc (.cells #[.int .i64 px, .int .i64 py] 58)).alloc (.cells #[.int .i64 qx, .int .i64 qy] 58)), n.W.cell? ⟨w.heap.size + 1, 1, none⟩ = some (.int .i64 b_) := later_cell (by simp [go_sem])
  have n4 : ∀ n : Later ((((w.alloc (.cells #[.int .i64 ax, .int .i64 ay] 58)).alloc (.cells #[.int .i64 bx, .int .i64 b_] 58)).alloc (.cells #[.int .i64 px, .int .i64 py] 58)).alloc (.cells #[.int .i64 qx, .int .i64 qy] 58)), n.W.cell? ⟨w.heap.size + 1 + 1, 0, none⟩ = some (.int .i64 px) := later_cell (by simp [go_sem])
  have n5 : ∀ n : Later ((((w.alloc (.cells #[.int .i64 ax, .int .i64 ay] 58)).alloc (.cells #[.int .i64 bx, .int .i64 b_] 58)).alloc (.cells #[.int .i64 px, .int .i64 py] 58)).alloc (.cells #[.int .i64 qx, .int .i64 qy] 58)), n.W.cell? ⟨w.heap.size + 1 + 1, 1, none⟩ = some (.int .i64 py) := later_cell (by simp [go_sem])
  have n6 : ∀ n : Later ((((w.alloc (.cells #[.int .i64 ax, .int .i64 ay] 58)).alloc (.cells #[.int .i64 bx, .int .i64 b_] 58)).alloc (.cells #[.int .i64 px, .int .i64 py] 58)).alloc (.cells #[.int .i64 qx, .int .i64 qy] 58)), n.W.cell? ⟨w.heap.size + 1 + 1 + 1, 0, none⟩ = some (.int .i64 qx) := later_cell (by simp [go_sem])
  have n7 : ∀ n : Later ((((w.alloc (.cells #[.int .i64 ax, .int .i64 ay] 58)).alloc (.cells #[.int .i64 bx, .int .i64 b_] 58)).alloc (.cells #[.int .i64 px, .int .i64 py] 58)).alloc (.cells #[.int .i64 qx, .int .i64 qy] 58)), n.W.cell? ⟨w.heap.size + 1 + 1 + 1, 1, none⟩ = some (.int .i64 qy) := later_cell (by simp [go_sem])
  have s1 := fun W => sign_any p W
  have s2 := fun W => sign_any q W
  have s3 := fun W => sign_any r W
  have s4 := fun W => sign_any s W
  have m1 := sgn_bd p q
  have m2 := sgn_bd r s
  generalize sgn p = sp at s1 m1 ⊢
  generalize sgn q = sq at s2 m1 ⊢
  generalize sgn r = sr at s3 m2 ⊢
  generalize sgn s = ss at s4 m2 ⊢
  have S1 := hide s1; have S2 := hide s2; have S3 := hide s3; have S4 := hide s4
  clear s1 s2 s3 s4
  have r1 : IntKind.i64.wrap (sp * sq) = sp * sq := IntWalk.i64_in _ (by omega)
  have r2 : IntKind.i64.wrap (sr * ss) = sr * ss := IntWalk.i64_in _ (by omega)
  clear m1 m2
  rw [show (decide (max ax bx < min px qx) || (decide (max px qx < min ax bx) || (decide (max ay b_ < min py qy) || decide (max py qy < min ay b_)))) = false by simp only [decide_eq_false k1, decide_eq_false k2, decide_eq_false k3, decide_eq_false k4, Bool.or_false], Bool.not_false, Bool.true_and]
  by_cases d1 : sp * sq ≤ 0
  · rw [decide_eq_true d1, Bool.true_and]
    go_enter Try.func71, Try.ntmps71
    go_wp2_with fail
    (refine wp_region_later (by kernel_rfl) (by kernel_rfl) ?_; (repeat (go_big_quiet_step ((first | (go_at_call 91; (with_reducible exact later_call (H1.out _))) | (go_at_call 91; (with_reducible exact later_call (H2.out _))) | (go_at_call 91; (with_reducible exact later_call (H3.out _))) | (go_at_call 91; (with_reducible exact later_call (H4.out _))) | (go_at_call 90; (with_reducible exact later_same (S1.out _))) | (go_at_call 90; (with_reducible exact later_same (S2.out _))) | (go_at_call 90; (with_reducible exact later_same (S3.out _))) | (go_at_call 90; (with_reducible exact later_same (S4.out _))))))); refine wpQuiet_nil ?_; intro _ hw'; obtain ⟨nq, hw''⟩ := hw'; subst hw'')
    have B2 := bstep HB.out nq.h HB.out.size
    generalize nq.W = W2 at B2
    go_wp2_with fail
    go_ret
    exact ⟨rfl, B2⟩
  · rw [decide_eq_false d1, Bool.false_and]
    have d2 : decide (sp * sq ≤ 0) = false := decide_eq_false d1
    go_enter Try.func71, Try.ntmps71
    go_wp2_with fail
    (refine wp_region_later (by kernel_rfl) (by kernel_rfl) ?_; (repeat (go_big_quiet_step ((first | (go_at_call 91; (with_reducible exact later_call (H1.out _))) | (go_at_call 91; (with_reducible exact later_call (H2.out _))) | (go_at_call 91; (with_reducible exact later_call (H3.out _))) | (go_at_call 91; (with_reducible exact later_call (H4.out _))) | (go_at_call 90; (with_reducible exact later_same (S1.out _))) | (go_at_call 90; (with_reducible exact later_same (S2.out _))) | (go_at_call 90; (with_reducible exact later_same (S3.out _))) | (go_at_call 90; (with_reducible exact later_same (S4.out _))))))); refine wpQuiet_nil ?_; intro _ hw'; obtain ⟨nq, hw''⟩ := hw'; subst hw'')
    have B2 := bstep HB.out nq.h HB.out.size
    generalize nq.W = W2 at B2
    go_wp2_with fail
    go_ret
    exact ⟨rfl, B2⟩
end Go.Proofs.Ytefnmfkndepfgaa
