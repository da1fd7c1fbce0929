/- Contracts of the two tests on two parts: spec's returns crossB, impl's meetB. Conditions: coordinates from 0 to 9999. -/
import Derived.Test.YtefnmfkndepfgaaL10P
namespace Go.Proofs.Ytefnmfkndepfgaa
open Go.RowKit Go.Lib
set_option linter.unusedVariables false
theorem below_corn4 (ax ay bx b_ px py qx qy : Int) (w : World) : Below w.heap.size w ((((w.alloc (.cells #[.int .i64 ax, .int .i64 ay] 58)).alloc (.cells #[.int .i64 bx, .int .i64 b_] 58)).alloc (.cells #[.int .i64 px, .int .i64 py] 58)).alloc (.cells #[.int .i64 qx, .int .i64 qy] 58)) := ((((Below.refl _ _).alloc (Nat.le_refl _) _).alloc (by simp) _).alloc (by simp; omega) _).alloc (by simp; omega) _
theorem l10Side_b (ax ay bx b_ cx cy : Int) (w : World) (ha : inC ax ay) (hb : inC bx b_) (hc : inC cx cy) :
    Calls Try.prog 79 #[.agg #[.int .i64 ax, .int .i64 ay], .agg #[.int .i64 bx, .int .i64 b_], .agg #[.int .i64 cx, .int .i64 cy]] w fun e w' => e = .returned (.int .i64 (sideI ax ay bx b_ cx cy)) ∧ Below w.heap.size w w' :=
  (l10Side_any ax ay bx b_ cx cy w ha hb hc).mono fun _ _ ⟨h1, h2⟩ => ⟨h1, h2 ▸ below_corn3 ax ay bx b_ cx cy w⟩
theorem cross_b (ax ay bx b_ cx cy : Int) (w : World) (ha : inC ax ay) (hb : inC bx b_) (hc : inC cx cy) :
    Calls Try.prog 91 #[.agg #[.int .i64 ax, .int .i64 ay], .agg #[.int .i64 bx, .int .i64 b_], .agg #[.int .i64 cx, .int .i64 cy]] w fun e w' => e = .returned (.int .i64 (sideI ax ay bx b_ cx cy)) ∧ Below w.heap.size w w' :=
  (cross_any ax ay bx b_ cx cy w ha hb hc).mono fun _ _ ⟨h1, h2⟩ => ⟨h1, h2 ▸ below_corn3 ax ay bx b_ cx cy w⟩
theorem l10Split_any (ax ay bx b_ px py qx qy : Int) (w : World) (ha : inC ax ay) (hb : inC bx b_) (hp : inC px py) (hq : inC qx qy) :
    Calls Try.prog 89 #[.agg #[.int .i64 ax, .int .i64 ay], .agg #[.int .i64 bx, .int .i64 b_], .agg #[.int .i64 px, .int .i64 py], .agg #[.int .i64 qx, .int .i64 qy]] w fun e w' => e = .returned (.bool (splitB ax ay bx b_ px py qx qy)) ∧ Below w.heap.size w w' := by
  unfold splitB
  have h1 := fun W => l10Side_b ax ay bx b_ px py W ha hb hp
  have h2 := fun W => l10Side_b ax ay bx b_ qx qy W ha hb hq
  have B4 := below_corn4 ax ay bx b_ px py qx qy w
  generalize sideI ax ay bx b_ px py = p at h1 ⊢
  generalize sideI ax ay bx b_ qx qy = q at h2 ⊢
  have H1 := hide h1; have H2 := hide h2; have HB := hide B4
  clear h1 h2 B4 ha hb hp hq
  have n0 : ∀ n : Later ((((w.alloc (.cells #[.int .i64 ax, .int .i64 ay] 58)).alloc (.cells #[.int .i64 bx, .int .i64 b_] 58)).alloc (.cells #[.int .i64 px, .int .i64 py] 58)).alloc (.cells #[.int .i64 qx, .int .i64 qy] 58)), n.W.cell? ⟨w.heap.size, 0, none⟩ = some (.int .i64 ax) := later_cell (by simp [go_sem])
  have n1 : ∀ n : Later ((((w.alloc (.cells #[.int .i64 ax, .int .i64 ay] 58)).alloc (.cells #[.int .i64 bx, .int .i64 b_] 58)).alloc (.cells #[.int .i64 px, .int .i64 py] 58)).alloc (.cells #[.int .i64 qx, .int .i64 qy] 58)), n.W.cell? ⟨w.heap.size, 1, none⟩ = some (.int .i64 ay) := later_cell (by simp [go_sem])
  have n2 : ∀ n : Later ((((w.alloc (.cells #[.int .i64 ax, .int .i64 ay] 58)).alloc (.cells #[.int .i64 bx, .int .i64 b_] 58)).alloc (.cells #[.int .i64 px, .int .i64 py] 58)).alloc (.cells #[.int .i64 qx, .int .i64 qy] 58)), n.W.cell? ⟨w.heap.size + 1, 0, none⟩ = some (.int .i64 bx) := later_cell (by simp [go_sem])
  have n3 : ∀ n : Later ((((w.alloc (.cells #[.int .i64 ax, .int .i64 ay] 58)).alloc (.cells #[.int .i64 bx, .int .i64 b_] 58)).alloc (.cells #[.int .i64 px, .int .i64 py] 58)).alloc (.cells #[.int .i64 qx, .int .i64 qy] 58)), n.W.cell? ⟨w.heap.size + 1, 1, none⟩ = some (.int .i64 b_) := later_cell (by simp [go_sem])
  have n4 : ∀ n : Later ((((w.alloc (.cells #[.int .i64 ax, .int .i64 ay] 58)).alloc (.cells #[.int .i64 bx, .int .i64 b_] 58)).alloc (.cells #[.int .i64 px, .int .i64 py] 58)).alloc (.cells #[.int .i64 qx, .int .i64 qy] 58)), n.W.cell? ⟨w.heap.size + 1 + 1, 0, none⟩ = some (.int .i64 px) := later_cell (by simp [go_sem])
  have n5 : ∀ n : Later ((((w.alloc (.cells #[.int .i64 ax, .int .i64 ay] 58)).alloc (.cells #[.int .i64 bx, .int .i64 b_] 58)).alloc (.cells #[.int .i64 px, .int .i64 py] 58)).alloc (.cells #[.int .i64 qx, .int .i64 qy] 58)), n.W.cell? ⟨w.heap.size + 1 + 1, 1, none⟩ = some (.int .i64 py) := later_cell (by simp [go_sem])
  have n6 : ∀ n : Later ((((w.alloc (.cells #[.int .i64 ax, .int .i64 ay] 58)).alloc (.cells #[.int .i64 bx, .int .i64 b_] 58)).alloc (.cells #[.int .i64 px, .int .i64 py] 58)).alloc (.cells #[.int .i64 qx, .int .i64 qy] 58)), n.W.cell? ⟨w.heap.size + 1 + 1 + 1, 0, none⟩ = some (.int .i64 qx) := later_cell (by simp [go_sem])
  have n7 : ∀ n : Later ((((w.alloc (.cells #[.int .i64 ax, .int .i64 ay] 58)).alloc (.cells #[.int .i64 bx, .int .i64 b_] 58)).alloc (.cells #[.int .i64 px, .int .i64 py] 58)).alloc (.cells #[.int .i64 qx, .int .i64 qy] 58)), n.W.cell? ⟨w.heap.size + 1 + 1 + 1, 1, none⟩ = some (.int .i64 qy) := later_cell (by simp [go_sem])
  go_enter Try.func89, Try.ntmps89
  go_wp2_with fail
  (refine wp_region_later (by kernel_rfl) (by kernel_rfl) ?_; (repeat (go_big_quiet_step ((first | (go_at_call 79; (with_reducible exact later_call (H1.out _))) | (go_at_call 79; (with_reducible exact later_call (H2.out _))))))); refine wpQuiet_nil ?_; intro _ hw'; obtain ⟨nq, hw''⟩ := hw'; subst hw'')
  have B2 := bstep HB.out nq.h HB.out.size
  generalize nq.W = W2 at B2
  clear n0 n1 n2 n3 n4 n5 n6 n7 nq
  by_cases c1 : 0 < p
  · have c2 : ¬ p < 0 := by omega
    go_wp2_with fail
    all_goals (go_ret; refine ⟨?_, B2⟩; first | (simp [c1, c2]; done) | (simp [c1, c2]; omega))
  · by_cases c2 : p < 0
    · go_wp2_with fail
      all_goals (go_ret; refine ⟨?_, B2⟩; first | (simp [c1, c2]; done) | (simp [c1, c2]; omega))
    · go_wp2_with fail
      all_goals (go_ret; refine ⟨?_, B2⟩; first | (simp [c1, c2]; done) | (simp [c1, c2]; omega))
theorem l10Cross_any (ax ay bx b_ px py qx qy : Int) (w : World) (ha : inC ax ay) (hb : inC bx b_) (hp : inC px py) (hq : inC qx qy) :
    Calls Try.prog 70 #[.agg #[.int .i64 ax, .int .i64 ay], .agg #[.int .i64 bx, .int .i64 b_], .agg #[.int .i64 px, .int .i64 py], .agg #[.int .i64 qx, .int .i64 qy]] w fun e w' => e = .returned (.bool (crossB ax ay bx b_ px py qx qy)) ∧ Below w.heap.size w w' := by
  unfold crossB
  have h1 := fun W => l10On_any ax ay bx b_ px py W ha hb hp
  have h2 := fun W => l10On_any ax ay bx b_ qx qy W ha hb hq
  have h3 := fun W => l10On_any px py qx qy ax ay W hp hq ha
  have h4 := fun W => l10On_any px py qx qy bx b_ W hp hq hb
  have h5 := fun W => l10Split_any ax ay bx b_ px py qx qy W ha hb hp hq
  have h6 := fun W => l10Split_any px py qx qy ax ay bx b_ W hp hq ha hb
  have B4 := below_corn4 ax ay bx b_ px py qx qy w
  have HB := hide B4; clear B4
  generalize onB ax ay bx b_ px py = o1 at h1 ⊢
  generalize onB ax ay bx b_ qx qy = o2 at h2 ⊢
  generalize onB px py qx qy ax ay = o3 at h3 ⊢
  generalize onB px py qx qy bx b_ = o4 at h4 ⊢
  generalize splitB ax ay bx b_ px py qx qy = s1 at h5 ⊢
  generalize splitB px py qx qy ax ay bx b_ = s2 at h6 ⊢
  have H1 := hide h1; clear h1
  have H2 := hide h2; clear h2
  have H3 := hide h3; clear h3
  have H4 := hide h4; clear h4
  have H5 := hide h5; clear h5
  have H6 := hide h6; clear h6
  clear ha hb hp hq
  cases o1
  case true =>
    go_enter Try.func70, Try.ntmps70
    go_wp2_with fail
    refine (H1.out _).mono ?_; rintro e w1 ⟨rfl, hb1⟩
    have cc1 := (bcell hb1).1
    go_wp2_with fail
    go_ret
    exact ⟨rfl, bstep HB.out hb1 HB.out.size⟩
  cases o2
  case true =>
    go_enter Try.func70, Try.ntmps70
    go_wp2_with fail
    refine (H1.out _).mono ?_; rintro e w1 ⟨rfl, hb1⟩
    have cc1 := (bcell hb1).1
    go_wp2_with fail
    refine (H2.out _).mono ?_; rintro e w2 ⟨rfl, hb2⟩
    replace hb2 := bstep hb1 hb2 hb1.size
    have cc2 := (bcell hb2).1
    go_wp2_with fail
    go_ret
    exact ⟨rfl, bstep HB.out hb2 HB.out.size⟩
  cases o3
  case true =>
    go_enter Try.func70, Try.ntmps70
    go_wp2_with fail
    refine (H1.out _).mono ?_; rintro e w1 ⟨rfl, hb1⟩
    have cc1 := (bcell hb1).1
    go_wp2_with fail
    refine (H2.out _).mono ?_; rintro e w2 ⟨rfl, hb2⟩
    replace hb2 := bstep hb1 hb2 hb1.size
    have cc2 := (bcell hb2).1
    go_wp2_with fail
    refine (H3.out _).mono ?_; rintro e w3 ⟨rfl, hb3⟩
    replace hb3 := bstep hb2 hb3 hb2.size
    have cc3 := (bcell hb3).1
    go_wp2_with fail
    go_ret
    exact ⟨rfl, bstep HB.out hb3 HB.out.size⟩
  cases o4
  case true =>
    go_enter Try.func70, Try.ntmps70
    go_wp2_with fail
    refine (H1.out _).mono ?_; rintro e w1 ⟨rfl, hb1⟩
    have cc1 := (bcell hb1).1
    go_wp2_with fail
    refine (H2.out _).mono ?_; rintro e w2 ⟨rfl, hb2⟩
    replace hb2 := bstep hb1 hb2 hb1.size
    have cc2 := (bcell hb2).1
    go_wp2_with fail
    refine (H3.out _).mono ?_; rintro e w3 ⟨rfl, hb3⟩
    replace hb3 := bstep hb2 hb3 hb2.size
    have cc3 := (bcell hb3).1
    go_wp2_with fail
    refine (H4.out _).mono ?_; rintro e w4 ⟨rfl, hb4⟩
    replace hb4 := bstep hb3 hb4 hb3.size
    have cc4 := (bcell hb4).1
    go_wp2_with fail
    go_ret
    exact ⟨rfl, bstep HB.out hb4 HB.out.size⟩
  cases s1
  case false =>
    go_enter Try.func70, Try.ntmps70
    go_wp2_with fail
    refine (H1.out _).mono ?_; rintro e w1 ⟨rfl, hb1⟩
    have cc1 := (bcell hb1).1
    go_wp2_with fail
    refine (H2.out _).mono ?_; rintro e w2 ⟨rfl, hb2⟩
    replace hb2 := bstep hb1 hb2 hb1.size
    have cc2 := (bcell hb2).1
    go_wp2_with fail
    refine (H3.out _).mono ?_; rintro e w3 ⟨rfl, hb3⟩
    replace hb3 := bstep hb2 hb3 hb2.size
    have cc3 := (bcell hb3).1
    go_wp2_with fail
    refine (H4.out _).mono ?_; rintro e w4 ⟨rfl, hb4⟩
    replace hb4 := bstep hb3 hb4 hb3.size
    have cc4 := (bcell hb4).1
    go_wp2_with fail
    refine (H5.out _).mono ?_; rintro e w5 ⟨rfl, hb5⟩
    replace hb5 := bstep hb4 hb5 hb4.size
    have cc5 := (bcell hb5).1
    go_wp2_with fail
    go_ret
    exact ⟨rfl, bstep HB.out hb5 HB.out.size⟩
  go_enter Try.func70, Try.ntmps70
  go_wp2_with fail
  refine (H1.out _).mono ?_; rintro e w1 ⟨rfl, hb1⟩
  have cc1 := (bcell hb1).1
  go_wp2_with fail
  refine (H2.out _).mono ?_; rintro e w2 ⟨rfl, hb2⟩
  replace hb2 := bstep hb1 hb2 hb1.size
  have cc2 := (bcell hb2).1
  go_wp2_with fail
  refine (H3.out _).mono ?_; rintro e w3 ⟨rfl, hb3⟩
  replace hb3 := bstep hb2 hb3 hb2.size
  have cc3 := (bcell hb3).1
  go_wp2_with fail
  refine (H4.out _).mono ?_; rintro e w4 ⟨rfl, hb4⟩
  replace hb4 := bstep hb3 hb4 hb3.size
  have cc4 := (bcell hb4).1
  go_wp2_with fail
  refine (H5.out _).mono ?_; rintro e w5 ⟨rfl, hb5⟩
  replace hb5 := bstep hb4 hb5 hb4.size
  have cc5 := (bcell hb5).1
  go_wp2_with fail
  refine (H6.out _).mono ?_; rintro e w6 ⟨rfl, hb6⟩
  replace hb6 := bstep hb5 hb6 hb5.size
  have cc6 := (bcell hb6).1
  go_wp2_with fail
  go_ret
  exact ⟨rfl, bstep HB.out hb6 HB.out.size⟩
end Go.Proofs.Ytefnmfkndepfgaa
