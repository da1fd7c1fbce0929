/- The walk of FnExactClaimOfContours: it returns true for all ints; old memory stays. -/
import Derived.Test.YtijjecckfcbaoaaA2
namespace Go.Proofs.Ytijjecckfcbaoaa
open Go.RowKit
theorem law_coc (lo hi c s : Int) (w : World) (_ : (Lit.int .i64 lo).wf = true) (_ : (Lit.int .i64 hi).wf = true) (_ : (Lit.int .i64 c).wf = true) (_ : (Lit.int .i64 s).wf = true) :
    Calls Try.prog 3 #[.int .i64 lo, .int .i64 hi, .int .i64 c, .int .i64 s] w fun e w' => e = .returned (.bool true) ∧ Below w.heap.size w w' := by
  rcases hr : coc lo hi c s with _ | ⟨p, q, r, t⟩
  all_goals
    have h1 := fun W => spec_coc lo hi c s W
    have h2 := fun W => impl_coc lo hi c s W
    rw [hr] at h1 h2
    simp only [cocV, zeroClaim, someClaim] at h1 h2
    have H1 := hide h1; have H2 := hide h2
    clear h1 h2 hr
    go_enter Try.func3, Try.ntmps3
    go_wp2_with (first | (go_at_call 15; refine (H1.out _).mono ?_; rintro e w1 ⟨rfl, hb1⟩; have hz1 : w.heap.size ≤ w1.heap.size := hb1.size) | (go_at_call 16; refine (H2.out _).mono ?_; rintro e w2 ⟨rfl, hb2⟩; obtain ⟨hc2, hf2⟩ := bcell hb2; have hz2 : w1.heap.size < w2.heap.size := by have := hb2.size; simp at this; omega) | (go_at_call 17; refine (eqClaim_same _ _ _ _ _).mono ?_; rintro e w3 ⟨rfl, rfl⟩))
    go_ret
    refine ⟨rfl, ?_⟩
    clear hc2 hf2
    repeat' (first | exact Below.refl _ _ | refine Below.drew ?_ | refine Below.alloc ?_ ?_ _ | refine Below.setCell ?_ ?_ _ | refine bstep ?_ hb2 ?_ | refine bstep ?_ hb1 ?_)
    all_goals (first | omega | (simp <;> omega))

end Go.Proofs.Ytijjecckfcbaoaa
