/- The walk of FnExactLakesOf: it returns true whatever the arguments; old memory stays. Conditions: those of the row's own reading. -/
import Derived.Test.YtomcdkkjknphpaaL9Y
namespace Go.Proofs.Ytomcdkkjknphpaa
open Go.RowKit
set_option linter.unusedVariables false
set_option maxHeartbeats 1000000 in
theorem law_LakesOf (A : Option Addr) (cap : Nat) (xs : List SRow)  (w : World) (hr : Row 1 SRow.enc w w.heap.size A xs) (hl : xs.length ≤ cap) (hc : cap ≤ maxLen) (wf : ∀ z ∈ xs, z.ok w w.heap.size)  :
    Calls Try.prog 11 #[.slice A xs.length cap] w fun e w' => e = .returned (.bool true) ∧ Below w.heap.size w w' := by
  have HI := hide (show IsG w (.slice A xs.length cap) (xs.map (·.xs)) from ⟨xs, rfl, ⟨_, _, rfl, hr, hl, hc⟩, wf⟩)
  clear hr wf
  generalize xs.map (·.xs) = xss at HI
  generalize Value.slice A xs.length cap = v at HI ⊢
  by_cases hb : (1048576 : Int) < szG xss
  · have hs : szR 1048576 (szG xss : Int) = -1 := if_pos hb
    have HS := hide hs; clear hs
    go_enter Try.func11, Try.ntmps11
    go_wp2_with fail
    refine (szIntSS_is _ xss _ _ HI.out (by omega) (by omega)).mono ?_; rintro e w' ⟨rfl, rfl⟩
    rw [HS.out]
    go_wp2_with fail
    go_ret
    exact ⟨rfl, Below.refl _ _⟩
  have hx : szG xss ≤ 1048576 := by omega
  have HS := hide (show szR 1048576 (szG xss : Int) = 1048576 - szG xss from if_neg hb)
  have hnn : ¬ (1048576 - (szG xss : Int) < 0) := by omega
  have h1 := fun u W (i : IsG W u xss) => specLakesOf_any u xss  W i
  have h2 := fun u W (i : IsG W u xss) => implLakesOf_any u xss  W i
  generalize lakesV xss = o at h1 h2
  have H1 := hide h1; have H2 := hide h2; clear h1 h2
  have t1 : (o.2 != o.2) = false := by simp
  have t2 : (o.1.1 != o.1.1) = false := by simp
  have t3 : (o.1.2 != o.1.2) = false := by simp
  go_enter Try.func11, Try.ntmps11
  go_wp2_with fail
  refine (szIntSS_is _ xss _ _ HI.out (by omega) (by omega)).mono ?_; rintro e w' ⟨rfl, rfl⟩
  rw [HS.out]
  go_wp2_with fail
  refine (toIntSS_is _ xss _ HI.out hx).mono ?_; rintro e w1 ⟨v1, rfl, hi1, B1⟩
  go_wp2_with fail
  refine (H1.out _ _ hi1).mono ?_; rintro e w2 ⟨rfl, hb2⟩
  have B2 := bstep B1 hb2 B1.size
  clear hi1 hb2
  go_wp2_with fail
  refine (toIntSS_is _ xss _ (HI.out.below B2 (Nat.le_refl _)) hx).mono ?_; rintro e w3 ⟨v3, rfl, hi3, hb3⟩
  have B3 := bstep B2 hb3 B2.size
  have HI3 := hide hi3; clear hi3 hb3
  go_wp2_with fail
  refine (H2.out _ _ HI3.out).mono ?_; rintro e w4 ⟨rfl, hb4⟩
  have B4 := bstep B3 hb4 B3.size
  have HI4 := hide (HI3.out.below hb4 (Nat.le_refl _)); clear hb4
  go_wp2_with fail
  refine (toIntSS_is _ xss _ (HI.out.below B4 (Nat.le_refl _)) hx).mono ?_; rintro e w5 ⟨v5, rfl, hi5, hb5⟩
  have B5 := bstep B4 hb5 B4.size
  have HI5 := hide hi5; have HI6 := hide (HI4.out.below hb5 (Nat.le_refl _)); clear hi5 hb5
  go_wp2_with fail
  refine (eqIntSS_is _ _ xss _ HI6.out HI5.out).mono ?_; rintro e w6 ⟨rfl, hb6⟩
  have B6 := bstep B5 hb6 B5.size
  go_wp2_with fail
  go_ret
  exact ⟨rfl, B6⟩
end Go.Proofs.Ytomcdkkjknphpaa
