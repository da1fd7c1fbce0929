/- The walk of FnExactAreClaims: it returns true at every n and every list of claims; old memory stays. Conditions: those of the row's own reading. -/
import Derived.Test.YtijjecckfcbaoaaL8A
namespace Go.Proofs.Ytijjecckfcbaoaa
open Go.RowKit
theorem law_AreClaims (n : Int) (A : Option Addr) (cap : Nat) (xs : List SClaim) (w : World) (_ : (Lit.int .i64 n).wf = true) (hr : Row 4 SClaim.enc w w.heap.size A xs) (hl : xs.length ≤ cap) (hc : cap ≤ maxLen) (_ : ∀ z ∈ xs, z.wf) :
    Calls Try.prog 5 #[.int .i64 n, .slice A xs.length cap] w fun e w' => e = .returned (.bool true) ∧ Below w.heap.size w w' := by
  have hm : xs.length ≤ 9223372036854775807 := by simp only [maxLen] at hc; omega
  have HR := hide hr; clear hr
  by_cases hbig : (1048576 : Int) < xs.length
  · have hs : szR 1048576 (xs.length : Int) = -1 := if_pos hbig
    have HS := hide hs; clear hs
    go_enter Try.func5, Try.ntmps5
    go_wp2_with fail
    refine (szClaimS_any _ _ _ _ _ (by omega) (by omega) (by omega)).mono ?_; rintro e w' ⟨rfl, rfl⟩
    rw [HS.out]
    go_wp2_with fail
    go_ret
    exact ⟨rfl, Below.refl _ _⟩
  · have hs : szR 1048576 (xs.length : Int) = 1048576 - xs.length := if_neg hbig
    have hx : xs.length ≤ 1048576 := by omega
    have HS := hide hs; clear hs
    go_enter Try.func5, Try.ntmps5
    go_wp2_with fail
    refine (szClaimS_any _ _ _ _ _ (by omega) (by omega) (by omega)).mono ?_; rintro e w' ⟨rfl, rfl⟩
    rw [HS.out]
    go_wp2_with fail
    refine (toClaimS_any A cap xs _ HR.out hx).mono ?_; rintro e w1 ⟨g1, rfl, ho1, hr1, hb1⟩
    have B1 := hb1
    clear ho1
    go_wp2_with fail
    refine (specAreClaims_any n _ _ xs _ hr1 hm).mono ?_; rintro e w2 ⟨rfl, hb2⟩
    have B2 := bstep B1 hb2 B1.size
    clear hr1 hb1 hb2
    go_wp2_with fail
    refine (toClaimS_any A cap xs _ (HR.out.below B2 (Nat.le_refl _) B2.size) hx).mono ?_; rintro e w3 ⟨g3, rfl, ho3, hr3, hb3⟩
    have B3 := bstep B2 hb3 B2.size
    have HR3 := hide hr3; clear hr3 ho3 hb3
    go_wp2_with fail
    refine (implAreClaims_any n _ _ xs _ HR3.out hm).mono ?_; rintro e w4 ⟨rfl, hb4⟩
    have B4 := bstep B3 hb4 B3.size
    have HR4 := hide (HR3.out.below hb4 (Nat.le_refl _) hb4.size); clear hb4
    go_wp2_with fail
    refine (toClaimS_any A cap xs _ (HR.out.below B4 (Nat.le_refl _) B4.size) hx).mono ?_; rintro e w5 ⟨g5, rfl, ho5, hr5, hb5⟩
    have B5 := bstep B4 hb5 B4.size
    have HR5 := hide hr5
    have HR45 := hide (HR4.out.below hb5 (Nat.le_refl _) hb5.size); clear hb5 hr5 ho5
    go_wp2_with fail
    refine (eqClaimS_same _ _ _ _ xs _ HR45.out HR5.out hm).mono ?_; rintro e w6 ⟨rfl, hb6⟩
    have B6 := bstep B5 hb6 B5.size
    clear hb6
    go_wp2_with fail
    go_ret
    exact ⟨rfl, B6⟩
end Go.Proofs.Ytijjecckfcbaoaa
