/- The walk of FnExactAreSoundClaims: it returns true whatever the arguments; old memory stays. Conditions: those of the row's own reading. -/
import Derived.Test.YtijjecckfcbaoaaL8K
namespace Go.Proofs.Ytijjecckfcbaoaa
open Go.RowKit
set_option linter.unusedVariables false
set_option maxHeartbeats 1000000 in
theorem law_AreSoundClaims (n : Int) (A_xs : Option Addr) (cap_xs : Nat) (xs : List SClaim) (w : World) (wf_n : (Lit.int .i64 n).wf = true) (hr_xs : Row 4 SClaim.enc w w.heap.size A_xs xs) (hl_xs : xs.length ≤ cap_xs) (hc_xs : cap_xs ≤ maxLen) (wf_xs : ∀ z ∈ xs, z.wf) :
    Calls Try.prog 9 #[.int .i64 n, .slice A_xs xs.length cap_xs] w fun e w' => e = .returned (.bool true) ∧ Below w.heap.size w w' := by
  have HI_xs := hide (show Is 4 SClaim.enc w (.slice A_xs xs.length cap_xs) xs from ⟨_, _, rfl, hr_xs, hl_xs, hc_xs⟩)
  have hm_xs := HI_xs.out.len
  clear hr_xs
  obtain ⟨lo_n, hi_n⟩ := wf64 wf_n
  by_cases hb_xs : (1048576 : Int) < xs.length
  · have hs : szR (1048576) (xs.length : Int) = -1 := if_pos hb_xs
    have HS := hide hs; clear hs
    go_enter Try.func9, Try.ntmps9
    go_wp2_with fail
    refine (szClaimS_any _ _ _ _ _ (by omega) (by omega) (by omega)).mono ?_; rintro e w' ⟨rfl, rfl⟩
    rw [HS.out]
    go_wp2_with fail
    go_ret
    exact ⟨rfl, Below.refl _ _⟩
  have hx_xs : xs.length ≤ 1048576 := by omega
  have HS_xs := hide (show szR (1048576) (xs.length : Int) = 1048576 - xs.length from if_neg hb_xs)
  have h1 := fun v_xs W (i_xs : Is 4 SClaim.enc W v_xs xs) => specAreSoundClaims_any n v_xs xs W i_xs
  have h2 := fun v_xs W (i_xs : Is 4 SClaim.enc W v_xs xs) => implAreSoundClaims_any n v_xs xs W i_xs
  generalize aresV n xs = r at h1 h2
  have H1 := hide h1; have H2 := hide h2; clear h1 h2
  have t1 : (r.1 != r.1) = false := by simp
  have t2 : (r.2 != r.2) = false := by simp
  go_enter Try.func9, Try.ntmps9
  go_wp2_with fail
  refine (szClaimS_any _ _ _ _ _ (by omega) (by omega) (by omega)).mono ?_; rintro e w' ⟨rfl, rfl⟩
  rw [HS_xs.out]
  go_wp2_with fail
  have B0 := Below.refl w.heap.size w
  refine (toClaimS_is _ xs _ (HI_xs.out.below B0 (Nat.le_refl _)) hx_xs).mono ?_; rintro e w1 ⟨v1, rfl, ho1, hb1⟩
  have B1 := bstep B0 hb1 B0.size; have s1 : w.heap.size ≤ w1.heap.size := hb1.size
  have HO_t1 := hide ho1; have ub_t1 : ∀ g, v1.ownBlock = some g → g < w1.heap.size := fun g hg => (ho1.lt g hg).2; have UB_t1 := hide ub_t1; clear ub_t1 ho1
  clear hb1
  go_wp2_with fail
  refine (H1.out _ _ HO_t1.out.is).mono ?_; rintro e w2 ⟨rfl, hb2⟩
  have B2 := bstep B1 hb2 B1.size; have s2 : w1.heap.size ≤ w2.heap.size := hb2.size
  replace HO_t1 := hide (HO_t1.out.below hb2)
  clear hb2
  go_wp2_with fail
  clear HO_t1 UB_t1
  refine (toClaimS_is _ xs _ (HI_xs.out.below B2 (Nat.le_refl _)) hx_xs).mono ?_; rintro e w3 ⟨v3, rfl, ho3, hb3⟩
  have B3 := bstep B2 hb3 B2.size; have s3 : w2.heap.size ≤ w3.heap.size := hb3.size
  have HO_t3 := hide ho3; have ub_t3 : ∀ g, v3.ownBlock = some g → g < w3.heap.size := fun g hg => (ho3.lt g hg).2; have UB_t3 := hide ub_t3; clear ub_t3 ho3
  clear hb3
  go_wp2_with fail
  refine (H2.out _ _ HO_t3.out.is).mono ?_; rintro e w4 ⟨rfl, hb4⟩
  have B4 := bstep B3 hb4 B3.size; have s4 : w3.heap.size ≤ w4.heap.size := hb4.size
  replace HO_t3 := hide (HO_t3.out.below hb4)
  clear hb4
  go_wp2_with fail
  refine (toClaimS_is _ xs _ (HI_xs.out.below B4 (Nat.le_refl _)) hx_xs).mono ?_; rintro e w5 ⟨v5, rfl, ho5, hb5⟩
  have B5 := bstep B4 hb5 B4.size; have s5 : w4.heap.size ≤ w5.heap.size := hb5.size
  replace HO_t3 := hide (HO_t3.out.below hb5)
  have HO_t5 := hide ho5; have ub_t5 : ∀ g, v5.ownBlock = some g → g < w5.heap.size := fun g hg => (ho5.lt g hg).2; have UB_t5 := hide ub_t5; clear ub_t5 ho5
  clear hb5
  go_wp2_with fail
  refine (eqClaimS_is _ _ _ _ HO_t3.out.is HO_t5.out.is).mono ?_; rintro e w6 ⟨rfl, hb6⟩
  have B6 := bstep B5 hb6 B5.size; have s6 : w5.heap.size ≤ w6.heap.size := hb6.size
  replace HO_t3 := hide (HO_t3.out.below hb6)
  replace HO_t5 := hide (HO_t5.out.below hb6)
  clear hb6
  go_wp2_with fail
  clear HO_t5 UB_t5
  go_ret
  exact ⟨rfl, B6⟩
end Go.Proofs.Ytijjecckfcbaoaa
