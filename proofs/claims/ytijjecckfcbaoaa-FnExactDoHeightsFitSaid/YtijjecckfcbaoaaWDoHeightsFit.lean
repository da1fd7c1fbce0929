/- The walk of FnExactDoHeightsFit: it returns true whatever the arguments; old memory stays. Conditions: those of the row's own reading. -/
import Derived.Test.YtijjecckfcbaoaaL8F
namespace Go.Proofs.Ytijjecckfcbaoaa
open Go.RowKit
set_option linter.unusedVariables false
set_option maxHeartbeats 1000000 in
theorem law_DoHeightsFit (n : Int) (A_xs : Option Addr) (cap_xs : Nat) (xs : List SClaim) (A_hs : Option Addr) (cap_hs : Nat) (hs : List Int) (w : World) (wf_n : (Lit.int .i64 n).wf = true) (hr_xs : Row 4 SClaim.enc w w.heap.size A_xs xs) (hl_xs : xs.length ≤ cap_xs) (hc_xs : cap_xs ≤ maxLen) (wf_xs : ∀ z ∈ xs, z.wf) (hr_hs : Row 1 encI w w.heap.size A_hs hs) (hl_hs : hs.length ≤ cap_hs) (hc_hs : cap_hs ≤ maxLen) (wf_hs : ∀ z ∈ hs, (Lit.int .i64 z).wf = true) :
    Calls Try.prog 7 #[.int .i64 n, .slice A_xs xs.length cap_xs, .slice A_hs hs.length cap_hs] w fun e w' => e = .returned (.bool true) ∧ Below w.heap.size w w' := by
  have HI_xs := hide (show Is 4 SClaim.enc w (.slice A_xs xs.length cap_xs) xs from ⟨_, _, rfl, hr_xs, hl_xs, hc_xs⟩)
  have hm_xs := HI_xs.out.len
  clear hr_xs
  have HI_hs := hide (show Is 1 encI w (.slice A_hs hs.length cap_hs) hs from ⟨_, _, rfl, hr_hs, hl_hs, hc_hs⟩)
  have hm_hs := HI_hs.out.len
  clear hr_hs
  obtain ⟨lo_n, hi_n⟩ := wf64 wf_n
  by_cases hb_hs : (1048576 : Int) < hs.length
  · go_enter Try.func7, Try.ntmps7
    go_wp2_with fail
    go_ret
    exact ⟨rfl, Below.refl _ _⟩
  have hx_hs : hs.length ≤ 1048576 := by omega
  by_cases hb_xs : (1048576 : Int) < xs.length
  · have hs : szR (1048576) (xs.length : Int) = -1 := if_pos hb_xs
    have HS := hide hs; clear hs
    go_enter Try.func7, Try.ntmps7
    go_wp2_with fail
    refine (szClaimS_any _ _ _ _ _ (by omega) (by omega) (by omega)).mono ?_; rintro e w' ⟨rfl, rfl⟩
    rw [HS.out]
    go_wp2_with fail
    go_ret
    exact ⟨rfl, Below.refl _ _⟩
  have hx_xs : xs.length ≤ 1048576 := by omega
  have HS_xs := hide (show szR (1048576) (xs.length : Int) = 1048576 - xs.length from if_neg hb_xs)
  have h1 := fun v_xs v_hs W (i_xs : Is 4 SClaim.enc W v_xs xs) (i_hs : Is 1 encI W v_hs hs) => specDoHeightsFit_any n v_xs xs v_hs hs W i_xs i_hs
  have h2 := fun v_xs v_hs W (i_xs : Is 4 SClaim.enc W v_xs xs) (i_hs : Is 1 encI W v_hs hs) => implDoHeightsFit_any n v_xs xs v_hs hs W i_xs i_hs
  generalize fitV n xs hs = r at h1 h2
  have H1 := hide h1; have H2 := hide h2; clear h1 h2
  have t1 : (r.1 != r.1) = false := by simp
  have t2 : (r.2 != r.2) = false := by simp
  go_enter Try.func7, Try.ntmps7
  go_wp2_with fail
  refine (szClaimS_any _ _ _ _ _ (by omega) (by omega) (by omega)).mono ?_; rintro e w' ⟨rfl, rfl⟩
  rw [HS_xs.out]
  go_wp2_with fail
  have B0 := Below.refl w.heap.size w
  refine (toClaimS_is _ xs _ (HI_xs.out.below B0 (Nat.le_refl _)) hx_xs).mono ?_; rintro e w1 ⟨v1, rfl, ho1, hb1⟩
  have B1 := bstep B0 hb1 B0.size; have s1 : w.heap.size ≤ w1.heap.size := hb1.size
  have HO_t1 := hide ho1; have ub_t1 : ∀ g, v1.ownBlock = some g → g < w1.heap.size := fun g hg => (ho1.lt g hg).2; have UB_t1 := hide ub_t1; clear ub_t1 ho1
  clear hb1
  go_wp2_with fail
  refine (toIntS_is _ hs _ (HI_hs.out.below B1 (Nat.le_refl _)) hx_hs).mono ?_; rintro e w2 ⟨v2, rfl, ho2, hb2⟩
  have B2 := bstep B1 hb2 B1.size; have s2 : w1.heap.size ≤ w2.heap.size := hb2.size
  replace HO_t1 := hide (HO_t1.out.below hb2)
  have HO_t2 := hide ho2; have ub_t2 : ∀ g, v2.ownBlock = some g → g < w2.heap.size := fun g hg => (ho2.lt g hg).2; have UB_t2 := hide ub_t2; clear ub_t2 ho2
  clear hb2
  go_wp2_with fail
  refine (H1.out _ _ _ HO_t1.out.is HO_t2.out.is).mono ?_; rintro e w3 ⟨rfl, hb3⟩
  have B3 := bstep B2 hb3 B2.size; have s3 : w2.heap.size ≤ w3.heap.size := hb3.size
  replace HO_t1 := hide (HO_t1.out.below hb3)
  replace HO_t2 := hide (HO_t2.out.below hb3)
  clear hb3
  go_wp2_with fail
  clear HO_t1 UB_t1
  clear HO_t2 UB_t2
  refine (toClaimS_is _ xs _ (HI_xs.out.below B3 (Nat.le_refl _)) hx_xs).mono ?_; rintro e w4 ⟨v4, rfl, ho4, hb4⟩
  have B4 := bstep B3 hb4 B3.size; have s4 : w3.heap.size ≤ w4.heap.size := hb4.size
  have HO_t4 := hide ho4; have ub_t4 : ∀ g, v4.ownBlock = some g → g < w4.heap.size := fun g hg => (ho4.lt g hg).2; have UB_t4 := hide ub_t4; clear ub_t4 ho4
  clear hb4
  go_wp2_with fail
  refine (toIntS_is _ hs _ (HI_hs.out.below B4 (Nat.le_refl _)) hx_hs).mono ?_; rintro e w5 ⟨v5, rfl, ho5, hb5⟩
  have B5 := bstep B4 hb5 B4.size; have s5 : w4.heap.size ≤ w5.heap.size := hb5.size
  replace HO_t4 := hide (HO_t4.out.below hb5)
  have HO_t5 := hide ho5; have ub_t5 : ∀ g, v5.ownBlock = some g → g < w5.heap.size := fun g hg => (ho5.lt g hg).2; have UB_t5 := hide ub_t5; clear ub_t5 ho5
  clear hb5
  go_wp2_with fail
  refine (H2.out _ _ _ HO_t4.out.is HO_t5.out.is).mono ?_; rintro e w6 ⟨rfl, hb6⟩
  have B6 := bstep B5 hb6 B5.size; have s6 : w5.heap.size ≤ w6.heap.size := hb6.size
  replace HO_t4 := hide (HO_t4.out.below hb6)
  replace HO_t5 := hide (HO_t5.out.below hb6)
  clear hb6
  go_wp2_with fail
  refine (toClaimS_is _ xs _ (HI_xs.out.below B6 (Nat.le_refl _)) hx_xs).mono ?_; rintro e w7 ⟨v7, rfl, ho7, hb7⟩
  have B7 := bstep B6 hb7 B6.size; have s7 : w6.heap.size ≤ w7.heap.size := hb7.size
  replace HO_t4 := hide (HO_t4.out.below hb7)
  replace HO_t5 := hide (HO_t5.out.below hb7)
  have HO_t7 := hide ho7; have ub_t7 : ∀ g, v7.ownBlock = some g → g < w7.heap.size := fun g hg => (ho7.lt g hg).2; have UB_t7 := hide ub_t7; clear ub_t7 ho7
  clear hb7
  go_wp2_with fail
  refine (eqClaimS_is _ _ _ _ HO_t4.out.is HO_t7.out.is).mono ?_; rintro e w8 ⟨rfl, hb8⟩
  have B8 := bstep B7 hb8 B7.size; have s8 : w7.heap.size ≤ w8.heap.size := hb8.size
  replace HO_t4 := hide (HO_t4.out.below hb8)
  replace HO_t5 := hide (HO_t5.out.below hb8)
  replace HO_t7 := hide (HO_t7.out.below hb8)
  clear hb8
  go_wp2_with fail
  clear HO_t7 UB_t7
  refine (toIntS_is _ hs _ (HI_hs.out.below B8 (Nat.le_refl _)) hx_hs).mono ?_; rintro e w9 ⟨v9, rfl, ho9, hb9⟩
  have B9 := bstep B8 hb9 B8.size; have s9 : w8.heap.size ≤ w9.heap.size := hb9.size
  replace HO_t4 := hide (HO_t4.out.below hb9)
  replace HO_t5 := hide (HO_t5.out.below hb9)
  have HO_t9 := hide ho9; have ub_t9 : ∀ g, v9.ownBlock = some g → g < w9.heap.size := fun g hg => (ho9.lt g hg).2; have UB_t9 := hide ub_t9; clear ub_t9 ho9
  clear hb9
  go_wp2_with fail
  refine (eqIntS_is _ _ _ _ HO_t5.out.is HO_t9.out.is).mono ?_; rintro e w10 ⟨rfl, hb10⟩
  have B10 := bstep B9 hb10 B9.size; have s10 : w9.heap.size ≤ w10.heap.size := hb10.size
  replace HO_t4 := hide (HO_t4.out.below hb10)
  replace HO_t5 := hide (HO_t5.out.below hb10)
  replace HO_t9 := hide (HO_t9.out.below hb10)
  clear hb10
  go_wp2_with fail
  clear HO_t9 UB_t9
  go_ret
  exact ⟨rfl, B10⟩
end Go.Proofs.Ytijjecckfcbaoaa
