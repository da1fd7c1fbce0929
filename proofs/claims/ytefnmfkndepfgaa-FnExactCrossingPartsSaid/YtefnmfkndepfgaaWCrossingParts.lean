/- The walk of FnExactCrossingParts: it returns true whatever the arguments; old memory stays. Conditions: those of the row's own reading. -/
import Derived.Test.YtefnmfkndepfgaaL10V
namespace Go.Proofs.Ytefnmfkndepfgaa
open Go.RowKit
set_option linter.unusedVariables false
set_option maxHeartbeats 1000000 in
theorem law_CrossingParts (A_xs : Option Addr) (cap_xs : Nat) (xs : List SCorner) (A_ys : Option Addr) (cap_ys : Nat) (ys : List SCorner) (w : World) (hr_xs : Row 2 SCorner.enc w w.heap.size A_xs xs) (hl_xs : xs.length ≤ cap_xs) (hc_xs : cap_xs ≤ maxLen) (wf_xs : ∀ z ∈ xs, z.wf) (hr_ys : Row 2 SCorner.enc w w.heap.size A_ys ys) (hl_ys : ys.length ≤ cap_ys) (hc_ys : cap_ys ≤ maxLen) (wf_ys : ∀ z ∈ ys, z.wf) :
    Calls Try.prog 11 #[.slice A_xs xs.length cap_xs, .slice A_ys ys.length cap_ys] w fun e w' => e = .returned (.bool true) ∧ Below w.heap.size w w' := by
  have HI_xs := hide (show Is 2 SCorner.enc w (.slice A_xs xs.length cap_xs) xs from ⟨_, _, rfl, hr_xs, hl_xs, hc_xs⟩)
  have hm_xs := HI_xs.out.len
  clear hr_xs
  have HI_ys := hide (show Is 2 SCorner.enc w (.slice A_ys ys.length cap_ys) ys from ⟨_, _, rfl, hr_ys, hl_ys, hc_ys⟩)
  have hm_ys := HI_ys.out.len
  clear hr_ys
  by_cases hb_xs : (1048576 : Int) < xs.length
  · have hs : szR (1048576) (xs.length : Int) = -1 := if_pos hb_xs
    have HS := hide hs; clear hs
    go_enter Try.func11, Try.ntmps11
    go_wp2_with fail
    refine (szCornerS_any _ _ _ _ _ (by omega) (by omega) (by omega)).mono ?_; rintro e w' ⟨rfl, rfl⟩
    rw [HS.out]
    go_wp2_with fail
    go_ret
    exact ⟨rfl, Below.refl _ _⟩
  have hx_xs : xs.length ≤ 1048576 := by omega
  by_cases hb_ys : (1048576 - xs.length : Int) < ys.length
  · have hs : szR (1048576 - xs.length) (ys.length : Int) = -1 := if_pos hb_ys
    have HS := hide hs; clear hs
    have HS_xs := hide (show szR (1048576) (xs.length : Int) = 1048576 - xs.length from if_neg hb_xs)
    go_enter Try.func11, Try.ntmps11
    go_wp2_with fail
    refine (szCornerS_any _ _ _ _ _ (by omega) (by omega) (by omega)).mono ?_; rintro e w' ⟨rfl, rfl⟩
    rw [HS_xs.out]
    go_wp2_with fail
    refine (szCornerS_any _ _ _ _ _ (by omega) (by omega) (by omega)).mono ?_; rintro e w' ⟨rfl, rfl⟩
    rw [HS.out]
    go_wp2_with fail
    go_ret
    exact ⟨rfl, Below.refl _ _⟩
  have hx_ys : ys.length ≤ 1048576 := by omega
  have HS_xs := hide (show szR (1048576) (xs.length : Int) = 1048576 - xs.length from if_neg hb_xs)
  have HS_ys := hide (show szR (1048576 - xs.length) (ys.length : Int) = 1048576 - xs.length - ys.length from if_neg hb_ys)
  have hrl : (crossV xs ys).1.length ≤ 1048576 := crossV_len xs ys
  have t1 : ((crossV xs ys).2 != (crossV xs ys).2) = false := by simp
  go_enter Try.func11, Try.ntmps11
  go_wp2_with fail
  refine (szCornerS_any _ _ _ _ _ (by omega) (by omega) (by omega)).mono ?_; rintro e w' ⟨rfl, rfl⟩
  rw [HS_xs.out]
  go_wp2_with fail
  refine (szCornerS_any _ _ _ _ _ (by omega) (by omega) (by omega)).mono ?_; rintro e w' ⟨rfl, rfl⟩
  rw [HS_ys.out]
  go_wp2_with fail
  have B0 := Below.refl w.heap.size w
  refine (toCornerS_is _ xs _ (HI_xs.out.below B0 (Nat.le_refl _)) hx_xs).mono ?_; rintro e w1 ⟨v1, rfl, ho1, hb1⟩
  have B1 := bstep B0 hb1 B0.size; have s1 : w.heap.size ≤ w1.heap.size := hb1.size
  have HO_t1 := hide ho1; have ub_t1 : ∀ g, v1.ownBlock = some g → g < w1.heap.size := fun g hg => (ho1.lt g hg).2; have UB_t1 := hide ub_t1; clear ub_t1 ho1
  clear hb1
  go_wp2_with fail
  refine (toCornerS_is _ ys _ (HI_ys.out.below B1 (Nat.le_refl _)) hx_ys).mono ?_; rintro e w2 ⟨v2, rfl, ho2, hb2⟩
  have B2 := bstep B1 hb2 B1.size; have s2 : w1.heap.size ≤ w2.heap.size := hb2.size
  replace HO_t1 := hide (HO_t1.out.below hb2)
  have HO_t2 := hide ho2; have ub_t2 : ∀ g, v2.ownBlock = some g → g < w2.heap.size := fun g hg => (ho2.lt g hg).2; have UB_t2 := hide ub_t2; clear ub_t2 ho2
  clear hb2
  go_wp2_with fail
  refine (specCrossingParts_any _ xs _ ys _ HO_t1.out.is HO_t2.out.is).mono ?_; rintro e w3 ⟨r3_0, rfl, hr3_0, hb3⟩
  have B3 := bstep B2 hb3 B2.size; have s3 : w2.heap.size ≤ w3.heap.size := hb3.size
  replace HO_t1 := hide (HO_t1.out.below hb3)
  replace HO_t2 := hide (HO_t2.out.below hb3)
  have HO_g3_0 := hide hr3_0; have ub_g3_0 : ∀ g, r3_0.ownBlock = some g → g < w3.heap.size := fun g hg => (hr3_0.lt g hg).2; have UB_g3_0 := hide ub_g3_0; clear ub_g3_0 hr3_0
  clear hb3
  go_wp2_with fail
  clear HO_t1 UB_t1
  clear HO_t2 UB_t2
  refine (toCornerS_is _ xs _ (HI_xs.out.below B3 (Nat.le_refl _)) hx_xs).mono ?_; rintro e w4 ⟨v4, rfl, ho4, hb4⟩
  have B4 := bstep B3 hb4 B3.size; have s4 : w3.heap.size ≤ w4.heap.size := hb4.size
  replace HO_g3_0 := hide (HO_g3_0.out.below hb4)
  have HO_t4 := hide ho4; have ub_t4 : ∀ g, v4.ownBlock = some g → g < w4.heap.size := fun g hg => (ho4.lt g hg).2; have UB_t4 := hide ub_t4; clear ub_t4 ho4
  clear hb4
  go_wp2_with fail
  refine (toCornerS_is _ ys _ (HI_ys.out.below B4 (Nat.le_refl _)) hx_ys).mono ?_; rintro e w5 ⟨v5, rfl, ho5, hb5⟩
  have B5 := bstep B4 hb5 B4.size; have s5 : w4.heap.size ≤ w5.heap.size := hb5.size
  replace HO_g3_0 := hide (HO_g3_0.out.below hb5)
  replace HO_t4 := hide (HO_t4.out.below hb5)
  have HO_t5 := hide ho5; have ub_t5 : ∀ g, v5.ownBlock = some g → g < w5.heap.size := fun g hg => (ho5.lt g hg).2; have UB_t5 := hide ub_t5; clear ub_t5 ho5
  clear hb5
  go_wp2_with fail
  refine (implCrossingParts_any _ xs _ ys _ HO_t4.out.is HO_t5.out.is).mono ?_; rintro e w6 ⟨r6_0, rfl, hr6_0, hb6⟩
  have B6 := bstep B5 hb6 B5.size; have s6 : w5.heap.size ≤ w6.heap.size := hb6.size
  replace HO_g3_0 := hide (HO_g3_0.out.below hb6)
  replace HO_t4 := hide (HO_t4.out.below hb6)
  replace HO_t5 := hide (HO_t5.out.below hb6)
  have HO_g6_0 := hide hr6_0; have ub_g6_0 : ∀ g, r6_0.ownBlock = some g → g < w6.heap.size := fun g hg => (hr6_0.lt g hg).2; have UB_g6_0 := hide ub_g6_0; clear ub_g6_0 hr6_0
  clear hb6
  go_wp2_with fail
  refine (eqIntA2S_is _ _ _ _ HO_g6_0.out.is HO_g3_0.out.is).mono ?_; rintro e w7 ⟨rfl, hb7⟩
  have B7 := bstep B6 hb7 B6.size; have s7 : w6.heap.size ≤ w7.heap.size := hb7.size
  replace HO_g3_0 := hide (HO_g3_0.out.below hb7)
  replace HO_t4 := hide (HO_t4.out.below hb7)
  replace HO_t5 := hide (HO_t5.out.below hb7)
  replace HO_g6_0 := hide (HO_g6_0.out.below hb7)
  clear hb7
  go_wp2_with fail
  refine (toCornerS_is _ xs _ (HI_xs.out.below B7 (Nat.le_refl _)) hx_xs).mono ?_; rintro e w8 ⟨v8, rfl, ho8, hb8⟩
  have B8 := bstep B7 hb8 B7.size; have s8 : w7.heap.size ≤ w8.heap.size := hb8.size
  replace HO_g3_0 := hide (HO_g3_0.out.below hb8)
  replace HO_t4 := hide (HO_t4.out.below hb8)
  replace HO_t5 := hide (HO_t5.out.below hb8)
  replace HO_g6_0 := hide (HO_g6_0.out.below hb8)
  have HO_t8 := hide ho8; have ub_t8 : ∀ g, v8.ownBlock = some g → g < w8.heap.size := fun g hg => (ho8.lt g hg).2; have UB_t8 := hide ub_t8; clear ub_t8 ho8
  clear hb8
  go_wp2_with fail
  refine (eqCornerS_is _ _ _ _ HO_t4.out.is HO_t8.out.is).mono ?_; rintro e w9 ⟨rfl, hb9⟩
  have B9 := bstep B8 hb9 B8.size; have s9 : w8.heap.size ≤ w9.heap.size := hb9.size
  replace HO_g3_0 := hide (HO_g3_0.out.below hb9)
  replace HO_t4 := hide (HO_t4.out.below hb9)
  replace HO_t5 := hide (HO_t5.out.below hb9)
  replace HO_g6_0 := hide (HO_g6_0.out.below hb9)
  replace HO_t8 := hide (HO_t8.out.below hb9)
  clear hb9
  go_wp2_with fail
  clear HO_t8 UB_t8
  refine (toCornerS_is _ ys _ (HI_ys.out.below B9 (Nat.le_refl _)) hx_ys).mono ?_; rintro e w10 ⟨v10, rfl, ho10, hb10⟩
  have B10 := bstep B9 hb10 B9.size; have s10 : w9.heap.size ≤ w10.heap.size := hb10.size
  replace HO_g3_0 := hide (HO_g3_0.out.below hb10)
  replace HO_t4 := hide (HO_t4.out.below hb10)
  replace HO_t5 := hide (HO_t5.out.below hb10)
  replace HO_g6_0 := hide (HO_g6_0.out.below hb10)
  have HO_t10 := hide ho10; have ub_t10 : ∀ g, v10.ownBlock = some g → g < w10.heap.size := fun g hg => (ho10.lt g hg).2; have UB_t10 := hide ub_t10; clear ub_t10 ho10
  clear hb10
  go_wp2_with fail
  refine (eqCornerS_is _ _ _ _ HO_t5.out.is HO_t10.out.is).mono ?_; rintro e w11 ⟨rfl, hb11⟩
  have B11 := bstep B10 hb11 B10.size; have s11 : w10.heap.size ≤ w11.heap.size := hb11.size
  replace HO_g3_0 := hide (HO_g3_0.out.below hb11)
  replace HO_t4 := hide (HO_t4.out.below hb11)
  replace HO_t5 := hide (HO_t5.out.below hb11)
  replace HO_g6_0 := hide (HO_g6_0.out.below hb11)
  replace HO_t10 := hide (HO_t10.out.below hb11)
  clear hb11
  go_wp2_with fail
  clear HO_t10 UB_t10
  refine (markCornerS_any _ _ _ _ _ HO_t4.out (by omega) (by omega) (by omega)).mono ?_; rintro e w12 ⟨rfl, ho12, hg12⟩
  have s12 : w11.heap.size ≤ w12.heap.size := hg12.size
  have B12 := HO_t4.out.belowGrown B11 hg12 (by omega) B11.size
  have HO2 := hide (HO_g3_0.out.grown hg12 (fun g h1 h2 => by have q1 := UB_g3_0.out g h1; have q2 := (HO_t4.out.lt g h2).1; omega)); replace HO_g3_0 := HO2; clear HO2
  have HO2 := hide (HO_t5.out.grown hg12 (fun g h1 h2 => by have q1 := (HO_t5.out.lt g h1).1; have q2 := UB_t4.out g h2; omega)); replace HO_t5 := HO2; clear HO2
  have HO2 := hide (HO_g6_0.out.grown hg12 (fun g h1 h2 => by have q1 := (HO_g6_0.out.lt g h1).1; have q2 := UB_t4.out g h2; omega)); replace HO_g6_0 := HO2; clear HO2
  replace HO_t4 := hide ho12; clear ho12 hg12
  go_wp2_with fail
  refine (markCornerS_any _ _ _ _ _ HO_t5.out (by omega) (by omega) (by omega)).mono ?_; rintro e w13 ⟨rfl, ho13, hg13⟩
  have s13 : w12.heap.size ≤ w13.heap.size := hg13.size
  have B13 := HO_t5.out.belowGrown B12 hg13 (by omega) B12.size
  have HO2 := hide (HO_g3_0.out.grown hg13 (fun g h1 h2 => by have q1 := UB_g3_0.out g h1; have q2 := (HO_t5.out.lt g h2).1; omega)); replace HO_g3_0 := HO2; clear HO2
  have HO2 := hide (HO_t4.out.grown hg13 (fun g h1 h2 => by have q1 := UB_t4.out g h1; have q2 := (HO_t5.out.lt g h2).1; omega)); replace HO_t4 := HO2; clear HO2
  have HO2 := hide (HO_g6_0.out.grown hg13 (fun g h1 h2 => by have q1 := (HO_g6_0.out.lt g h1).1; have q2 := UB_t5.out g h2; omega)); replace HO_g6_0 := HO2; clear HO2
  replace HO_t5 := hide ho13; clear ho13 hg13
  go_wp2_with fail
  refine (eqIntA2S_is _ _ _ _ HO_g6_0.out.is HO_g3_0.out.is).mono ?_; rintro e w14 ⟨rfl, hb14⟩
  have B14 := bstep B13 hb14 B13.size; have s14 : w13.heap.size ≤ w14.heap.size := hb14.size
  replace HO_g3_0 := hide (HO_g3_0.out.below hb14)
  replace HO_t4 := hide (HO_t4.out.below hb14)
  replace HO_t5 := hide (HO_t5.out.below hb14)
  replace HO_g6_0 := hide (HO_g6_0.out.below hb14)
  clear hb14
  go_wp2_with fail
  clear HO_t4 UB_t4
  clear HO_t5 UB_t5
  refine (markIntA2S_any _ _ _ _ _ HO_g6_0.out (by omega) (by omega) (by omega)).mono ?_; rintro e w15 ⟨rfl, ho15, hg15⟩
  have s15 : w14.heap.size ≤ w15.heap.size := hg15.size
  have B15 := HO_g6_0.out.belowGrown B14 hg15 (by omega) B14.size
  have HO2 := hide (HO_g3_0.out.grown hg15 (fun g h1 h2 => by have q1 := UB_g3_0.out g h1; have q2 := (HO_g6_0.out.lt g h2).1; omega)); replace HO_g3_0 := HO2; clear HO2
  replace HO_g6_0 := hide ho15; clear ho15 hg15
  go_wp2_with fail
  refine (heldIntA2S_is _ _ _ _ HO_g6_0.out.is (by omega) (by omega) (by omega)).mono ?_; rintro e w' ⟨rfl, rfl⟩
  go_wp2_with fail
  refine (toCornerS_is _ xs _ (HI_xs.out.below B15 (Nat.le_refl _)) hx_xs).mono ?_; rintro e w16 ⟨v16, rfl, ho16, hb16⟩
  have B16 := bstep B15 hb16 B15.size; have s16 : w15.heap.size ≤ w16.heap.size := hb16.size
  replace HO_g3_0 := hide (HO_g3_0.out.below hb16)
  replace HO_g6_0 := hide (HO_g6_0.out.below hb16)
  have HO_t16 := hide ho16; have ub_t16 : ∀ g, v16.ownBlock = some g → g < w16.heap.size := fun g hg => (ho16.lt g hg).2; have UB_t16 := hide ub_t16; clear ub_t16 ho16
  clear hb16
  go_wp2_with fail
  refine (toCornerS_is _ ys _ (HI_ys.out.below B16 (Nat.le_refl _)) hx_ys).mono ?_; rintro e w17 ⟨v17, rfl, ho17, hb17⟩
  have B17 := bstep B16 hb17 B16.size; have s17 : w16.heap.size ≤ w17.heap.size := hb17.size
  replace HO_g3_0 := hide (HO_g3_0.out.below hb17)
  replace HO_g6_0 := hide (HO_g6_0.out.below hb17)
  replace HO_t16 := hide (HO_t16.out.below hb17)
  have HO_t17 := hide ho17; have ub_t17 : ∀ g, v17.ownBlock = some g → g < w17.heap.size := fun g hg => (ho17.lt g hg).2; have UB_t17 := hide ub_t17; clear ub_t17 ho17
  clear hb17
  go_wp2_with fail
  refine (implCrossingParts_any _ xs _ ys _ HO_t16.out.is HO_t17.out.is).mono ?_; rintro e w18 ⟨r18_0, rfl, hr18_0, hb18⟩
  have B18 := bstep B17 hb18 B17.size; have s18 : w17.heap.size ≤ w18.heap.size := hb18.size
  replace HO_g3_0 := hide (HO_g3_0.out.below hb18)
  replace HO_g6_0 := hide (HO_g6_0.out.below hb18)
  replace HO_t16 := hide (HO_t16.out.below hb18)
  replace HO_t17 := hide (HO_t17.out.below hb18)
  have HO_g18_0 := hide hr18_0; have ub_g18_0 : ∀ g, r18_0.ownBlock = some g → g < w18.heap.size := fun g hg => (hr18_0.lt g hg).2; have UB_g18_0 := hide ub_g18_0; clear ub_g18_0 hr18_0
  clear hb18
  go_wp2_with fail
  refine (eqIntA2S_is _ _ _ _ HO_g18_0.out.is HO_g3_0.out.is).mono ?_; rintro e w19 ⟨rfl, hb19⟩
  have B19 := bstep B18 hb19 B18.size; have s19 : w18.heap.size ≤ w19.heap.size := hb19.size
  replace HO_g3_0 := hide (HO_g3_0.out.below hb19)
  replace HO_g6_0 := hide (HO_g6_0.out.below hb19)
  replace HO_t16 := hide (HO_t16.out.below hb19)
  replace HO_t17 := hide (HO_t17.out.below hb19)
  replace HO_g18_0 := hide (HO_g18_0.out.below hb19)
  clear hb19
  go_wp2_with fail
  refine (heldIntA2S_is _ _ _ _ HO_g6_0.out.is (by omega) (by omega) (by omega)).mono ?_; rintro e w' ⟨rfl, rfl⟩
  go_wp2_with fail
  go_ret
  exact ⟨rfl, B19⟩
end Go.Proofs.Ytefnmfkndepfgaa
