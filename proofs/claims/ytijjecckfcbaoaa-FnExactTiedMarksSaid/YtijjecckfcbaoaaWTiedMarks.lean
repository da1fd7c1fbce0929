/- The walk of FnExactTiedMarks: it returns true whatever the arguments; old memory stays. Conditions: those of the row's own reading. -/
import Derived.Test.YtijjecckfcbaoaaL8U
namespace Go.Proofs.Ytijjecckfcbaoaa
open Go.RowKit
set_option linter.unusedVariables false
set_option maxHeartbeats 1000000 in
theorem law_TiedMarks (n : Int) (A_xs : Option Addr) (cap_xs : Nat) (xs : List SClaim) (k : Int) (w : World) (wf_n : (Lit.int .i64 n).wf = true) (hr_xs : Row 4 SClaim.enc w w.heap.size A_xs xs) (hl_xs : xs.length ≤ cap_xs) (hc_xs : cap_xs ≤ maxLen) (wf_xs : ∀ z ∈ xs, z.wf) (wf_k : (Lit.int .i64 k).wf = true) :
    Calls Try.prog 13 #[.int .i64 n, .slice A_xs xs.length cap_xs, .int .i64 k] w fun e w' => e = .returned (.bool true) ∧ Below w.heap.size w w' := by
  have HI_xs := hide (show Is 4 SClaim.enc w (.slice A_xs xs.length cap_xs) xs from ⟨_, _, rfl, hr_xs, hl_xs, hc_xs⟩)
  have hm_xs := HI_xs.out.len
  clear hr_xs
  obtain ⟨lo_n, hi_n⟩ := wf64 wf_n
  obtain ⟨lo_k, hi_k⟩ := wf64 wf_k
  by_cases hb_xs : (1048576 : Int) < xs.length
  · have hs : szR (1048576) (xs.length : Int) = -1 := if_pos hb_xs
    have HS := hide hs; clear hs
    go_enter Try.func13, Try.ntmps13
    go_wp2_with fail
    refine (szClaimS_any _ _ _ _ _ (by omega) (by omega) (by omega)).mono ?_; rintro e w' ⟨rfl, rfl⟩
    rw [HS.out]
    go_wp2_with fail
    go_ret
    exact ⟨rfl, Below.refl _ _⟩
  have hx_xs : xs.length ≤ 1048576 := by omega
  have HS_xs := hide (show szR (1048576) (xs.length : Int) = 1048576 - xs.length from if_neg hb_xs)
  have t2 : ((tiedV n xs k).2 != (tiedV n xs k).2) = false := by simp
  have hlen : (tiedV n xs k).1.length ≤ 1048576 := tiedV_len n xs k
  go_enter Try.func13, Try.ntmps13
  go_wp2_with fail
  refine (szClaimS_any _ _ _ _ _ (by omega) (by omega) (by omega)).mono ?_; rintro e w' ⟨rfl, rfl⟩
  rw [HS_xs.out]
  go_wp2_with fail
  have B0 := Below.refl w.heap.size w
  refine (toClaimS_is _ xs _ (HI_xs.out.below B0 (Nat.le_refl _)) hx_xs).mono ?_; rintro e w1 ⟨v1, rfl, ho1, hb1⟩
  have B1 := bstep B0 hb1 B0.size; have s1 : w.heap.size ≤ w1.heap.size := hb1.size
  have HO_t1 := hide ho1; have ub_t1 : ∀ g, v1.ownBlock = some g → g < w1.heap.size := fun g hg => (ho1.lt g hg).2; have UB_t1 := hide ub_t1; clear ub_t1 ho1
  clear hb1
  go_wp2_with fail
  refine (specTiedMarks_any n _ xs k _ HO_t1.out.is).mono ?_; rintro e w2 ⟨r2_0, rfl, hr2_0, hb2⟩
  have B2 := bstep B1 hb2 B1.size; have s2 : w1.heap.size ≤ w2.heap.size := hb2.size
  replace HO_t1 := hide (HO_t1.out.below hb2)
  have HO_g2_0 := hide hr2_0; have ub_g2_0 : ∀ g, r2_0.ownBlock = some g → g < w2.heap.size := fun g hg => (hr2_0.lt g hg).2; have UB_g2_0 := hide ub_g2_0; clear ub_g2_0 hr2_0
  clear hb2
  go_wp2_with fail
  clear HO_t1 UB_t1
  refine (toClaimS_is _ xs _ (HI_xs.out.below B2 (Nat.le_refl _)) hx_xs).mono ?_; rintro e w3 ⟨v3, rfl, ho3, hb3⟩
  have B3 := bstep B2 hb3 B2.size; have s3 : w2.heap.size ≤ w3.heap.size := hb3.size
  replace HO_g2_0 := hide (HO_g2_0.out.below hb3)
  have HO_t3 := hide ho3; have ub_t3 : ∀ g, v3.ownBlock = some g → g < w3.heap.size := fun g hg => (ho3.lt g hg).2; have UB_t3 := hide ub_t3; clear ub_t3 ho3
  clear hb3
  go_wp2_with fail
  refine (implTiedMarks_any n _ xs k _ HO_t3.out.is).mono ?_; rintro e w4 ⟨r4_0, rfl, hr4_0, hb4⟩
  have B4 := bstep B3 hb4 B3.size; have s4 : w3.heap.size ≤ w4.heap.size := hb4.size
  replace HO_g2_0 := hide (HO_g2_0.out.below hb4)
  replace HO_t3 := hide (HO_t3.out.below hb4)
  have HO_g4_0 := hide hr4_0; have ub_g4_0 : ∀ g, r4_0.ownBlock = some g → g < w4.heap.size := fun g hg => (hr4_0.lt g hg).2; have UB_g4_0 := hide ub_g4_0; clear ub_g4_0 hr4_0
  clear hb4
  go_wp2_with fail
  refine (eqIntS_is _ _ _ _ HO_g4_0.out.is HO_g2_0.out.is).mono ?_; rintro e w5 ⟨rfl, hb5⟩
  have B5 := bstep B4 hb5 B4.size; have s5 : w4.heap.size ≤ w5.heap.size := hb5.size
  replace HO_g2_0 := hide (HO_g2_0.out.below hb5)
  replace HO_t3 := hide (HO_t3.out.below hb5)
  replace HO_g4_0 := hide (HO_g4_0.out.below hb5)
  clear hb5
  go_wp2_with fail
  refine (toClaimS_is _ xs _ (HI_xs.out.below B5 (Nat.le_refl _)) hx_xs).mono ?_; rintro e w6 ⟨v6, rfl, ho6, hb6⟩
  have B6 := bstep B5 hb6 B5.size; have s6 : w5.heap.size ≤ w6.heap.size := hb6.size
  replace HO_g2_0 := hide (HO_g2_0.out.below hb6)
  replace HO_t3 := hide (HO_t3.out.below hb6)
  replace HO_g4_0 := hide (HO_g4_0.out.below hb6)
  have HO_t6 := hide ho6; have ub_t6 : ∀ g, v6.ownBlock = some g → g < w6.heap.size := fun g hg => (ho6.lt g hg).2; have UB_t6 := hide ub_t6; clear ub_t6 ho6
  clear hb6
  go_wp2_with fail
  refine (eqClaimS_is _ _ _ _ HO_t3.out.is HO_t6.out.is).mono ?_; rintro e w7 ⟨rfl, hb7⟩
  have B7 := bstep B6 hb7 B6.size; have s7 : w6.heap.size ≤ w7.heap.size := hb7.size
  replace HO_g2_0 := hide (HO_g2_0.out.below hb7)
  replace HO_t3 := hide (HO_t3.out.below hb7)
  replace HO_g4_0 := hide (HO_g4_0.out.below hb7)
  replace HO_t6 := hide (HO_t6.out.below hb7)
  clear hb7
  go_wp2_with fail
  clear HO_t6 UB_t6
  refine (markClaimS_any _ _ _ _ _ HO_t3.out (by omega) (by omega) (by omega)).mono ?_; rintro e w8 ⟨rfl, ho8, hg8⟩
  have s8 : w7.heap.size ≤ w8.heap.size := hg8.size
  have B8 := HO_t3.out.belowGrown B7 hg8 (by omega) B7.size
  have HO2 := hide (HO_g2_0.out.grown hg8 (fun g h1 h2 => by have q1 := UB_g2_0.out g h1; have q2 := (HO_t3.out.lt g h2).1; omega)); replace HO_g2_0 := HO2; clear HO2
  have HO2 := hide (HO_g4_0.out.grown hg8 (fun g h1 h2 => by have q1 := (HO_g4_0.out.lt g h1).1; have q2 := UB_t3.out g h2; omega)); replace HO_g4_0 := HO2; clear HO2
  replace HO_t3 := hide ho8; clear ho8 hg8
  go_wp2_with fail
  refine (eqIntS_is _ _ _ _ HO_g4_0.out.is HO_g2_0.out.is).mono ?_; rintro e w9 ⟨rfl, hb9⟩
  have B9 := bstep B8 hb9 B8.size; have s9 : w8.heap.size ≤ w9.heap.size := hb9.size
  replace HO_g2_0 := hide (HO_g2_0.out.below hb9)
  replace HO_t3 := hide (HO_t3.out.below hb9)
  replace HO_g4_0 := hide (HO_g4_0.out.below hb9)
  clear hb9
  go_wp2_with fail
  clear HO_t3 UB_t3
  refine (markIntS_any _ _ _ _ _ HO_g4_0.out (by omega) (by omega) (by omega)).mono ?_; rintro e w10 ⟨rfl, ho10, hg10⟩
  have s10 : w9.heap.size ≤ w10.heap.size := hg10.size
  have B10 := HO_g4_0.out.belowGrown B9 hg10 (by omega) B9.size
  have HO2 := hide (HO_g2_0.out.grown hg10 (fun g h1 h2 => by have q1 := UB_g2_0.out g h1; have q2 := (HO_g4_0.out.lt g h2).1; omega)); replace HO_g2_0 := HO2; clear HO2
  replace HO_g4_0 := hide ho10; clear ho10 hg10
  go_wp2_with fail
  refine (heldIntS_is _ _ _ _ HO_g4_0.out.is (by omega) (by omega) (by omega)).mono ?_; rintro e w' ⟨rfl, rfl⟩
  go_wp2_with fail
  refine (toClaimS_is _ xs _ (HI_xs.out.below B10 (Nat.le_refl _)) hx_xs).mono ?_; rintro e w11 ⟨v11, rfl, ho11, hb11⟩
  have B11 := bstep B10 hb11 B10.size; have s11 : w10.heap.size ≤ w11.heap.size := hb11.size
  replace HO_g2_0 := hide (HO_g2_0.out.below hb11)
  replace HO_g4_0 := hide (HO_g4_0.out.below hb11)
  have HO_t11 := hide ho11; have ub_t11 : ∀ g, v11.ownBlock = some g → g < w11.heap.size := fun g hg => (ho11.lt g hg).2; have UB_t11 := hide ub_t11; clear ub_t11 ho11
  clear hb11
  go_wp2_with fail
  refine (implTiedMarks_any n _ xs k _ HO_t11.out.is).mono ?_; rintro e w12 ⟨r12_0, rfl, hr12_0, hb12⟩
  have B12 := bstep B11 hb12 B11.size; have s12 : w11.heap.size ≤ w12.heap.size := hb12.size
  replace HO_g2_0 := hide (HO_g2_0.out.below hb12)
  replace HO_g4_0 := hide (HO_g4_0.out.below hb12)
  replace HO_t11 := hide (HO_t11.out.below hb12)
  have HO_g12_0 := hide hr12_0; have ub_g12_0 : ∀ g, r12_0.ownBlock = some g → g < w12.heap.size := fun g hg => (hr12_0.lt g hg).2; have UB_g12_0 := hide ub_g12_0; clear ub_g12_0 hr12_0
  clear hb12
  go_wp2_with fail
  refine (eqIntS_is _ _ _ _ HO_g12_0.out.is HO_g2_0.out.is).mono ?_; rintro e w13 ⟨rfl, hb13⟩
  have B13 := bstep B12 hb13 B12.size; have s13 : w12.heap.size ≤ w13.heap.size := hb13.size
  replace HO_g2_0 := hide (HO_g2_0.out.below hb13)
  replace HO_g4_0 := hide (HO_g4_0.out.below hb13)
  replace HO_t11 := hide (HO_t11.out.below hb13)
  replace HO_g12_0 := hide (HO_g12_0.out.below hb13)
  clear hb13
  go_wp2_with fail
  refine (heldIntS_is _ _ _ _ HO_g4_0.out.is (by omega) (by omega) (by omega)).mono ?_; rintro e w' ⟨rfl, rfl⟩
  go_wp2_with fail
  go_ret
  exact ⟨rfl, B13⟩
end Go.Proofs.Ytijjecckfcbaoaa
