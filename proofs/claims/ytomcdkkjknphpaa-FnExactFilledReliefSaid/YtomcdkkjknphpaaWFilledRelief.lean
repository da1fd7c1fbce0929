/- The walk of FnExactFilledRelief: it returns true whatever the arguments; old memory stays. Conditions: those of the row's own reading. -/
import Derived.Test.YtomcdkkjknphpaaL9Y
namespace Go.Proofs.Ytomcdkkjknphpaa
open Go.RowKit
set_option linter.unusedVariables false
set_option maxHeartbeats 1000000 in
theorem law_FilledRelief (A : Option Addr) (cap : Nat) (xs : List SRow)  (w : World) (hr : Row 1 SRow.enc w w.heap.size A xs) (hl : xs.length ≤ cap) (hc : cap ≤ maxLen) (wf : ∀ z ∈ xs, z.ok w w.heap.size)  :
    Calls Try.prog 13 #[.slice A xs.length cap] w fun e w' => e = .returned (.bool true) ∧ Below w.heap.size w w' := by
  have HI := hide (show IsG w (.slice A xs.length cap) (xs.map (·.xs)) from ⟨xs, rfl, ⟨_, _, rfl, hr, hl, hc⟩, wf⟩)
  clear hr wf
  generalize xs.map (·.xs) = xss at HI
  generalize Value.slice A xs.length cap = v at HI ⊢
  by_cases hb : (1048576 : Int) < szG xss
  · have hs : szR 1048576 (szG xss : Int) = -1 := if_pos hb
    have HS := hide hs; clear hs
    go_enter Try.func13, Try.ntmps13
    go_wp2_with fail
    refine (szIntSS_is _ xss _ _ HI.out (by omega) (by omega)).mono ?_; rintro e w' ⟨rfl, rfl⟩
    rw [HS.out]
    go_wp2_with fail
    go_ret
    exact ⟨rfl, Below.refl _ _⟩
  have hx : szG xss ≤ 1048576 := by omega
  have HS := hide (show szR 1048576 (szG xss : Int) = 1048576 - szG xss from if_neg hb)
  have hnn : ¬ (1048576 - (szG xss : Int) < 0) := by omega
  have hrl := fillV_len xss
  have h1 := fun u W (i : IsG W u xss) => specFilledRelief_any u xss  W i
  have h2 := fun u W (i : IsG W u xss) => implFilledRelief_any u xss  W i
  generalize fillV xss = L at h1 h2 hrl
  obtain ⟨L1, L2⟩ := L
  simp only at h1 h2 hrl
  have H1 := hide h1; have H2 := hide h2; clear h1 h2
  have hsum := sumG_le xss xss.length
  have hnm : ¬ (1 + (sumG xss xss.length : Int) < 0) := by omega
  have hsum2 := sumG_le L1 L1.length
  have hnm2 : ¬ (1 + (sumG L1 L1.length : Int) < 0) := by omega
  have t1 : (L2 != L2) = false := by simp
  go_enter Try.func13, Try.ntmps13
  go_wp2_with fail
  refine (szIntSS_is _ xss _ _ HI.out (by omega) (by omega)).mono ?_; rintro e w' ⟨rfl, rfl⟩
  rw [HS.out]
  go_wp2_with fail
  have B0 := Below.refl w.heap.size w
  refine (toIntSS_own _ xss _ (HI.out.below B0 (Nat.le_refl _)) hx).mono ?_; rintro e w1 ⟨v1, rfl, ho1, hb1⟩
  have B1 := bstep B0 hb1 B0.size; have s1 : w.heap.size ≤ w1.heap.size := hb1.size
  have HO_t := hide ho1; clear ho1
  clear hb1
  go_wp2_with fail
  refine (H1.out _ _ HO_t.out.isG).mono ?_; rintro e w2 ⟨r2, rfl, ho2, hb2⟩
  have B2 := bstep B1 hb2 B1.size; have s2 : w1.heap.size ≤ w2.heap.size := hb2.size
  replace HO_t := hide (HO_t.out.below hb2)
  have HO_w0 := hide ho2; clear ho2
  clear hb2
  go_wp2_with fail
  clear HO_t
  refine (toIntSS_own _ xss _ (HI.out.below B2 (Nat.le_refl _)) hx).mono ?_; rintro e w3 ⟨v3, rfl, ho3, hb3⟩
  have B3 := bstep B2 hb3 B2.size; have s3 : w2.heap.size ≤ w3.heap.size := hb3.size
  replace HO_w0 := hide (HO_w0.out.below hb3)
  have HO_x := hide ho3; clear ho3
  clear hb3
  go_wp2_with fail
  refine (H2.out _ _ HO_x.out.isG).mono ?_; rintro e w4 ⟨r4, rfl, ho4, hb4⟩
  have B4 := bstep B3 hb4 B3.size; have s4 : w3.heap.size ≤ w4.heap.size := hb4.size
  replace HO_w0 := hide (HO_w0.out.below hb4)
  replace HO_x := hide (HO_x.out.below hb4)
  have HO_g := hide ho4; clear ho4
  clear hb4
  go_wp2_with fail
  refine (eqIntSS_is _ _ _ _ HO_g.out.isG HO_w0.out.isG).mono ?_; rintro e w5 ⟨rfl, hb5⟩
  have B5 := bstep B4 hb5 B4.size; have s5 : w4.heap.size ≤ w5.heap.size := hb5.size
  replace HO_w0 := hide (HO_w0.out.below hb5)
  replace HO_x := hide (HO_x.out.below hb5)
  replace HO_g := hide (HO_g.out.below hb5)
  clear hb5
  go_wp2_with fail
  refine (toIntSS_own _ xss _ (HI.out.below B5 (Nat.le_refl _)) hx).mono ?_; rintro e w6 ⟨v6, rfl, ho6, hb6⟩
  have B6 := bstep B5 hb6 B5.size; have s6 : w5.heap.size ≤ w6.heap.size := hb6.size
  replace HO_w0 := hide (HO_w0.out.below hb6)
  replace HO_x := hide (HO_x.out.below hb6)
  replace HO_g := hide (HO_g.out.below hb6)
  have HO_y := hide ho6; clear ho6
  clear hb6
  go_wp2_with fail
  refine (eqIntSS_is _ _ _ _ HO_x.out.isG HO_y.out.isG).mono ?_; rintro e w7 ⟨rfl, hb7⟩
  have B7 := bstep B6 hb7 B6.size; have s7 : w6.heap.size ≤ w7.heap.size := hb7.size
  replace HO_w0 := hide (HO_w0.out.below hb7)
  replace HO_x := hide (HO_x.out.below hb7)
  replace HO_g := hide (HO_g.out.below hb7)
  replace HO_y := hide (HO_y.out.below hb7)
  clear hb7
  go_wp2_with fail
  clear HO_y
  refine (markIntSS_any _ _ _ _ _ _ HO_x.out (by omega) (by omega) (by omega)).mono ?_; rintro e w8 ⟨rfl, ho8, hw8⟩
  have s8 : w7.heap.size ≤ w8.heap.size := hw8.size
  have B8 := below_within B7 hw8 (by omega) B7.size
  replace HO_w0 := hide (HO_w0.out.within hw8 (by omega))
  replace HO_g := hide (HO_g.out.within hw8 (by omega))
  replace HO_x := hide ho8; clear ho8 hw8
  go_wp2_with fail
  refine (eqIntSS_is _ _ _ _ HO_g.out.isG HO_w0.out.isG).mono ?_; rintro e w9 ⟨rfl, hb9⟩
  have B9 := bstep B8 hb9 B8.size; have s9 : w8.heap.size ≤ w9.heap.size := hb9.size
  replace HO_w0 := hide (HO_w0.out.below hb9)
  replace HO_x := hide (HO_x.out.below hb9)
  replace HO_g := hide (HO_g.out.below hb9)
  clear hb9
  go_wp2_with fail
  clear HO_x
  refine (markIntSS_any _ _ _ _ _ _ HO_g.out (by omega) (by omega) (by omega)).mono ?_; rintro e w10 ⟨rfl, ho10, hw10⟩
  have s10 : w9.heap.size ≤ w10.heap.size := hw10.size
  have B10 := below_within B9 hw10 (by omega) B9.size
  replace HO_w0 := hide (HO_w0.out.within hw10 (by omega))
  replace HO_g := hide ho10; clear ho10 hw10
  go_wp2_with fail
  refine (heldIntSS_any _ L1 _ _ HO_g.out.isG (by omega) (by omega) (by omega)).mono ?_; rintro e w' ⟨rfl, rfl⟩
  go_wp2_with fail
  refine (toIntSS_own _ xss _ (HI.out.below B10 (Nat.le_refl _)) hx).mono ?_; rintro e w11 ⟨v11, rfl, ho11, hb11⟩
  have B11 := bstep B10 hb11 B10.size; have s11 : w10.heap.size ≤ w11.heap.size := hb11.size
  replace HO_w0 := hide (HO_w0.out.below hb11)
  replace HO_g := hide (HO_g.out.below hb11)
  have HO_z := hide ho11; clear ho11
  clear hb11
  go_wp2_with fail
  refine (H2.out _ _ HO_z.out.isG).mono ?_; rintro e w12 ⟨r12, rfl, ho12, hb12⟩
  have B12 := bstep B11 hb12 B11.size; have s12 : w11.heap.size ≤ w12.heap.size := hb12.size
  replace HO_w0 := hide (HO_w0.out.below hb12)
  replace HO_g := hide (HO_g.out.below hb12)
  replace HO_z := hide (HO_z.out.below hb12)
  have HO_h := hide ho12; clear ho12
  clear hb12
  go_wp2_with fail
  refine (eqIntSS_is _ _ _ _ HO_h.out.isG HO_w0.out.isG).mono ?_; rintro e w13 ⟨rfl, hb13⟩
  have B13 := bstep B12 hb13 B12.size; have s13 : w12.heap.size ≤ w13.heap.size := hb13.size
  replace HO_w0 := hide (HO_w0.out.below hb13)
  replace HO_g := hide (HO_g.out.below hb13)
  replace HO_z := hide (HO_z.out.below hb13)
  replace HO_h := hide (HO_h.out.below hb13)
  clear hb13
  go_wp2_with fail
  refine (heldIntSS_any _ L1 _ _ HO_g.out.isG (by omega) (by omega) (by omega)).mono ?_; rintro e w' ⟨rfl, rfl⟩
  go_wp2_with fail
  go_ret
  exact ⟨rfl, B13⟩
end Go.Proofs.Ytomcdkkjknphpaa
