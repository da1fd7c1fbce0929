/- The walk of FnExactFamilies: it returns true whatever the arguments; old memory stays. Conditions: those of the row's own reading. -/
import Derived.Test.YtapbnggdclpokaaL7S
namespace Go.Proofs.Ytapbnggdclpokaa
open Go.RowKit
set_option linter.unusedVariables false
theorem sum_le_mul (l : List Nat) (m : Nat) (h : ∀ x ∈ l, x ≤ m) : l.sum ≤ l.length * m := by
  induction l with
  | nil => simp
  | cons a l ih =>
    have h1 := h a List.mem_cons_self
    have h2 := ih fun x hx => h x (List.mem_cons_of_mem _ hx)
    rw [List.sum_cons, List.length_cons, Nat.add_mul, Nat.one_mul]
    omega
theorem famV_sz (xs : List SMaker) : szG (famV xs).1 ≤ 1048576 := by
  unfold famV
  split
  · rename_i hg
    have hl := good_len hg
    have hI := grTo_I (xs := xs) xs.length
    have h1 : (famL xs (grTo xs xs.length)).length ≤ 10 := by unfold famL; rw [List.length_map]; have := hI.cnt; omega
    have h2 := sum_le_mul ((famL xs (grTo xs xs.length)).map List.length) 10 (fun x hx => by
      obtain ⟨r, hr, rfl⟩ := List.mem_map.1 hx
      unfold famL at hr
      obtain ⟨g, hgm, rfl⟩ := List.mem_map.1 hr
      rw [List.length_map]; have := hI.len g hgm; omega)
    rw [List.length_map] at h2
    show (famL xs (grTo xs xs.length)).length + ((famL xs (grTo xs xs.length)).map List.length).sum ≤ 1048576
    have h3 := Nat.mul_le_mul_right 10 h1
    omega
  · simp [szG]
set_option maxHeartbeats 1000000 in
theorem law_Families (A_xs : Option Addr) (cap_xs : Nat) (xs : List SMaker) (w : World) (hr_xs : Row 5 SMaker.enc w w.heap.size A_xs xs) (hl_xs : xs.length ≤ cap_xs) (hc_xs : cap_xs ≤ maxLen) (wf_xs : ∀ z ∈ xs, z.wf) :
    Calls Try.prog 11 #[.slice A_xs xs.length cap_xs] w fun e w' => e = .returned (.bool true) ∧ Below w.heap.size w w' := by
  have HI_xs := hide (show Is 5 SMaker.enc w (.slice A_xs xs.length cap_xs) xs from ⟨_, _, rfl, hr_xs, hl_xs, hc_xs⟩)
  have hm_xs := HI_xs.out.len
  clear hr_xs
  by_cases hb_xs : (1048576 : Int) < SMaker.sz xs
  · have hs : szR 1048576 (SMaker.sz xs : Int) = -1 := if_pos hb_xs
    have HS := hide hs; clear hs
    go_enter Try.func11, Try.ntmps11
    go_wp2_with fail
    refine (szMakerS_is _ xs _ _ HI_xs.out (by omega) (by omega) wf_xs).mono ?_; rintro e w0 ⟨rfl, hb0⟩
    rw [HS.out]
    go_wp2_with fail
    go_ret
    exact ⟨rfl, hb0⟩
  have hx_xs : xs.length ≤ 1048576 := by have := SMaker.len_sz xs; omega
  have HS_xs := hide (show szR 1048576 (SMaker.sz xs : Int) = 1048576 - SMaker.sz xs from if_neg hb_xs)
  have hnn_xs : ¬ (1048576 - (SMaker.sz xs : Int) < 0) := by omega
  have hrl := famV_sz xs
  have h1 := fun W v (hi : Is 5 SMaker.enc W v xs) => specFamilies_is v xs W hi wf_xs
  have h2 := fun W v (hi : Is 5 SMaker.enc W v xs) => implFamilies_is v xs W hi wf_xs
  generalize famV xs = L at *
  obtain ⟨L1, L2⟩ := L
  simp only at h1 h2 hrl
  have H1 := hide h1; have H2 := hide h2; clear h1 h2
  have hsum2 := sumG_le L1 L1.length
  have hnm2 : ¬ (1 + (sumG L1 L1.length : Int) < 0) := by omega
  have t1 : (L2 != L2) = false := by simp
  go_enter Try.func11, Try.ntmps11
  go_wp2_with fail
  refine (szMakerS_is _ xs _ _ HI_xs.out (by omega) (by omega) wf_xs).mono ?_; rintro e w0 ⟨rfl, B0⟩
  rw [HS_xs.out]
  have s0 : w.heap.size ≤ w0.heap.size := B0.size
  go_wp2_with fail
  refine (toMakerS_is _ xs _ (HI_xs.out.below B0 (Nat.le_refl _)) hx_xs).mono ?_; rintro e w1 ⟨v1, rfl, ho1, hb1⟩
  have B1 := bstep B0 hb1 B0.size; have s1 : w0.heap.size ≤ w1.heap.size := hb1.size
  have HO_t1 := hide ho1; have ub_t1 : ∀ g, v1.ownBlock = some g → g < w1.heap.size := fun g hg => (ho1.lt g hg).2; have UB_t1 := hide ub_t1; clear ub_t1 ho1
  clear hb1
  go_wp2_with fail
  refine (H1.out _ _ HO_t1.out.is).mono ?_; rintro e w2 ⟨r2_0, rfl, hr2_0, hb2⟩
  have B2 := bstep B1 hb2 B1.size; have s2 : w1.heap.size ≤ w2.heap.size := hb2.size
  replace HO_t1 := hide (HO_t1.out.below hb2)
  have HO_g2_0 := hide hr2_0; clear hr2_0
  clear hb2
  go_wp2_with fail
  clear HO_t1 UB_t1
  refine (toMakerS_is _ xs _ (HI_xs.out.below B2 (Nat.le_refl _)) hx_xs).mono ?_; rintro e w3 ⟨v3, rfl, ho3, hb3⟩
  have B3 := bstep B2 hb3 B2.size; have s3 : w2.heap.size ≤ w3.heap.size := hb3.size
  replace HO_g2_0 := hide (HO_g2_0.out.below hb3)
  have HO_t3 := hide ho3; have ub_t3 : ∀ g, v3.ownBlock = some g → g < w3.heap.size := fun g hg => (ho3.lt g hg).2; have UB_t3 := hide ub_t3; clear ub_t3 ho3
  clear hb3
  go_wp2_with fail
  refine (H2.out _ _ HO_t3.out.is).mono ?_; rintro e w4 ⟨r4_0, rfl, hr4_0, hb4⟩
  have B4 := bstep B3 hb4 B3.size; have s4 : w3.heap.size ≤ w4.heap.size := hb4.size
  replace HO_g2_0 := hide (HO_g2_0.out.below hb4)
  replace HO_t3 := hide (HO_t3.out.below hb4)
  have HO_g4_0 := hide hr4_0; clear hr4_0
  clear hb4
  go_wp2_with fail
  refine (eqIntSS_is _ _ _ _ HO_g4_0.out.isG HO_g2_0.out.isG).mono ?_; rintro e w5 ⟨rfl, hb5⟩
  have B5 := bstep B4 hb5 B4.size; have s5 : w4.heap.size ≤ w5.heap.size := hb5.size
  replace HO_g2_0 := hide (HO_g2_0.out.below hb5)
  replace HO_t3 := hide (HO_t3.out.below hb5)
  replace HO_g4_0 := hide (HO_g4_0.out.below hb5)
  clear hb5
  go_wp2_with fail
  refine (toMakerS_is _ xs _ (HI_xs.out.below B5 (Nat.le_refl _)) hx_xs).mono ?_; rintro e w6 ⟨v6, rfl, ho6, hb6⟩
  have B6 := bstep B5 hb6 B5.size; have s6 : w5.heap.size ≤ w6.heap.size := hb6.size
  replace HO_g2_0 := hide (HO_g2_0.out.below hb6)
  replace HO_t3 := hide (HO_t3.out.below hb6)
  replace HO_g4_0 := hide (HO_g4_0.out.below hb6)
  have HO_t6 := hide ho6; have ub_t6 : ∀ g, v6.ownBlock = some g → g < w6.heap.size := fun g hg => (ho6.lt g hg).2; have UB_t6 := hide ub_t6; clear ub_t6 ho6
  clear hb6
  go_wp2_with fail
  refine (eqMakerS_is _ _ _ _ HO_t3.out.is HO_t6.out.is).mono ?_; rintro e w7 ⟨rfl, hb7⟩
  have B7 := bstep B6 hb7 B6.size; have s7 : w6.heap.size ≤ w7.heap.size := hb7.size
  replace HO_g2_0 := hide (HO_g2_0.out.below hb7)
  replace HO_t3 := hide (HO_t3.out.below hb7)
  replace HO_g4_0 := hide (HO_g4_0.out.below hb7)
  replace HO_t6 := hide (HO_t6.out.below hb7)
  clear hb7
  go_wp2_with fail
  clear HO_t6 UB_t6
  refine (markMakerS_any _ _ _ _ _ HO_t3.out (by omega) (by omega) (by omega)).mono ?_; rintro e w8 ⟨rfl, ho8, hg8⟩
  have s8 : w7.heap.size ≤ w8.heap.size := hg8.size
  have B8 := HO_t3.out.belowGrown B7 hg8 (by omega) B7.size
  have hw8 : Within w2.heap.size w3.heap.size w7 w8 := Within.of_grown hg8 (fun g e => ⟨(HO_t3.out.lt g e).1, UB_t3.out g e⟩)
  replace HO_g2_0 := hide (HO_g2_0.out.within hw8 (by omega))
  replace HO_g4_0 := hide (HO_g4_0.out.within hw8 (by omega))
  replace HO_t3 := hide ho8; clear ho8 hg8
  go_wp2_with fail
  refine (eqIntSS_is _ _ _ _ HO_g4_0.out.isG HO_g2_0.out.isG).mono ?_; rintro e w9 ⟨rfl, hb9⟩
  have B9 := bstep B8 hb9 B8.size; have s9 : w8.heap.size ≤ w9.heap.size := hb9.size
  replace HO_g2_0 := hide (HO_g2_0.out.below hb9)
  replace HO_t3 := hide (HO_t3.out.below hb9)
  replace HO_g4_0 := hide (HO_g4_0.out.below hb9)
  clear hb9
  go_wp2_with fail
  clear HO_t3 UB_t3
  refine (markIntSS_any _ _ _ _ _ _ HO_g4_0.out (by omega) (by omega) (by omega)).mono ?_; rintro e w10 ⟨rfl, ho10, hw10⟩
  have s10 : w9.heap.size ≤ w10.heap.size := hw10.size
  have B10 := below_within B9 hw10 (by omega) B9.size
  replace HO_g2_0 := hide (HO_g2_0.out.within hw10 (by omega))
  replace HO_g4_0 := hide ho10; clear ho10 hw10
  go_wp2_with fail
  refine (heldIntSS_any _ L1 _ _ HO_g4_0.out.isG (by omega) (by omega) (by omega)).mono ?_; rintro e w' ⟨rfl, rfl⟩
  go_wp2_with fail
  refine (toMakerS_is _ xs _ (HI_xs.out.below B10 (Nat.le_refl _)) hx_xs).mono ?_; rintro e w11 ⟨v11, rfl, ho11, hb11⟩
  have B11 := bstep B10 hb11 B10.size; have s11 : w10.heap.size ≤ w11.heap.size := hb11.size
  replace HO_g2_0 := hide (HO_g2_0.out.below hb11)
  replace HO_g4_0 := hide (HO_g4_0.out.below hb11)
  have HO_t11 := hide ho11; have ub_t11 : ∀ g, v11.ownBlock = some g → g < w11.heap.size := fun g hg => (ho11.lt g hg).2; have UB_t11 := hide ub_t11; clear ub_t11 ho11
  clear hb11
  go_wp2_with fail
  refine (H2.out _ _ HO_t11.out.is).mono ?_; rintro e w12 ⟨r12_0, rfl, hr12_0, hb12⟩
  have B12 := bstep B11 hb12 B11.size; have s12 : w11.heap.size ≤ w12.heap.size := hb12.size
  replace HO_g2_0 := hide (HO_g2_0.out.below hb12)
  replace HO_g4_0 := hide (HO_g4_0.out.below hb12)
  replace HO_t11 := hide (HO_t11.out.below hb12)
  have HO_g12_0 := hide hr12_0; clear hr12_0
  clear hb12
  go_wp2_with fail
  refine (eqIntSS_is _ _ _ _ HO_g12_0.out.isG HO_g2_0.out.isG).mono ?_; rintro e w13 ⟨rfl, hb13⟩
  have B13 := bstep B12 hb13 B12.size; have s13 : w12.heap.size ≤ w13.heap.size := hb13.size
  replace HO_g2_0 := hide (HO_g2_0.out.below hb13)
  replace HO_g4_0 := hide (HO_g4_0.out.below hb13)
  replace HO_t11 := hide (HO_t11.out.below hb13)
  replace HO_g12_0 := hide (HO_g12_0.out.below hb13)
  clear hb13
  go_wp2_with fail
  refine (heldIntSS_any _ L1 _ _ HO_g4_0.out.isG (by omega) (by omega) (by omega)).mono ?_; rintro e w' ⟨rfl, rfl⟩
  go_wp2_with fail
  go_ret
  exact ⟨rfl, B13⟩
end Go.Proofs.Ytapbnggdclpokaa
