/- The walk of FnMakers: it returns true whatever the code; old memory stays. No condition. (Printed by mkfnmakers.py.) -/
import Derived.Test.YtapbnggdclpokaaWFnMak2
namespace Go.Proofs.Ytapbnggdclpokaa
open Go.RowKit
set_option linter.unusedVariables false
set_option maxRecDepth 100000 in
set_option maxHeartbeats 8000000 in
theorem law_FnMakers (A : Option Addr) (cap : Nat) (code : List Int) (w : World) (hr : Row 1 encU w w.heap.size A code) (hl : code.length ≤ cap) (hc : cap ≤ maxLen) (wz : ∀ z ∈ code, (Lit.int .u8 z).wf = true) :
    Calls Try.prog 12 #[.slice A code.length cap] w fun e w' => e = .returned (.bool true) ∧ Below w.heap.size w w' := by
  have hcode : Code w (.slice A code.length cap) A cap code := ⟨rfl, hr, fun z hz => wf8 (wz z hz), hl, hc⟩
  have hbig := rBig_is A code.length cap w
  by_cases hlen : (65536 : Int) < code.length
  · rw [decide_eq_true hlen] at hbig
    have HBIG := hide hbig; clear hbig hr wz hcode
    go_enter Try.func12, Try.ntmps12
    go_wp2_with fail
    refine HBIG.out.mono ?_; rintro e w' ⟨rfl, rfl⟩
    go_wp2_with fail
    go_ret
    exact ⟨rfl, Below.refl _ _⟩
  rw [decide_eq_false hlen] at hbig
  have HBIG := hide hbig; have HCODE := hide hcode; clear hbig hr wz hcode hlen
  have HB := hide (Below.refl w.heap.size w)
  go_enter Try.func12, Try.ntmps12
  go_wp2_with fail
  refine HBIG.out.mono ?_; rintro e w' ⟨rfl, rfl⟩
  clear HBIG
  go_wp2_with fail
  refine (drawFirstCommon_is _ _ A cap code (HCODE.out.below HB.out (Nat.le_refl _))).mono ?_; rintro e w1 ⟨v, xs, a, b, rfl, hwf, hl, ho, hb⟩
  replace HB := hide (bstep HB.out hb HB.out.size); clear hb
  have HX := hide ho.is; clear ho
  have cF := fun (W : World) (hi : Is 5 SMaker.enc W v xs) => implFirstCommon_any v xs a b W hi hwf
  have cFS := fun (W : World) (hi : Is 5 SMaker.enc W v xs) => specFirstCommon_any v xs a b W hi hwf
  have cL := fun (W : World) (hi : Is 5 SMaker.enc W v xs) => implLineOf_any v xs a W hi hwf
  have cLS := fun (W : World) (hi : Is 5 SMaker.enc W v xs) => specLineOf_any v xs a W hi hwf
  have cM := fun (W : World) (hi : Is 5 SMaker.enc W v xs) => implLineOf_any v xs b W hi hwf
  have cMS := fun (W : World) (hi : Is 5 SMaker.enc W v xs) => specLineOf_any v xs b W hi hwf
  have cG := fun (W : World) (hi : Is 5 SMaker.enc W v xs) => implFamilies_is v xs W hi hwf
  have cGS := fun (W : World) (hi : Is 5 SMaker.enc W v xs) => specFamilies_is v xs W hi hwf
  have hfam := @fam_law xs a b
  have hfc := fun h => let q := @fc_law xs a b h; And.intro (List.contains_iff_mem.1 q.2.2.1) (List.contains_iff_mem.1 q.2.2.2)
  have hfirst : (lineV xs a).2 = true → (lineV xs a).1.head? = some a := fun h => line_first (by rw [← line_two]; exact h)
  generalize (fcV xs a b).1 = fid at *
  generalize hfok : (fcV xs a b).2 = fok at *
  generalize (lineV xs a).1 = la at *
  generalize hoka : (lineV xs a).2 = oka at *
  generalize (lineV xs b).1 = lb at *
  generalize hokb : (lineV xs b).2 = okb at *
  generalize (famV xs).1 = fam at *
  generalize (famV xs).2 = fine at *
  have t1 : (fid != fid) = false := by simp
  have t2 : (fok != fok) = false := by simp
  have t3 : (oka != oka) = false := by simp
  have t4 : (okb != okb) = false := by simp
  have t5 : (fine != fine) = false := by simp
  have CF := hide cF; have CFS := hide cFS; have CL := hide cL; have CLS := hide cLS; have CM := hide cM; have CMS := hide cMS; have CG := hide cG; have CGS := hide cGS; have HFAM := hide hfam; have HFC := hide hfc; have HFIRST := hide hfirst; have HFOK := hide hfok; have HOKA := hide hoka; have HOKB := hide hokb; have HWF := hide hwf
  clear cF cFS cL cLS cM cMS cG cGS hfam hfc hfirst hwf hl hfok hoka hokb
  go_wp2_with fail
  refine (CF.out _ HX.out).mono ?_; rintro e w2 ⟨rfl, hb⟩
  replace HX := hide (HX.out.below hb (Nat.le_refl _))
  replace HB := hide (bstep HB.out hb HB.out.size); clear hb
  go_wp2_with fail
  refine (CFS.out _ HX.out).mono ?_; rintro e w3 ⟨rfl, hb⟩
  replace HX := hide (HX.out.below hb (Nat.le_refl _))
  replace HB := hide (bstep HB.out hb HB.out.size); clear hb
  go_wp2_with fail
  refine (CL.out _ HX.out).mono ?_; rintro e w4 ⟨rP, rfl, ho, hb⟩
  replace HX := hide (HX.out.below hb (Nat.le_refl _))
  replace HB := hide (bstep HB.out hb HB.out.size); clear hb
  have HP := hide ho.is; clear ho
  go_wp2_with fail
  refine (CLS.out _ HX.out).mono ?_; rintro e w5 ⟨rQ, rfl, ho, hb⟩
  replace HX := hide (HX.out.below hb (Nat.le_refl _))
  replace HP := hide (HP.out.below hb (Nat.le_refl _))
  replace HB := hide (bstep HB.out hb HB.out.size); clear hb
  have HQ := hide ho.is; clear ho
  go_wp2_with fail
  refine (rInts_is _ _ _ _ HP.out HQ.out).mono ?_; rintro e w6 ⟨rfl, hb⟩
  replace HX := hide (HX.out.below hb (Nat.le_refl _))
  replace HP := hide (HP.out.below hb (Nat.le_refl _))
  replace HQ := hide (HQ.out.below hb (Nat.le_refl _))
  replace HB := hide (bstep HB.out hb HB.out.size); clear hb
  clear HQ
  go_wp2_with fail
  refine (CM.out _ HX.out).mono ?_; rintro e w7 ⟨rR, rfl, ho, hb⟩
  replace HX := hide (HX.out.below hb (Nat.le_refl _))
  replace HP := hide (HP.out.below hb (Nat.le_refl _))
  replace HB := hide (bstep HB.out hb HB.out.size); clear hb
  have HR := hide ho.is; clear ho
  go_wp2_with fail
  refine (CMS.out _ HX.out).mono ?_; rintro e w8 ⟨rQ, rfl, ho, hb⟩
  replace HX := hide (HX.out.below hb (Nat.le_refl _))
  replace HP := hide (HP.out.below hb (Nat.le_refl _))
  replace HR := hide (HR.out.below hb (Nat.le_refl _))
  replace HB := hide (bstep HB.out hb HB.out.size); clear hb
  have HQ := hide ho.is; clear ho
  go_wp2_with fail
  refine (rInts_is _ _ _ _ HR.out HQ.out).mono ?_; rintro e w9 ⟨rfl, hb⟩
  replace HX := hide (HX.out.below hb (Nat.le_refl _))
  replace HP := hide (HP.out.below hb (Nat.le_refl _))
  replace HR := hide (HR.out.below hb (Nat.le_refl _))
  replace HQ := hide (HQ.out.below hb (Nat.le_refl _))
  replace HB := hide (bstep HB.out hb HB.out.size); clear hb
  clear HQ CF CFS CL CLS CM CMS
  cases oka with
  | false =>
    cases fok with
    | false =>
      skip
      go_upto_if 132 with fail
      go_cut [] from 132 to 132 (fun wx => Below w.heap.size w wx ∧ Is 5 SMaker.enc wx v xs)
      case first =>
        go_wp2_with fail
        go_meet
        exact ⟨HB.out, HX.out⟩
      case rest =>
        apply_assumption
        exact run2 A cap code w HCODE.out _ hcut.1 _ _ _ _ _ _ _ _ _ _ _ _ _ _ _ _ _ _ _ _ _ _ _ _ _ _ _ _ _ _ _ _ _ _ _ _ _ _ _ _ _ _ _ _ _ _ _ _ _ _ _ _ _ _ _ _ _ _ _ _ _ _ _ _ _ _ _ _ _ _ _ _ _ _ _ _ _ _ _ _ _ _ _ _ _ _ _ _ _ _ _ _ _ _ _ _ _ _ _ _ _ _ _ _ _ _ _ _ _ _ _ _ _ _ _ _ _ _ _ _ _ _ _ _ _ _ _ _ _ _ _ _ _ _ _ _ _ _ _ _ _ _ _ _ _ _ _ _ _ _ _ _ _ _ _ _ _ _ _ _ _ _ _ _ _ _ _ _ _ _ _ _ _ _ _ _ _ _ _ _ _ _ _ _ _ _ _ _ _ _ _ _ _ _ _ _ _ _ _ _ _ _ _ _ _ _ _ _ _ _ _ _ _ _ _ _ _ _ _ _ _ _ _ _ _ _ _ xs a b HWF.out hcut.2 rfl rfl (by rw [HFOK.out]) (by rw [HOKA.out]) (by rw [HOKB.out])
    | true =>
      skip
      obtain ⟨hq1, hq2⟩ := HFC.out (by trivial)
      have d1 := decide_eq_true hq1; have d2 := decide_eq_true hq2
      have ch1 := fun W hi => rHas_is rP la fid W hi
      have ch2 := fun W hi => rHas_is rR lb fid W hi
      simp only [d1] at ch1; simp only [d2] at ch2
      have CH1 := hide ch1; have CH2 := hide ch2
      clear ch1 ch2 d1 d2 hq1 hq2
      go_wp2_with fail
      refine (CH1.out _ HP.out).mono ?_; rintro e w10 ⟨rfl, hb⟩
      replace HX := hide (HX.out.below hb (Nat.le_refl _))
      replace HP := hide (HP.out.below hb (Nat.le_refl _))
      replace HR := hide (HR.out.below hb (Nat.le_refl _))
      replace HB := hide (bstep HB.out hb HB.out.size); clear hb
      go_wp2_with fail
      refine (CH2.out _ HR.out).mono ?_; rintro e w11 ⟨rfl, hb⟩
      replace HX := hide (HX.out.below hb (Nat.le_refl _))
      replace HP := hide (HP.out.below hb (Nat.le_refl _))
      replace HR := hide (HR.out.below hb (Nat.le_refl _))
      replace HB := hide (bstep HB.out hb HB.out.size); clear hb
      go_upto_if 132 with fail
      go_cut [] from 132 to 132 (fun wx => Below w.heap.size w wx ∧ Is 5 SMaker.enc wx v xs)
      case first =>
        go_wp2_with fail
        go_meet
        exact ⟨HB.out, HX.out⟩
      case rest =>
        apply_assumption
        exact run2 A cap code w HCODE.out _ hcut.1 _ _ _ _ _ _ _ _ _ _ _ _ _ _ _ _ _ _ _ _ _ _ _ _ _ _ _ _ _ _ _ _ _ _ _ _ _ _ _ _ _ _ _ _ _ _ _ _ _ _ _ _ _ _ _ _ _ _ _ _ _ _ _ _ _ _ _ _ _ _ _ _ _ _ _ _ _ _ _ _ _ _ _ _ _ _ _ _ _ _ _ _ _ _ _ _ _ _ _ _ _ _ _ _ _ _ _ _ _ _ _ _ _ _ _ _ _ _ _ _ _ _ _ _ _ _ _ _ _ _ _ _ _ _ _ _ _ _ _ _ _ _ _ _ _ _ _ _ _ _ _ _ _ _ _ _ _ _ _ _ _ _ _ _ _ _ _ _ _ _ _ _ _ _ _ _ _ _ _ _ _ _ _ _ _ _ _ _ _ _ _ _ _ _ _ _ _ _ _ _ _ _ _ _ _ _ _ _ _ _ _ _ _ _ _ _ _ _ _ _ _ _ _ _ _ _ _ xs a b HWF.out hcut.2 rfl rfl (by rw [HFOK.out]) (by rw [HOKA.out]) (by rw [HOKB.out])
  | true =>
    cases fok with
    | false =>
      have hh := HFIRST.out (by trivial)
      obtain ⟨lt, hlt⟩ : ∃ lt, la = a :: lt := by cases la with | nil => simp at hh | cons c l => (simp at hh; subst hh; exact ⟨l, rfl⟩)
      subst hlt
      obtain ⟨AP, cP, rfl, hrP, _, _⟩ := HP.out
      obtain ⟨bp, op, rfl, _, hcp⟩ := hrP.get (i := 0) (by simp)
      have e0 := hcp 0 (by omega)
      simp only [encI, List.getElem_cons_zero, Nat.zero_mul, Nat.add_zero] at e0
      clear hcp hrP
      have ta : (a != a) = false := by simp
      have tl0 : ¬ ((a :: lt).length : Int) = 0 := by simp; omega
      have tl1 : (((a :: lt).length : Int) == 0) = false := by simpa using tl0
      have tl2 : 0 < (a :: lt).length := by simp
      go_upto_if 132 with fail
      go_cut [] from 132 to 132 (fun wx => Below w.heap.size w wx ∧ Is 5 SMaker.enc wx v xs)
      case first =>
        go_wp2_with fail
        go_meet
        exact ⟨HB.out, HX.out⟩
      case rest =>
        apply_assumption
        exact run2 A cap code w HCODE.out _ hcut.1 _ _ _ _ _ _ _ _ _ _ _ _ _ _ _ _ _ _ _ _ _ _ _ _ _ _ _ _ _ _ _ _ _ _ _ _ _ _ _ _ _ _ _ _ _ _ _ _ _ _ _ _ _ _ _ _ _ _ _ _ _ _ _ _ _ _ _ _ _ _ _ _ _ _ _ _ _ _ _ _ _ _ _ _ _ _ _ _ _ _ _ _ _ _ _ _ _ _ _ _ _ _ _ _ _ _ _ _ _ _ _ _ _ _ _ _ _ _ _ _ _ _ _ _ _ _ _ _ _ _ _ _ _ _ _ _ _ _ _ _ _ _ _ _ _ _ _ _ _ _ _ _ _ _ _ _ _ _ _ _ _ _ _ _ _ _ _ _ _ _ _ _ _ _ _ _ _ _ _ _ _ _ _ _ _ _ _ _ _ _ _ _ _ _ _ _ _ _ _ _ _ _ _ _ _ _ _ _ _ _ _ _ _ _ _ _ _ _ _ _ _ _ _ _ _ _ _ xs a b HWF.out hcut.2 rfl rfl (by rw [HFOK.out]) (by rw [HOKA.out]) (by rw [HOKB.out])
    | true =>
      have hh := HFIRST.out (by trivial)
      obtain ⟨lt, hlt⟩ : ∃ lt, la = a :: lt := by cases la with | nil => simp at hh | cons c l => (simp at hh; subst hh; exact ⟨l, rfl⟩)
      subst hlt
      obtain ⟨AP, cP, rfl, hrP, _, _⟩ := HP.out
      obtain ⟨bp, op, rfl, _, hcp⟩ := hrP.get (i := 0) (by simp)
      have e0 := hcp 0 (by omega)
      simp only [encI, List.getElem_cons_zero, Nat.zero_mul, Nat.add_zero] at e0
      clear hcp hrP
      have ta : (a != a) = false := by simp
      have tl0 : ¬ ((a :: lt).length : Int) = 0 := by simp; omega
      have tl1 : (((a :: lt).length : Int) == 0) = false := by simpa using tl0
      have tl2 : 0 < (a :: lt).length := by simp
      obtain ⟨hq1, hq2⟩ := HFC.out (by trivial)
      have d1 := decide_eq_true hq1; have d2 := decide_eq_true hq2
      have ch1 := fun W hi => rHas_is (.slice (some ⟨bp, op, none⟩) (a :: lt).length cP) (a :: lt) fid W hi
      have ch2 := fun W hi => rHas_is rR lb fid W hi
      simp only [d1] at ch1; simp only [d2] at ch2
      have CH1 := hide ch1; have CH2 := hide ch2
      clear ch1 ch2 d1 d2 hq1 hq2
      go_wp2_with fail
      refine (CH1.out _ HP.out).mono ?_; rintro e w10 ⟨rfl, hb⟩
      replace HX := hide (HX.out.below hb (Nat.le_refl _))
      replace HP := hide (HP.out.below hb (Nat.le_refl _))
      replace HR := hide (HR.out.below hb (Nat.le_refl _))
      replace HB := hide (bstep HB.out hb HB.out.size); clear hb
      go_wp2_with fail
      refine (CH2.out _ HR.out).mono ?_; rintro e w11 ⟨rfl, hb⟩
      replace HX := hide (HX.out.below hb (Nat.le_refl _))
      replace HP := hide (HP.out.below hb (Nat.le_refl _))
      replace HR := hide (HR.out.below hb (Nat.le_refl _))
      replace HB := hide (bstep HB.out hb HB.out.size); clear hb
      go_upto_if 132 with fail
      go_cut [] from 132 to 132 (fun wx => Below w.heap.size w wx ∧ Is 5 SMaker.enc wx v xs)
      case first =>
        go_wp2_with fail
        go_meet
        exact ⟨HB.out, HX.out⟩
      case rest =>
        apply_assumption
        exact run2 A cap code w HCODE.out _ hcut.1 _ _ _ _ _ _ _ _ _ _ _ _ _ _ _ _ _ _ _ _ _ _ _ _ _ _ _ _ _ _ _ _ _ _ _ _ _ _ _ _ _ _ _ _ _ _ _ _ _ _ _ _ _ _ _ _ _ _ _ _ _ _ _ _ _ _ _ _ _ _ _ _ _ _ _ _ _ _ _ _ _ _ _ _ _ _ _ _ _ _ _ _ _ _ _ _ _ _ _ _ _ _ _ _ _ _ _ _ _ _ _ _ _ _ _ _ _ _ _ _ _ _ _ _ _ _ _ _ _ _ _ _ _ _ _ _ _ _ _ _ _ _ _ _ _ _ _ _ _ _ _ _ _ _ _ _ _ _ _ _ _ _ _ _ _ _ _ _ _ _ _ _ _ _ _ _ _ _ _ _ _ _ _ _ _ _ _ _ _ _ _ _ _ _ _ _ _ _ _ _ _ _ _ _ _ _ _ _ _ _ _ _ _ _ _ _ _ _ _ _ _ _ _ _ _ _ _ xs a b HWF.out hcut.2 rfl rfl (by rw [HFOK.out]) (by rw [HOKA.out]) (by rw [HOKB.out])
end Go.Proofs.Ytapbnggdclpokaa
