/- The walk of FnLevels: it returns true whatever the code; old memory stays. No condition. (Printed by mkfnlev.py.) -/
import Derived.Test.YtomcdkkjknphpaaWFnLev2
namespace Go.Proofs.Ytomcdkkjknphpaa
open Go.RowKit
set_option linter.unusedVariables false
set_option maxRecDepth 100000 in
set_option maxHeartbeats 8000000 in
theorem law_FnLevels (A : Option Addr) (cap : Nat) (code : List Int) (w : World) (hr : Row 1 encU w w.heap.size A code) (hl : code.length ≤ cap) (hc : cap ≤ maxLen) (wz : ∀ z ∈ code, (Lit.int .u8 z).wf = true) :
    Calls Try.prog 4 #[.slice A code.length cap] w fun e w' => e = .returned (.bool true) ∧ Below w.heap.size w w' := by
  have hcode : Code w (.slice A code.length cap) A cap code := ⟨rfl, hr, fun z hz => wf8 (wz z hz), hl, hc⟩
  have hbig := vBig_is A code.length cap w
  by_cases hlen : (65536 : Int) < code.length
  · rw [decide_eq_true hlen] at hbig
    have HBIG := hide hbig; clear hbig hr wz hcode
    go_enter Try.func4, Try.ntmps4
    go_wp2_with fail
    refine HBIG.out.mono ?_; rintro e w' ⟨rfl, rfl⟩
    go_wp2_with fail
    go_ret
    exact ⟨rfl, Below.refl _ _⟩
  rw [decide_eq_false hlen] at hbig
  have HBIG := hide hbig; have HCODE := hide hcode; clear hbig hr wz hcode hlen
  have HB := hide (Below.refl w.heap.size w)
  go_enter Try.func4, Try.ntmps4
  go_wp2_with fail
  refine HBIG.out.mono ?_; rintro e w' ⟨rfl, rfl⟩
  clear HBIG
  go_wp2_with fail
  refine (drawFilledRelief_is _ _ A cap code (HCODE.out.below HB.out (Nat.le_refl _))).mono ?_; rintro e w1 ⟨v, xss, rfl, hg, hb⟩
  replace HB := hide (bstep HB.out hb HB.out.size); clear hb
  have HX := hide hg; clear hg
  have cF := fun (W : World) (hi : IsG W v xss) => implFilledRelief_any v xss W hi
  have cFS := fun (W : World) (hi : IsG W v xss) => specFilledRelief_any v xss W hi
  have cL := fun (W : World) (hi : IsG W v xss) => implLakesOf_any v xss W hi
  have cLS := fun (W : World) (hi : IsG W v xss) => specLakesOf_any v xss W hi
  rw [fill_two] at cF cFS
  rw [lakes_two] at cL cLS
  have hle := lakes_le xss
  have hfu := fun h => @lift_all xss h
  have hone := fun h => @fill_one xss h
  generalize (fillV xss).1 = F at *
  generalize (lakesV xss).1.1 = la at *
  generalize (lakesV xss).1.2 = lb at *
  generalize hok : reliefB xss = ok at *
  have t1 : (ok != ok) = false := by simp
  have t2 : ¬ lb < la := by omega
  have HOK := hide hok; have HFU := hide hfu; have HONE := hide hone; have CF := hide cF; have CFS := hide cFS; have CL := hide cL; have CLS := hide cLS
  clear hok hle hfu hone cF cFS cL cLS
  go_wp2_with fail
  refine (CF.out _ HX.out).mono ?_; rintro e w2 ⟨rF, rfl, ho, hb⟩
  replace HX := hide (HX.out.below hb (Nat.le_refl _))
  replace HB := hide (bstep HB.out hb HB.out.size); clear hb
  have HF := hide ho.isG; clear ho
  go_wp2_with fail
  refine (CFS.out _ HX.out).mono ?_; rintro e w3 ⟨rG, rfl, ho, hb⟩
  replace HX := hide (HX.out.below hb (Nat.le_refl _))
  replace HF := hide (HF.out.below hb (Nat.le_refl _))
  replace HB := hide (bstep HB.out hb HB.out.size); clear hb
  have HG := hide ho.isG; clear ho
  go_wp2_with fail
  refine (vGrid_is _ _ _ _ HF.out HG.out).mono ?_; rintro e w4 ⟨rfl, hb⟩
  replace HX := hide (HX.out.below hb (Nat.le_refl _))
  replace HF := hide (HF.out.below hb (Nat.le_refl _))
  replace HG := hide (HG.out.below hb (Nat.le_refl _))
  replace HB := hide (bstep HB.out hb HB.out.size); clear hb
  go_wp2_with fail
  refine (CL.out _ HX.out).mono ?_; rintro e w5 ⟨rfl, hb⟩
  replace HX := hide (HX.out.below hb (Nat.le_refl _))
  replace HF := hide (HF.out.below hb (Nat.le_refl _))
  replace HG := hide (HG.out.below hb (Nat.le_refl _))
  replace HB := hide (bstep HB.out hb HB.out.size); clear hb
  go_wp2_with fail
  refine (CLS.out _ HX.out).mono ?_; rintro e w6 ⟨rfl, hb⟩
  replace HX := hide (HX.out.below hb (Nat.le_refl _))
  replace HF := hide (HF.out.below hb (Nat.le_refl _))
  replace HG := hide (HG.out.below hb (Nat.le_refl _))
  replace HB := hide (bstep HB.out hb HB.out.size); clear hb
  go_upto_if 101 with fail
  go_cut [14, 15, 16, 17, 18, 19, 20] from 102 to 160 (fun t14 t15 t16 t17 t18 t19 t20 wx => Below w.heap.size w wx)
  case first =>
    cases ok with
    | false =>
      go_wp2_with fail
      go_meet
      exact HB.out
    | true =>
      clear CF CFS CL CLS HG
      have hrel := HOK.out
      have hFe := HONE.out rfl
      have hlift := HFU.out rfl
      subst hFe
      have hsh := (lev_shape (xss := xss)).1
      have hrelF := lev_relief hrel
      have cL := fun (W : World) (hi : IsG W rF (levF xss)) => implLakesOf_any rF (levF xss) W hi
      have cF := fun (W : World) (hi : IsG W rF (levF xss)) => implFilledRelief_any rF (levF xss) W hi
      rw [lakes_full hrel] at cL
      rw [fill_fill hrel] at cF
      have hs1 := fun i hi => @relief_sum xss hrel i hi
      have hs2 := fun i hi => @relief_sum (levF xss) hrelF i hi
      have hr1 := fun i hi => @relief_rows xss hrel i hi
      have hr2 := fun i hi => @relief_rows (levF xss) hrelF i hi
      have hstep := fun n h1 h2 => @liftTo_succ xss (levF xss) n h1 h2
      have h0 : liftTo xss (levF xss) 0 = 0 := by simp [liftTo]
      have hl8 := relief_len hrel
      generalize levF xss = F at *
      have CL := hide cL; have CF := hide cF; have HS1 := hide hs1; have HS2 := hide hs2; have HR1 := hide hr1; have HR2 := hide hr2; have HSTEP := hide hstep; have HLIFT := hide hlift; have H0 := hide h0; have HSH := hide hsh
      clear HOK HONE HFU hrel hrelF cL cF hs1 hs2 hr1 hr2 hstep hlift h0 hsh
      simp only at CL CF
      go_wp2_with fail
      refine (CL.out _ HF.out).mono ?_; rintro e w7 ⟨rfl, hb⟩
      replace HX := hide (HX.out.below hb (Nat.le_refl _))
      replace HF := hide (HF.out.below hb (Nat.le_refl _))
      replace HB := hide (bstep HB.out hb HB.out.size); clear hb
      go_wp2_with fail
      refine (CF.out _ HF.out).mono ?_; rintro e w8 ⟨rH, rfl, ho, hb⟩
      replace HX := hide (HX.out.below hb (Nat.le_refl _))
      replace HF := hide (HF.out.below hb (Nat.le_refl _))
      replace HB := hide (bstep HB.out hb HB.out.size); clear hb
      have HH := hide ho.isG; clear ho
      go_wp2_with fail
      refine (vGrid_is _ _ _ _ HH.out HF.out).mono ?_; rintro e w9 ⟨rfl, hb⟩
      replace HX := hide (HX.out.below hb (Nat.le_refl _))
      replace HF := hide (HF.out.below hb (Nat.le_refl _))
      replace HH := hide (HH.out.below hb (Nat.le_refl _))
      replace HB := hide (bstep HB.out hb HB.out.size); clear hb
      clear HH
      obtain ⟨AX, cX, rfl, _⟩ := HX.out.slice9
      obtain ⟨AF, cF, rfl, _⟩ := HF.out.slice9
      go_wp2_with fail
      go_loopw [19, 20] (fun s i wr => ∃ n : Nat, n ≤ xss.length ∧ i = .int .i64 (n : Int) ∧ ∃ t : Int, s = .int .i64 t ∧ t = liftTo xss F n ∧ -100000 * n ≤ t ∧ t ≤ 100000 * n ∧ IsG wr (.slice AX xss.length cX) xss ∧ IsG wr (.slice AF F.length cF) F ∧ Below w.heap.size w wr) (fun _ i _ => xss.length - (intOf i).toNat)
      case atStart => exact ⟨0, Nat.zero_le _, rfl, 0, rfl, H0.out.symm, by omega, by omega, HX.out, HF.out, HB.out⟩
      case round =>
        clear HX HF HB
        obtain ⟨n, hn, rfl, t, rfl, ht, hb1, hb2, hx, hf, hbel⟩ := hrel
        have HT := hide ht; have HX := hide hx; have HF := hide hf; have HB := hide hbel; clear ht hx hf hbel
        by_cases hlt : n < xss.length
        · have hlt' : (n : Int) < xss.length := by omega
          have hltF : n < F.length := by rw [HSH.out]; exact hlt
          have hltF' : (n : Int) < (F.length : Int) := by omega
          obtain ⟨b, off, A1, c1, rfl, d1, i1⟩ := HX.out.row hlt
          obtain ⟨b', off', A2, c2, rfl, d2, i2⟩ := HF.out.row hltF
          have v1 := fun (m : Nat) => vSum_is (.slice A1 xss[n].length c1) xss[n] (wr.drewN m) i1 (HR1.out n hlt).2 (by have := (HR1.out n hlt).1; omega)
          have v2 := fun (m : Nat) => vSum_is (.slice A2 F[n].length c2) F[n] (wr.drewN m) i2 (HR2.out n hltF).2 (by have := (HR2.out n hltF).1; omega)
          have s1 := HS1.out n hlt
          have s2 := HS2.out n hltF
          have hst := HSTEP.out n hlt hltF
          rw [← HT.out] at hst
          have HST := hide hst; have V1 := hide v1; have V2 := hide v2
          clear hst v1 v2 i1 i2
          generalize xss[n].sum = a1 at *; generalize F[n].sum = a2 at *
          generalize xss[n] = r1 at *; generalize F[n] = r2 at *
          have wr1 : IntKind.i64.wrap (t + a2) = t + a2 := IntWalk.i64_in _ (by omega)
          have wr2 : IntKind.i64.wrap (t + a2 - a1) = t + a2 - a1 := IntWalk.i64_in _ (by omega)
          go_wp2_with fail
          go_quiet (first | (go_at_call_of 27 A1; exact Calls.quiet_of_same ((V1.out _).mono fun _ _ h => ⟨h.1, h.2.symm⟩)) | (go_at_call_of 27 A2; exact Calls.quiet_of_same ((V2.out _).mono fun _ _ h => ⟨h.1, h.2.symm⟩)))
          clear wr1 wr2
          go_wp2_with fail
          go_round
          case measure => (first | (simp [intOf]; done) | (simp [intOf] <;> omega))
          case rel => exact ⟨n + 1, by omega, by go_num, _, rfl, HST.out.symm, by push_cast; omega, by push_cast; omega, HX.out.below (drewN9 (Below.refl _ _) _) (Nat.le_refl _), HF.out.below (drewN9 (Below.refl _ _) _) (Nat.le_refl _), drewN9 HB.out _⟩
        · have hnn : n = xss.length := by omega
          have hql : ¬ (n : Int) < xss.length := by omega
          have hte : t = lb := by rw [HT.out, hnn, HLIFT.out]
          clear hnn HT
          subst hte
          go_wp2_with fail
          go_meet
          exact HB.out
  case rest =>
    apply_assumption
    exact lev2 A cap code w HCODE.out _ hcut _ _ _ _ _ _ _ _ _ _ _ _ _ _ _ _ _ _ _ _ _ _ _ _ _ _ _ _ _ _ _ _ _ _ _ _ _ _ _ _ _ _ _ _ _ _ _ _ _ _ _ _ _ _ _ _ _ _ _ _ _ _ _ _ _ _ _ _ _ _ _ _ _ _ _ _ _ _ _ _ _ _ _ _ _ _ _ _ _ _ _ _ _ _ _ _ _ _ _ _ _ _ _ _ _ _ _ _ _ _ _ _ _ _ _ _ _ _ _ _ _ _ _ _ _ _ _ _ _ _ _ _ _ _ _ _ _ _ _ _ _ _ _ _ _ _ _ _ _ _ _ _ _ _ _ _ _ _ _ _ _ _ _ _ _ _ _ _ _ _ _ _ _ _ _ _ _ _ _ _ _ _ _ _ _ _ _ _ _ _ _ _ _ _ _ _ _ _ _ _ _ _ _ _ _ _ _ _ _ _ _ _ _ _ _ _ _ _ _ _ _ _ _ _ _ _ _ _ _ _ _ _ _ _ _ _ _ _ _ _ _ _ _ _ _ _ _ _ _ _ _ _ _ _ _ _ _ _ _ _ _ _ _ _ _ _ _ _ _ _ _ _ _ _ _ _ _ _ _ _ _ _ _ _ _ _
end Go.Proofs.Ytomcdkkjknphpaa
