/- The walk of FnRoads: it returns true whatever the code; old memory stays. No condition. (Printed by mkfnroads.py.) -/
import Derived.Test.YtefnmfkndepfgaaL10Z2
import Derived.Test.YtefnmfkndepfgaaLw10
namespace Go.Proofs.Ytefnmfkndepfgaa
open Go.RowKit
set_option linter.unusedVariables false
set_option maxRecDepth 100000 in
set_option maxHeartbeats 8000000 in
theorem law_FnRoads (A : Option Addr) (cap : Nat) (code : List Int) (w : World) (hr : Row 1 encU w w.heap.size A code) (hl : code.length ≤ cap) (hc : cap ≤ maxLen) (wz : ∀ z ∈ code, (Lit.int .u8 z).wf = true) :
    Calls Try.prog 14 #[.slice A code.length cap] w fun e w' => e = .returned (.bool true) ∧ Below w.heap.size w w' := by
  have hcode : Code w (.slice A code.length cap) A cap code := ⟨rfl, hr, fun z hz => wf8 (wz z hz), hl, hc⟩
  have hbig := vBig_is A code.length cap w
  by_cases hlen : (65536 : Int) < code.length
  · rw [decide_eq_true hlen] at hbig
    have HBIG := hide hbig; clear hbig hr wz hcode
    go_enter Try.func14, Try.ntmps14
    go_wp2_with fail
    refine HBIG.out.mono ?_; rintro e w' ⟨rfl, rfl⟩
    go_wp2_with fail
    go_ret
    exact ⟨rfl, Below.refl _ _⟩
  rw [decide_eq_false hlen] at hbig
  have HBIG := hide hbig; have HCODE := hide hcode; clear hbig hr wz hcode hlen
  have HB := hide (Below.refl w.heap.size w)
  go_enter Try.func14, Try.ntmps14
  go_wp2_with fail
  refine HBIG.out.mono ?_; rintro e w' ⟨rfl, rfl⟩
  clear HBIG
  go_wp2_with fail
  refine (drawReverseRoad_is _ _ A cap code (HCODE.out.below HB.out (Nat.le_refl _))).mono ?_; rintro e w1 ⟨v, xs, rfl, hxl, ho, hb⟩
  replace HB := hide (bstep HB.out hb HB.out.size); clear hb
  have HX := hide ho.is; clear ho
  have hone : roadB xs = true → rlV (revV xs).1 = ((rlV xs).1, true) ∧ revV (revV xs).1 = (xs, true) := fun h => by
    rw [rev_one xs h, rl_rev xs h, rev_rev xs h]
    exact ⟨by rw [← h, ← rl_two], rfl⟩
  have cRev := fun (W : World) (hi : Is 2 SCorner.enc W v xs) => implReverseRoad_any v xs W hi
  have cRevS := fun (W : World) (hi : Is 2 SCorner.enc W v xs) => specReverseRoad_any v xs W hi
  have cLen := fun (W : World) (hi : Is 2 SCorner.enc W v xs) => implRoadLength_any v xs W hi
  have cLenS := fun (W : World) (hi : Is 2 SCorner.enc W v xs) => specRoadLength_any v xs W hi
  have cIs := fun (W : World) (hi : Is 2 SCorner.enc W v xs) => implIsRoadLine_any v xs W hi
  have cLB := fun (r : Value) (W : World) (hi : Is 2 SCorner.enc W r (revV xs).1) => implRoadLength_any r (revV xs).1 W hi
  have cRB := fun (r : Value) (W : World) (hi : Is 2 SCorner.enc W r (revV xs).1) => implReverseRoad_any r (revV xs).1 W hi
  rw [rev_two] at cRev cRevS
  rw [rl_two] at cLen cLenS
  generalize roadB xs = r at *
  generalize (rlV xs).1 = n at *
  generalize (revV xs).1 = ys at *
  have t1 : (r != r) = false := by simp
  have HONE := hide hone; have CRev := hide cRev; have CRevS := hide cRevS; have CLen := hide cLen; have CLenS := hide cLenS; have CIs := hide cIs; have CLB := hide cLB; have CRB := hide cRB
  clear hone cRev cRevS cLen cLenS cIs cLB cRB
  go_wp2_with fail
  refine (CRev.out _ HX.out).mono ?_; rintro e w2 ⟨rB, rfl, ho, hb⟩
  replace HX := hide (HX.out.below hb (Nat.le_refl _))
  replace HB := hide (bstep HB.out hb HB.out.size); clear hb
  have HR := hide ho.is; clear ho
  go_wp2_with fail
  refine (CRevS.out _ HX.out).mono ?_; rintro e w3 ⟨rC, rfl, ho, hb⟩
  replace HX := hide (HX.out.below hb (Nat.le_refl _))
  replace HR := hide (HR.out.below hb (Nat.le_refl _))
  replace HB := hide (bstep HB.out hb HB.out.size); clear hb
  have HS := hide ho.is; clear ho
  go_wp2_with fail
  refine (vCorners_is _ _ _ _ HR.out HS.out).mono ?_; rintro e w4 ⟨rfl, hb⟩
  replace HX := hide (HX.out.below hb (Nat.le_refl _))
  replace HR := hide (HR.out.below hb (Nat.le_refl _))
  replace HS := hide (HS.out.below hb (Nat.le_refl _))
  replace HB := hide (bstep HB.out hb HB.out.size); clear hb
  go_wp2_with fail
  refine (CIs.out _ HX.out).mono ?_; rintro e w5 ⟨rfl, hb⟩
  replace HX := hide (HX.out.below hb (Nat.le_refl _))
  replace HR := hide (HR.out.below hb (Nat.le_refl _))
  replace HS := hide (HS.out.below hb (Nat.le_refl _))
  replace HB := hide (bstep HB.out hb HB.out.size); clear hb
  go_wp2_with fail
  refine (CLen.out _ HX.out).mono ?_; rintro e w6 ⟨rfl, hb⟩
  replace HX := hide (HX.out.below hb (Nat.le_refl _))
  replace HR := hide (HR.out.below hb (Nat.le_refl _))
  replace HS := hide (HS.out.below hb (Nat.le_refl _))
  replace HB := hide (bstep HB.out hb HB.out.size); clear hb
  go_wp2_with fail
  refine (CLenS.out _ HX.out).mono ?_; rintro e w7 ⟨rfl, hb⟩
  replace HX := hide (HX.out.below hb (Nat.le_refl _))
  replace HR := hide (HR.out.below hb (Nat.le_refl _))
  replace HS := hide (HS.out.below hb (Nat.le_refl _))
  replace HB := hide (bstep HB.out hb HB.out.size); clear hb
  go_upto_if 92 with fail
  go_cut [] (fun wx => Below w.heap.size w wx)
  case first =>
    cases r with
    | false =>
      go_wp2_with fail
      go_meet
      exact HB.out
    | true =>
      obtain ⟨e1, e2⟩ := HONE.out rfl
      have cLB := CLB.out; have cRB := CRB.out
      rw [e1] at cLB
      rw [e2] at cRB
      replace CLB := hide cLB; replace CRB := hide cRB; clear cLB cRB e1 e2
      go_wp2_with fail
      refine (CLB.out _ _ HR.out).mono ?_; rintro e w8 ⟨rfl, hb⟩
      replace HX := hide (HX.out.below hb (Nat.le_refl _))
      replace HR := hide (HR.out.below hb (Nat.le_refl _))
      replace HS := hide (HS.out.below hb (Nat.le_refl _))
      replace HB := hide (bstep HB.out hb HB.out.size); clear hb
      go_wp2_with fail
      refine (CRB.out _ _ HR.out).mono ?_; rintro e w9 ⟨rT, rfl, ho, hb⟩
      replace HX := hide (HX.out.below hb (Nat.le_refl _))
      replace HR := hide (HR.out.below hb (Nat.le_refl _))
      replace HS := hide (HS.out.below hb (Nat.le_refl _))
      replace HB := hide (bstep HB.out hb HB.out.size); clear hb
      have HT := hide ho.is; clear ho
      go_wp2_with fail
      refine (vCorners_is _ _ _ _ HT.out HX.out).mono ?_; rintro e w10 ⟨rfl, hb⟩
      replace HX := hide (HX.out.below hb (Nat.le_refl _))
      replace HR := hide (HR.out.below hb (Nat.le_refl _))
      replace HS := hide (HS.out.below hb (Nat.le_refl _))
      replace HT := hide (HT.out.below hb (Nat.le_refl _))
      replace HB := hide (bstep HB.out hb HB.out.size); clear hb
      go_wp2_with fail
      go_meet
      exact HB.out
  case rest =>
  have HB := hide hcut
  generalize wc = w30 at *
  go_wp2_with fail
  refine (drawPlainRoad_is _ _ A cap code (HCODE.out.below HB.out (Nat.le_refl _))).mono ?_; rintro e w31 ⟨v, xs, rfl, hxl, ho, hb⟩
  replace HB := hide (bstep HB.out hb HB.out.size); clear hb
  have HX := hide ho.is; clear ho
  have hone : roadB xs = true → (bendsV (plainV xs).1).2 = true ∧ (∀ i (h : i < (bendsV (plainV xs).1).1.size), ((bendsV (plainV xs).1).1[i].toNat : Int) ≠ 115) ∧ (∀ i (h : i < (bendsV xs).1.size), ((bendsV xs).1[i].toNat : Int) = 115 ↔ bendAt xs i = 115) ∧ (((plainV xs).1.length : Int) + (straightN xs (bendsV xs).1.size : Int) = (xs.length : Int)) ∧ (bendsV xs).1.size ≤ 40 ∧ (bendsV (plainV xs).1).1.size ≤ 40 := fun h => by
    obtain ⟨p1, p2, p3, p4, p5, p6, p7⟩ := plain_law h
    have hl := (road_len h).2
    have e1 : ((bendsV xs).1).size = (bendsL xs).length := by rw [p4]; rfl
    refine ⟨p3, fun i hi => ?_, fun i hi => ?_, by rw [e1]; omega, by rw [e1]; simp [bendsL, bendsN]; omega, by
      have e2 : ((bendsV (plainV xs).1).1).size = (bendsL (plainV xs).1).length := by rw [p5]; rfl
      rw [e2]; simp [bendsL, bendsN]; omega⟩
    · have hm : (bendsV (plainV xs).1).1[i] ∈ bendsL (plainV xs).1 := by
        generalize bendsV (plainV xs).1 = z at *
        obtain ⟨z1, z2⟩ := z
        simp only at *
        subst p5
        exact List.getElem_mem (show i < (bendsL (plainV xs).1).length from hi)
      intro he
      refine p6 _ hm (UInt8.toNat_inj.1 ?_)
      have h115 : (115 : UInt8).toNat = 115 := rfl
      omega
    · have hm : (bendsV xs).1[i] = bendAt xs i := by
        generalize bendsV xs = z at *
        obtain ⟨z1, z2⟩ := z
        simp only at *
        subst p4
        show (bendsL xs)[i]'(show i < (bendsL xs).length from hi) = _
        simp [bendsL, bendsN]
      rw [hm]
      have h115 : (115 : UInt8).toNat = 115 := rfl
      rw [← UInt8.toNat_inj]
      omega
  have cPl := fun (W : World) (hi : Is 2 SCorner.enc W v xs) => implPlainRoad_any v xs W hi
  have cPlS := fun (W : World) (hi : Is 2 SCorner.enc W v xs) => specPlainRoad_any v xs W hi
  have cBe := fun (W : World) (hi : Is 2 SCorner.enc W v xs) => implBendsOf_any v xs W hi
  have cBeS := fun (W : World) (hi : Is 2 SCorner.enc W v xs) => specBendsOf_any v xs W hi
  have cBP := fun (r : Value) (W : World) (hi : Is 2 SCorner.enc W r (plainV xs).1) => implBendsOf_any r (plainV xs).1 W hi
  rw [plain_two] at cPl cPlS
  rw [bends_two] at cBe cBeS
  have hsn := fun n => straightN_succ xs n
  have hsl := fun n => straightN_le xs n
  have hs0 : straightN xs 0 = 0 := rfl
  generalize roadB xs = r at *
  generalize (bendsV xs).1 = s at *
  generalize straightN xs = sN at *
  generalize bendAt xs = bA at *
  generalize (bendsV (plainV xs).1).1 = s2 at *
  generalize (bendsV (plainV xs).1).2 = b2 at *
  generalize (plainV xs).1 = ys at *
  have t1 : (r != r) = false := by simp
  have t2 : (s.toList == s.toList) = true := by simp
  have HONE := hide hone; have CPl := hide cPl; have CPlS := hide cPlS; have CBe := hide cBe; have CBeS := hide cBeS; have CBP := hide cBP; have HSN := hide hsn; have HSL := hide hsl; have HS0 := hide hs0
  clear hone cPl cPlS cBe cBeS cBP hsn hsl hs0
  go_wp2_with fail
  refine (CPl.out _ HX.out).mono ?_; rintro e w32 ⟨rB, rfl, ho, hb⟩
  replace HX := hide (HX.out.below hb (Nat.le_refl _))
  replace HB := hide (bstep HB.out hb HB.out.size); clear hb
  have HR := hide ho.is; clear ho
  go_wp2_with fail
  refine (CPlS.out _ HX.out).mono ?_; rintro e w33 ⟨rC, rfl, ho, hb⟩
  replace HX := hide (HX.out.below hb (Nat.le_refl _))
  replace HR := hide (HR.out.below hb (Nat.le_refl _))
  replace HB := hide (bstep HB.out hb HB.out.size); clear hb
  have HS := hide ho.is; clear ho
  go_wp2_with fail
  refine (vCorners_is _ _ _ _ HR.out HS.out).mono ?_; rintro e w34 ⟨rfl, hb⟩
  replace HX := hide (HX.out.below hb (Nat.le_refl _))
  replace HR := hide (HR.out.below hb (Nat.le_refl _))
  replace HS := hide (HS.out.below hb (Nat.le_refl _))
  replace HB := hide (bstep HB.out hb HB.out.size); clear hb
  go_wp2_with fail
  refine (CBe.out _ HX.out).mono ?_; rintro e w35 ⟨rfl, hb⟩
  replace HX := hide (HX.out.below hb (Nat.le_refl _))
  replace HR := hide (HR.out.below hb (Nat.le_refl _))
  replace HS := hide (HS.out.below hb (Nat.le_refl _))
  replace HB := hide (bstep HB.out hb HB.out.size); clear hb
  go_wp2_with fail
  refine (CBeS.out _ HX.out).mono ?_; rintro e w36 ⟨rfl, hb⟩
  replace HX := hide (HX.out.below hb (Nat.le_refl _))
  replace HR := hide (HR.out.below hb (Nat.le_refl _))
  replace HS := hide (HS.out.below hb (Nat.le_refl _))
  replace HB := hide (bstep HB.out hb HB.out.size); clear hb
  go_upto_if 164 with fail
  go_cut [] (fun wx => Below w.heap.size w wx)
  case first =>
    cases r with
    | false =>
      go_wp2_with fail
      go_meet
      exact HB.out
    | true =>
      obtain ⟨rfl, e2, e3, e4, e5, e6⟩ := HONE.out rfl
      have E2 := hide e2; have E3 := hide e3; have E4 := hide e4; clear e2 e3 e4
      go_wp2_with fail
      refine (CBP.out _ _ HR.out).mono ?_; rintro e w37 ⟨rfl, hb⟩
      replace HX := hide (HX.out.below hb (Nat.le_refl _))
      replace HR := hide (HR.out.below hb (Nat.le_refl _))
      replace HS := hide (HS.out.below hb (Nat.le_refl _))
      replace HB := hide (bstep HB.out hb HB.out.size); clear hb
      obtain ⟨AX, cX, rfl, _, _, hcX⟩ := HX.out
      obtain ⟨AR, cR, rfl, _, _, hcR⟩ := HR.out
      go_wp2_with fail
      go_loopw [27, 28] (fun c i wr => ∃ q : Nat, q ≤ s.size ∧ i = .int .i64 (q : Int) ∧ c = .int .i64 (sN q : Int) ∧ Below w.heap.size w wr) (fun _ i _ => s.size - (intOf i).toNat)
      case atStart => exact ⟨0, Nat.zero_le _, rfl, by rw [HS0.out]; rfl, HB.out⟩
      case round =>
        clear HB
        obtain ⟨q, hq, rfl, rfl, hbel⟩ := hrel
        have HB := hide hbel; clear hbel
        have hq1 := HSL.out q; have hq2 := HSN.out q
        have HQ := hide hq2; clear hq2
        by_cases hlt : q < s.size
        · have hbv := E3.out q hlt
          by_cases hc : (s[q].toNat : Int) = 115
          · have hn : sN (q + 1) = sN q + 1 := by rw [HQ.out, if_pos (hbv.1 hc)]
            have HN := hide hn; clear hn hbv
            go_wp2_with fail
            go_round
            case measure => (simp [intOf] <;> omega)
            case rel => exact ⟨q + 1, by omega, by go_num, by rw [HN.out]; go_num, HB.out⟩
          · have hn : sN (q + 1) = sN q := by rw [HQ.out, if_neg (fun h => hc (hbv.2 h))]; rfl
            have HN := hide hn; clear hn hbv
            have hc2 : ((s[q].toNat : Int) == 115) = false := by simp [hc]
            go_wp2_with fail
            go_round
            case measure => (simp [intOf] <;> omega)
            case rel => exact ⟨q + 1, by omega, by go_num, by rw [HN.out], HB.out⟩
        · have hqe : q = s.size := by omega
          have e4 := E4.out
          rw [← hqe] at e4
          have HQE := hide hqe; clear hqe
          have e4b : ((ys.length : Int) + (sN q : Int) != (xs.length : Int)) = false := by rw [e4]; simp
          go_wp2_with fail
          go_loopw [29] (fun i wr => ∃ q : Nat, q ≤ s2.size ∧ i = .int .i64 (q : Int) ∧ Below w.heap.size w wr) (fun i _ => s2.size - (intOf i).toNat)
          case atStart => exact ⟨0, Nat.zero_le _, rfl, HB.out⟩
          case round =>
            clear HB e4 e4b
            obtain ⟨q, hq, rfl, hbel⟩ := hrel
            have HB := hide hbel; clear hbel
            by_cases hlt : q < s2.size
            · have hc := E2.out q hlt
              have hc2 : ((s2[q].toNat : Int) == 115) = false := by simp [hc]
              go_wp2_with fail
              go_round
              case measure => (simp [intOf] <;> omega)
              case rel => exact ⟨q + 1, by omega, by go_num, HB.out⟩
            · go_wp2_with fail
              go_meet
              exact HB.out
  case rest =>
  have HB := hide hcut
  generalize wc = w60 at *
  go_wp2_with fail
  refine (drawAlongRoad_is _ _ A cap code (HCODE.out.below HB.out (Nat.le_refl _))).mono ?_; rintro e w61 ⟨v, n, xs, rfl, hxl, ho, hb⟩
  replace HB := hide (bstep HB.out hb HB.out.size); clear hb
  have HX := hide ho.is; clear ho
  have hone := fun h => (⟨@along_law xs n h, @along_bd xs n h⟩ : _ ∧ _)
  have cAl := fun (W : World) (hi : Is 2 SCorner.enc W v xs) => implAlongRoad_any v xs n W hi
  have cAlS := fun (W : World) (hi : Is 2 SCorner.enc W v xs) => specAlongRoad_any v xs n W hi
  generalize (alongV xs n).1 = p at *
  generalize (alongV xs n).2.1 = q at *
  generalize (alongV xs n).2.2 = b at *
  have t1 : (b != b) = false := by simp
  have HONE := hide hone; have CAl := hide cAl; have CAlS := hide cAlS; clear hone cAl cAlS
  go_wp2_with fail
  refine (CAl.out _ HX.out).mono ?_; rintro e w62 ⟨rfl, hb⟩
  replace HX := hide (HX.out.below hb (Nat.le_refl _))
  replace HB := hide (bstep HB.out hb HB.out.size); clear hb
  go_wp2_with fail
  refine (CAlS.out _ HX.out).mono ?_; rintro e w63 ⟨rfl, hb⟩
  replace HX := hide (HX.out.below hb (Nat.le_refl _))
  replace HB := hide (bstep HB.out hb HB.out.size); clear hb
  cases b with
  | false =>
    go_wp2_with fail
    go_ret
    exact ⟨rfl, HB.out⟩
  | true =>
    obtain ⟨⟨pn, rfl, hp1, hp2, hp3⟩, hn1, hn2⟩ := HONE.out rfl
    by_cases hp0 : pn = 0
    · have hq := hp2 hp0
      subst hp0 hq
      clear hp2 hp3
      go_wp2_with fail
      go_ret
      exact ⟨rfl, HB.out⟩
    · obtain ⟨h3, h4⟩ := hp3 (by omega)
      have hpp : (0 : Int) < pn := by omega
      obtain ⟨AX, cX, rfl, _, hcx, hcm⟩ := HX.out
      have hk := HX.out.take (m := pn + 1) (by omega)
      have cL := fun (W : World) (hi : Is 2 SCorner.enc W (.slice AX (pn + 1) cX) (xs.take (pn + 1))) => implRoadLength_any _ _ W hi
      rw [h3] at cL
      generalize (rlV (xs.take (pn + 1))).1 = m at *
      have HK := hide hk; have CL := hide cL; clear hk cL hp2 hp3 h3
      have q1 : (pn : Int) + 1 ≤ cX := by omega
      have q2 : ((pn : Int) + 1).toNat = pn + 1 := by omega
      have hcm2 : cX ≤ 9223372036854775807 := by simp only [maxLen] at hcm; omega
      go_wp2_with fail
      refine (CL.out _ HK.out).mono ?_; rintro e w70 ⟨rfl, hb⟩
      replace HB := hide (bstep HB.out hb HB.out.size); clear hb
      go_wp2_with fail
      go_ret
      exact ⟨rfl, HB.out⟩
end Go.Proofs.Ytefnmfkndepfgaa
