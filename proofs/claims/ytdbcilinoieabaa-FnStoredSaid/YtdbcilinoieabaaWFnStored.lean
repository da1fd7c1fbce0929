/- The walk of FnStored: it returns true whatever the code; old memory stays. No condition. (Printed by mkfnstored.py.) -/
import Derived.Test.YtdbcilinoieabaaWFnSto2
import Derived.Test.YtdbcilinoieabaaL6G
import Derived.Deep.CutBlock
namespace Go.Proofs.Ytdbcilinoieabaa
open Go.RowKit
set_option linter.unusedVariables false
set_option maxRecDepth 100000 in
set_option maxHeartbeats 8000000 in
theorem law_FnStored (A : Option Addr) (cap : Nat) (code : List Int) (w : World) (hr : Row 1 encU w w.heap.size A code) (hl : code.length ≤ cap) (hc : cap ≤ maxLen) (wz : ∀ z ∈ code, (Lit.int .u8 z).wf = true) :
    Calls Try.prog 7 #[.slice A code.length cap] w fun e w' => e = .returned (.bool true) ∧ Below w.heap.size w w' := by
  have hcode : Code w (.slice A code.length cap) A cap code := ⟨rfl, hr, fun z hz => wf8 (wz z hz), hl, hc⟩
  have hbig := rBig_is A code.length cap w
  by_cases hlen : (65536 : Int) < code.length
  · rw [decide_eq_true hlen] at hbig
    have HBIG := hide hbig; clear hbig hr wz hcode
    go_enter Try.func7, Try.ntmps7
    go_wp2_with fail
    refine HBIG.out.mono ?_; rintro e w' ⟨rfl, rfl⟩
    go_wp2_with fail
    go_ret
    exact ⟨rfl, Below.refl _ _⟩
  rw [decide_eq_false hlen] at hbig
  have HBIG := hide hbig; have HCODE := hide hcode; clear hbig hr wz hcode hlen
  have HB := hide (Below.refl w.heap.size w)
  go_enter Try.func7, Try.ntmps7
  go_wp2_with fail
  refine HBIG.out.mono ?_; rintro e w' ⟨rfl, rfl⟩
  clear HBIG
  go_wp2_with fail
  refine (drawStoreAll_is _ _ A cap code (HCODE.out.below HB.out (Nat.le_refl _))).mono ?_; rintro e w1 ⟨v, u, fs, ds, rfl, hfit, hl, hv, hu, hb⟩
  replace HB := hide (bstep HB.out hb HB.out.size); clear hb
  have HV := hide hv; clear hv
  have HU := hide hu; clear hu
  have cP := fun (W : World) (hv : Is 4 SFlat.enc W v fs) (hu : IsD W u ds) => StoreAllI_is v u fs ds W hv hu hfit
  have cPS := fun (W : World) (hv : Is 4 SFlat.enc W v fs) (hu : IsD W u ds) => StoreAllS_is v u fs ds W hv hu hfit
  have hlaw := fun h => @store_law fs ds h
  have hst : stA fs ds = if goodDs fs ds = true then (stV fs ds, looseIds fs (stV fs ds), true) else ([], [], false) := rfl
  generalize goodDs fs ds = ok at *
  have hok : (stA fs ds).2.2 = ok := by rw [hst]; cases ok <;> rfl
  rw [hok] at cP cPS
  generalize stA fs ds = sa at *
  have t1 : (ok != ok) = false := by simp
  have CP := hide cP; have CPS := hide cPS; have HLAW := hide hlaw; have HFIT := hide hfit; have HST := hide hst
  clear cP cPS hlaw hfit hst hok
  go_wp2_with fail
  refine (CP.out _ HV.out HU.out).mono ?_; rintro e w2 ⟨rP, qP, rfl, hp, hq, hb⟩
  replace HV := hide (HV.out.below hb (Nat.le_refl _))
  replace HU := hide (HU.out.below hb (Nat.le_refl _))
  replace HB := hide (bstep HB.out hb HB.out.size); clear hb
  have HP := hide hp; clear hp
  have HQ := hide hq; clear hq
  go_wp2_with fail
  refine (CPS.out _ HV.out HU.out).mono ?_; rintro e w3 ⟨rS, qS, rfl, hp, hq, hb⟩
  replace HV := hide (HV.out.below hb (Nat.le_refl _))
  replace HU := hide (HU.out.below hb (Nat.le_refl _))
  replace HP := hide (HP.out.below hb (Nat.le_refl _))
  replace HQ := hide (HQ.out.below hb (Nat.le_refl _))
  replace HB := hide (bstep HB.out hb HB.out.size); clear hb
  have HS := hide hp; clear hp
  have HT := hide hq; clear hq
  go_wp2_with fail
  refine (rInts_is _ _ _ _ HQ.out HT.out).mono ?_; rintro e w4 ⟨rfl, hb⟩
  replace HV := hide (HV.out.below hb (Nat.le_refl _))
  replace HU := hide (HU.out.below hb (Nat.le_refl _))
  replace HP := hide (HP.out.below hb (Nat.le_refl _))
  replace HQ := hide (HQ.out.below hb (Nat.le_refl _))
  replace HS := hide (HS.out.below hb (Nat.le_refl _))
  replace HT := hide (HT.out.below hb (Nat.le_refl _))
  replace HB := hide (bstep HB.out hb HB.out.size); clear hb
  go_wp2_with fail
  refine (rDrawers_is _ _ _ _ HP.out HS.out).mono ?_; rintro e w5 ⟨rfl, hb⟩
  replace HV := hide (HV.out.below hb (Nat.le_refl _))
  replace HU := hide (HU.out.below hb (Nat.le_refl _))
  replace HP := hide (HP.out.below hb (Nat.le_refl _))
  replace HQ := hide (HQ.out.below hb (Nat.le_refl _))
  replace HS := hide (HS.out.below hb (Nat.le_refl _))
  replace HT := hide (HT.out.below hb (Nat.le_refl _))
  replace HB := hide (bstep HB.out hb HB.out.size); clear hb
  clear HS HT CP CPS
  go_upto_if 68 with fail
  go_cut [11, 12, 13, 14, 15, 16, 17, 18, 19, 20] from 69 to 160 (fun t11 t12 t13 t14 t15 t16 t17 t18 t19 t20 wx => Below w.heap.size w wx ∧ Is 4 SFlat.enc wx v fs ∧ IsD wx u ds)
  case first =>
    cases ok with
    | false =>
      go_wp2_with fail
      go_meet
      exact ⟨HB.out, HV.out, HU.out⟩
    | true =>
      have hsa := HST.out
      rw [if_pos rfl] at hsa
      subst hsa
      obtain ⟨hgs, hnone, heach⟩ := HLAW.out rfl
      clear HLAW HST
      have hp := HP.out; have hq := HQ.out
      simp only at hp hq
      clear HP HQ
      have hlo : loA fs (stV fs ds) = (looseIds fs (stV fs ds), true) := if_pos hgs
      have cL := fun (W : World) (hv : Is 4 SFlat.enc W v fs) (hr : IsD W rP (stV fs ds)) => LooseFlats_is v rP fs (stV fs ds) W hv hr HFIT.out
      rw [hlo] at cL
      simp only at cL
      have cD := fun (W : World) (x : Int) (hv : Is 4 SFlat.enc W v fs) (hr : IsD W rP (stV fs ds)) => DrawersForI_is v rP fs (stV fs ds) x W hv hr HFIT.out
      have cO := fun (W : World) (x : Int) (hv : Is 4 SFlat.enc W v fs) (hu : IsD W u ds) => DrawerOf_is v u fs ds x W hv hu HFIT.out
      have cN := fun (W : World) (x : Int) (hv : Is 4 SFlat.enc W v fs) (hr : IsD W rP (stV fs ds)) => DrawerOf_is v rP fs (stV fs ds) x W hv hr HFIT.out
      generalize looseIds fs (stV fs ds) = ids at *
      generalize stV fs ds = sv at *
      have HP := hide hp; have HQ := hide hq; have CL := hide cL; have CD := hide cD; have CO := hide cO; have CN := hide cN; have HNONE := hide hnone; have HEACH := hide heach
      clear hp hq cL cD cO cN hnone heach hgs hlo
      go_wp2_with fail
      refine (CL.out _ HV.out HP.out).mono ?_; rintro e w6 ⟨rL, rfl, hll, hb⟩
      replace HV := hide (HV.out.below hb (Nat.le_refl _))
      replace HU := hide (HU.out.below hb (Nat.le_refl _))
      replace HP := hide (HP.out.below hb (Nat.le_refl _))
      replace HQ := hide (HQ.out.below hb (Nat.le_refl _))
      replace HB := hide (bstep HB.out hb HB.out.size); clear hb
      have HL := hide hll; clear hll
      go_wp2_with fail
      refine (rInts_is _ _ _ _ HL.out HQ.out).mono ?_; rintro e w7 ⟨rfl, hb⟩
      replace HV := hide (HV.out.below hb (Nat.le_refl _))
      replace HU := hide (HU.out.below hb (Nat.le_refl _))
      replace HP := hide (HP.out.below hb (Nat.le_refl _))
      replace HQ := hide (HQ.out.below hb (Nat.le_refl _))
      replace HL := hide (HL.out.below hb (Nat.le_refl _))
      replace HB := hide (bstep HB.out hb HB.out.size); clear hb
      clear HL CL
      obtain ⟨AQ, cQ, rfl, hrQ, hq1, hq2⟩ := HQ.out
      have hql := HQ.out.len
      have HRQ := hide hrQ
      generalize hwl : w7 = wl at *
      have hszl : w.heap.size ≤ wl.heap.size := HB.out.size
      clear hwl hrQ
      go_upto_block 0 with fail
      go_cut [13, 14, 15] from 83 to 105 (fun t13 t14 t15 wx => Below wl.heap.size wl wx)
      case first =>
        go_wp2_with fail
        go_loopw [13] (fun i wr => ∃ n : Nat, n ≤ ids.length ∧ i = .int .i64 (n : Int) ∧ Below wl.heap.size wl wr) (fun i _ => ids.length - (intOf i).toNat)
        case atStart => exact ⟨0, Nat.zero_le _, rfl, Below.refl _ _⟩
        case round =>
          obtain ⟨n, hn, rfl, hbel⟩ := hrel
          have HBL := hide hbel
          by_cases hlt : n < ids.length
          · obtain ⟨b, off, rfl, hb, c0⟩ := Ints.cells HRQ.out hlt hbel
            have hdf := HNONE.out _ (List.getElem_mem hlt)
            generalize ids[n] = y0 at *
            have hlt2 : (n : Int) < ids.length := by omega
            have HLT := hide hlt2
            have hcd := CD.out wr y0 (HV.out.below hbel (Nat.le_refl _)) (HP.out.below hbel (Nat.le_refl _))
            rw [hdf] at hcd
            have HCD := hide hcd
            clear hcd hdf hbel
            go_wp2_with fail
            refine HCD.out.mono ?_; rintro e w40 ⟨r40, rfl, ho, hb40⟩
            have hb4 := bstep HBL.out hb40 HBL.out.size
            obtain ⟨A4, c4, rfl, _, _, _⟩ := ho.row
            have HB4 := hide hb4
            clear hb40 hb4 ho c0 HCD
            go_wp2_with fail
            go_round
            case measure => (have hq := HLT.out; simp [intOf]; omega)
            case rel => have hq := HLT.out; exact ⟨n + 1, by omega, by go_num, HB4.out⟩
          · have hk : n = ids.length := by omega
            have HK := hide hk; clear hk hbel
            go_wp2_with fail
            go_meet
            exact HBL.out
      case rest =>
        generalize wc = wm at *
        have hszm : wl.heap.size ≤ wm.heap.size := hcut.size
        replace HB := hide (HB.out.trans (hcut.mono hszl))
        replace HV := hide (HV.out.below hcut (Nat.le_refl _)); replace HU := hide (HU.out.below hcut (Nat.le_refl _)); replace HP := hide (HP.out.below hcut (Nat.le_refl _)); replace HQ := hide (HQ.out.below hcut (Nat.le_refl _))
        clear hcut
        have hszw : w.heap.size ≤ wm.heap.size := HB.out.size
        obtain ⟨AX, cX, rfl, hrX, hx1, hx2⟩ := HV.out
        have HRX := hide hrX
        clear hrX
        go_wp2_with fail
        go_loopw [16] (fun i wr => ∃ n : Nat, n ≤ fs.length ∧ i = .int .i64 (n : Int) ∧ Below wm.heap.size wm wr) (fun i _ => fs.length - (intOf i).toNat)
        case atStart => exact ⟨0, Nat.zero_le _, rfl, Below.refl _ _⟩
        case round =>
          obtain ⟨n, hn, rfl, hbel⟩ := hrel
          have HBL := hide hbel
          by_cases hlt : n < fs.length
          · obtain ⟨b, off, rfl, hb, c0, _, _, _⟩ := SFlat.cells HRX.out hlt hbel
            obtain ⟨a, bb, h1, h2, h3, h4⟩ := HEACH.out n hlt
            generalize fs[n].ident = y0 at *
            have hlt2 : (n : Int) < fs.length := by omega
            have HLT := hide hlt2
            have hco := CO.out wr y0 (HV.out.below hbel (Nat.le_refl _)) (HU.out.below hbel (Nat.le_refl _))
            rw [h1] at hco
            have hch := fun W hi => rHas_is _ ids y0 W (HQ.out.below (hbel.trans hi) (Nat.le_refl _))
            have hcn := fun W hW => CN.out W y0 (HV.out.below (hbel.trans hW) (Nat.le_refl _)) (HP.out.below (hbel.trans hW) (Nat.le_refl _))
            simp only [h2] at hcn
            have h5 : (decide (y0 ∈ ids)) = (bb == 0) := by
              by_cases hb0 : bb = 0
              · rw [decide_eq_true (h4.1 hb0), hb0]; rfl
              · rw [decide_eq_false (fun h => hb0 (h4.2 h))]; exact (beq_false_of_ne hb0).symm
            have HCO := hide hco; have HCN := hide hcn; have HCH := hide hch; have HY := hide h5; have H3 := hide h3
            clear hco hcn hch h1 h2 h3 h4 h5 hbel
            have c00 := c0
            go_wp2_with fail
            refine HCO.out.mono ?_; rintro e w40 ⟨rfl, hb40⟩
            have c1 := (hb40.cell (p := ⟨b, off + n * 4, none⟩) (World.block_lt_of_cell? _ _ c00)).trans c00
            have HB40 := hide hb40
            have hs40 := hb40.size
            clear c0 c00 hb40 HCO
            have c11 := c1
            go_wp2_with fail
            refine (HCN.out _ (HB40.out.mono HBL.out.size)).mono ?_; rintro e w41 ⟨rfl, hb41⟩
            have c2 := (hb41.cell (p := ⟨b, off + n * 4, none⟩) (World.block_lt_of_cell? _ _ c11)).trans c11
            have hb5 := bstep HB40.out hb41 hs40
            have HB41 := hide hb5
            clear c1 c11 hb41 hb5
            have hh := HCH.out _ (HB41.out.mono HBL.out.size)
            rw [HY.out] at hh
            have t5 : ((bb == 0) != (bb == 0)) = false := by simp
            have HH := hide hh
            clear hh
            by_cases ha : 0 < a
            · have he := H3.out ha
              subst he
              have t6 : (a != a) = false := by simp
              have t7 : decide (0 < a) = true := decide_eq_true ha
              go_wp2_with fail
              refine HH.out.mono ?_; rintro e w42 ⟨rfl, hb42⟩
              have hb6 := HBL.out.trans ((bstep HB41.out hb42 HB41.out.size).mono HBL.out.size)
              have HB6 := hide hb6
              clear hb42 hb6
              go_wp2_with fail
              go_round
              case measure => (have hq := HLT.out; simp [intOf]; omega)
              case rel => have hq := HLT.out; exact ⟨n + 1, by omega, by go_num, HB6.out⟩
            · have t7 : decide (0 < a) = false := decide_eq_false ha
              go_wp2_with fail
              refine HH.out.mono ?_; rintro e w42 ⟨rfl, hb42⟩
              have hb6 := HBL.out.trans ((bstep HB41.out hb42 HB41.out.size).mono HBL.out.size)
              have HB6 := hide hb6
              clear hb42 hb6
              go_wp2_with fail
              go_round
              case measure => (have hq := HLT.out; simp [intOf]; omega)
              case rel => have hq := HLT.out; exact ⟨n + 1, by omega, by go_num, HB6.out⟩
          · have hk : n = fs.length := by omega
            have HK := hide hk; clear hk hbel
            go_wp2_with fail
            go_meet
            exact ⟨HB.out.trans (HBL.out.mono hszw), HV.out.below HBL.out (Nat.le_refl _), HU.out.below HBL.out (Nat.le_refl _)⟩
  case rest =>
    apply_assumption
    exact stored2 A cap code w HCODE.out _ hcut.1 _ _ _ _ _ _ _ _ _ _ _ _ _ _ _ _ _ _ _ _ _ _ _ _ _ _ _ _ _ _ _ _ _ _ _ _ _ _ _ _ _ _ _ _ _ _ _ _ _ _ _ _ _ _ _ _ _ _ _ _ _ _ _ _ _ _ _ _ _ _ _ _ _ _ _ _ _ _ _ _ _ _ _ _ _ _ _ _ _ _ _ _ _ _ _ _ _ _ _ _ _ _ _ _ _ _ _ _ _ _ _ _ _ _ _ _ _ _ _ _ _ _ _ _ _ _ _ _ _ _ _ _ _ _ _ _ _ _ _ _ _ _ _ _ _ _ _ _ _ _ _ _ _ _ _ _ _ _ _ _ _ _ _ _ _ _ _ _ _ _ _ _ _ _ _ _ _ _ _ _ _ _ _ _ _ _ _ _ _ _ _ _ _ _ _ _ _ _ _ _ _ _ _ _ _ _ _ _ fs ds HFIT.out hcut.2.1 hcut.2.2
end Go.Proofs.Ytdbcilinoieabaa
