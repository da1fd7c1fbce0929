/- The walk of FnDrawers: it returns true whatever the code; old memory stays. No condition. (Printed by mkfndrawers.py.) -/
import Derived.Test.YtdbcilinoieabaaWFnDra2
import Derived.Test.YtdbcilinoieabaaL5T
namespace Go.Proofs.Ytdbcilinoieabaa
open Go.RowKit
set_option linter.unusedVariables false
set_option maxRecDepth 100000 in
set_option maxHeartbeats 8000000 in
theorem law_FnDrawers (A : Option Addr) (cap : Nat) (code : List Int) (w : World) (hr : Row 1 encU w w.heap.size A code) (hl : code.length ≤ cap) (hc : cap ≤ maxLen) (wz : ∀ z ∈ code, (Lit.int .u8 z).wf = true) :
    Calls Try.prog 5 #[.slice A code.length cap] w fun e w' => e = .returned (.bool true) ∧ Below w.heap.size w w' := by
  have hcode : Code w (.slice A code.length cap) A cap code := ⟨rfl, hr, fun z hz => wf8 (wz z hz), hl, hc⟩
  have hbig := rBig_is A code.length cap w
  by_cases hlen : (65536 : Int) < code.length
  · rw [decide_eq_true hlen] at hbig
    have HBIG := hide hbig; clear hbig hr wz hcode
    go_enter Try.func5, Try.ntmps5
    go_wp2_with fail
    refine HBIG.out.mono ?_; rintro e w' ⟨rfl, rfl⟩
    go_wp2_with fail
    go_ret
    exact ⟨rfl, Below.refl _ _⟩
  rw [decide_eq_false hlen] at hbig
  have HBIG := hide hbig; have HCODE := hide hcode; clear hbig hr wz hcode hlen
  have HB := hide (Below.refl w.heap.size w)
  go_enter Try.func5, Try.ntmps5
  go_wp2_with fail
  refine HBIG.out.mono ?_; rintro e w' ⟨rfl, rfl⟩
  clear HBIG
  go_wp2_with fail
  refine (drawPutFlat_is _ _ A cap code (HCODE.out.below HB.out (Nat.le_refl _))).mono ?_; rintro e w1 ⟨v, u, fs, ds, flat, id, rfl, hfit, hl, hv, hu, hb⟩
  replace HB := hide (bstep HB.out hb HB.out.size); clear hb
  have HV := hide hv; clear hv
  have HU := hide hu; clear hu
  have cP := fun (W : World) (hv : Is 4 SFlat.enc W v fs) (hu : IsD W u ds) => PutFlatI_is v u fs ds flat id W hv hu hfit
  have cPS := fun (W : World) (hv : Is 4 SFlat.enc W v fs) (hu : IsD W u ds) => PutFlatS_is v u fs ds flat id W hv hu hfit
  have cD := fun (W : World) (hv : Is 4 SFlat.enc W v fs) (hu : IsD W u ds) => DrawersForI_is v u fs ds flat W hv hu hfit
  have cDS := fun (W : World) (hv : Is 4 SFlat.enc W v fs) (hu : IsD W u ds) => DrawersForS_is v u fs ds flat W hv hu hfit
  have cG := fun (W : World) (hv : Is 4 SFlat.enc W v fs) (hu : IsD W u ds) => GramsIn_is v u fs ds id W hv hu hfit
  have cO := fun (W : World) (r : Value) (hv : Is 4 SFlat.enc W v fs) (hr : IsD W r (putV fs ds flat id).1) => DrawerOf_is v r fs (putV fs ds flat id).1 flat W hv hr hfit
  have cN := fun (W : World) (r : Value) (hv : Is 4 SFlat.enc W v fs) (hr : IsD W r (putV fs ds flat id).1) => GramsIn_is v r fs (putV fs ds flat id).1 id W hv hr hfit
  have cT := fun (W : World) (r : Value) (hv : Is 4 SFlat.enc W v fs) (hr : IsD W r (putV fs ds flat id).1) => TakeFlat_is v r fs (putV fs ds flat id).1 flat W hv hr hfit
  have hdf := put_df fs ds flat id
  have hlaw := @put_law fs ds flat id hfit
  generalize (putV fs ds flat id).1 = nd at *
  generalize (putV fs ds flat id).2 = ok at *
  generalize (dfV fs ds flat).1 = ids at *
  generalize (dfV fs ds flat).2 = told at *
  have t1 : (ok != ok) = false := by simp
  have t2 : (told != told) = false := by simp
  have t3 : (id != id) = false := by simp
  have CP := hide cP; have CPS := hide cPS; have CD := hide cD; have CDS := hide cDS; have CG := hide cG; have CO := hide cO; have CN := hide cN; have CT := hide cT; have HDF := hide hdf; have HLAW := hide hlaw; have HFIT := hide hfit
  clear cP cPS cD cDS cG cO cN cT hdf hlaw hfit
  go_wp2_with fail
  refine (CP.out _ HV.out HU.out).mono ?_; rintro e w2 ⟨rP, rfl, hp, hb⟩
  replace HV := hide (HV.out.below hb (Nat.le_refl _))
  replace HU := hide (HU.out.below hb (Nat.le_refl _))
  replace HB := hide (bstep HB.out hb HB.out.size); clear hb
  have HP := hide hp; clear hp
  go_wp2_with fail
  refine (CPS.out _ HV.out HU.out).mono ?_; rintro e w3 ⟨rQ, rfl, hq, hb⟩
  replace HV := hide (HV.out.below hb (Nat.le_refl _))
  replace HU := hide (HU.out.below hb (Nat.le_refl _))
  replace HP := hide (HP.out.below hb (Nat.le_refl _))
  replace HB := hide (bstep HB.out hb HB.out.size); clear hb
  have HQ := hide hq; clear hq
  go_wp2_with fail
  refine (rDrawers_is _ _ _ _ HP.out HQ.out).mono ?_; rintro e w4 ⟨rfl, hb⟩
  replace HV := hide (HV.out.below hb (Nat.le_refl _))
  replace HU := hide (HU.out.below hb (Nat.le_refl _))
  replace HP := hide (HP.out.below hb (Nat.le_refl _))
  replace HQ := hide (HQ.out.below hb (Nat.le_refl _))
  replace HB := hide (bstep HB.out hb HB.out.size); clear hb
  clear HQ CP CPS
  go_wp2_with fail
  refine (CD.out _ HV.out HU.out).mono ?_; rintro e w5 ⟨rD, rfl, ho, hb⟩
  replace HV := hide (HV.out.below hb (Nat.le_refl _))
  replace HU := hide (HU.out.below hb (Nat.le_refl _))
  replace HP := hide (HP.out.below hb (Nat.le_refl _))
  replace HB := hide (bstep HB.out hb HB.out.size); clear hb
  have HD := hide ho.is; clear ho
  go_wp2_with fail
  refine (CDS.out _ HV.out HU.out).mono ?_; rintro e w6 ⟨rE, rfl, ho, hb⟩
  replace HV := hide (HV.out.below hb (Nat.le_refl _))
  replace HU := hide (HU.out.below hb (Nat.le_refl _))
  replace HP := hide (HP.out.below hb (Nat.le_refl _))
  replace HD := hide (HD.out.below hb (Nat.le_refl _))
  replace HB := hide (bstep HB.out hb HB.out.size); clear hb
  have HE := hide ho.is; clear ho
  go_wp2_with fail
  refine (rInts_is _ _ _ _ HD.out HE.out).mono ?_; rintro e w7 ⟨rfl, hb⟩
  replace HV := hide (HV.out.below hb (Nat.le_refl _))
  replace HU := hide (HU.out.below hb (Nat.le_refl _))
  replace HP := hide (HP.out.below hb (Nat.le_refl _))
  replace HD := hide (HD.out.below hb (Nat.le_refl _))
  replace HE := hide (HE.out.below hb (Nat.le_refl _))
  replace HB := hide (bstep HB.out hb HB.out.size); clear hb
  clear HE CD CDS
  go_upto_region 12 with fail
  go_cut [94] from 87 to 94 (fun t wx => t = .bool false ∧ Below w.heap.size w wx ∧ Is 4 SFlat.enc wx v fs ∧ IsD wx u ds ∧ IsD wx rP nd)
  case first =>
    have ch := fun W hi => rHas_is rD ids id W hi
    have hd : ok = (told && decide (id ∈ ids)) := HDF.out
    generalize decide (id ∈ ids) = has at *
    have CH := hide ch; have HDE := hide hd; clear ch hd
    cases told with
    | false =>
      have hz : ok = false := HDE.out
      subst hz
      go_wp2_with fail
      go_meet
      exact ⟨rfl, HB.out, HV.out, HU.out, HP.out⟩
    | true =>
      have hz : ok = has := by rw [HDE.out]; rfl
      subst hz
      go_wp2_with fail
      refine (CH.out _ HD.out).mono ?_; rintro e w8 ⟨rfl, hb⟩
      replace HV := hide (HV.out.below hb (Nat.le_refl _))
      replace HU := hide (HU.out.below hb (Nat.le_refl _))
      replace HP := hide (HP.out.below hb (Nat.le_refl _))
      replace HD := hide (HD.out.below hb (Nat.le_refl _))
      replace HB := hide (bstep HB.out hb HB.out.size); clear hb
      go_wp2_with fail
      go_meet
      exact ⟨rfl, HB.out, HV.out, HU.out, HP.out⟩
  case rest =>
    obtain ⟨rfl, hb, hv, hu, hp⟩ := hcut
    generalize wc = w20 at *
    clear HB HV HU HP HD HDF
    have HB := hide hb; have HV := hide hv; have HU := hide hu; have HP := hide hp; clear hb hv hu hp
    go_upto_if 95 with fail
    go_cut [15, 16, 17, 18, 19, 20, 21, 22, 23] from 96 to 172 (fun t15 t16 t17 t18 t19 t20 t21 t22 t23 wx => Below w.heap.size w wx ∧ Is 4 SFlat.enc wx v fs ∧ IsD wx u ds)
    case first =>
      cases ok with
      | false =>
        go_wp2_with fail
        go_meet
        exact ⟨HB.out, HV.out, HU.out⟩
      | true =>
        have hlw := HLAW.out rfl
        clear HLAW
        obtain ⟨h1, h2, h3, h4, ⟨h5, h6⟩, ⟨h7, h8⟩, h9⟩ := hlw
        have cG := CG.out; have cO := CO.out; have cN := CN.out; have cT := CT.out
        clear CG CO CN CT
        rw [h1] at cO
        rw [h2] at cG
        rw [h3] at cN
        rw [h4] at cT
        simp only at cO cT
        generalize (gramsInV fs ds id).1 = g0 at *
        generalize (gramsInV fs nd id).1 = g1 at *
        have CG := hide cG; have CO := hide cO; have CN := hide cN; have CT := hide cT; have H9 := hide h9
        clear cG cO cN cT h1 h2 h3 h4 h9
        go_wp2_with fail
        refine (CO.out _ _ HV.out HP.out).mono ?_; rintro e w21 ⟨rfl, hb⟩
        replace HV := hide (HV.out.below hb (Nat.le_refl _))
        replace HU := hide (HU.out.below hb (Nat.le_refl _))
        replace HP := hide (HP.out.below hb (Nat.le_refl _))
        replace HB := hide (bstep HB.out hb HB.out.size); clear hb
        go_wp2_with fail
        refine (CG.out _ HV.out HU.out).mono ?_; rintro e w22 ⟨rfl, hb⟩
        replace HV := hide (HV.out.below hb (Nat.le_refl _))
        replace HU := hide (HU.out.below hb (Nat.le_refl _))
        replace HP := hide (HP.out.below hb (Nat.le_refl _))
        replace HB := hide (bstep HB.out hb HB.out.size); clear hb
        go_wp2_with fail
        refine (CN.out _ _ HV.out HP.out).mono ?_; rintro e w23 ⟨rfl, hb⟩
        replace HV := hide (HV.out.below hb (Nat.le_refl _))
        replace HU := hide (HU.out.below hb (Nat.le_refl _))
        replace HP := hide (HP.out.below hb (Nat.le_refl _))
        replace HB := hide (bstep HB.out hb HB.out.size); clear hb
        go_wp2_with fail
        refine (CT.out _ _ HV.out HP.out).mono ?_; rintro e w24 ⟨rT, rfl, ht, hb⟩
        replace HV := hide (HV.out.below hb (Nat.le_refl _))
        replace HU := hide (HU.out.below hb (Nat.le_refl _))
        replace HP := hide (HP.out.below hb (Nat.le_refl _))
        replace HB := hide (bstep HB.out hb HB.out.size); clear hb
        have HT := hide ht; clear ht
        go_wp2_with fail
        refine (rDrawers_is _ _ _ _ HT.out HU.out).mono ?_; rintro e w25 ⟨rfl, hb⟩
        replace HV := hide (HV.out.below hb (Nat.le_refl _))
        replace HU := hide (HU.out.below hb (Nat.le_refl _))
        replace HP := hide (HP.out.below hb (Nat.le_refl _))
        replace HT := hide (HT.out.below hb (Nat.le_refl _))
        replace HB := hide (bstep HB.out hb HB.out.size); clear hb
        clear HT HP CO CG CN CT
        obtain ⟨AX, cX, rfl, hrX, hx1, hx2⟩ := HV.out
        have HRX := hide hrX
        generalize hwl : w25 = wl at *
        have hszl : w.heap.size ≤ wl.heap.size := HB.out.size
        clear hwl hrX
        go_wp2_with fail
        go_loopw [23] (fun i wr => ∃ n : Nat, n ≤ fs.length ∧ i = .int .i64 (n : Int) ∧ Below wl.heap.size wl wr) (fun i _ => fs.length - (intOf i).toNat)
        case atStart => exact ⟨0, Nat.zero_le _, rfl, Below.refl _ _⟩
        case round =>
          obtain ⟨n, hn, rfl, hbel⟩ := hrel
          by_cases hlt : n < fs.length
          · obtain ⟨b, off, rfl, hb, c0, _, _, c3⟩ := SFlat.cells HRX.out hlt hbel
            have h9 := H9.out n hlt
            generalize fs[n].ident = y0 at *; generalize fs[n].grams = y3 at *
            have hlt2 : (n : Int) < fs.length := by omega
            by_cases he : y0 = flat
            · have hs := h9 he
              have h10 : (y0 == flat) = true := by simpa using he
              have h11 : (g1 - g0 != y3) = false := by simpa using hs
              clear hs he h9
              go_wp2_with fail
              go_round
              case measure => (simp [intOf] <;> omega)
              case rel => exact ⟨n + 1, by omega, by go_num, hbel⟩
            · have h10 : (y0 == flat) = false := by simpa using he
              clear he h9
              go_wp2_with fail
              go_round
              case measure => (simp [intOf] <;> omega)
              case rel => exact ⟨n + 1, by omega, by go_num, hbel⟩
          · have hk : n = fs.length := by omega
            have HK := hide hk; clear hk
            go_wp2_with fail
            go_meet
            exact ⟨HB.out.trans (hbel.mono hszl), HV.out.below hbel (Nat.le_refl _), HU.out.below hbel (Nat.le_refl _)⟩
    case rest =>
      apply_assumption
      exact drawers2 A cap code w HCODE.out _ hcut.1 _ _ _ _ _ _ _ _ _ _ _ _ _ _ _ _ _ _ _ _ _ _ _ _ _ _ _ _ _ _ _ _ _ _ _ _ _ _ _ _ _ _ _ _ _ _ _ _ _ _ _ _ _ _ _ _ _ _ _ _ _ _ _ _ _ _ _ _ _ _ _ _ _ _ _ _ _ _ _ _ _ _ _ _ _ _ _ _ _ _ _ _ _ _ _ _ _ _ _ _ _ _ _ _ _ _ _ _ _ _ _ _ _ _ _ _ _ _ _ _ _ _ _ _ _ _ _ _ _ _ _ _ _ _ _ _ _ _ _ _ _ _ _ _ _ _ _ _ _ _ _ _ _ _ _ _ _ _ _ _ _ _ _ _ _ _ _ _ _ _ _ _ _ _ _ _ _ _ _ _ _ _ _ _ _ _ _ _ _ _ _ _ _ _ _ _ _ _ _ _ _ _ _ _ _ _ _ _ _ _ _ _ _ fs ds HFIT.out hcut.2.1 hcut.2.2
end Go.Proofs.Ytdbcilinoieabaa
