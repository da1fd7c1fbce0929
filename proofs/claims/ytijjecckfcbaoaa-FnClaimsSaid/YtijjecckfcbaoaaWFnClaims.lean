/- The walk of FnClaims: it returns true whatever the code; old memory stays. No condition. -/
import Derived.Test.YtijjecckfcbaoaaL8W
import Derived.Test.YtijjecckfcbaoaaL8X
namespace Go.Proofs.Ytijjecckfcbaoaa
open Go.RowKit
set_option linter.unusedVariables false
theorem wf8 {z : Int} (h : (Lit.int .u8 z).wf = true) : 0 ≤ z ∧ z ≤ 255 := by
  simpa [Lit.wf, IntKind.min, IntKind.max, IntKind.signed, IntKind.bits] using h
theorem vBig_is (A : Option Addr) (len cap : Nat) (w : World) :
    Calls Try.prog 25 #[.slice A len cap] w fun e w' => e = .returned (.bool (decide ((65536 : Int) < len))) ∧ w = w' := by
  go_enter Try.func25, Try.ntmps25
  go_wp2_with fail
  go_ret
  exact ⟨rfl, rfl⟩
theorem specAreClaims_is (n : Int) (v : Value) (xs : List SClaim) (w : World) (h : Is 4 SClaim.enc w v xs) :
    Calls Try.prog 21 #[.int .i64 n, v] w fun e w' => e = .returned (.bool (areB n xs)) ∧ Below w.heap.size w w' := by
  have hm := h.len
  obtain ⟨A, cap, rfl, hr, _, _⟩ := h
  exact specAreClaims_any n A cap xs w hr hm
theorem culV_get {m : Nat} {xs : List SClaim} {i : Nat} (h : i < (culV m xs).1.length) : ∃ k : Nat, (culV m xs).1[i]? = some (k : Int) ∧ k < xs.length ∧ aresV m (wo xs k) = (true, true) := by
  unfold culV at h ⊢
  split at h
  · rename_i hc
    rw [if_pos hc]
    rw [Bool.and_eq_true] at hc
    simp only at h ⊢
    have hm : (idxs (culP m xs) xs.length)[i] ∈ idxs (culP m xs) xs.length := List.getElem_mem (by simpa using h)
    rw [Int.toNat_natCast] at *
    have hm2 := hm
    unfold idxs at hm2
    rw [List.mem_map] at hm2
    obtain ⟨k, hk, he⟩ := hm2
    obtain ⟨h1, h2⟩ := List.mem_filter.1 hk
    refine ⟨k, by rw [List.getElem?_eq_getElem h]; exact congrArg some he.symm, List.mem_range.1 h1, ?_⟩
    unfold aresV
    rw [areB_wo hc.1 k, if_pos rfl, Int.toNat_natCast]
    exact congrArg (·, true) h2
  · simp at h
theorem culV_le (m : Nat) (xs : List SClaim) : (culV m xs).1.length ≤ 24 := by
  unfold culV; split
  · rename_i h
    rw [Bool.and_eq_true] at h
    have h1 := (areB_iff.1 h.1).2.2
    have h2 := idxs_le (culP (m : Int).toNat xs) xs.length
    show (idxs _ _).length ≤ _
    omega
  · simp
set_option maxRecDepth 100000 in
set_option maxHeartbeats 4000000 in
theorem law_FnClaims (A : Option Addr) (cap : Nat) (code : List Int) (w : World) (hr : Row 1 encU w w.heap.size A code) (hl : code.length ≤ cap) (hc : cap ≤ maxLen) (wz : ∀ z ∈ code, (Lit.int .u8 z).wf = true) :
    Calls Try.prog 6 #[.slice A code.length cap] w fun e w' => e = .returned (.bool true) ∧ Below w.heap.size w w' := by
  have hcode : Code w (.slice A code.length cap) A cap code := ⟨rfl, hr, fun z hz => wf8 (wz z hz), hl, hc⟩
  have hbig := vBig_is A code.length cap w
  by_cases hlen : (65536 : Int) < code.length
  · rw [decide_eq_true hlen] at hbig
    have HBIG := hide hbig; clear hbig hr wz hcode
    go_enter Try.func6, Try.ntmps6
    go_wp2_with fail
    refine HBIG.out.mono ?_; rintro e w' ⟨rfl, rfl⟩
    go_wp2_with fail
    go_ret
    exact ⟨rfl, Below.refl _ _⟩
  rw [decide_eq_false hlen] at hbig
  have hdraw := drawLowestHeights_is w _ A cap code hcode
  have HBIG := hide hbig; have HDRAW := hide hdraw; clear hbig hr wz hcode hdraw
  go_enter Try.func6, Try.ntmps6
  go_wp2_with fail
  refine HBIG.out.mono ?_; rintro e w' ⟨rfl, rfl⟩
  go_wp2_with fail
  refine HDRAW.out.mono ?_; rintro e w1 ⟨n, v, rfl, hn, xs, hx, ho, hb⟩
  obtain ⟨m, rfl⟩ : ∃ m : Nat, n = (m : Int) := ⟨n.toNat, by omega⟩
  have HX := hide ho; have B1 := hb; clear ho hb HDRAW HBIG
  have cLow := fun (W : World) (hi : Is 4 SClaim.enc W v xs) => implLowestHeights_any (m : Int) v xs W hi
  have cLowS := fun (W : World) (hi : Is 4 SClaim.enc W v xs) => specLowestHeights_any (m : Int) v xs W hi
  have cHigh := fun (W : World) (hi : Is 4 SClaim.enc W v xs) => implHighestHeights_any (m : Int) v xs W hi
  have cHighS := fun (W : World) (hi : Is 4 SClaim.enc W v xs) => specHighestHeights_any (m : Int) v xs W hi
  have cAre := fun (W : World) (hi : Is 4 SClaim.enc W v xs) => implAreClaims_is (m : Int) v xs W hi
  have cAreS := fun (W : World) (hi : Is 4 SClaim.enc W v xs) => specAreClaims_is (m : Int) v xs W hi
  have cSnd := fun (W : World) (hi : Is 4 SClaim.enc W v xs) => implAreSoundClaims_any (m : Int) v xs W hi
  have cSndS := fun (W : World) (hi : Is 4 SClaim.enc W v xs) => specAreSoundClaims_any (m : Int) v xs W hi
  have cCul := fun (W : World) (hi : Is 4 SClaim.enc W v xs) => implCulprits_any (m : Int) v xs W hi
  have cCulS := fun (W : World) (hi : Is 4 SClaim.enc W v xs) => specCulprits_any (m : Int) v xs W hi
  have cFit := fun (W : World) (v' : Value) (hs : List Int) (hi : Is 4 SClaim.enc W v xs) (hj : Is 1 encI W v' hs) => implDoHeightsFit_any (m : Int) v xs v' hs W hi hj
  have cRest := fun (k : Nat) (V : Value) (W : World) (hi : Is 4 SClaim.enc W V (wo xs k)) => implAreSoundClaims_any (m : Int) V (wo xs k) W hi
  have hcul := fun (i : Nat) (hi : i < (culV m xs).1.length) => culV_get hi
  have hcle := culV_le m xs
  have hl2 : (lowV m xs).2 = toldB m xs := by unfold lowV; split <;> simp_all
  have hh2 : (highV m xs).2 = toldB m xs := by unfold highV; split <;> simp_all
  have htold : toldB m xs = true → fitV m xs (lowV m xs).1 = (true, true) ∧ fitV m xs (highV m xs).1 = (true, true) ∧ (lowV m xs).1.length = m ∧ (highV m xs).1.length = m ∧ ∀ q, q < m → (lowV m xs).1.getD q 0 ≤ (highV m xs).1.getD q 0 := fun h => ⟨low_fits h, high_fits h, low_len h, high_len h, fun q hq => low_high h hq⟩
  have hcase : (toldB m xs = true ∧ areB m xs = true ∧ (aresV m xs).1 = true ∧ (culV m xs).2 = false) ∨ (toldB m xs = false ∧ areB m xs = false ∧ (aresV m xs).1 = false ∧ (culV m xs).2 = false) ∨ (toldB m xs = false ∧ areB m xs = true ∧ (aresV m xs).1 = true ∧ (culV m xs).2 = false) ∨ (toldB m xs = false ∧ areB m xs = true ∧ (aresV m xs).1 = false ∧ (culV m xs).2 = true) := by
    have h1 : (aresV m xs).1 = (areB m xs && soundB m xs) := by unfold aresV; cases areB m xs <;> rfl
    have h2 : (culV m xs).2 = (areB m xs && !soundB m xs) := by unfold culV; rw [Int.toNat_natCast]; cases areB m xs <;> cases soundB m xs <;> rfl
    have h3 : toldB m xs = (areB m xs && (tiedA m xs 0 && soundB m xs)) := rfl
    rw [h1, h2, h3]
    cases areB m xs <;> cases soundB m xs <;> cases tiedA m xs 0 <;> simp
  have ha2 : (aresV m xs).2 = areB m xs := by unfold aresV; cases areB m xs <;> rfl
  rw [hl2] at cLow cLowS
  rw [hh2] at cHigh cHighS
  rw [ha2] at cSnd cSndS
  clear hl2 hh2 ha2
  have hwo : ∀ k, k < (culV m xs).1.length → True := fun _ _ => trivial
  clear hwo
  generalize toldB m xs = o at *
  generalize areB m xs = f at *
  generalize (aresV m xs).1 = a1 at *
  generalize (culV m xs).2 = cu at *
  generalize (culV m xs).1 = Lc at *
  have cFitL := fun (W : World) (v' : Value) (hi : Is 4 SClaim.enc W v xs) (hj : Is 1 encI W v' (lowV m xs).1) => cFit W v' _ hi hj
  have cFitH := fun (W : World) (v' : Value) (hi : Is 4 SClaim.enc W v xs) (hj : Is 1 encI W v' (highV m xs).1) => cFit W v' _ hi hj
  clear cFit
  generalize hfl : fitV m xs (lowV m xs).1 = fl at *
  generalize hfh : fitV m xs (highV m xs).1 = fh at *
  clear hfl hfh
  generalize (lowV m xs).1 = Ll at *
  generalize (highV m xs).1 = Lh at *
  have t1 : (o != o) = false := by simp
  have t2 : (f != f) = false := by simp
  have t3 : (a1 != a1) = false := by simp
  have t4 : (cu != cu) = false := by simp
  obtain ⟨A1, cap1, rfl, _, hcx, hcm⟩ := HX.out.is
  have CLow := hide cLow; have CLowS := hide cLowS; have CHigh := hide cHigh; have CHighS := hide cHighS; have CAre := hide cAre; have CAreS := hide cAreS; have CSnd := hide cSnd; have CSndS := hide cSndS; have CCul := hide cCul; have CCulS := hide cCulS; have CFitL := hide cFitL; have CFitH := hide cFitH; have CRest := hide cRest; have HCUL := hide hcul; have HTOLD := hide htold; have HCASE := hide hcase
  clear cLow cLowS cHigh cHighS cAre cAreS cSnd cSndS cCul cCulS cFitL cFitH cRest hcul htold hcase
  go_wp2_with fail
  refine (CLow.out w1 HX.out.is).mono ?_; rintro e w2 ⟨rL, rfl, ho, hb⟩
  have B2 := bstep B1 hb B1.size
  replace HX := hide (HX.out.below hb)
  have HL := hide (ownLow ho B1.size)
  clear hb ho
  go_wp2_with fail
  refine (CLowS.out w2 HX.out.is).mono ?_; rintro e w3 ⟨rM, rfl, ho, hb⟩
  have B3 := bstep B2 hb B2.size
  replace HX := hide (HX.out.below hb)
  replace HL := hide (HL.out.below hb)
  have HM := hide (ownLow ho B2.size)
  clear hb ho
  go_wp2_with fail
  refine (vInts_is _ _ _ w3 HL.out.is HM.out.is).mono ?_; rintro e w4 ⟨rfl, hb⟩
  have B4 := bstep B3 hb B3.size
  replace HX := hide (HX.out.below hb)
  replace HL := hide (HL.out.below hb)
  replace HM := hide (HM.out.below hb)
  clear hb
  go_wp2_with fail
  refine (CAre.out w4 HX.out.is).mono ?_; rintro e w5 ⟨rfl, hb⟩
  have B5 := bstep B4 hb B4.size
  replace HX := hide (HX.out.below hb)
  replace HL := hide (HL.out.below hb)
  replace HM := hide (HM.out.below hb)
  clear hb
  go_wp2_with fail
  refine (CAreS.out w5 HX.out.is).mono ?_; rintro e w6 ⟨rfl, hb⟩
  have B6 := bstep B5 hb B5.size
  replace HX := hide (HX.out.below hb)
  replace HL := hide (HL.out.below hb)
  replace HM := hide (HM.out.below hb)
  clear hb
  go_wp2_with fail
  refine (CHigh.out w6 HX.out.is).mono ?_; rintro e w7 ⟨rH, rfl, ho, hb⟩
  have B7 := bstep B6 hb B6.size
  replace HX := hide (HX.out.below hb)
  replace HL := hide (HL.out.below hb)
  replace HM := hide (HM.out.below hb)
  have HH := hide (ownLow ho B6.size)
  clear hb ho
  go_wp2_with fail
  refine (CHighS.out w7 HX.out.is).mono ?_; rintro e w8 ⟨rI, rfl, ho, hb⟩
  have B8 := bstep B7 hb B7.size
  replace HX := hide (HX.out.below hb)
  replace HL := hide (HL.out.below hb)
  replace HM := hide (HM.out.below hb)
  replace HH := hide (HH.out.below hb)
  have HI := hide (ownLow ho B7.size)
  clear hb ho
  go_wp2_with fail
  refine (vInts_is _ _ _ w8 HH.out.is HI.out.is).mono ?_; rintro e w9 ⟨rfl, hb⟩
  have B9 := bstep B8 hb B8.size
  replace HX := hide (HX.out.below hb)
  replace HL := hide (HL.out.below hb)
  replace HM := hide (HM.out.below hb)
  replace HH := hide (HH.out.below hb)
  replace HI := hide (HI.out.below hb)
  clear hb
  go_wp2_with fail
  refine (CSnd.out w9 HX.out.is).mono ?_; rintro e w10 ⟨rfl, hb⟩
  have B10 := bstep B9 hb B9.size
  replace HX := hide (HX.out.below hb)
  replace HL := hide (HL.out.below hb)
  replace HM := hide (HM.out.below hb)
  replace HH := hide (HH.out.below hb)
  replace HI := hide (HI.out.below hb)
  clear hb
  go_wp2_with fail
  refine (CSndS.out w10 HX.out.is).mono ?_; rintro e w11 ⟨rfl, hb⟩
  have B11 := bstep B10 hb B10.size
  replace HX := hide (HX.out.below hb)
  replace HL := hide (HL.out.below hb)
  replace HM := hide (HM.out.below hb)
  replace HH := hide (HH.out.below hb)
  replace HI := hide (HI.out.below hb)
  clear hb
  rcases HCASE.out with ⟨rfl, rfl, rfl, rfl⟩ | ⟨rfl, rfl, rfl, rfl⟩ | ⟨rfl, rfl, rfl, rfl⟩ | ⟨rfl, rfl, rfl, rfl⟩
  · obtain ⟨rfl, rfl, hlL, hlH, hle⟩ := HTOLD.out rfl
    go_wp2_with fail
    refine (CFitL.out w11 _ HX.out.is HL.out.is).mono ?_; rintro e w12 ⟨rfl, hb⟩
    have B12 := bstep B11 hb B11.size
    replace HX := hide (HX.out.below hb)
    replace HL := hide (HL.out.below hb)
    replace HM := hide (HM.out.below hb)
    replace HH := hide (HH.out.below hb)
    replace HI := hide (HI.out.below hb)
    clear hb
    go_wp2_with fail
    refine (CFitH.out w12 _ HX.out.is HH.out.is).mono ?_; rintro e w13 ⟨rfl, hb⟩
    have B13 := bstep B12 hb B12.size
    replace HX := hide (HX.out.below hb)
    replace HL := hide (HL.out.below hb)
    replace HM := hide (HM.out.below hb)
    replace HH := hide (HH.out.below hb)
    replace HI := hide (HI.out.below hb)
    clear hb
    obtain ⟨A4, cap4, rfl, _, _, _⟩ := HL.out.is
    obtain ⟨A5, cap5, rfl, _, _, _⟩ := HH.out.is
    have HLE := hide hle; clear hle
    go_wp2_with fail
    go_loopw [21] (fun i wr => ∃ q : Nat, q ≤ m ∧ i = .int .i64 (q : Int) ∧ Own 4 SClaim.enc 23 wr w.heap.size (.slice A1 xs.length cap1) xs ∧ Own 1 encI 3 wr w.heap.size (.slice A4 Ll.length cap4) Ll ∧ Own 1 encI 3 wr w.heap.size (.slice A5 Lh.length cap5) Lh ∧ Below w.heap.size w wr) (fun i _ => m - (intOf i).toNat)
    case atStart => exact ⟨0, Nat.zero_le _, rfl, HX.out, HL.out, HH.out, B13⟩
    case round =>
      clear B2 B3 B4 B5 B6 B7 B8 B9 B10 B11 B12 B13 HX HL HH HM HI
      obtain ⟨q, hq, rfl, hox, hoL, hoH, hbel⟩ := hrel
      have HX := hide hox; have HL := hide hoL; have HH := hide hoH; clear hox hoL hoH
      by_cases hlt : q < m
      · have hltL : (q : Int) < Ll.length := by omega
        have hltH : (q : Int) < Lh.length := by omega
        obtain ⟨A8, c8, he8, hr8, _, _⟩ := HL.out.is
        injection he8 with e1 e2 e3; subst e1 e3
        obtain ⟨b3, off3, rfl, hb3, hcc⟩ := hr8.get (show q < Ll.length by omega)
        have c0 := hcc 0 (by omega)
        rw [Nat.mul_one, Nat.add_zero] at c0
        obtain ⟨A9, c9, he9, hr9, _, _⟩ := HH.out.is
        injection he9 with e1 e2' e3; subst e1 e3
        obtain ⟨b4, off4, rfl, hb4, hcd⟩ := hr9.get (show q < Lh.length by omega)
        have d0 := hcd 0 (by omega)
        rw [Nat.mul_one, Nat.add_zero] at d0
        have hh := HLE.out q hlt
        rw [List.getD_eq_getElem?_getD, List.getElem?_eq_getElem (show q < Ll.length by omega), List.getD_eq_getElem?_getD, List.getElem?_eq_getElem (show q < Lh.length by omega), Option.getD_some, Option.getD_some] at hh
        generalize Ll[q] = x0 at *
        generalize Lh[q] = x1 at *
        change wr.cell? ⟨b3, off3 + q, none⟩ = some (.int .i64 x0) at c0
        change wr.cell? ⟨b4, off4 + q, none⟩ = some (.int .i64 x1) at d0
        have hno : ¬ x1 < x0 := by omega
        clear hr8 hr9 hcc hcd e2 e2'
        go_wp2_with fail
        go_region
        go_wp2_with fail
        go_round
        case measure => (simp [intOf] <;> omega)
        case rel => exact ⟨q + 1, by omega, by go_num, HX.out.below (Below.refl _ _).drew, HL.out.below (Below.refl _ _).drew, HH.out.below (Below.refl _ _).drew, hbel.drew⟩
      · have hltL : ¬ (q : Int) < Ll.length := by omega
        generalize wr = w40 at *
        have B40 := hbel
        clear HL HH hbel
        go_wp2_with fail
        refine (CCul.out w40 HX.out.is).mono ?_; rintro e w41 ⟨rC, rfl, ho, hb⟩
        have B41 := bstep B40 hb B40.size
        replace HX := hide (HX.out.below hb)
        have HC := hide (ownLow ho B40.size)
        clear hb ho
        go_wp2_with fail
        refine (CCulS.out w41 HX.out.is).mono ?_; rintro e w42 ⟨rD, rfl, ho, hb⟩
        have B42 := bstep B41 hb B41.size
        replace HX := hide (HX.out.below hb)
        replace HC := hide (HC.out.below hb)
        have HD := hide (ownLow ho B41.size)
        clear hb ho
        go_wp2_with fail
        refine (vInts_is _ _ _ w42 HC.out.is HD.out.is).mono ?_; rintro e w43 ⟨rfl, hb⟩
        have B43 := bstep B42 hb B42.size
        replace HX := hide (HX.out.below hb)
        replace HC := hide (HC.out.below hb)
        replace HD := hide (HD.out.below hb)
        clear hb
        obtain ⟨A3, cap3, rfl, _, _, _⟩ := HC.out.is
        go_wp2_with fail
        go_loopw [26] (fun i wr => ∃ q : Nat, q ≤ Lc.length ∧ i = .int .i64 (q : Int) ∧ Own 4 SClaim.enc 23 wr w.heap.size (.slice A1 xs.length cap1) xs ∧ Own 1 encI 3 wr w.heap.size (.slice A3 Lc.length cap3) Lc ∧ Below w.heap.size w wr) (fun i _ => Lc.length - (intOf i).toNat)
        case atStart => exact ⟨0, Nat.zero_le _, rfl, HX.out, HC.out, B43⟩
        case round =>
          clear B40 B41 B42 B43
          obtain ⟨q, hq, rfl, hox, hoc, hbel⟩ := hrel
          have hsz : w.heap.size ≤ wr.heap.size := hbel.size
          have HX9 := hide hox; have HC9 := hide hoc; clear hoc
          by_cases hlt : q < Lc.length
          · have hlt' : (q : Int) < Lc.length := by omega
            obtain ⟨k, hk1, hk2, hk3⟩ := HCUL.out q hlt
            have hres := fun V W hi => CRest.out k V W hi
            rw [hk3] at hres
            obtain ⟨A8, c8, he8, hr8, _, _⟩ := HC9.out.is
            injection he8 with e1 e2 e3; subst e1 e3
            obtain ⟨b3, off3, rfl, hb3, hcc⟩ := hr8.get hlt
            have c0 := hcc 0 (by omega)
            rw [Nat.mul_one, Nat.add_zero] at c0
            have hlk : Lc[q] = (k : Int) := by
              rw [List.getElem?_eq_getElem hlt] at hk1
              injection hk1
            change wr.cell? ⟨b3, off3 + q, none⟩ = some (.int .i64 Lc[q]) at c0
            rw [hlk] at c0
            obtain ⟨A9, c9, he9, hr9, _, _⟩ := hox.is
            injection he9 with e1 e2' e3; subst e1 e3
            obtain ⟨b, off, rfl, hb, _⟩ := hr9.get hk2
            have htl : (xs.take k).length = k := by rw [List.length_take]; omega
            have hdr : (xs.drop (k + 1)).length = xs.length - (k + 1) := List.length_drop
            have hs1 := fun (W : World) (hW : Below wr.heap.size wr W) => src_rowC (w := wr) (b := b) (off := off) (xs := xs) hr9 hb 0 (xs.take k) (fun i y hh => by
              have h1 := (List.getElem?_eq_some_iff.1 hh).1
              rw [htl] at h1
              rw [List.getElem?_take_of_lt h1] at hh
              rwa [Nat.zero_add]) hW
            have hs2 := fun (W : World) (hW : Below wr.heap.size wr W) => src_rowC (w := wr) (b := b) (off := off) (xs := xs) hr9 hb (k + 1) (xs.drop (k + 1)) (fun i y hh => by rwa [List.getElem?_drop] at hh) hW
            rw [Nat.zero_mul, Nat.add_zero] at hs1
            have hc63 : cap1 ≤ 9223372036854775807 := by simp only [maxLen] at hcm; omega
            have q1 : (k : Int) ≤ cap1 := by omega
            have q2 : (k : Int) + 1 ≤ xs.length := by omega
            have q3 : (k : Int) + 1 ≤ cap1 := by omega
            have q4 : IntKind.i64.wrap ((k : Int) + 1) = (k : Int) + 1 := IntWalk.i64_in _ (by omega)
            have q5 : (0 : Int) ≤ k := by omega
            have q7 : (0 : Int) ≤ (k : Int) + 1 := by omega
            have HTL := hide htl; have HDR := hide hdr; have HS1 := hide hs1; have HS2 := hide hs2; have HRES := hide hres
            clear htl hdr hs1 hs2 hr8 hr9 hcc hk1 hk3 hres e2 e2' hlk
            by_cases hck : cap1 = k + 1
            · have hxe : xs.length = k + 1 := by omega
              have hnil : xs.drop (k + 1) = [] := List.drop_eq_nil_of_le (by omega)
              have q6 : ((k : Int) + 1).toNat = cap1 := by omega
              have q8 : xs.length - cap1 = 0 := by omega
              have HNIL := hide hnil; have HXE := hide hxe; have HCK := hide hck; clear hnil hxe hck
              have hoa : Own 4 SClaim.enc 23 (wr.alloc (.cells #[] 23)).drew wr.heap.size (.slice (some ⟨wr.heap.size, 0, none⟩) 0 0) ([] : List SClaim) := Own.made (cs := #[]) rfl (Nat.le_refl _) (Blk.new wr _ _) rfl (Nat.zero_le _) Filled.zero
              have ba := (below_alloc wr (.cells #[] 23)).drew
              have HOA := hide hoa; have BA := hide ba; clear hoa ba
              go_wp2_with fail
              go_region_held3 (fun _ => True) (trivial)
                (first
                  | (refine step_push (k := 4) (enc := SClaim.enc) _ (by rfl) _ _ 34 (by rfl) 23 (.agg #[.int .i64 0, .int .i64 0, .int .i64 0, .int .i64 0]) 32 Try.underlying34 SClaim.info rfl (by omega) SClaim.one wr.heap.size _ ([] : List SClaim) (by rfl) HOA.out ⟨b, off, none⟩ cap1 (xs.take k) (by rw [HTL.out]; rfl) (HS1.out _ BA.out) (by simp [HTL.out]; omega) (by simp [HTL.out]; omega) BA.out.size BA.out (Nat.le_refl _) ?_; intro v1 w91 ho1 hb1 hg1; have HO1 := hide ho1; clear ho1 hg1)
                  | (refine step_push (k := 4) (enc := SClaim.enc) _ (by rfl) _ _ 34 (by rfl) 23 (.agg #[.int .i64 0, .int .i64 0, .int .i64 0, .int .i64 0]) 32 Try.underlying34 SClaim.info rfl (by omega) SClaim.one wr.heap.size _ ([] ++ xs.take k) (by rfl) HO1.out ⟨b, off, none⟩ 0 ([] : List SClaim) (by rfl) (fun i u hu => by simp [flat] at hu) (by simp [HTL.out]; omega) (by simp [HTL.out]; omega) hb1.size hb1 (Nat.le_refl _) ?_; intro v2 w94 ho2 hb4 hg2; have HO2 := hide (show Own 4 SClaim.enc 23 w94 wr.heap.size v2 (wo xs k) from by unfold wo; rw [HNIL.out]; exact ho2); have B4 := bstep hbel hb4 hsz; have hs4 := hb4.size; have HB4 := hide hb4; clear ho2 hg2))
              all_goals
                go_wp2_with fail
                refine (HRES.out _ _ HO2.out.is).mono ?_; rintro e w96 ⟨rfl, hb6⟩
                have B6 := bstep B4 hb6 (Nat.le_trans hsz hs4)
                have HX6 := hide ((HX9.out.below HB4.out).below hb6); have HC6 := hide ((HC9.out.below HB4.out).below hb6)
                clear hb6
                go_wp2_with fail
                go_round
                case measure => (simp [intOf] <;> omega)
                case rel => exact ⟨q + 1, by omega, by go_num, HX6.out, HC6.out, B6⟩
            · have hck2 : ¬ cap1 = k + 1 := hck
              have q6 : ((k : Int) + 1).toNat = k + 1 := by omega
              have hoa : Own 4 SClaim.enc 23 (wr.alloc (.cells #[] 23)).drew wr.heap.size (.slice (some ⟨wr.heap.size, 0, none⟩) 0 0) ([] : List SClaim) := Own.made (cs := #[]) rfl (Nat.le_refl _) (Blk.new wr _ _) rfl (Nat.zero_le _) Filled.zero
              have ba := (below_alloc wr (.cells #[] 23)).drew
              have HOA := hide hoa; have BA := hide ba; clear hoa ba
              go_wp2_with fail
              go_region_held3 (fun _ => True) (trivial)
                (first
                  | (refine step_push (k := 4) (enc := SClaim.enc) _ (by rfl) _ _ 34 (by rfl) 23 (.agg #[.int .i64 0, .int .i64 0, .int .i64 0, .int .i64 0]) 32 Try.underlying34 SClaim.info rfl (by omega) SClaim.one wr.heap.size _ ([] : List SClaim) (by rfl) HOA.out ⟨b, off, none⟩ cap1 (xs.take k) (by rw [HTL.out]; rfl) (HS1.out _ BA.out) (by simp [HTL.out]; omega) (by simp [HTL.out]; omega) BA.out.size BA.out (Nat.le_refl _) ?_; intro v1 w91 ho1 hb1 hg1; have HO1 := hide ho1; clear ho1 hg1)
                  | (refine step_push (k := 4) (enc := SClaim.enc) _ (by rfl) _ _ 34 (by rfl) 23 (.agg #[.int .i64 0, .int .i64 0, .int .i64 0, .int .i64 0]) 32 Try.underlying34 SClaim.info rfl (by omega) SClaim.one wr.heap.size _ ([] ++ xs.take k) (by rfl) HO1.out ⟨b, off + (k + 1) * 4, none⟩ (cap1 - (k + 1)) (xs.drop (k + 1)) (by rw [HDR.out]; rfl) (HS2.out _ hb1) (by simp [HTL.out, HDR.out]; omega) (by simp [HTL.out, HDR.out]; omega) hb1.size hb1 (Nat.le_refl _) ?_; intro v2 w94 ho2 hb4 hg2; have HO2 := hide (show Own 4 SClaim.enc 23 w94 wr.heap.size v2 (wo xs k) from by exact ho2); have B4 := bstep hbel hb4 hsz; have hs4 := hb4.size; have HB4 := hide hb4; clear ho2 hg2))
              all_goals
                go_wp2_with fail
                refine (HRES.out _ _ HO2.out.is).mono ?_; rintro e w96 ⟨rfl, hb6⟩
                have B6 := bstep B4 hb6 (Nat.le_trans hsz hs4)
                have HX6 := hide ((HX9.out.below HB4.out).below hb6); have HC6 := hide ((HC9.out.below HB4.out).below hb6)
                clear hb6
                go_wp2_with fail
                go_round
                case measure => (simp [intOf] <;> omega)
                case rel => exact ⟨q + 1, by omega, by go_num, HX6.out, HC6.out, B6⟩
          · have hql : ¬ (q : Int) < Lc.length := by omega
            go_wp2_with fail
            go_ret
            exact ⟨rfl, hbel⟩
  all_goals
    go_wp2_with fail
    refine (CCul.out w11 HX.out.is).mono ?_; rintro e w12 ⟨rC, rfl, ho, hb⟩
    have B12 := bstep B11 hb B11.size
    replace HX := hide (HX.out.below hb)
    replace HL := hide (HL.out.below hb)
    replace HM := hide (HM.out.below hb)
    replace HH := hide (HH.out.below hb)
    replace HI := hide (HI.out.below hb)
    have HC := hide (ownLow ho B11.size)
    clear hb ho
    go_wp2_with fail
    refine (CCulS.out w12 HX.out.is).mono ?_; rintro e w13 ⟨rD, rfl, ho, hb⟩
    have B13 := bstep B12 hb B12.size
    replace HX := hide (HX.out.below hb)
    replace HL := hide (HL.out.below hb)
    replace HM := hide (HM.out.below hb)
    replace HH := hide (HH.out.below hb)
    replace HI := hide (HI.out.below hb)
    replace HC := hide (HC.out.below hb)
    have HD := hide (ownLow ho B12.size)
    clear hb ho
    go_wp2_with fail
    refine (vInts_is _ _ _ w13 HC.out.is HD.out.is).mono ?_; rintro e w14 ⟨rfl, hb⟩
    have B14 := bstep B13 hb B13.size
    replace HX := hide (HX.out.below hb)
    replace HL := hide (HL.out.below hb)
    replace HM := hide (HM.out.below hb)
    replace HH := hide (HH.out.below hb)
    replace HI := hide (HI.out.below hb)
    replace HC := hide (HC.out.below hb)
    replace HD := hide (HD.out.below hb)
    clear hb
    obtain ⟨A3, cap3, rfl, _, _, _⟩ := HC.out.is
    go_wp2_with fail
    go_loopw [26] (fun i wr => ∃ q : Nat, q ≤ Lc.length ∧ i = .int .i64 (q : Int) ∧ Own 4 SClaim.enc 23 wr w.heap.size (.slice A1 xs.length cap1) xs ∧ Own 1 encI 3 wr w.heap.size (.slice A3 Lc.length cap3) Lc ∧ Below w.heap.size w wr) (fun i _ => Lc.length - (intOf i).toNat)
    case atStart => exact ⟨0, Nat.zero_le _, rfl, HX.out, HC.out, B14⟩
    case round =>
      clear B2 B3 B4 B5 B6 B7 B8 B9 B10 B11 B12 B13 B14
      obtain ⟨q, hq, rfl, hox, hoc, hbel⟩ := hrel
      have hsz : w.heap.size ≤ wr.heap.size := hbel.size
      have HX9 := hide hox; have HC9 := hide hoc; clear hoc
      by_cases hlt : q < Lc.length
      · have hlt' : (q : Int) < Lc.length := by omega
        obtain ⟨k, hk1, hk2, hk3⟩ := HCUL.out q hlt
        have hres := fun V W hi => CRest.out k V W hi
        rw [hk3] at hres
        obtain ⟨A8, c8, he8, hr8, _, _⟩ := HC9.out.is
        injection he8 with e1 e2 e3; subst e1 e3
        obtain ⟨b3, off3, rfl, hb3, hcc⟩ := hr8.get hlt
        have c0 := hcc 0 (by omega)
        rw [Nat.mul_one, Nat.add_zero] at c0
        have hlk : Lc[q] = (k : Int) := by
          rw [List.getElem?_eq_getElem hlt] at hk1
          injection hk1
        change wr.cell? ⟨b3, off3 + q, none⟩ = some (.int .i64 Lc[q]) at c0
        rw [hlk] at c0
        obtain ⟨A9, c9, he9, hr9, _, _⟩ := hox.is
        injection he9 with e1 e2' e3; subst e1 e3
        obtain ⟨b, off, rfl, hb, _⟩ := hr9.get hk2
        have htl : (xs.take k).length = k := by rw [List.length_take]; omega
        have hdr : (xs.drop (k + 1)).length = xs.length - (k + 1) := List.length_drop
        have hs1 := fun (W : World) (hW : Below wr.heap.size wr W) => src_rowC (w := wr) (b := b) (off := off) (xs := xs) hr9 hb 0 (xs.take k) (fun i y hh => by
          have h1 := (List.getElem?_eq_some_iff.1 hh).1
          rw [htl] at h1
          rw [List.getElem?_take_of_lt h1] at hh
          rwa [Nat.zero_add]) hW
        have hs2 := fun (W : World) (hW : Below wr.heap.size wr W) => src_rowC (w := wr) (b := b) (off := off) (xs := xs) hr9 hb (k + 1) (xs.drop (k + 1)) (fun i y hh => by rwa [List.getElem?_drop] at hh) hW
        rw [Nat.zero_mul, Nat.add_zero] at hs1
        have hc63 : cap1 ≤ 9223372036854775807 := by simp only [maxLen] at hcm; omega
        have q1 : (k : Int) ≤ cap1 := by omega
        have q2 : (k : Int) + 1 ≤ xs.length := by omega
        have q3 : (k : Int) + 1 ≤ cap1 := by omega
        have q4 : IntKind.i64.wrap ((k : Int) + 1) = (k : Int) + 1 := IntWalk.i64_in _ (by omega)
        have q5 : (0 : Int) ≤ k := by omega
        have q7 : (0 : Int) ≤ (k : Int) + 1 := by omega
        have HTL := hide htl; have HDR := hide hdr; have HS1 := hide hs1; have HS2 := hide hs2; have HRES := hide hres
        clear htl hdr hs1 hs2 hr8 hr9 hcc hk1 hk3 hres e2 e2' hlk
        by_cases hck : cap1 = k + 1
        · have hxe : xs.length = k + 1 := by omega
          have hnil : xs.drop (k + 1) = [] := List.drop_eq_nil_of_le (by omega)
          have q6 : ((k : Int) + 1).toNat = cap1 := by omega
          have q8 : xs.length - cap1 = 0 := by omega
          have HNIL := hide hnil; have HXE := hide hxe; have HCK := hide hck; clear hnil hxe hck
          have hoa : Own 4 SClaim.enc 23 (wr.alloc (.cells #[] 23)).drew wr.heap.size (.slice (some ⟨wr.heap.size, 0, none⟩) 0 0) ([] : List SClaim) := Own.made (cs := #[]) rfl (Nat.le_refl _) (Blk.new wr _ _) rfl (Nat.zero_le _) Filled.zero
          have ba := (below_alloc wr (.cells #[] 23)).drew
          have HOA := hide hoa; have BA := hide ba; clear hoa ba
          go_wp2_with fail
          go_region_held3 (fun _ => True) (trivial)
            (first
              | (refine step_push (k := 4) (enc := SClaim.enc) _ (by rfl) _ _ 34 (by rfl) 23 (.agg #[.int .i64 0, .int .i64 0, .int .i64 0, .int .i64 0]) 32 Try.underlying34 SClaim.info rfl (by omega) SClaim.one wr.heap.size _ ([] : List SClaim) (by rfl) HOA.out ⟨b, off, none⟩ cap1 (xs.take k) (by rw [HTL.out]; rfl) (HS1.out _ BA.out) (by simp [HTL.out]; omega) (by simp [HTL.out]; omega) BA.out.size BA.out (Nat.le_refl _) ?_; intro v1 w91 ho1 hb1 hg1; have HO1 := hide ho1; clear ho1 hg1)
              | (refine step_push (k := 4) (enc := SClaim.enc) _ (by rfl) _ _ 34 (by rfl) 23 (.agg #[.int .i64 0, .int .i64 0, .int .i64 0, .int .i64 0]) 32 Try.underlying34 SClaim.info rfl (by omega) SClaim.one wr.heap.size _ ([] ++ xs.take k) (by rfl) HO1.out ⟨b, off, none⟩ 0 ([] : List SClaim) (by rfl) (fun i u hu => by simp [flat] at hu) (by simp [HTL.out]; omega) (by simp [HTL.out]; omega) hb1.size hb1 (Nat.le_refl _) ?_; intro v2 w94 ho2 hb4 hg2; have HO2 := hide (show Own 4 SClaim.enc 23 w94 wr.heap.size v2 (wo xs k) from by unfold wo; rw [HNIL.out]; exact ho2); have B4 := bstep hbel hb4 hsz; have hs4 := hb4.size; have HB4 := hide hb4; clear ho2 hg2))
          all_goals
            go_wp2_with fail
            refine (HRES.out _ _ HO2.out.is).mono ?_; rintro e w96 ⟨rfl, hb6⟩
            have B6 := bstep B4 hb6 (Nat.le_trans hsz hs4)
            have HX6 := hide ((HX9.out.below HB4.out).below hb6); have HC6 := hide ((HC9.out.below HB4.out).below hb6)
            clear hb6
            go_wp2_with fail
            go_round
            case measure => (simp [intOf] <;> omega)
            case rel => exact ⟨q + 1, by omega, by go_num, HX6.out, HC6.out, B6⟩
        · have hck2 : ¬ cap1 = k + 1 := hck
          have q6 : ((k : Int) + 1).toNat = k + 1 := by omega
          have hoa : Own 4 SClaim.enc 23 (wr.alloc (.cells #[] 23)).drew wr.heap.size (.slice (some ⟨wr.heap.size, 0, none⟩) 0 0) ([] : List SClaim) := Own.made (cs := #[]) rfl (Nat.le_refl _) (Blk.new wr _ _) rfl (Nat.zero_le _) Filled.zero
          have ba := (below_alloc wr (.cells #[] 23)).drew
          have HOA := hide hoa; have BA := hide ba; clear hoa ba
          go_wp2_with fail
          go_region_held3 (fun _ => True) (trivial)
            (first
              | (refine step_push (k := 4) (enc := SClaim.enc) _ (by rfl) _ _ 34 (by rfl) 23 (.agg #[.int .i64 0, .int .i64 0, .int .i64 0, .int .i64 0]) 32 Try.underlying34 SClaim.info rfl (by omega) SClaim.one wr.heap.size _ ([] : List SClaim) (by rfl) HOA.out ⟨b, off, none⟩ cap1 (xs.take k) (by rw [HTL.out]; rfl) (HS1.out _ BA.out) (by simp [HTL.out]; omega) (by simp [HTL.out]; omega) BA.out.size BA.out (Nat.le_refl _) ?_; intro v1 w91 ho1 hb1 hg1; have HO1 := hide ho1; clear ho1 hg1)
              | (refine step_push (k := 4) (enc := SClaim.enc) _ (by rfl) _ _ 34 (by rfl) 23 (.agg #[.int .i64 0, .int .i64 0, .int .i64 0, .int .i64 0]) 32 Try.underlying34 SClaim.info rfl (by omega) SClaim.one wr.heap.size _ ([] ++ xs.take k) (by rfl) HO1.out ⟨b, off + (k + 1) * 4, none⟩ (cap1 - (k + 1)) (xs.drop (k + 1)) (by rw [HDR.out]; rfl) (HS2.out _ hb1) (by simp [HTL.out, HDR.out]; omega) (by simp [HTL.out, HDR.out]; omega) hb1.size hb1 (Nat.le_refl _) ?_; intro v2 w94 ho2 hb4 hg2; have HO2 := hide (show Own 4 SClaim.enc 23 w94 wr.heap.size v2 (wo xs k) from by exact ho2); have B4 := bstep hbel hb4 hsz; have hs4 := hb4.size; have HB4 := hide hb4; clear ho2 hg2))
          all_goals
            go_wp2_with fail
            refine (HRES.out _ _ HO2.out.is).mono ?_; rintro e w96 ⟨rfl, hb6⟩
            have B6 := bstep B4 hb6 (Nat.le_trans hsz hs4)
            have HX6 := hide ((HX9.out.below HB4.out).below hb6); have HC6 := hide ((HC9.out.below HB4.out).below hb6)
            clear hb6
            go_wp2_with fail
            go_round
            case measure => (simp [intOf] <;> omega)
            case rel => exact ⟨q + 1, by omega, by go_num, HX6.out, HC6.out, B6⟩
      · have hql : ¬ (q : Int) < Lc.length := by omega
        go_wp2_with fail
        go_ret
        exact ⟨rfl, hbel⟩
end Go.Proofs.Ytijjecckfcbaoaa
