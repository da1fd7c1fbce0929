/- The walk of FnStrings: it returns true whatever the code; old memory stays. Conditions: the table of powers of ten and the errors of strconv are laid. (Printed by mkfnstrings.py.) -/
import Derived.Test.YtplemibckjnbhaaDoorLsH
import Derived.IntWalk
import Derived.Deep.RegionWith
namespace Go.Proofs.YtplemibckjnbhaaDoor
open Go.RowKit Go.Lib
set_option linter.unusedVariables false
set_option maxRecDepth 100000 in
set_option maxHeartbeats 8000000 in
theorem law_FnStrings (A : Option Addr) (cap : Nat) (code : List Int) (w : World) (hr : Row 1 encU w w.heap.size A code) (hl : code.length ≤ cap) (hc : cap ≤ maxLen) (wz : ∀ z ∈ code, (Lit.int .u8 z).wf = true) (ht : Tab w) (he : Errs w) :
    Calls Tryd.prog 5 #[.slice A code.length cap] w fun e w' => e = .returned (.bool true) ∧ Below w.heap.size w w' := by
  have hcode : Code w (.slice A code.length cap) A cap code := ⟨rfl, hr, fun z hz => wf8 (wz z hz), hl, hc⟩
  have hbig := vBig_is A code.length cap w
  by_cases hlen : (65536 : Int) < code.length
  · rw [decide_eq_true hlen] at hbig
    have HBIG := hide hbig; clear hbig hr wz hcode
    go_enter Tryd.func5, Tryd.ntmps5
    go_wp2_with fail
    refine HBIG.out.mono ?_; rintro e w' ⟨rfl, rfl⟩
    go_wp2_with fail
    go_ret
    exact ⟨rfl, Below.refl _ _⟩
  rw [decide_eq_false hlen] at hbig
  have HBIG := hide hbig; have HCODE := hide hcode; clear hbig hr wz hcode hlen
  have HB := hide (Below.refl w.heap.size w); have HT := hide ht; have HE := hide he; clear ht he
  go_enter Tryd.func5, Tryd.ntmps5
  go_wp2_with fail
  refine HBIG.out.mono ?_; rintro e w' ⟨rfl, rfl⟩
  clear HBIG
  go_wp2_with fail
  refine (drawFormatInt_is _ _ A cap code (HCODE.out.below HB.out (Nat.le_refl _))).mono ?_; rintro e w1 ⟨n, rfl, hn, hb⟩
  replace HB := hide (bstep HB.out hb HB.out.size); clear hb
  have cF := fun W h => FormatIntI_is n W h
  have cFS := fun W => FormatIntS_is n W
  have hfl := @fmt_law n
  have hfz := fmt_sz n
  generalize (fmtV n).1 = s at *
  generalize (fmtV n).2 = ok at *
  have cP0 := fun W h1 h2 => ParseI_is s W (by omega) h1 h2
  generalize hp0 : parseW s = p0 at *
  obtain ⟨m0, g0⟩ := p0
  have t1 : (s.toList == s.toList) = true := by simp
  have t2 : (ok != ok) = false := by simp
  have CF := hide cF; have CFS := hide cFS; have CP0 := hide cP0; have HFL := hide hfl
  clear cF cFS cP0 hfl hp0 hn
  go_wp2_with fail
  refine (CF.out _ (HT.out.below HB.out (Nat.le_refl _))).mono ?_; rintro e w2 ⟨rfl, hb⟩
  replace HB := hide (bstep HB.out hb HB.out.size); clear hb
  go_wp2_with fail
  refine (CFS.out _).mono ?_; rintro e w3 ⟨rfl, hb⟩
  replace HB := hide (bstep HB.out hb HB.out.size); clear hb
  clear CF CFS
  go_wp2_with fail
  refine (drawParseInt_is _ _ A cap code (HCODE.out.below HB.out (Nat.le_refl _))).mono ?_; rintro e w4 ⟨t, rfl, htz, hb⟩
  replace HB := hide (bstep HB.out hb HB.out.size); clear hb
  have cP := fun W h1 h2 => ParseI_is t W (by omega) h1 h2
  have cPS := fun W => ParseS_is t W (by omega)
  generalize parseW t = p1 at *
  obtain ⟨m1, g1⟩ := p1
  have t3 : (m1 != m1) = false := by simp
  have t4 : (g1 != g1) = false := by simp
  have CP := hide cP; have CPS := hide cPS; clear cP cPS
  go_wp2_with fail
  refine (CP.out _ (HT.out.below HB.out (Nat.le_refl _)) (HE.out.below HB.out (Nat.le_refl _))).mono ?_; rintro e w5 ⟨rfl, hb⟩
  replace HB := hide (bstep HB.out hb HB.out.size); clear hb
  go_wp2_with fail
  refine (CPS.out _).mono ?_; rintro e w6 ⟨rfl, hb⟩
  replace HB := hide (bstep HB.out hb HB.out.size); clear hb
  clear CP CPS
  go_wp2_with fail
  refine (drawAppend_is _ _ A cap code (HCODE.out.below HB.out (Nat.le_refl _))).mono ?_; rintro e w7 ⟨x, rfl, hxz, hb⟩
  replace HB := hide (bstep HB.out hb HB.out.size); clear hb
  have cA := fun W h => AppendI_is x W (by omega) h
  have cAS := fun W => AppendS_is x W (by omega)
  have hl1 := @seal_law x; have hl2 := @seal_no x; have hl3 := @seal_sz x hxz
  generalize (sealW x).1 = y at *
  generalize (sealW x).2 = sealed at *
  have t5 : (y.toList == y.toList) = true := by simp
  have t6 : (sealed != sealed) = false := by simp
  have CA := hide cA; have CAS := hide cAS; have HL1 := hide hl1; have HL2 := hide hl2; have HL3 := hide hl3; clear cA cAS hl1 hl2 hl3
  go_wp2_with fail
  refine (CA.out _ (HT.out.below HB.out (Nat.le_refl _))).mono ?_; rintro e w8 ⟨rfl, hb⟩
  replace HB := hide (bstep HB.out hb HB.out.size); clear hb
  go_wp2_with fail
  refine (CAS.out _).mono ?_; rintro e w9 ⟨rfl, hb⟩
  replace HB := hide (bstep HB.out hb HB.out.size); clear hb
  clear CA CAS
  go_wp2_with fail
  refine (CP0.out _ (HT.out.below HB.out (Nat.le_refl _)) (HE.out.below HB.out (Nat.le_refl _))).mono ?_; rintro e w10 ⟨rfl, hb⟩
  replace HB := hide (bstep HB.out hb HB.out.size); clear hb
  clear CP0
  cases ok with
  | false =>
    clear HFL
    cases sealed with
    | false =>
      have hy := HL2.out rfl
      subst hy
      have te : (⟨#[]⟩ : ByteArray).toList.isEmpty = true := by rw [ByteArray.toList_eq]; rfl
      clear HL1 HL2 HL3
      go_wp2_with fail
      go_ret
      exact ⟨rfl, HB.out⟩
    | true =>
      obtain ⟨hv, hch⟩ := HL1.out rfl
      obtain ⟨hs1, hs2⟩ := HL3.out rfl
      have cV := fun W h => Verify_is y W (by omega) h
      rw [hv] at cV
      have CV := hide cV; have HCH := hide hch; clear cV hch hv HL1 HL2 HL3
      go_wp2_with fail
      refine (CV.out _ (HT.out.below HB.out (Nat.le_refl _))).mono ?_; rintro e w11 ⟨rfl, hb⟩
      replace HB := hide (bstep HB.out hb HB.out.size); clear hb
      clear CV
      have hcv := Go.Lib.run_convert_string_bytes (P := Tryd.prog) w11 9 22 5 y Tryd.underlying9 Tryd.underlying22 Tryd.underlying5
      obtain ⟨cs, fz, hblk, hcs, hsz, hfz⟩ := bytes_blk w11 5 y
      have hbb := below_bytesS w11 5 y
      generalize grownCap w11 y.size 0 5 = gc at *
      generalize bytesWorld w11 5 y = wb at *
      have hgw : w.heap.size ≤ w11.heap.size := HB.out.size
      generalize hgg : w11.heap.size = g at *
      have hB1 := bstep HB.out (show Below w11.heap.size w11 wb by rw [hgg]; exact hbb) HB.out.size
      replace HB := hide hB1; have HBLK := hide hblk; have HCS := hide hcs; clear hB1 hblk hcs hbb
      have hcd := HCODE.out.below HB.out (Nat.le_refl _)
      have hbd9 := vAtV_bd HCODE.out.byt 9; have hbd10 := vAtV_bd HCODE.out.byt 10
      have hv9 := fun (W : World) (h : Below w.heap.size w W) => vAtV_is _ A cap code 9 W (HCODE.out.below h (Nat.le_refl _)) (by decide)
      have hv10 := fun (W : World) (h : Below w.heap.size w W) => vAtV_is _ A cap code 10 W (HCODE.out.below h (Nat.le_refl _)) (by decide)
      generalize vAtV code 9 = x9 at *; generalize vAtV code 10 = x10 at *
      obtain ⟨hx90, hx91⟩ := hbd9; obtain ⟨hx100, hx101⟩ := hbd10
      obtain ⟨k, hk⟩ : ∃ k : Nat, x9 % (y.size : Int) = (k : Int) := ⟨(x9 % (y.size : Int)).toNat, (Int.toNat_of_nonneg (Int.emod_nonneg _ (by omega))).symm⟩
      have hky : k < y.size := by have := Int.emod_lt_of_pos x9 (show (0 : Int) < y.size by omega); omega
      have hky2 : (k : Int) < y.size := by omega
      obtain ⟨m, hmm⟩ : ∃ m : Nat, 1 + x10 % 255 = (m : Int) := ⟨(1 + x10 % 255).toNat, by omega⟩
      have hm1 : 1 ≤ m ∧ m ≤ 255 := by omega
      obtain ⟨c, hxc, hne⟩ := xor_byte y[k] m hm1.1 hm1.2
      have hxr : bits .xor .u8 (y[k].toNat : Int) (IntKind.u8.wrap (IntKind.i64.wrap (1 + x10.tmod 255))) = (c.toNat : Int) := by
        rw [Int.tmod_eq_emod_of_nonneg hx100, hmm, IntWalk.i64_in _ (by omega), IntWalk.u8_in _ (by omega)]; exact hxc
      clear hmm hxc
      have hno := HCH.out k c hky hne
      have hcell : wb.cell? ⟨g, k, none⟩ = some (.int .u8 (y[k].toNat : Int)) := by rw [HBLK.out.cell]; exact HCS.out k hky
      have hfr : wb.frozen? ⟨g, k, none⟩ = false := HBLK.out.frozen (by omega)
      have hbz : BlkF (wb.setCell ⟨g, k, none⟩ (.int .u8 (c.toNat : Int))).drew g 5 (cs.setIfInBounds k (.int .u8 (c.toNat : Int))) fz := HBLK.out.set k (.int .u8 (c.toNat : Int))
      have hrow := rowF hky HCS.out hsz hbz
      have HBZ := hide ((HB.out.setCell (p := ⟨g, k, none⟩) hgw (.int .u8 (c.toNat : Int))).drew)
      clear hbz
      have hcv2 := run_convert_row (dst := 9) (cap := gc) (P := Tryd.prog) Tryd.underlying22 Tryd.underlying5 Tryd.underlying9 hrow (by have hl : y.data.toList.length = y.size := rfl; intro h; have h2 := congrArg List.length h; rw [List.length_set, hl, List.length_nil] at h2; omega)
      rw [List.length_set, show y.data.toList.length = y.size from rfl] at hcv2
      have hsz2 : (⟨(y.data.toList.set k c).toArray⟩ : ByteArray).size ≤ 1000000 := by show (y.data.toList.set k c).toArray.size ≤ 1000000; rw [List.size_toArray, List.length_set]; show y.size ≤ 1000000; omega
      generalize (⟨(y.data.toList.set k c).toArray⟩ : ByteArray) = y2 at *
      have cV := fun W h => Verify_is y2 W hsz2 h
      generalize verW y2 = q at *
      obtain ⟨q1, q2⟩ := q
      have hno : q2 = false := hno
      subst hno
      have t8 : (x.toList == x.toList) = true := by simp
      have CV := hide cV; have HV9 := hide hv9; have HV10 := hide hv10; clear cV hv9 hv10 hrow hne hcd hxz hsz hfz
      generalize y[k] = yk at *
      go_wp2_with (go_at_call 47; refine (HV9.out _ HB.out).mono ?_; rintro e w20 ⟨rfl, rfl⟩)
      rw [hk]
      have HBd := hide HB.out.drew
      go_region_with (go_at_call 47; refine (HV10.out _ HBd.out).mono ?_; rintro e w21 ⟨rfl, rfl⟩)
      all_goals
        generalize (wb.setCell ⟨g, k, none⟩ (.int .u8 (c.toNat : Int))).drew = wz at *
        clear hcell hfr hxr
        go_wp2_with fail
        refine (CV.out _ (HT.out.below HBZ.out (Nat.le_refl _))).mono ?_; rintro e w30 ⟨rfl, hb⟩
        replace HBZ := hide (bstep HBZ.out hb HBZ.out.size); clear hb
        go_wp2_with fail
        go_ret
        exact ⟨rfl, HBZ.out⟩
  | true =>
    have hf := HFL.out rfl
    injection hf with hf1 hf2
    subst hf1 hf2
    have t7 : (m0 != m0) = false := by simp
    clear HFL
    cases sealed with
    | false =>
      have hy := HL2.out rfl
      subst hy
      have te : (⟨#[]⟩ : ByteArray).toList.isEmpty = true := by rw [ByteArray.toList_eq]; rfl
      clear HL1 HL2 HL3
      go_wp2_with fail
      go_ret
      exact ⟨rfl, HB.out⟩
    | true =>
      obtain ⟨hv, hch⟩ := HL1.out rfl
      obtain ⟨hs1, hs2⟩ := HL3.out rfl
      have cV := fun W h => Verify_is y W (by omega) h
      rw [hv] at cV
      have CV := hide cV; have HCH := hide hch; clear cV hch hv HL1 HL2 HL3
      go_wp2_with fail
      refine (CV.out _ (HT.out.below HB.out (Nat.le_refl _))).mono ?_; rintro e w11 ⟨rfl, hb⟩
      replace HB := hide (bstep HB.out hb HB.out.size); clear hb
      clear CV
      have hcv := Go.Lib.run_convert_string_bytes (P := Tryd.prog) w11 9 22 5 y Tryd.underlying9 Tryd.underlying22 Tryd.underlying5
      obtain ⟨cs, fz, hblk, hcs, hsz, hfz⟩ := bytes_blk w11 5 y
      have hbb := below_bytesS w11 5 y
      generalize grownCap w11 y.size 0 5 = gc at *
      generalize bytesWorld w11 5 y = wb at *
      have hgw : w.heap.size ≤ w11.heap.size := HB.out.size
      generalize hgg : w11.heap.size = g at *
      have hB1 := bstep HB.out (show Below w11.heap.size w11 wb by rw [hgg]; exact hbb) HB.out.size
      replace HB := hide hB1; have HBLK := hide hblk; have HCS := hide hcs; clear hB1 hblk hcs hbb
      have hcd := HCODE.out.below HB.out (Nat.le_refl _)
      have hbd9 := vAtV_bd HCODE.out.byt 9; have hbd10 := vAtV_bd HCODE.out.byt 10
      have hv9 := fun (W : World) (h : Below w.heap.size w W) => vAtV_is _ A cap code 9 W (HCODE.out.below h (Nat.le_refl _)) (by decide)
      have hv10 := fun (W : World) (h : Below w.heap.size w W) => vAtV_is _ A cap code 10 W (HCODE.out.below h (Nat.le_refl _)) (by decide)
      generalize vAtV code 9 = x9 at *; generalize vAtV code 10 = x10 at *
      obtain ⟨hx90, hx91⟩ := hbd9; obtain ⟨hx100, hx101⟩ := hbd10
      obtain ⟨k, hk⟩ : ∃ k : Nat, x9 % (y.size : Int) = (k : Int) := ⟨(x9 % (y.size : Int)).toNat, (Int.toNat_of_nonneg (Int.emod_nonneg _ (by omega))).symm⟩
      have hky : k < y.size := by have := Int.emod_lt_of_pos x9 (show (0 : Int) < y.size by omega); omega
      have hky2 : (k : Int) < y.size := by omega
      obtain ⟨m, hmm⟩ : ∃ m : Nat, 1 + x10 % 255 = (m : Int) := ⟨(1 + x10 % 255).toNat, by omega⟩
      have hm1 : 1 ≤ m ∧ m ≤ 255 := by omega
      obtain ⟨c, hxc, hne⟩ := xor_byte y[k] m hm1.1 hm1.2
      have hxr : bits .xor .u8 (y[k].toNat : Int) (IntKind.u8.wrap (IntKind.i64.wrap (1 + x10.tmod 255))) = (c.toNat : Int) := by
        rw [Int.tmod_eq_emod_of_nonneg hx100, hmm, IntWalk.i64_in _ (by omega), IntWalk.u8_in _ (by omega)]; exact hxc
      clear hmm hxc
      have hno := HCH.out k c hky hne
      have hcell : wb.cell? ⟨g, k, none⟩ = some (.int .u8 (y[k].toNat : Int)) := by rw [HBLK.out.cell]; exact HCS.out k hky
      have hfr : wb.frozen? ⟨g, k, none⟩ = false := HBLK.out.frozen (by omega)
      have hbz : BlkF (wb.setCell ⟨g, k, none⟩ (.int .u8 (c.toNat : Int))).drew g 5 (cs.setIfInBounds k (.int .u8 (c.toNat : Int))) fz := HBLK.out.set k (.int .u8 (c.toNat : Int))
      have hrow := rowF hky HCS.out hsz hbz
      have HBZ := hide ((HB.out.setCell (p := ⟨g, k, none⟩) hgw (.int .u8 (c.toNat : Int))).drew)
      clear hbz
      have hcv2 := run_convert_row (dst := 9) (cap := gc) (P := Tryd.prog) Tryd.underlying22 Tryd.underlying5 Tryd.underlying9 hrow (by have hl : y.data.toList.length = y.size := rfl; intro h; have h2 := congrArg List.length h; rw [List.length_set, hl, List.length_nil] at h2; omega)
      rw [List.length_set, show y.data.toList.length = y.size from rfl] at hcv2
      have hsz2 : (⟨(y.data.toList.set k c).toArray⟩ : ByteArray).size ≤ 1000000 := by show (y.data.toList.set k c).toArray.size ≤ 1000000; rw [List.size_toArray, List.length_set]; show y.size ≤ 1000000; omega
      generalize (⟨(y.data.toList.set k c).toArray⟩ : ByteArray) = y2 at *
      have cV := fun W h => Verify_is y2 W hsz2 h
      generalize verW y2 = q at *
      obtain ⟨q1, q2⟩ := q
      have hno : q2 = false := hno
      subst hno
      have t8 : (x.toList == x.toList) = true := by simp
      have CV := hide cV; have HV9 := hide hv9; have HV10 := hide hv10; clear cV hv9 hv10 hrow hne hcd hxz hsz hfz
      generalize y[k] = yk at *
      go_wp2_with (go_at_call 47; refine (HV9.out _ HB.out).mono ?_; rintro e w20 ⟨rfl, rfl⟩)
      rw [hk]
      have HBd := hide HB.out.drew
      go_region_with (go_at_call 47; refine (HV10.out _ HBd.out).mono ?_; rintro e w21 ⟨rfl, rfl⟩)
      all_goals
        generalize (wb.setCell ⟨g, k, none⟩ (.int .u8 (c.toNat : Int))).drew = wz at *
        clear hcell hfr hxr
        go_wp2_with fail
        refine (CV.out _ (HT.out.below HBZ.out (Nat.le_refl _))).mono ?_; rintro e w30 ⟨rfl, hb⟩
        replace HBZ := hide (bstep HBZ.out hb HBZ.out.size); clear hb
        go_wp2_with fail
        go_ret
        exact ⟨rfl, HBZ.out⟩
end Go.Proofs.YtplemibckjnbhaaDoor
