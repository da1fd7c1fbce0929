/- The walk of FnSplitJoin: it returns true whatever the code; old memory stays. Condition: internal/bytealg.MaxLen holds some int. (Printed by mkfnsplit.py.) -/
import Derived.Test.YtplemibckjnbhaaDoorLsN
import Derived.IntWalk
namespace Go.Proofs.YtplemibckjnbhaaDoor
open Go.RowKit Go.Lib
set_option linter.unusedVariables false
set_option maxRecDepth 100000 in
set_option maxHeartbeats 8000000 in
theorem law_FnSplitJoin (A : Option Addr) (cap : Nat) (code : List Int) (w : World) (hr : Row 1 encU w w.heap.size A code) (hl : code.length ≤ cap) (hc : cap ≤ maxLen) (wz : ∀ z ∈ code, (Lit.int .u8 z).wf = true) (hm : MaxL w) :
    Calls Tryd.prog 3 #[.slice A code.length cap] w fun e w' => e = .returned (.bool true) ∧ Below w.heap.size w w' := by
  have hcode : Code w (.slice A code.length cap) A cap code := ⟨rfl, hr, fun z hz => wf8 (wz z hz), hl, hc⟩
  have hbig := vBig_is A code.length cap w
  by_cases hlen : (65536 : Int) < code.length
  · rw [decide_eq_true hlen] at hbig
    have HBIG := hide hbig; clear hbig hr wz hcode
    go_enter Tryd.func3, Tryd.ntmps3
    go_wp2_with fail
    refine HBIG.out.mono ?_; rintro e w' ⟨rfl, rfl⟩
    go_wp2_with fail
    go_ret
    exact ⟨rfl, Below.refl _ _⟩
  rw [decide_eq_false hlen] at hbig
  have HBIG := hide hbig; have HCODE := hide hcode; clear hbig hr wz hcode hlen
  have HB := hide (Below.refl w.heap.size w); have HM := hide hm; clear hm
  go_enter Tryd.func3, Tryd.ntmps3
  go_wp2_with fail
  refine HBIG.out.mono ?_; rintro e w' ⟨rfl, rfl⟩
  clear HBIG
  go_wp2_with fail
  refine (drawSplit_is _ _ A cap code (HCODE.out.below HB.out (Nat.le_refl _))).mono ?_; rintro e w1 ⟨s, sep, rfl, hs, hsep, hb⟩
  replace HB := hide (bstep HB.out hb HB.out.size); clear hb
  have cS := fun W h => SplitI_is s sep W h (by omega) (by omega)
  have hno : ¬ sep.size = 1 → ((sep.size : Int) != 1) = true := fun h => by simp only [bne_iff_ne, ne_eq]; omega
  have hyes : sep.size = 1 → ((sep.size : Int) != 1) = false := fun h => by rw [h]; rfl
  have CS := hide cS; have HNO := hide hno; have HYES := hide hyes; clear cS hno hyes
  go_wp2_with fail
  refine (CS.out _ (HM.out.below HB.out (Nat.le_refl _))).mono ?_; rintro e w2 ⟨v0, rfl, xs, ⟨ho, hxl⟩, hn0, hc0, hb⟩
  replace HB := hide (bstep HB.out hb HB.out.size); clear hb
  have HX := hide ho.is; clear ho
  obtain ⟨A0, cap0, rfl, -⟩ := HX.out
  have HN0 := hide hn0; have HC0 := hide hc0; clear CS hn0 hc0
  go_wp2_with fail
  refine (drawJoin_is _ _ A cap code (HCODE.out.below HB.out (Nat.le_refl _))).mono ?_; rintro e w3 ⟨v1, ks, mark, rfl, hkz, hmz, hkl, ho, hb⟩
  replace HX := hide (HX.out.below hb (Nat.le_refl _))
  replace HB := hide (bstep HB.out hb HB.out.size); clear hb
  have HK := hide ho.is; clear ho
  have cJ := fun W h => JoinI_is v1 ks mark W h (by omega) hkz (by omega)
  have cJS := fun W h => JoinS_is v1 ks mark W h hkz (by omega)
  generalize (joinV ks mark).1 = j at *
  generalize (joinV ks mark).2 = fine at *
  have t1 : (j.toList == j.toList) = true := by simp
  have t2 : (fine != fine) = false := by simp
  have CJ := hide cJ; have CJS := hide cJS; clear cJ cJS hkz
  go_wp2_with fail
  refine (CJ.out _ HK.out).mono ?_; rintro e w4 ⟨rfl, hb⟩
  replace HX := hide (HX.out.below hb (Nat.le_refl _))
  replace HK := hide (HK.out.below hb (Nat.le_refl _))
  replace HB := hide (bstep HB.out hb HB.out.size); clear hb
  go_wp2_with fail
  refine (CJS.out _ HK.out).mono ?_; rintro e w5 ⟨rfl, hb⟩
  replace HX := hide (HX.out.below hb (Nat.le_refl _))
  replace HK := hide (HK.out.below hb (Nat.le_refl _))
  replace HB := hide (bstep HB.out hb HB.out.size); clear hb
  clear CJ CJS
  go_wp2_with fail
  refine (drawLess_is _ _ A cap code (HCODE.out.below HB.out (Nat.le_refl _))).mono ?_; rintro e w6 ⟨a, b, rfl, hb⟩
  replace HX := hide (HX.out.below hb (Nat.le_refl _))
  replace HK := hide (HK.out.below hb (Nat.le_refl _))
  replace HB := hide (bstep HB.out hb HB.out.size); clear hb
  clear HK
  have c1 := fun W => LessI_is a b W
  have c2 := fun W => LessS_is a b W
  have c3 := fun W => LessI_is b a W
  have has := less_asym a.toList b.toList
  generalize Op.bytesLess a.toList b.toList = lt at *
  generalize Op.bytesLess b.toList a.toList = gt at *
  have t3 : (lt != lt) = false := by simp
  have C1 := hide c1; have C2 := hide c2; have C3 := hide c3; have HAS := hide has; clear c1 c2 c3 has
  by_cases h1 : sep.size = 1
  · obtain ⟨c, rfl⟩ : ∃ c : UInt8, sep = ⟨#[c]⟩ := by
      obtain ⟨⟨l⟩⟩ := sep
      match l, h1 with
      | [c], _ => exact ⟨c, rfl⟩
    have hxs := HC0.out c rfl
    have hbk := split_back c s hs
    rw [← hxs] at hbk
    have cB := fun W h => JoinI_is (.slice A0 xs.length cap0) xs ⟨#[c]⟩ W h hxl hbk.2 (by show (1 : Nat) ≤ 5000; omega)
    rw [hbk.1] at cB
    have t4 : (s.toList == s.toList) = true := by simp
    have hd : decide ((⟨#[c]⟩ : ByteArray).size = 1) = true := rfl
    have hy := HYES.out h1
    have CB := hide cB; clear cB hxs hbk HC0 HN0 HYES HNO h1
    cases lt with
    | true =>
      have hgt := HAS.out rfl
      subst hgt
      go_wp2_with (first | (go_at_call 14; refine (C2.out _).mono ?_; rintro e w20 ⟨rfl, rfl⟩) | (go_at_call 13; first | (refine (C1.out _).mono ?_; rintro e w20 ⟨rfl, rfl⟩) | (refine (C3.out _).mono ?_; rintro e w20 ⟨rfl, rfl⟩)))
      refine (CB.out _ HX.out).mono ?_; rintro e w21 ⟨rfl, hb⟩
      replace HB := hide (bstep HB.out hb HB.out.size); clear hb
      go_wp2_with fail
      go_ret
      exact ⟨rfl, HB.out⟩
    | false =>
      go_wp2_with (first | (go_at_call 14; refine (C2.out _).mono ?_; rintro e w20 ⟨rfl, rfl⟩) | (go_at_call 13; first | (refine (C1.out _).mono ?_; rintro e w20 ⟨rfl, rfl⟩) | (refine (C3.out _).mono ?_; rintro e w20 ⟨rfl, rfl⟩)))
      refine (CB.out _ HX.out).mono ?_; rintro e w21 ⟨rfl, hb⟩
      replace HB := hide (bstep HB.out hb HB.out.size); clear hb
      go_wp2_with fail
      go_ret
      exact ⟨rfl, HB.out⟩
  · have hxs := HN0.out h1
    have hy := HNO.out h1
    have hd : decide (sep.size = 1) = false := decide_eq_false h1
    subst hxs
    clear HC0 HN0 HYES HNO h1
    cases lt with
    | true =>
      have hgt := HAS.out rfl
      subst hgt
      go_wp2_with (first | (go_at_call 14; refine (C2.out _).mono ?_; rintro e w20 ⟨rfl, rfl⟩) | (go_at_call 13; first | (refine (C1.out _).mono ?_; rintro e w20 ⟨rfl, rfl⟩) | (refine (C3.out _).mono ?_; rintro e w20 ⟨rfl, rfl⟩)))
      go_ret
      exact ⟨rfl, HB.out⟩
    | false =>
      go_wp2_with (first | (go_at_call 14; refine (C2.out _).mono ?_; rintro e w20 ⟨rfl, rfl⟩) | (go_at_call 13; first | (refine (C1.out _).mono ?_; rintro e w20 ⟨rfl, rfl⟩) | (refine (C3.out _).mono ?_; rintro e w20 ⟨rfl, rfl⟩)))
      go_ret
      exact ⟨rfl, HB.out⟩
end Go.Proofs.YtplemibckjnbhaaDoor
