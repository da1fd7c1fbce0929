/- The walk of FnSheets: it returns true whatever the code; old memory stays. Conditions: the table of powers of ten, the errors and bytealg.MaxLen are laid. (Printed by mkfnsheets.py.) -/
import Derived.Test.YtplemibckjnbhaaGreatDoorWFnShe2
import Derived.Deep.CutBlock
namespace Go.Proofs.YtplemibckjnbhaaGreatDoor
open Go.RowKit
set_option linter.unusedVariables false
set_option maxRecDepth 100000 in
set_option maxHeartbeats 8000000 in
theorem law_FnSheets (A : Option Addr) (cap : Nat) (code : List Int) (w : World) (hr : Row 1 encU w w.heap.size A code) (hl : code.length ≤ cap) (hc : cap ≤ maxLen) (wz : ∀ z ∈ code, (Lit.int .u8 z).wf = true) (ht : Tab w) (he : Errs w) (hm : MaxL w) :
    Calls Tryz.prog 4 #[.slice A code.length cap] w fun e w' => e = .returned (.bool true) ∧ Below w.heap.size w w' := by
  have hcode : Code w (.slice A code.length cap) A cap code := ⟨rfl, hr, fun z hz => wf8 (wz z hz), hl, hc⟩
  have hbig := vBig_is A code.length cap w
  by_cases hlen : (65536 : Int) < code.length
  · rw [decide_eq_true hlen] at hbig
    have HBIG := hide hbig; clear hbig hr wz hcode
    go_enter Tryz.func4, Tryz.ntmps4
    go_wp2_with fail
    refine HBIG.out.mono ?_; rintro e w' ⟨rfl, rfl⟩
    go_wp2_with fail
    go_ret
    exact ⟨rfl, Below.refl _ _⟩
  rw [decide_eq_false hlen] at hbig
  have HBIG := hide hbig; have HCODE := hide hcode; clear hbig hr wz hcode hlen
  have HB := hide (Below.refl w.heap.size w); have HT := hide ht; have HE := hide he; have HM := hide hm; clear ht he hm
  go_enter Tryz.func4, Tryz.ntmps4
  go_wp2_with fail
  refine HBIG.out.mono ?_; rintro e w' ⟨rfl, rfl⟩
  clear HBIG
  go_wp2_with fail
  refine (drawSheetText_is _ _ A cap code (HCODE.out.below HB.out (Nat.le_refl _))).mono ?_; rintro e w1 ⟨⟨x0, x1, x2, x3, x4⟩, rfl, hb⟩
  replace HB := hide (bstep HB.out hb HB.out.size); clear hb
  have cT := fun W h => SheetTextI_is x0 x1 x2 x3 x4 W h
  have cTS := fun W => SheetTextS_is x0 x1 x2 x3 x4 W
  have cO := fun W => IsSheet_any x0 x1 x2 x3 x4 W
  rw [← textSh_ok] at cO
  have hsz := textSh_size ⟨x0, x1, x2, x3, x4⟩
  have hlaw := @textSh_par ⟨x0, x1, x2, x3, x4⟩
  generalize (textSh ⟨x0, x1, x2, x3, x4⟩).2 = ok at *
  generalize (textSh ⟨x0, x1, x2, x3, x4⟩).1 = tx at *
  have cP := fun W h1 h2 h3 => ParseSheetI_is tx W h1 h2 h3 hsz
  generalize parSh tx = q at *
  obtain ⟨⟨y0, y1, y2, y3, y4⟩, rd⟩ := q
  have hne := fun W => SSheet.neq_self x0 x1 x2 x3 x4 W
  have t1 : (ok != ok) = false := by simp
  have t2 : (tx.toList == tx.toList) = true := by simp
  have CT := hide cT; have CTS := hide cTS; have CO := hide cO; have CP := hide cP; have HLAW := hide hlaw; clear cT cTS cO cP hlaw hsz
  go_upto_region 4 with fail
  have HU := hide (Blk.new w1 50 #[.int .i64 x0, .int .i64 x1, .int .i64 x2, .int .i64 x3, .int .i64 x4])
  replace HB := hide (HB.out.alloc HB.out.size (.cells #[.int .i64 x0, .int .i64 x1, .int .i64 x2, .int .i64 x3, .int .i64 x4] 50))
  generalize w1.alloc (.cells #[.int .i64 x0, .int .i64 x1, .int .i64 x2, .int .i64 x3, .int .i64 x4] 50) = w2 at *
  generalize w1.heap.size = bU at *
  obtain ⟨cua, cub, cuc, cud, cue⟩ := mk5S HU.out
  go_wp2_with fail
  refine (CT.out _ (HT.out.below HB.out (Nat.le_refl _))).mono ?_; rintro e w3 ⟨rfl, hb⟩
  replace HU := hide (HU.out.below hb HU.out.lt)
  replace HB := hide (bstep HB.out hb HB.out.size); clear hb
  clear cua cub cuc cud cue
  go_wp2_with fail
  refine (CP.out _ (HM.out.below HB.out (Nat.le_refl _)) (HT.out.below HB.out (Nat.le_refl _)) (HE.out.below HB.out (Nat.le_refl _))).mono ?_; rintro e w4 ⟨rfl, hb⟩
  replace HU := hide (HU.out.below hb HU.out.lt)
  replace HB := hide (bstep HB.out hb HB.out.size); clear hb
  go_upto_region 6 with fail
  replace HU := hide (HU.out.alloc (.cells #[.int .i64 y0, .int .i64 y1, .int .i64 y2, .int .i64 y3, .int .i64 y4] 50))
  have HV := hide (Blk.new w4 50 #[.int .i64 y0, .int .i64 y1, .int .i64 y2, .int .i64 y3, .int .i64 y4])
  replace HB := hide (HB.out.alloc HB.out.size (.cells #[.int .i64 y0, .int .i64 y1, .int .i64 y2, .int .i64 y3, .int .i64 y4] 50))
  generalize w4.alloc (.cells #[.int .i64 y0, .int .i64 y1, .int .i64 y2, .int .i64 y3, .int .i64 y4] 50) = w5 at *
  generalize w4.heap.size = bV at *
  obtain ⟨cua, cub, cuc, cud, cue⟩ := mk5S HU.out
  go_wp2_with fail
  refine (CTS.out _).mono ?_; rintro e w6 ⟨rfl, hb⟩
  replace HU := hide (HU.out.below hb HU.out.lt)
  replace HV := hide (HV.out.below hb HV.out.lt)
  replace HB := hide (bstep HB.out hb HB.out.size); clear hb
  clear cua cub cuc cud cue
  obtain ⟨cua, cub, cuc, cud, cue⟩ := mk5S HU.out
  obtain ⟨cva, cvb, cvc, cvd, cve⟩ := mk5S HV.out
  go_wp2_with fail
  refine (CO.out _).mono ?_; rintro e w7 ⟨rfl, hb⟩
  replace HU := hide (HU.out.below hb HU.out.lt)
  replace HV := hide (HV.out.below hb HV.out.lt)
  replace HB := hide (bstep HB.out hb HB.out.size); clear hb
  clear cua cub cuc cud cue
  clear cva cvb cvc cvd cve
  obtain ⟨cua, cub, cuc, cud, cue⟩ := mk5S HU.out
  obtain ⟨cva, cvb, cvc, cvd, cve⟩ := mk5S HV.out
  clear CT CTS CO CP
  cases ok with
  | false =>
    clear HLAW
    go_upto_if 84 with fail
    go_cut [] from 84 to 84 (fun wx => Below w.heap.size w wx)
    case first =>
      go_wp2_with fail
      go_meet
      exact HB.out
    case rest =>
      apply_assumption
      exact sheets2 A cap code w HCODE.out _ hcut _ _ _ _ _ _ _ _ _ _ _ _ _ _ _ _ _ _ _ _ _ _ _ _ _ _ _ _ _ _ _ _ _ _ _ _ _ _ _ _ _ _ _ _ _ _ _ _ _ _ _ _ _ _ _ _ _ _ _ _ _ _ _ _ _ _ _ _ _ _ _ _ _ _ _ _ _ _ _ _ _ _ _ _ _ _ _ _ _ _ _ _ _ _ _ _ _ _ _ _ _ _ _ _ _ _ _ _ _ _ _ _ _ _ _ _ _ _ _ _ _ _ _ _ _ _ _ _ _ _ _ _ _ _ _ _ _ _ _ _ _ _ _ _ _ _ _ _ _ _ _ _ _ _ _ _ _ _ _ _ _ _ _ _ _ _ _ _ _ _ _ _ _ _ _ _ _ _ _ _ _ _ _ _ _ _ _ _ _ _ _ _ _ _ _ _ _ _ _ _ _ _ _ _ _ _ _ _ _ _ _ _ _ _ _ _ _ _ _ _ _ _ _ _ _ _ _ _ _ _ _ _ _ _ _ _ _ _ _ _ _ _ _ _ _ _ _ HT.out HE.out HM.out
  | true =>
    have hx := HLAW.out rfl
    simp only [Prod.mk.injEq, SSheet.mk.injEq] at hx
    obtain ⟨⟨rfl, rfl, rfl, rfl, rfl⟩, rfl⟩ := hx
    clear HLAW
    go_upto_if 84 with fail
    go_cut [] from 84 to 84 (fun wx => Below w.heap.size w wx)
    case first =>
      go_wp2_with fail
      go_meet
      exact HB.out
    case rest =>
      apply_assumption
      exact sheets2 A cap code w HCODE.out _ hcut _ _ _ _ _ _ _ _ _ _ _ _ _ _ _ _ _ _ _ _ _ _ _ _ _ _ _ _ _ _ _ _ _ _ _ _ _ _ _ _ _ _ _ _ _ _ _ _ _ _ _ _ _ _ _ _ _ _ _ _ _ _ _ _ _ _ _ _ _ _ _ _ _ _ _ _ _ _ _ _ _ _ _ _ _ _ _ _ _ _ _ _ _ _ _ _ _ _ _ _ _ _ _ _ _ _ _ _ _ _ _ _ _ _ _ _ _ _ _ _ _ _ _ _ _ _ _ _ _ _ _ _ _ _ _ _ _ _ _ _ _ _ _ _ _ _ _ _ _ _ _ _ _ _ _ _ _ _ _ _ _ _ _ _ _ _ _ _ _ _ _ _ _ _ _ _ _ _ _ _ _ _ _ _ _ _ _ _ _ _ _ _ _ _ _ _ _ _ _ _ _ _ _ _ _ _ _ _ _ _ _ _ _ _ _ _ _ _ _ _ _ _ _ _ _ _ _ _ _ _ _ _ _ _ _ _ _ _ _ _ _ _ _ _ _ _ _ HT.out HE.out HM.out
end Go.Proofs.YtplemibckjnbhaaGreatDoor
