/- The walk of FnReaderTexts: it returns true whatever the code; old memory stays. Conditions: the table of powers of ten, the errors and bytealg.MaxLen are laid. (Printed by mkfnrt.py.) -/
import Derived.Test.YtplemibckjnbhaaGreatDoorL3U
import Derived.Test.YtplemibckjnbhaaGreatDoorWFnRt2
import Derived.Deep.CutBlock
namespace Go.Proofs.YtplemibckjnbhaaGreatDoor
open Go.RowKit
set_option linter.unusedVariables false
set_option maxRecDepth 100000 in
set_option maxHeartbeats 8000000 in
theorem law_FnReaderTexts (A : Option Addr) (cap : Nat) (code : List Int) (w : World) (hr : Row 1 encU w w.heap.size A code) (hl : code.length ≤ cap) (hc : cap ≤ maxLen) (wz : ∀ z ∈ code, (Lit.int .u8 z).wf = true) (ht : Tab w) (he : Errs w) (hm : MaxL w) :
    Calls Tryz.prog 3 #[.slice A code.length cap] w fun e w' => e = .returned (.bool true) ∧ Below w.heap.size w w' := by
  have hcode : Code w (.slice A code.length cap) A cap code := ⟨rfl, hr, fun z hz => wf8 (wz z hz), hl, hc⟩
  have hbig := rBig_is A code.length cap w
  by_cases hlen : (65536 : Int) < code.length
  · rw [decide_eq_true hlen] at hbig
    have HBIG := hide hbig; clear hbig hr wz hcode
    go_enter Tryz.func3, Tryz.ntmps3
    go_wp2_with fail
    refine HBIG.out.mono ?_; rintro e w' ⟨rfl, rfl⟩
    go_wp2_with fail
    go_ret
    exact ⟨rfl, Below.refl _ _⟩
  rw [decide_eq_false hlen] at hbig
  have HBIG := hide hbig; have HCODE := hide hcode; clear hbig hr wz hcode hlen
  have HB := hide (Below.refl w.heap.size w); have HT := hide ht; have HE := hide he; have HM := hide hm; clear ht he hm
  go_enter Tryz.func3, Tryz.ntmps3
  go_wp2_with fail
  refine HBIG.out.mono ?_; rintro e w' ⟨rfl, rfl⟩
  clear HBIG
  go_wp2_with fail
  refine (drawReaderText_is _ _ A cap code (HCODE.out.below HB.out (Nat.le_refl _))).mono ?_; rintro e w1 ⟨⟨x0, x1, x2, x3, x4⟩, hf, rfl, hb⟩
  replace HB := hide (bstep HB.out hb HB.out.size); clear hb
  have hm1 : x1.size ≤ 9223372036854775807 := Nat.le_trans (SReader.Fit.wf hf).2.1 (by decide)
  have cT := fun W h => ReaderTextI_is x0 x1 x2 x3 x4 W hm1 h
  have cTS := fun W => ReaderTextS_is x0 x1 x2 x3 x4 W hm1
  have cO := fun W => IsReader_any x0 x1 x2 x3 x4 W hm1
  rw [← textR_ok] at cO
  have hsz := textR_size ⟨x0, x1, x2, x3, x4⟩
  have hlaw := @textR_par ⟨x0, x1, x2, x3, x4⟩
  generalize (textR ⟨x0, x1, x2, x3, x4⟩).2 = ok at *
  generalize (textR ⟨x0, x1, x2, x3, x4⟩).1 = tx at *
  have cP := fun W h1 h2 h3 => ParseReaderI_is tx W h1 h2 h3 (by omega)
  generalize parR tx = q at *
  obtain ⟨⟨y0, y1, y2, y3, y4⟩, rd⟩ := q
  have hne := fun W => SReader.neq_self x0 x1 x2 x3 x4 W
  have t1 : (ok != ok) = false := by simp
  have t2 : (tx.toList == tx.toList) = true := by simp
  have CT := hide cT; have CTS := hide cTS; have CO := hide cO; have CP := hide cP; have HLAW := hide hlaw; clear cT cTS cO cP hlaw hsz hf hm1
  go_upto_region 4 with fail
  have HU := hide (Blk.new w1 25 #[.int .i64 x0, .string x1, .int .i64 x2, .int .i64 x3, .int .i64 x4])
  replace HB := hide (HB.out.alloc HB.out.size (.cells #[.int .i64 x0, .string x1, .int .i64 x2, .int .i64 x3, .int .i64 x4] 25))
  generalize w1.alloc (.cells #[.int .i64 x0, .string x1, .int .i64 x2, .int .i64 x3, .int .i64 x4] 25) = w2 at *
  generalize w1.heap.size = bU at *
  obtain ⟨cua, cub, cuc, cud, cue⟩ := mk5 HU.out
  go_wp2_with fail
  refine (CT.out _ (HT.out.below HB.out (Nat.le_refl _))).mono ?_; rintro e w3 ⟨rfl, hb⟩
  replace HU := hide (HU.out.below hb HU.out.lt)
  replace HB := hide (bstep HB.out hb HB.out.size); clear hb
  clear cua cub cuc cud cue
  obtain ⟨cua, cub, cuc, cud, cue⟩ := mk5 HU.out
  go_wp2_with fail
  refine (CTS.out _).mono ?_; rintro e w4 ⟨rfl, hb⟩
  replace HU := hide (HU.out.below hb HU.out.lt)
  replace HB := hide (bstep HB.out hb HB.out.size); clear hb
  clear cua cub cuc cud cue
  obtain ⟨cua, cub, cuc, cud, cue⟩ := mk5 HU.out
  go_wp2_with fail
  refine (CO.out _).mono ?_; rintro e w5 ⟨rfl, hb⟩
  replace HU := hide (HU.out.below hb HU.out.lt)
  replace HB := hide (bstep HB.out hb HB.out.size); clear hb
  clear cua cub cuc cud cue
  obtain ⟨cua, cub, cuc, cud, cue⟩ := mk5 HU.out
  clear CT CTS CO
  go_upto_if 66 with fail
  go_cut [8, 9] from 67 to 78 (fun t8 t9 wx => Below w.heap.size w wx)
  case first =>
    cases ok with
    | false =>
      clear HLAW
      go_wp2_with fail
      go_meet
      exact HB.out
    | true =>
      have hx := HLAW.out rfl
      simp only [Prod.mk.injEq, SReader.mk.injEq] at hx
      obtain ⟨⟨rfl, rfl, rfl, rfl, rfl⟩, rfl⟩ := hx
      clear HLAW
      go_wp2_with fail
      refine (CP.out _ (HM.out.below HB.out (Nat.le_refl _)) (HT.out.below HB.out (Nat.le_refl _)) (HE.out.below HB.out (Nat.le_refl _))).mono ?_; rintro e w6 ⟨rfl, hb⟩
      replace HU := hide (HU.out.below hb HU.out.lt)
      replace HB := hide (bstep HB.out hb HB.out.size); clear hb
      clear cua cub cuc cud cue
      go_upto_region 10 with fail
      replace HU := hide (HU.out.alloc (.cells #[.int .i64 y0, .string y1, .int .i64 y2, .int .i64 y3, .int .i64 y4] 25))
      have HV := hide (Blk.new w6 25 #[.int .i64 y0, .string y1, .int .i64 y2, .int .i64 y3, .int .i64 y4])
      replace HB := hide (HB.out.alloc HB.out.size (.cells #[.int .i64 y0, .string y1, .int .i64 y2, .int .i64 y3, .int .i64 y4] 25))
      generalize w6.alloc (.cells #[.int .i64 y0, .string y1, .int .i64 y2, .int .i64 y3, .int .i64 y4] 25) = w7 at *
      generalize w6.heap.size = bV at *
      obtain ⟨cua, cub, cuc, cud, cue⟩ := mk5 HU.out
      obtain ⟨cva, cvb, cvc, cvd, cve⟩ := mk5 HV.out
      go_wp2_with fail
      go_meet
      exact HB.out
  case rest =>
    apply_assumption
    exact readtx2 A cap code w HCODE.out _ hcut _ _ _ _ _ _ _ _ _ _ _ _ _ _ _ _ _ _ _ _ _ _ _ _ _ _ _ _ _ _ _ _ _ _ _ _ _ _ _ _ _ _ _ _ _ _ _ _ _ _ _ _ _ _ _ _ _ _ _ _ _ _ _ _ _ _ _ _ _ _ _ _ _ _ _ _ _ _ _ _ _ _ _ _ _ _ _ _ _ _ _ _ _ _ _ _ _ _ _ _ _ _ _ _ _ _ _ _ _ _ _ _ _ _ _ _ _ _ _ _ _ _ _ _ _ _ _ _ _ _ _ _ _ _ _ _ _ _ _ _ _ _ _ _ _ _ _ _ _ _ _ _ _ _ _ _ _ _ _ _ _ _ _ _ _ _ _ _ _ _ _ _ _ _ _ _ _ _ _ _ _ _ _ _ _ _ _ _ _ _ _ _ _ _ _ _ _ _ _ _ _ _ _ _ _ _ _ _ _ _ _ _ _ _ _ _ _ _ _ _ _ _ _ _ _ _ _ _ _ _ _ _ _ _ _ _ _ HT.out HE.out HM.out
end Go.Proofs.YtplemibckjnbhaaGreatDoor
