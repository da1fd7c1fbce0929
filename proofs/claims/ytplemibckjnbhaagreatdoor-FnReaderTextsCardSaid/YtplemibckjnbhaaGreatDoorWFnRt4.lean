/- The last part of FnReaderTexts: from OweMost on the law returns true. No condition. (Printed by mkfnrt.py.) -/
import Derived.Test.YtplemibckjnbhaaGreatDoorD3D
import Derived.Test.YtplemibckjnbhaaGreatDoorL3Q
import Derived.Test.YtplemibckjnbhaaGreatDoorL3R
import Derived.Test.YtplemibckjnbhaaGreatDoorL3Z
import Derived.Test.YtplemibckjnbhaaGreatDoorLw3
import Derived.Test.YtplemibckjnbhaaGreatDoorSec
import Derived.Deep.CutBlock
namespace Go.Proofs.YtplemibckjnbhaaGreatDoor
open Go.RowKit
set_option linter.unusedVariables false
noncomputable def tail_readtx4 : Go.Code := (Tryz.f3.body.bind (codeTail 26)).getD .skip
set_option maxRecDepth 1000000 in
set_option maxHeartbeats 8000000 in
theorem readtx4 (A : Option Addr) (cap : Nat) (code : List Int) (w : World) (hcode : Code w (.slice A code.length cap) A cap code) (wc : World) (hbel : Below w.heap.size w wc) (u1 u2 u3 u4 u5 u6 u7 u8 u9 u10 u11 u12 u13 u14 u15 u16 u17 u18 u19 u20 u21 u22 u23 u24 u25 u26 u27 u28 u29 u30 u31 u32 u33 u34 u35 u36 u37 u38 u39 u40 u41 u42 u43 u44 u45 u46 u47 u48 u49 u50 u51 u52 u53 u54 u55 u56 u57 u58 u59 u60 u61 u62 u63 u64 u65 u66 u67 u68 u69 u70 u71 u72 u73 u74 u75 u76 u77 u78 u79 u80 u81 u82 u83 u84 u85 u86 u87 u88 u89 u90 u91 u92 u93 u94 u95 u96 u97 u98 u99 u100 u101 u102 u103 u104 u105 u106 u107 u108 u109 u110 u111 u112 u113 u114 u115 u116 u117 u118 u119 u120 u121 u122 u123 u124 u125 u126 u127 u128 u129 u130 u131 u132 u133 u134 u135 u136 u137 u138 u139 u140 u141 u142 u143 u144 u145 u146 u147 u148 u149 u150 u151 u152 u153 u154 u155 u156 u157 u158 u159 u160 u161 u162 u163 u164 u165 u166 u167 u168 u169 u170 u171 u172 u173 u174 u175 u176 u177 u178 u179 u180 u181 u182 u183 u184 u185 u186 u187 u188 u189 u190 u191 u192 u193 u194 u195 u196 u197 u198 u199 u200 u201 u202 u203 u204 u205 u206 u207 u208 u209 u210 u211 u212 u213 u214 u215 u216 u217 u218 u219 u220 u221 u222 u223 u224 u225 u226 u227 u228 u229 u230 u231 u232 u233 u234 u235 u236 u237 : Value) :
    Go.Code.wp Tryz.prog tail_readtx4 (bodyPost Tryz.prog Tryz.f3 fun e w' => e = .returned (.bool true) ∧ Below w.heap.size w w') ⟨#[.slice A code.length cap, u1, u2, u3, u4, u5, u6, u7, u8, u9, u10, u11, u12, u13, u14, u15, u16, u17, u18, u19, u20, u21, u22, u23, u24, u25, u26, u27, u28, u29, u30, u31, u32, u33, u34, u35, u36, u37, u38, u39, u40, u41, u42, u43, u44, u45, u46, u47, u48, u49, u50, u51, u52, u53, u54, u55, u56, u57, u58, u59, u60, u61, u62, u63, u64, u65, u66, u67, u68, u69, u70, u71, u72, u73, u74, u75, u76, u77, u78, u79, u80, u81, u82, u83, u84, u85, u86, u87, u88, u89, u90, u91, u92, u93, u94, u95, u96, u97, u98, u99, u100, u101, u102, u103, u104, u105, u106, u107, u108, u109, u110, u111, u112, u113, u114, u115, u116, u117, u118, u119, u120, u121, u122, u123, u124, u125, u126, u127, u128, u129, u130, u131, u132, u133, u134, u135, u136, u137, u138, u139, u140, u141, u142, u143, u144, u145, u146, u147, u148, u149, u150, u151, u152, u153, u154, u155, u156, u157, u158, u159, u160, u161, u162, u163, u164, u165, u166, u167, u168, u169, u170, u171, u172, u173, u174, u175, u176, u177, u178, u179, u180, u181, u182, u183, u184, u185, u186, u187, u188, u189, u190, u191, u192, u193, u194, u195, u196, u197, u198, u199, u200, u201, u202, u203, u204, u205, u206, u207, u208, u209, u210, u211, u212, u213, u214, u215, u216, u217, u218, u219, u220, u221, u222, u223, u224, u225, u226, u227, u228, u229, u230, u231, u232, u233, u234, u235, u236, u237], []⟩ wc := by
  have HCODE := hide hcode; have HB := hide hbel; clear hcode hbel
  conv => arg 2; whnf
  generalize wc = w0 at *
  go_wp2_with fail
  refine (drawOweMost_is _ _ A cap code (HCODE.out.below HB.out (Nat.le_refl _))).mono ?_; rintro e w1 ⟨v, xs, n, rfl, hfit, hxl, hn, ho, hb⟩
  replace HB := hide (bstep HB.out hb HB.out.size); clear hb
  have HX := hide ho.is; clear ho
  have hwf : ∀ z ∈ xs, z.wf := fun z hz => (hfit z hz).wf
  have cO := fun (W : World) (hi : Is 5 SReader.enc W v xs) => OweMost_is v xs n W hi hwf
  have cOS := fun (W : World) (hi : Is 5 SReader.enc W v xs) => OweMostS_is v xs n W hi hwf
  have cC := fun (W : World) (hi : Is 5 SReader.enc W v xs) => ClassCountsI_is v xs W hi hwf
  have cCS := fun (W : World) (hi : Is 5 SReader.enc W v xs) => ClassCountsS_is v xs W hi hwf
  obtain ⟨fo, hfo1, hfo2, hfo3⟩ := owe_law2 xs n
  have hcv : cntV xs = if goodR xs = true then ([cnt 1 xs, cnt 2 xs, cnt 3 xs], true) else ([], false) := rfl
  have hcs : goodR xs = true → cnt 1 xs + cnt 2 xs + cnt 3 xs = xs.length := fun h => cnt_sum (goodR_cls h)
  have hcb := fun c => cnt_bd c xs xs.length
  simp only [List.take_length] at hcb
  have hb1 := hcb 1; have hb2 := hcb 2; have hb3 := hcb 3
  generalize (oweV xs n).1 = ml at *
  generalize (oweV xs n).2 = told at *
  generalize cntV xs = cv at *
  have t1 : (told != told) = false := by simp
  have CO := hide cO; have COS := hide cOS; have CC := hide cC; have CCS := hide cCS; have HFO1 := hide hfo1; have HFO2 := hide hfo2; have HFO3 := hide hfo3
  clear cO cOS cC cCS hfo1 hfo2 hfo3 hwf hfit hcb
  go_wp2_with fail
  refine (CO.out _ HX.out).mono ?_; rintro e w2 ⟨rP, rfl, ho, hb⟩
  replace HX := hide (HX.out.below hb (Nat.le_refl _))
  replace HB := hide (bstep HB.out hb HB.out.size); clear hb
  have HP := hide ho.is; clear ho
  go_wp2_with fail
  refine (COS.out _ HX.out).mono ?_; rintro e w3 ⟨rQ, rfl, ho, hb⟩
  replace HX := hide (HX.out.below hb (Nat.le_refl _))
  replace HP := hide (HP.out.below hb (Nat.le_refl _))
  replace HB := hide (bstep HB.out hb HB.out.size); clear hb
  have HQ := hide ho.is; clear ho
  clear CO COS
  go_wp2_with fail
  refine (rInts_is _ _ _ _ HP.out HQ.out).mono ?_; rintro e w4 ⟨rfl, hb⟩
  replace HX := hide (HX.out.below hb (Nat.le_refl _))
  replace HP := hide (HP.out.below hb (Nat.le_refl _))
  replace HQ := hide (HQ.out.below hb (Nat.le_refl _))
  replace HB := hide (bstep HB.out hb HB.out.size); clear hb
  clear HQ
  have hml := HP.out.len
  cases hg : goodR xs with
  | false =>
    rw [hg, if_neg (by simp)] at hcv
    subst hcv
    clear hcs hb1 hb2 hb3 hg
    go_wp2_with fail
    refine (CC.out _ HX.out).mono ?_; rintro e w5 ⟨rR, rfl, ho, hb⟩
    replace HX := hide (HX.out.below hb (Nat.le_refl _))
    replace HP := hide (HP.out.below hb (Nat.le_refl _))
    replace HB := hide (bstep HB.out hb HB.out.size); clear hb
    have HR := hide ho.is; clear ho
    go_wp2_with fail
    refine (CCS.out _ HX.out).mono ?_; rintro e w6 ⟨rS, rfl, ho, hb⟩
    replace HX := hide (HX.out.below hb (Nat.le_refl _))
    replace HP := hide (HP.out.below hb (Nat.le_refl _))
    replace HR := hide (HR.out.below hb (Nat.le_refl _))
    replace HB := hide (bstep HB.out hb HB.out.size); clear hb
    have HS := hide ho.is; clear ho
    clear CC CCS
    go_wp2_with fail
    refine (rInts_is _ _ _ _ HR.out HS.out).mono ?_; rintro e w7 ⟨rfl, hb⟩
    replace HX := hide (HX.out.below hb (Nat.le_refl _))
    replace HP := hide (HP.out.below hb (Nat.le_refl _))
    replace HR := hide (HR.out.below hb (Nat.le_refl _))
    replace HS := hide (HS.out.below hb (Nat.le_refl _))
    replace HB := hide (bstep HB.out hb HB.out.size); clear hb
    clear HR HS
    obtain ⟨AP, cP, rfl, hrP, _, _⟩ := HP.out
    obtain ⟨AX, cX, rfl, hrX, _, _⟩ := HX.out
    have HRP := hide hrP; have HRX := hide hrX; clear hrP hrX HP HX
    generalize hwl : w7 = wl at *
    clear hwl
    go_wp2_with fail
    go_loopw [35, 36] (fun last i wr => ∃ (q : Nat) (f : Int), q ≤ ml.length ∧ i = .int .i64 (q : Int) ∧ last = .int .i64 f ∧ (q < ml.length → fo q ≤ f) ∧ Below wl.heap.size wl wr) (fun _ i _ => ml.length - (intOf i).toNat)
    case atStart => exact ⟨0, 10001, Nat.zero_le _, rfl, rfl, fun h => HFO2.out 0 h, Below.refl _ _⟩
    case round =>
      obtain ⟨q, f, hq, rfl, rfl, hf, hbel⟩ := hrel
      have HFF := hide hf; clear hf
      by_cases hlt : q < ml.length
      · have hlt' : (q : Int) < ml.length := by omega
        obtain ⟨bp, offp, rfl, hbp, p0⟩ := Ints.cells HRP.out hlt hbel
        have hfl1 := fun k hk => HFO1.out k hk q hlt
        have hfq := HFF.out hlt
        have hnx := fun h => HFO3.out q h
        generalize hmq : ml[q] = mq at *
        have HMQ := hide hmq; clear hmq
        generalize fo q = fq at *
        have HFQ1 := hide hfl1; have HNX := hide hnx; clear hfl1 hnx HFF
        have hsw := hbel.size
        generalize wr = wo at *
        have HBO := hide hbel; clear hbel
        go_wp2_with fail
        go_loopw [35, 37] (fun last i wr => ∃ (k : Nat) (f : Int), k ≤ xs.length ∧ i = .int .i64 (k : Int) ∧ last = .int .i64 f ∧ fq ≤ f ∧ Below wo.heap.size wo wr) (fun _ i _ => xs.length - (intOf i).toNat)
        case atStart => exact ⟨0, f, Nat.zero_le _, rfl, rfl, hfq, Below.refl _ _⟩
        case round =>
          clear hfq p0
          obtain ⟨k, f2, hk, rfl, rfl, hf2, hb2⟩ := hrel
          have hs2 := hb2.size
          have hbw := HBO.out.trans (hb2.mono hsw)
          by_cases hkl : k < xs.length
          · have hkl' : (k : Int) < xs.length := by omega
            obtain ⟨b, off, rfl, hb, c0, _, _, _, c4⟩ := SReader.cells HRX.out hkl hbw
            obtain ⟨bp2, offp2, hA, _, p0⟩ := Ints.cells HRP.out hlt hbw
            injection hA with hA; injection hA with hA1 hA2; subst hA1 hA2
            have hq1 := HFQ1.out k hkl
            rw [show ml[q] = mq from HMQ.out] at p0
            generalize xs[k].ident = y0 at *
            generalize xs[k].fines = y4 at *
            have n0 := fun n => later_cell c0 n; have n4 := fun n => later_cell p0 n
            by_cases he : y0 = mq
            · have hy := hq1 he
              have he1 : (y0 == mq) = true := by simpa using he
              have hyf : ¬ f2 < y4 := by omega
              have HY := hide hy
              clear hq1 he hy
              go_wp2_with fail
              (refine wp_region_later (by kernel_rfl) (by kernel_rfl) ?_; (repeat (go_big_quiet_step (fail))); refine wpQuiet_nil ?_; intro _ hw'; obtain ⟨nq, hw''⟩ := hw'; subst hw'')
              have d4 := later_cell c4 nq
              have B5 := hide (bstep hb2 nq.h hs2)
              clear n0 n4 c0 c4 p0
              generalize nq.W = W5 at *
              go_wp2_with fail
              go_round
              case measure => (simp [intOf] <;> omega)
              case rel => exact ⟨k + 1, y4, by omega, by go_num, rfl, by have := HY.out; omega, B5.out⟩
            · have he1 : (y0 == mq) = false := by simpa using he
              clear hq1 he
              go_wp2_with fail
              (refine wp_region_later (by kernel_rfl) (by kernel_rfl) ?_; (repeat (go_big_quiet_step (fail))); refine wpQuiet_nil ?_; intro _ hw'; obtain ⟨nq, hw''⟩ := hw'; subst hw'')
              have B5 := hide (bstep hb2 nq.h hs2)
              clear n0 n4 c0 c4 p0
              generalize nq.W = W5 at *
              go_wp2_with fail
              go_round
              case measure => (simp [intOf] <;> omega)
              case rel => exact ⟨k + 1, f2, by omega, by go_num, rfl, hf2, B5.out⟩
          · have hkk : k = xs.length := by omega
            have HBW := hide hbw; have HF2 := hide hf2
            clear hb2 hbw hf2
            go_wp2_with fail
            go_round
            case measure => (simp [intOf] <;> omega)
            case rel => exact ⟨q + 1, f2, by omega, by go_num, rfl, fun h => by have h1 := HNX.out h; have h2 := HF2.out; omega, HBW.out⟩
      · have hkk : q = ml.length := by omega
        have HBW := hide hbel; clear hbel HFF
        go_wp2_with fail
        go_ret
        exact ⟨rfl, HB.out.trans (HBW.out.mono HB.out.size)⟩
  | true =>
    rw [hg, if_pos rfl] at hcv
    subst hcv
    have hsum := hcs hg
    clear hcs hg
    generalize cnt 1 xs = a1 at *; generalize cnt 2 xs = a2 at *; generalize cnt 3 xs = a3 at *
    have t2 : (a1 + a2 + a3 != (xs.length : Int)) = false := by rw [hsum]; simp
    have CS := hide (fun (W : World) (r : Value) (hi : Is 1 encI W r [a1, a2, a3]) => rSum3_is r a1 a2 a3 W hi (by omega) (by omega) (by omega))
    clear hsum hb1 hb2 hb3
    go_wp2_with fail
    refine (CC.out _ HX.out).mono ?_; rintro e w5 ⟨rR, rfl, ho, hb⟩
    replace HX := hide (HX.out.below hb (Nat.le_refl _))
    replace HP := hide (HP.out.below hb (Nat.le_refl _))
    replace HB := hide (bstep HB.out hb HB.out.size); clear hb
    have HR := hide ho.is; clear ho
    go_wp2_with fail
    refine (CCS.out _ HX.out).mono ?_; rintro e w6 ⟨rS, rfl, ho, hb⟩
    replace HX := hide (HX.out.below hb (Nat.le_refl _))
    replace HP := hide (HP.out.below hb (Nat.le_refl _))
    replace HR := hide (HR.out.below hb (Nat.le_refl _))
    replace HB := hide (bstep HB.out hb HB.out.size); clear hb
    have HS := hide ho.is; clear ho
    clear CC CCS
    go_wp2_with fail
    refine (rInts_is _ _ _ _ HR.out HS.out).mono ?_; rintro e w7 ⟨rfl, hb⟩
    replace HX := hide (HX.out.below hb (Nat.le_refl _))
    replace HP := hide (HP.out.below hb (Nat.le_refl _))
    replace HR := hide (HR.out.below hb (Nat.le_refl _))
    replace HS := hide (HS.out.below hb (Nat.le_refl _))
    replace HB := hide (bstep HB.out hb HB.out.size); clear hb
    go_wp2_with fail
    refine (CS.out _ _ HR.out).mono ?_; rintro e w8 ⟨rfl, rfl⟩
    clear HR HS CS
    obtain ⟨AP, cP, rfl, hrP, _, _⟩ := HP.out
    obtain ⟨AX, cX, rfl, hrX, _, _⟩ := HX.out
    have HRP := hide hrP; have HRX := hide hrX; clear hrP hrX HP HX
    generalize hwl : w7 = wl at *
    clear hwl
    go_wp2_with fail
    go_loopw [35, 36] (fun last i wr => ∃ (q : Nat) (f : Int), q ≤ ml.length ∧ i = .int .i64 (q : Int) ∧ last = .int .i64 f ∧ (q < ml.length → fo q ≤ f) ∧ Below wl.heap.size wl wr) (fun _ i _ => ml.length - (intOf i).toNat)
    case atStart => exact ⟨0, 10001, Nat.zero_le _, rfl, rfl, fun h => HFO2.out 0 h, Below.refl _ _⟩
    case round =>
      obtain ⟨q, f, hq, rfl, rfl, hf, hbel⟩ := hrel
      have HFF := hide hf; clear hf
      by_cases hlt : q < ml.length
      · have hlt' : (q : Int) < ml.length := by omega
        obtain ⟨bp, offp, rfl, hbp, p0⟩ := Ints.cells HRP.out hlt hbel
        have hfl1 := fun k hk => HFO1.out k hk q hlt
        have hfq := HFF.out hlt
        have hnx := fun h => HFO3.out q h
        generalize hmq : ml[q] = mq at *
        have HMQ := hide hmq; clear hmq
        generalize fo q = fq at *
        have HFQ1 := hide hfl1; have HNX := hide hnx; clear hfl1 hnx HFF
        have hsw := hbel.size
        generalize wr = wo at *
        have HBO := hide hbel; clear hbel
        go_wp2_with fail
        go_loopw [35, 37] (fun last i wr => ∃ (k : Nat) (f : Int), k ≤ xs.length ∧ i = .int .i64 (k : Int) ∧ last = .int .i64 f ∧ fq ≤ f ∧ Below wo.heap.size wo wr) (fun _ i _ => xs.length - (intOf i).toNat)
        case atStart => exact ⟨0, f, Nat.zero_le _, rfl, rfl, hfq, Below.refl _ _⟩
        case round =>
          clear hfq p0
          obtain ⟨k, f2, hk, rfl, rfl, hf2, hb2⟩ := hrel
          have hs2 := hb2.size
          have hbw := HBO.out.trans (hb2.mono hsw)
          by_cases hkl : k < xs.length
          · have hkl' : (k : Int) < xs.length := by omega
            obtain ⟨b, off, rfl, hb, c0, _, _, _, c4⟩ := SReader.cells HRX.out hkl hbw
            obtain ⟨bp2, offp2, hA, _, p0⟩ := Ints.cells HRP.out hlt hbw
            injection hA with hA; injection hA with hA1 hA2; subst hA1 hA2
            have hq1 := HFQ1.out k hkl
            rw [show ml[q] = mq from HMQ.out] at p0
            generalize xs[k].ident = y0 at *
            generalize xs[k].fines = y4 at *
            have n0 := fun n => later_cell c0 n; have n4 := fun n => later_cell p0 n
            by_cases he : y0 = mq
            · have hy := hq1 he
              have he1 : (y0 == mq) = true := by simpa using he
              have hyf : ¬ f2 < y4 := by omega
              have HY := hide hy
              clear hq1 he hy
              go_wp2_with fail
              (refine wp_region_later (by kernel_rfl) (by kernel_rfl) ?_; (repeat (go_big_quiet_step (fail))); refine wpQuiet_nil ?_; intro _ hw'; obtain ⟨nq, hw''⟩ := hw'; subst hw'')
              have d4 := later_cell c4 nq
              have B5 := hide (bstep hb2 nq.h hs2)
              clear n0 n4 c0 c4 p0
              generalize nq.W = W5 at *
              go_wp2_with fail
              go_round
              case measure => (simp [intOf] <;> omega)
              case rel => exact ⟨k + 1, y4, by omega, by go_num, rfl, by have := HY.out; omega, B5.out⟩
            · have he1 : (y0 == mq) = false := by simpa using he
              clear hq1 he
              go_wp2_with fail
              (refine wp_region_later (by kernel_rfl) (by kernel_rfl) ?_; (repeat (go_big_quiet_step (fail))); refine wpQuiet_nil ?_; intro _ hw'; obtain ⟨nq, hw''⟩ := hw'; subst hw'')
              have B5 := hide (bstep hb2 nq.h hs2)
              clear n0 n4 c0 c4 p0
              generalize nq.W = W5 at *
              go_wp2_with fail
              go_round
              case measure => (simp [intOf] <;> omega)
              case rel => exact ⟨k + 1, f2, by omega, by go_num, rfl, hf2, B5.out⟩
          · have hkk : k = xs.length := by omega
            have HBW := hide hbw; have HF2 := hide hf2
            clear hb2 hbw hf2
            go_wp2_with fail
            go_round
            case measure => (simp [intOf] <;> omega)
            case rel => exact ⟨q + 1, f2, by omega, by go_num, rfl, fun h => by have h1 := HNX.out h; have h2 := HF2.out; omega, HBW.out⟩
      · have hkk : q = ml.length := by omega
        have HBW := hide hbel; clear hbel HFF
        go_wp2_with fail
        go_ret
        exact ⟨rfl, HB.out.trans (HBW.out.mono HB.out.size)⟩
end Go.Proofs.YtplemibckjnbhaaGreatDoor
