/- A part of FnSheets: from the list of sheets on the law returns true. No condition. (Printed by mkfnsheets.py.) -/
import Derived.Test.YtplemibckjnbhaaGreatDoorL2N
import Derived.Test.YtplemibckjnbhaaGreatDoorWFnShe4
import Derived.Deep.CutBlock
namespace Go.Proofs.YtplemibckjnbhaaGreatDoor
open Go.RowKit
set_option linter.unusedVariables false
noncomputable def tail_sheets3 : Go.Code := (Tryz.f4.body.bind (codeTail 15)).getD .skip
set_option maxRecDepth 1000000 in
set_option maxHeartbeats 8000000 in
theorem sheets3 (A : Option Addr) (cap : Nat) (code : List Int) (w : World) (hcode : Code w (.slice A code.length cap) A cap code) (wc : World) (hbel : Below w.heap.size w wc) (u1 u2 u3 u4 u5 u6 u7 u8 u9 u10 u11 u12 u13 u14 u15 u16 u17 u18 u19 u20 u21 u22 u23 u24 u25 u26 u27 u28 u29 u30 u31 u32 u33 u34 u35 u36 u37 u38 u39 u40 u41 u42 u43 u44 u45 u46 u47 u48 u49 u50 u51 u52 u53 u54 u55 u56 u57 u58 u59 u60 u61 u62 u63 u64 u65 u66 u67 u68 u69 u70 u71 u72 u73 u74 u75 u76 u77 u78 u79 u80 u81 u82 u83 u84 u85 u86 u87 u88 u89 u90 u91 u92 u93 u94 u95 u96 u97 u98 u99 u100 u101 u102 u103 u104 u105 u106 u107 u108 u109 u110 u111 u112 u113 u114 u115 u116 u117 u118 u119 u120 u121 u122 u123 u124 u125 u126 u127 u128 u129 u130 u131 u132 u133 u134 u135 u136 u137 u138 u139 u140 u141 u142 u143 u144 u145 u146 u147 u148 u149 u150 u151 u152 u153 u154 u155 u156 u157 u158 u159 u160 u161 u162 u163 u164 u165 u166 u167 u168 u169 u170 u171 u172 u173 u174 u175 u176 u177 u178 u179 u180 u181 u182 u183 u184 u185 u186 u187 u188 u189 u190 u191 u192 u193 u194 u195 u196 u197 u198 u199 u200 u201 u202 u203 u204 u205 u206 u207 u208 u209 u210 u211 u212 u213 u214 u215 u216 u217 u218 u219 u220 u221 u222 u223 u224 u225 u226 u227 u228 u229 u230 u231 u232 u233 u234 u235 u236 u237 u238 u239 u240 u241 u242 u243 u244 u245 u246 u247 : Value) :
    Go.Code.wp Tryz.prog tail_sheets3 (bodyPost Tryz.prog Tryz.f4 fun e w' => e = .returned (.bool true) ∧ Below w.heap.size w w') ⟨#[.slice A code.length cap, u1, u2, u3, u4, u5, u6, u7, u8, u9, u10, u11, u12, u13, u14, u15, u16, u17, u18, u19, u20, u21, u22, u23, u24, u25, u26, u27, u28, u29, u30, u31, u32, u33, u34, u35, u36, u37, u38, u39, u40, u41, u42, u43, u44, u45, u46, u47, u48, u49, u50, u51, u52, u53, u54, u55, u56, u57, u58, u59, u60, u61, u62, u63, u64, u65, u66, u67, u68, u69, u70, u71, u72, u73, u74, u75, u76, u77, u78, u79, u80, u81, u82, u83, u84, u85, u86, u87, u88, u89, u90, u91, u92, u93, u94, u95, u96, u97, u98, u99, u100, u101, u102, u103, u104, u105, u106, u107, u108, u109, u110, u111, u112, u113, u114, u115, u116, u117, u118, u119, u120, u121, u122, u123, u124, u125, u126, u127, u128, u129, u130, u131, u132, u133, u134, u135, u136, u137, u138, u139, u140, u141, u142, u143, u144, u145, u146, u147, u148, u149, u150, u151, u152, u153, u154, u155, u156, u157, u158, u159, u160, u161, u162, u163, u164, u165, u166, u167, u168, u169, u170, u171, u172, u173, u174, u175, u176, u177, u178, u179, u180, u181, u182, u183, u184, u185, u186, u187, u188, u189, u190, u191, u192, u193, u194, u195, u196, u197, u198, u199, u200, u201, u202, u203, u204, u205, u206, u207, u208, u209, u210, u211, u212, u213, u214, u215, u216, u217, u218, u219, u220, u221, u222, u223, u224, u225, u226, u227, u228, u229, u230, u231, u232, u233, u234, u235, u236, u237, u238, u239, u240, u241, u242, u243, u244, u245, u246, u247], []⟩ wc := by
  have HCODE := hide hcode; have HB := hide hbel; clear hcode hbel
  conv => arg 2; whnf
  generalize wc = w0 at *
  go_wp2_with fail
  refine (drawSheetAt_is _ _ A cap code (HCODE.out.below HB.out (Nat.le_refl _))).mono ?_; rintro e w1 ⟨v, xs, row, col, sc, rfl, hfit, hxl, ho, hb⟩
  replace HB := hide (bstep HB.out hb HB.out.size); clear hb
  have HX := hide ho.is; clear ho
  have cA := fun (W : World) (hi : Is 5 SSheet.enc W v xs) => SheetAtI_is v xs row col sc W hi
  have cAS := fun (W : World) (hi : Is 5 SSheet.enc W v xs) => SheetAtS_is v xs row col sc W hi
  have cG := fun (W : World) (hi : Is 5 SSheet.enc W v xs) => AreSheets_is v xs W hi
  have cGS := fun (W : World) (hi : Is 5 SSheet.enc W v xs) => AreSheetsS_is v xs W hi
  have cN := fun (W : World) (hi : Is 5 SSheet.enc W v xs) => MissingI_is v xs sc W hi (by omega)
  have cNS := fun (W : World) (hi : Is 5 SSheet.enc W v xs) => MissingS_is v xs sc W hi
  have cY := fun (x y : Int) (W : World) (hi : Is 5 SSheet.enc W v xs) => SheetAtI_is v xs x y sc W hi
  have hlaw := @miss_law xs sc
  have hmx := @miss_len xs sc
  generalize (missV xs sc).1 = nl at *
  generalize (missV xs sc).2 = ok at *
  generalize (shAtV xs row col sc).1 = id at *
  generalize (shAtV xs row col sc).2 = fine at *
  generalize goodS xs = gs at *
  have t1 : (id != id) = false := by simp
  have t2 : (fine != fine) = false := by simp
  have t3 : (gs != gs) = false := by simp
  have t4 : (ok != ok) = false := by simp
  have CA := hide cA; have CAS := hide cAS; have CG := hide cG; have CGS := hide cGS; have CN := hide cN; have CNS := hide cNS; have CY := hide cY; have HLAW := hide hlaw
  clear cA cAS cG cGS cN cNS cY hlaw hfit
  go_wp2_with fail
  refine (CA.out _ HX.out).mono ?_; rintro e w2 ⟨rfl, hb⟩
  replace HX := hide (HX.out.below hb (Nat.le_refl _))
  replace HB := hide (bstep HB.out hb HB.out.size); clear hb
  go_wp2_with fail
  refine (CAS.out _ HX.out).mono ?_; rintro e w3 ⟨rfl, hb⟩
  replace HX := hide (HX.out.below hb (Nat.le_refl _))
  replace HB := hide (bstep HB.out hb HB.out.size); clear hb
  go_wp2_with fail
  refine (CG.out _ HX.out).mono ?_; rintro e w4 ⟨rfl, hb⟩
  replace HX := hide (HX.out.below hb (Nat.le_refl _))
  replace HB := hide (bstep HB.out hb HB.out.size); clear hb
  go_wp2_with fail
  refine (CGS.out _ HX.out).mono ?_; rintro e w5 ⟨rfl, hb⟩
  replace HX := hide (HX.out.below hb (Nat.le_refl _))
  replace HB := hide (bstep HB.out hb HB.out.size); clear hb
  clear CA CAS CG CGS
  go_wp2_with fail
  refine (CN.out _ HX.out).mono ?_; rintro e w6 ⟨rP, rfl, ho, hb⟩
  replace HX := hide (HX.out.below hb (Nat.le_refl _))
  replace HB := hide (bstep HB.out hb HB.out.size); clear hb
  have HP := hide ho.is; clear ho
  go_wp2_with fail
  refine (CNS.out _ HX.out).mono ?_; rintro e w7 ⟨rQ, rfl, ho, hb⟩
  replace HX := hide (HX.out.below hb (Nat.le_refl _))
  replace HP := hide (HP.out.below hb (Nat.le_refl _))
  replace HB := hide (bstep HB.out hb HB.out.size); clear hb
  have HQ := hide ho.is; clear ho
  go_wp2_with fail
  refine (vPairs_is _ _ _ _ HP.out HQ.out).mono ?_; rintro e w8 ⟨rfl, hb⟩
  replace HX := hide (HX.out.below hb (Nat.le_refl _))
  replace HP := hide (HP.out.below hb (Nat.le_refl _))
  replace HQ := hide (HQ.out.below hb (Nat.le_refl _))
  replace HB := hide (bstep HB.out hb HB.out.size); clear hb
  clear HQ CN CNS
  obtain ⟨AP, cP, rfl, hrP, _, _⟩ := HP.out
  have hml := HP.out.len
  go_upto_block 0 with fail
  go_cut [29, 30, 31] from 181 to 203 (fun t29 t30 t31 wx => Below w.heap.size w wx)
  case first =>
    clear hrP
    generalize hwl : w8 = wl at *
    clear hwl
    go_wp2_with fail
    go_loopw [29] (fun i wr => ∃ n : Nat, n ≤ nl.length ∧ i = .int .i64 (n : Int) ∧ Is 2 SPair.enc wr (.slice AP nl.length cP) nl ∧ Is 5 SSheet.enc wr v xs ∧ Below w.heap.size w wr) (fun i _ => nl.length - (intOf i).toNat)
    case atStart => exact ⟨0, Nat.zero_le _, rfl, HP.out, HX.out, HB.out⟩
    case round =>
      clear HP HX HB
      obtain ⟨n, hn, rfl, hp, hx, hbel⟩ := hrel
      generalize wr = w20 at *
      have HP := hide hp; have HX := hide hx; have HB := hide hbel; clear hx hbel
      by_cases hlt : n < nl.length
      · have hlt' : (n : Int) < nl.length := by omega
        obtain ⟨A4, c4, he, hr, _, _⟩ := hp
        injection he with e1 e2 e3; subst e1 e3; clear e2
        have hlw := HLAW.out nl[n] (List.getElem_mem hlt)
        obtain ⟨b, off, rfl, hb, c0, c1⟩ := SPair.cells hr hlt (Below.refl _ _)
        have hyn := CY.out nl[n].x nl[n].y
        rw [hlw] at hyn
        generalize nl[n].x = y0 at *
        generalize nl[n].y = y1 at *
        simp only at hyn
        have hyk := fun (k : Later w20) => hyn k.W (HX.out.below k.h (Nat.le_refl _))
        have HYN := hide hyk
        clear hr hyn hyk hlw
        have n0 := fun k => later_cell c0 k; have n1 := fun k => later_cell c1 k
        go_wp2_with fail
        (refine wp_region_later (by kernel_rfl) (by kernel_rfl) ?_; (repeat (go_big_quiet_step ((go_at_call 34; exact later_call (HYN.out _))))); refine wpQuiet_nil ?_; intro _ hw'; obtain ⟨nq, hw''⟩ := hw'; subst hw'')
        replace HP := hide (HP.out.below nq.h (Nat.le_refl _)); replace HX := hide (HX.out.below nq.h (Nat.le_refl _)); replace HB := hide (bstep HB.out nq.h HB.out.size)
        clear n0 n1 c0 c1
        go_wp2_with fail
        first
          | exact ⟨⟨n + 1, by omega, by go_num, HP.out, HX.out, HB.out⟩, by simp [intOf]; omega⟩
          | (go_round
             case measure => (simp [intOf] <;> omega)
             case rel => exact ⟨n + 1, by omega, by go_num, HP.out, HX.out, HB.out⟩)
      · go_wp2_with fail
        go_meet
        exact HB.out
  case rest =>
    apply_assumption
    exact sheets4 A cap code w HCODE.out _ hcut _ _ _ _ _ _ _ _ _ _ _ _ _ _ _ _ _ _ _ _ _ _ _ _ _ _ _ _ _ _ _ _ _ _ _ _ _ _ _ _ _ _ _ _ _ _ _ _ _ _ _ _ _ _ _ _ _ _ _ _ _ _ _ _ _ _ _ _ _ _ _ _ _ _ _ _ _ _ _ _ _ _ _ _ _ _ _ _ _ _ _ _ _ _ _ _ _ _ _ _ _ _ _ _ _ _ _ _ _ _ _ _ _ _ _ _ _ _ _ _ _ _ _ _ _ _ _ _ _ _ _ _ _ _ _ _ _ _ _ _ _ _ _ _ _ _ _ _ _ _ _ _ _ _ _ _ _ _ _ _ _ _ _ _ _ _ _ _ _ _ _ _ _ _ _ _ _ _ _ _ _ _ _ _ _ _ _ _ _ _ _ _ _ _ _ _ _ _ _ _ _ _ _ _ _ _ _ _ _ _ _ _ _ _ _ _ _ _ _ _ _ _ _ _ _ _ _ _ _ _ _ _ _ _ _ _ _ _ _ _ _ _ _ _ _ _ _
end Go.Proofs.YtplemibckjnbhaaGreatDoor
