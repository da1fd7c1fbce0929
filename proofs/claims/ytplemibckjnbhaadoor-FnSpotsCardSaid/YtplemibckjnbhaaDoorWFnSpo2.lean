/- A part of FnSpots: from the sheets on the law returns true. Condition: the table of powers of ten is laid. (Printed by mkfnspots.py.) -/
import Derived.Test.YtplemibckjnbhaaDoorWFnSpo3
import Derived.Deep.CutBlock
namespace Go.Proofs.YtplemibckjnbhaaDoor
open Go.RowKit
set_option linter.unusedVariables false
noncomputable def tail_spots2 : Go.Code := (Tryd.f4.body.bind (codeTail 12)).getD .skip
set_option maxRecDepth 1000000 in
set_option maxHeartbeats 8000000 in
theorem spots2 (A : Option Addr) (cap : Nat) (code : List Int) (w : World) (hcode : Code w (.slice A code.length cap) A cap code) (wc : World) (hbel : Below w.heap.size w wc) (u1 u2 u3 u4 u5 u6 u7 u8 u9 u10 u11 u12 u13 u14 u15 u16 u17 u18 u19 u20 u21 u22 u23 u24 u25 u26 u27 u28 u29 u30 u31 u32 u33 u34 u35 u36 u37 u38 u39 u40 u41 u42 u43 u44 u45 u46 u47 u48 u49 u50 u51 u52 u53 u54 u55 u56 u57 u58 u59 u60 u61 u62 u63 u64 u65 u66 u67 u68 u69 u70 u71 u72 u73 u74 u75 u76 u77 u78 u79 u80 u81 u82 u83 u84 u85 u86 u87 u88 u89 u90 u91 u92 u93 u94 u95 u96 u97 u98 u99 u100 u101 u102 u103 u104 u105 u106 u107 u108 u109 u110 u111 u112 u113 u114 u115 u116 u117 u118 u119 u120 u121 u122 u123 u124 u125 u126 u127 u128 u129 u130 u131 u132 u133 u134 u135 u136 u137 u138 u139 u140 u141 u142 u143 u144 u145 u146 u147 u148 u149 u150 u151 u152 u153 u154 u155 u156 u157 u158 u159 u160 u161 u162 u163 u164 u165 u166 u167 u168 u169 u170 u171 u172 u173 u174 u175 u176 u177 u178 u179 u180 u181 u182 u183 u184 u185 u186 u187 u188 u189 u190 u191 u192 u193 u194 u195 u196 u197 u198 u199 u200 u201 u202 u203 u204 u205 u206 u207 u208 u209 u210 u211 u212 u213 u214 u215 u216 u217 u218 u219 u220 u221 u222 u223 u224 u225 u226 u227 u228 u229 u230 u231 u232 u233 u234 u235 u236 u237 u238 u239 u240 u241 u242 u243 u244 u245 u246 u247 u248 u249 u250 u251 u252 u253 u254 u255 u256 u257 u258 u259 u260 u261 u262 u263 u264 u265 u266 u267 u268 u269 u270 u271 u272 u273 u274 u275 u276 u277 u278 u279 u280 u281 u282 u283 u284 u285 u286 u287 u288 u289 u290 u291 u292 u293 u294 u295 u296 u297 u298 u299 u300 u301 u302 u303 u304 u305 u306 u307 u308 u309 u310 : Value) (ht : Tab w) :
    Go.Code.wp Tryd.prog tail_spots2 (bodyPost Tryd.prog Tryd.f4 fun e w' => e = .returned (.bool true) ∧ Below w.heap.size w w') ⟨#[.slice A code.length cap, u1, u2, u3, u4, u5, u6, u7, u8, u9, u10, u11, u12, u13, u14, u15, u16, u17, u18, u19, u20, u21, u22, u23, u24, u25, u26, u27, u28, u29, u30, u31, u32, u33, u34, u35, u36, u37, u38, u39, u40, u41, u42, u43, u44, u45, u46, u47, u48, u49, u50, u51, u52, u53, u54, u55, u56, u57, u58, u59, u60, u61, u62, u63, u64, u65, u66, u67, u68, u69, u70, u71, u72, u73, u74, u75, u76, u77, u78, u79, u80, u81, u82, u83, u84, u85, u86, u87, u88, u89, u90, u91, u92, u93, u94, u95, u96, u97, u98, u99, u100, u101, u102, u103, u104, u105, u106, u107, u108, u109, u110, u111, u112, u113, u114, u115, u116, u117, u118, u119, u120, u121, u122, u123, u124, u125, u126, u127, u128, u129, u130, u131, u132, u133, u134, u135, u136, u137, u138, u139, u140, u141, u142, u143, u144, u145, u146, u147, u148, u149, u150, u151, u152, u153, u154, u155, u156, u157, u158, u159, u160, u161, u162, u163, u164, u165, u166, u167, u168, u169, u170, u171, u172, u173, u174, u175, u176, u177, u178, u179, u180, u181, u182, u183, u184, u185, u186, u187, u188, u189, u190, u191, u192, u193, u194, u195, u196, u197, u198, u199, u200, u201, u202, u203, u204, u205, u206, u207, u208, u209, u210, u211, u212, u213, u214, u215, u216, u217, u218, u219, u220, u221, u222, u223, u224, u225, u226, u227, u228, u229, u230, u231, u232, u233, u234, u235, u236, u237, u238, u239, u240, u241, u242, u243, u244, u245, u246, u247, u248, u249, u250, u251, u252, u253, u254, u255, u256, u257, u258, u259, u260, u261, u262, u263, u264, u265, u266, u267, u268, u269, u270, u271, u272, u273, u274, u275, u276, u277, u278, u279, u280, u281, u282, u283, u284, u285, u286, u287, u288, u289, u290, u291, u292, u293, u294, u295, u296, u297, u298, u299, u300, u301, u302, u303, u304, u305, u306, u307, u308, u309, u310], []⟩ wc := by
  have HT := hide ht; clear ht
  have HCODE := hide hcode; have HB := hide hbel; clear hcode hbel
  conv => arg 2; whnf
  generalize wc = w0 at *
  go_wp2_with fail
  refine (drawShownOn_is _ _ A cap code (HCODE.out.below HB.out (Nat.le_refl _))).mono ?_; rintro e w1 ⟨v, xs, x, y, rfl, hfit, hxl, ho, hb⟩
  replace HB := hide (bstep HB.out hb HB.out.size); clear hb
  have HX := hide ho.is; clear ho
  have cS := fun (W : World) (hi : Is 5 SSheet.enc W v xs) => ShownOnI_is v xs x y W hi hfit
  have cSS := fun (W : World) (hi : Is 5 SSheet.enc W v xs) => ShownOnS_is v xs x y W hi hfit
  have cB := fun (W : World) (hi : Is 5 SSheet.enc W v xs) => BestSheetI_is v xs x y W hi hfit
  have cBS := fun (W : World) (hi : Is 5 SSheet.enc W v xs) => BestSheetS_is v xs x y W hi hfit
  have hlaw := best_law (xs := xs) x y (fun hg s hs => goodS_pos hg hs)
  generalize (shownV xs x y).1 = nl at *
  generalize (shownV xs x y).2 = told at *
  generalize (bestV xs x y).1 = best at *
  generalize (bestV xs x y).2 = fine at *
  have t1 : (told != told) = false := by simp
  have t2 : (best != best) = false := by simp
  have CS := hide cS; have CSS := hide cSS; have CB := hide cB; have CBS := hide cBS; have HLAW := hide hlaw
  clear cS cSS cB cBS hlaw hfit
  go_wp2_with fail
  refine (CS.out _ HX.out).mono ?_; rintro e w2 ⟨rP, rfl, ho, hb⟩
  replace HX := hide (HX.out.below hb (Nat.le_refl _))
  replace HB := hide (bstep HB.out hb HB.out.size); clear hb
  have HP := hide ho.is; clear ho
  go_wp2_with fail
  refine (CSS.out _ HX.out).mono ?_; rintro e w3 ⟨rQ, rfl, ho, hb⟩
  replace HX := hide (HX.out.below hb (Nat.le_refl _))
  replace HP := hide (HP.out.below hb (Nat.le_refl _))
  replace HB := hide (bstep HB.out hb HB.out.size); clear hb
  have HQ := hide ho.is; clear ho
  go_wp2_with fail
  refine (vInts_is _ _ _ _ HP.out HQ.out).mono ?_; rintro e w4 ⟨rfl, hb⟩
  replace HX := hide (HX.out.below hb (Nat.le_refl _))
  replace HP := hide (HP.out.below hb (Nat.le_refl _))
  replace HQ := hide (HQ.out.below hb (Nat.le_refl _))
  replace HB := hide (bstep HB.out hb HB.out.size); clear hb
  clear HQ CS CSS
  go_wp2_with fail
  refine (CB.out _ HX.out).mono ?_; rintro e w5 ⟨rfl, hb⟩
  replace HP := hide (HP.out.below hb (Nat.le_refl _))
  replace HX := hide (HX.out.below hb (Nat.le_refl _))
  replace HB := hide (bstep HB.out hb HB.out.size); clear hb
  go_wp2_with fail
  refine (CBS.out _ HX.out).mono ?_; rintro e w6 ⟨rfl, hb⟩
  replace HP := hide (HP.out.below hb (Nat.le_refl _))
  replace HX := hide (HX.out.below hb (Nat.le_refl _))
  replace HB := hide (bstep HB.out hb HB.out.size); clear hb
  clear HX CB CBS
  obtain ⟨hf, hm⟩ := HLAW.out
  clear HLAW
  obtain ⟨AP, cP, rfl, -⟩ := HP.out
  have hpl := HP.out.len
  cases told with
  | false =>
    rw [Bool.false_and] at hf
    subst hf
    clear hm
    go_upto_if 185 with fail
    go_cut [] from 185 to 185 (fun wx => Below w.heap.size w wx)
    case first =>
      go_wp2_with fail
      go_meet
      exact HB.out
    case rest =>
      apply_assumption
      exact spots3 A cap code w HCODE.out _ hcut _ _ _ _ _ _ _ _ _ _ _ _ _ _ _ _ _ _ _ _ _ _ _ _ _ _ _ _ _ _ _ _ _ _ _ _ _ _ _ _ _ _ _ _ _ _ _ _ _ _ _ _ _ _ _ _ _ _ _ _ _ _ _ _ _ _ _ _ _ _ _ _ _ _ _ _ _ _ _ _ _ _ _ _ _ _ _ _ _ _ _ _ _ _ _ _ _ _ _ _ _ _ _ _ _ _ _ _ _ _ _ _ _ _ _ _ _ _ _ _ _ _ _ _ _ _ _ _ _ _ _ _ _ _ _ _ _ _ _ _ _ _ _ _ _ _ _ _ _ _ _ _ _ _ _ _ _ _ _ _ _ _ _ _ _ _ _ _ _ _ _ _ _ _ _ _ _ _ _ _ _ _ _ _ _ _ _ _ _ _ _ _ _ _ _ _ _ _ _ _ _ _ _ _ _ _ _ _ _ _ _ _ _ _ _ _ _ _ _ _ _ _ _ _ _ _ _ _ _ _ _ _ _ _ _ _ _ _ _ _ _ _ _ _ _ _ _ _ _ _ _ _ _ _ _ _ _ _ _ _ _ _ _ _ _ _ _ _ _ _ _ _ _ _ _ _ _ _ _ _ _ _ _ _ _ _ _ _ _ _ _ _ _ _ _ _ _ _ _ _ _ _ _ _ _ _ _ _ _ _ HT.out
  | true =>
    rw [Bool.true_and] at hf
    by_cases hn : 0 < nl.length
    · rw [decide_eq_true hn] at hf
      subst hf
      have hn' : (0 : Int) < nl.length := by omega
      have hmem := hm rfl
      have ch := fun W hi => vHas_is (.slice AP nl.length cP) nl best W hi
      rw [decide_eq_true hmem] at ch
      have CH := hide ch; clear ch hm hmem hn
      go_upto_if 185 with (go_at_call 27; refine (CH.out _ HP.out).mono ?_; rintro e w30 ⟨rfl, hb⟩; replace HB := hide (bstep HB.out hb HB.out.size); clear hb)
      go_cut [] from 185 to 185 (fun wx => Below w.heap.size w wx)
      case first =>
        go_wp2_with fail
        go_meet
        exact HB.out
      case rest =>
        apply_assumption
        exact spots3 A cap code w HCODE.out _ hcut _ _ _ _ _ _ _ _ _ _ _ _ _ _ _ _ _ _ _ _ _ _ _ _ _ _ _ _ _ _ _ _ _ _ _ _ _ _ _ _ _ _ _ _ _ _ _ _ _ _ _ _ _ _ _ _ _ _ _ _ _ _ _ _ _ _ _ _ _ _ _ _ _ _ _ _ _ _ _ _ _ _ _ _ _ _ _ _ _ _ _ _ _ _ _ _ _ _ _ _ _ _ _ _ _ _ _ _ _ _ _ _ _ _ _ _ _ _ _ _ _ _ _ _ _ _ _ _ _ _ _ _ _ _ _ _ _ _ _ _ _ _ _ _ _ _ _ _ _ _ _ _ _ _ _ _ _ _ _ _ _ _ _ _ _ _ _ _ _ _ _ _ _ _ _ _ _ _ _ _ _ _ _ _ _ _ _ _ _ _ _ _ _ _ _ _ _ _ _ _ _ _ _ _ _ _ _ _ _ _ _ _ _ _ _ _ _ _ _ _ _ _ _ _ _ _ _ _ _ _ _ _ _ _ _ _ _ _ _ _ _ _ _ _ _ _ _ _ _ _ _ _ _ _ _ _ _ _ _ _ _ _ _ _ _ _ _ _ _ _ _ _ _ _ _ _ _ _ _ _ _ _ _ _ _ _ _ _ _ _ _ _ _ _ _ _ _ _ _ _ _ _ _ _ _ _ _ _ _ _ HT.out
    · rw [decide_eq_false hn] at hf
      subst hf
      obtain rfl : nl = [] := by
        cases nl with
        | nil => rfl
        | cons a l => exact absurd (Nat.succ_pos _) hn
      clear hm hn hpl
      go_upto_if 185 with fail
      go_cut [] from 185 to 185 (fun wx => Below w.heap.size w wx)
      case first =>
        go_wp2_with fail
        go_meet
        exact HB.out
      case rest =>
        apply_assumption
        exact spots3 A cap code w HCODE.out _ hcut _ _ _ _ _ _ _ _ _ _ _ _ _ _ _ _ _ _ _ _ _ _ _ _ _ _ _ _ _ _ _ _ _ _ _ _ _ _ _ _ _ _ _ _ _ _ _ _ _ _ _ _ _ _ _ _ _ _ _ _ _ _ _ _ _ _ _ _ _ _ _ _ _ _ _ _ _ _ _ _ _ _ _ _ _ _ _ _ _ _ _ _ _ _ _ _ _ _ _ _ _ _ _ _ _ _ _ _ _ _ _ _ _ _ _ _ _ _ _ _ _ _ _ _ _ _ _ _ _ _ _ _ _ _ _ _ _ _ _ _ _ _ _ _ _ _ _ _ _ _ _ _ _ _ _ _ _ _ _ _ _ _ _ _ _ _ _ _ _ _ _ _ _ _ _ _ _ _ _ _ _ _ _ _ _ _ _ _ _ _ _ _ _ _ _ _ _ _ _ _ _ _ _ _ _ _ _ _ _ _ _ _ _ _ _ _ _ _ _ _ _ _ _ _ _ _ _ _ _ _ _ _ _ _ _ _ _ _ _ _ _ _ _ _ _ _ _ _ _ _ _ _ _ _ _ _ _ _ _ _ _ _ _ _ _ _ _ _ _ _ _ _ _ _ _ _ _ _ _ _ _ _ _ _ _ _ _ _ _ _ _ _ _ _ _ _ _ _ _ _ _ _ _ _ _ _ _ _ _ _ HT.out
end Go.Proofs.YtplemibckjnbhaaDoor
