/- The last parts of FnRunoff: from each on the law returns true. No condition. (Printed by mkfnrun.py.) -/
import Derived.Test.YtomcdkkjknphpaaWFnLev2
namespace Go.Proofs.Ytomcdkkjknphpaa
open Go.RowKit
set_option linter.unusedVariables false
noncomputable def tail_run3 : Go.Code := (Try.f14.body.bind (codeTail 39)).getD .skip
set_option maxRecDepth 1000000 in
set_option maxHeartbeats 8000000 in
theorem run3 (A : Option Addr) (cap : Nat) (code : List Int) (w : World) (hcode : Code w (.slice A code.length cap) A cap code) (wc : World) (hbel : Below w.heap.size w wc) (u1 u2 u3 u4 u5 u6 u7 u8 u9 u10 u11 u12 u13 u14 u15 u16 u17 u18 u19 u20 u21 u22 u23 u24 u25 u26 u27 u28 u29 u30 u31 u32 u33 u34 u35 u36 u37 u38 u39 u40 u41 u42 u43 u44 u45 u46 u47 u48 u49 u50 u51 u52 u53 u54 u55 u56 u57 u58 u59 u60 u61 u62 u63 u64 u65 u66 u67 u68 u69 u70 u71 u72 u73 u74 u75 u76 u77 u78 u79 u80 u81 u82 u83 u84 u85 u86 u87 u88 u89 u90 u91 u92 u93 u94 u95 u96 u97 u98 u99 u100 u101 u102 u103 u104 u105 u106 u107 u108 u109 u110 u111 u112 u113 u114 u115 u116 u117 u118 u119 u120 u121 u122 u123 u124 u125 u126 u127 u128 u129 u130 u131 u132 u133 u134 u135 u136 u137 u138 u139 u140 u141 u142 u143 u144 u145 u146 u147 u148 u149 u150 u151 u152 u153 u154 u155 u156 u157 u158 u159 u160 u161 u162 u163 u164 u165 u166 u167 u168 u169 u170 u171 u172 u173 u174 u175 u176 u177 u178 u179 u180 u181 u182 u183 u184 u185 u186 u187 u188 u189 u190 u191 u192 u193 u194 u195 u196 u197 u198 u199 u200 u201 u202 u203 u204 u205 u206 u207 u208 u209 u210 u211 u212 u213 u214 u215 u216 u217 u218 u219 u220 u221 u222 u223 u224 u225 u226 u227 u228 u229 u230 u231 u232 u233 u234 u235 u236 u237 u238 u239 u240 u241 u242 u243 u244 u245 u246 u247 u248 u249 u250 u251 u252 u253 u254 u255 u256 u257 u258 u259 u260 u261 u262 u263 u264 u265 u266 u267 u268 u269 u270 u271 u272 u273 u274 u275 u276 u277 u278 u279 u280 u281 u282 u283 u284 u285 u286 u287 u288 u289 u290 u291 u292 u293 u294 u295 u296 u297 u298 u299 u300 u301 u302 u303 u304 u305 u306 u307 u308 : Value) :
    Go.Code.wp Try.prog tail_run3 (bodyPost Try.prog Try.f14 fun e w' => e = .returned (.bool true) ∧ Below w.heap.size w w') ⟨#[.slice A code.length cap, u1, u2, u3, u4, u5, u6, u7, u8, u9, u10, u11, u12, u13, u14, u15, u16, u17, u18, u19, u20, u21, u22, u23, u24, u25, u26, u27, u28, u29, u30, u31, u32, u33, u34, u35, u36, u37, u38, u39, u40, u41, u42, u43, u44, u45, u46, u47, u48, u49, u50, u51, u52, u53, u54, u55, u56, u57, u58, u59, u60, u61, u62, u63, u64, u65, u66, u67, u68, u69, u70, u71, u72, u73, u74, u75, u76, u77, u78, u79, u80, u81, u82, u83, u84, u85, u86, u87, u88, u89, u90, u91, u92, u93, u94, u95, u96, u97, u98, u99, u100, u101, u102, u103, u104, u105, u106, u107, u108, u109, u110, u111, u112, u113, u114, u115, u116, u117, u118, u119, u120, u121, u122, u123, u124, u125, u126, u127, u128, u129, u130, u131, u132, u133, u134, u135, u136, u137, u138, u139, u140, u141, u142, u143, u144, u145, u146, u147, u148, u149, u150, u151, u152, u153, u154, u155, u156, u157, u158, u159, u160, u161, u162, u163, u164, u165, u166, u167, u168, u169, u170, u171, u172, u173, u174, u175, u176, u177, u178, u179, u180, u181, u182, u183, u184, u185, u186, u187, u188, u189, u190, u191, u192, u193, u194, u195, u196, u197, u198, u199, u200, u201, u202, u203, u204, u205, u206, u207, u208, u209, u210, u211, u212, u213, u214, u215, u216, u217, u218, u219, u220, u221, u222, u223, u224, u225, u226, u227, u228, u229, u230, u231, u232, u233, u234, u235, u236, u237, u238, u239, u240, u241, u242, u243, u244, u245, u246, u247, u248, u249, u250, u251, u252, u253, u254, u255, u256, u257, u258, u259, u260, u261, u262, u263, u264, u265, u266, u267, u268, u269, u270, u271, u272, u273, u274, u275, u276, u277, u278, u279, u280, u281, u282, u283, u284, u285, u286, u287, u288, u289, u290, u291, u292, u293, u294, u295, u296, u297, u298, u299, u300, u301, u302, u303, u304, u305, u306, u307, u308], []⟩ wc := by
  have HCODE := hide hcode; have HB := hide hbel; clear hcode hbel
  conv => arg 2; whnf
  generalize wc = w40 at *
  go_wp2_with fail
  refine (drawGreatestRiver_is _ _ A cap code (HCODE.out.below HB.out (Nat.le_refl _))).mono ?_; rintro e w41 ⟨v, xss, rfl, hg, hb⟩
  replace HB := hide (bstep HB.out hb HB.out.size); clear hb
  have HX := hide hg; clear hg
  have cL := fun (W : World) (hi : IsG W v xss) => implGreatestRiver_any v xss W hi
  have cLS := fun (W : World) (hi : IsG W v xss) => specGreatestRiver_any v xss W hi
  generalize (riverV xss).1.1 = a1 at *
  generalize (riverV xss).1.2 = a2 at *
  generalize (riverV xss).2 = f1 at *
  have t1 : (f1 != f1) = false := by simp
  have CL := hide cL; have CLS := hide cLS
  clear cL cLS
  go_wp2_with fail
  refine (CL.out _ HX.out).mono ?_; rintro e w42 ⟨rfl, hb⟩
  replace HX := hide (HX.out.below hb (Nat.le_refl _))
  replace HB := hide (bstep HB.out hb HB.out.size); clear hb
  go_wp2_with fail
  refine (CLS.out _ HX.out).mono ?_; rintro e w43 ⟨rfl, hb⟩
  replace HX := hide (HX.out.below hb (Nat.le_refl _))
  replace HB := hide (bstep HB.out hb HB.out.size); clear hb
  clear HX CL CLS
  go_wp2_with fail
  refine (drawCatchment_is _ _ A cap code (HCODE.out.below HB.out (Nat.le_refl _))).mono ?_; rintro e w44 ⟨v2, yss, r2, c2, rfl, hg, hb⟩
  replace HB := hide (bstep HB.out hb HB.out.size); clear hb
  have HX := hide hg; clear hg
  have cL := fun (W : World) (hi : IsG W v2 yss) => implCatchment_any v2 yss r2 c2 W hi
  have cLS := fun (W : World) (hi : IsG W v2 yss) => specCatchment_any v2 yss r2 c2 W hi
  generalize (catV yss r2 c2).1 = b1 at *
  generalize (catV yss r2 c2).2 = f2 at *
  have t2 : (f2 != f2) = false := by simp
  have CL := hide cL; have CLS := hide cLS
  clear cL cLS
  go_wp2_with fail
  refine (CL.out _ HX.out).mono ?_; rintro e w45 ⟨rfl, hb⟩
  replace HX := hide (HX.out.below hb (Nat.le_refl _))
  replace HB := hide (bstep HB.out hb HB.out.size); clear hb
  go_wp2_with fail
  refine (CLS.out _ HX.out).mono ?_; rintro e w46 ⟨rfl, hb⟩
  replace HX := hide (HX.out.below hb (Nat.le_refl _))
  replace HB := hide (bstep HB.out hb HB.out.size); clear hb
  clear HX CL CLS
  go_wp2_with fail
  refine (drawNextSquare_is _ _ A cap code (HCODE.out.below HB.out (Nat.le_refl _))).mono ?_; rintro e w47 ⟨v3, zss, r3, c3, rfl, hg, hb⟩
  replace HB := hide (bstep HB.out hb HB.out.size); clear hb
  have HX := hide hg; clear hg
  have cL := fun (W : World) (hi : IsG W v3 zss) => implNextSquare_any v3 zss r3 c3 W hi
  have cLS := fun (W : World) (hi : IsG W v3 zss) => specNextSquare_any v3 zss r3 c3 W hi
  generalize (nextV zss r3 c3).1.1 = d1 at *
  generalize (nextV zss r3 c3).1.2 = d2 at *
  generalize (nextV zss r3 c3).2 = f3 at *
  have CL := hide cL; have CLS := hide cLS
  clear cL cLS
  go_wp2_with fail
  refine (CL.out _ HX.out).mono ?_; rintro e w48 ⟨rfl, hb⟩
  replace HX := hide (HX.out.below hb (Nat.le_refl _))
  replace HB := hide (bstep HB.out hb HB.out.size); clear hb
  go_wp2_with fail
  refine (CLS.out _ HX.out).mono ?_; rintro e w49 ⟨rfl, hb⟩
  replace HX := hide (HX.out.below hb (Nat.le_refl _))
  replace HB := hide (bstep HB.out hb HB.out.size); clear hb
  go_wp2_with fail
  go_ret
  exact ⟨by simp, HB.out⟩
end Go.Proofs.Ytomcdkkjknphpaa
