/- A part of FnReaderTexts: from ParseReader on the law returns true. Conditions: the table of powers of ten, the errors and bytealg.MaxLen are laid. (Printed by mkfnrt.py.) -/
import Derived.Test.YtplemibckjnbhaaGreatDoorL3X
import Derived.Test.YtplemibckjnbhaaGreatDoorWFnRt3
import Derived.Deep.CutBlock
namespace Go.Proofs.YtplemibckjnbhaaGreatDoor
open Go.RowKit
set_option linter.unusedVariables false
noncomputable def tail_readtx2 : Go.Code := (Tryz.f3.body.bind (codeTail 12)).getD .skip
set_option maxRecDepth 1000000 in
set_option maxHeartbeats 8000000 in
theorem readtx2 (A : Option Addr) (cap : Nat) (code : List Int) (w : World) (hcode : Code w (.slice A code.length cap) A cap code) (wc : World) (hbel : Below w.heap.size w wc) (u1 u2 u3 u4 u5 u6 u7 u8 u9 u10 u11 u12 u13 u14 u15 u16 u17 u18 u19 u20 u21 u22 u23 u24 u25 u26 u27 u28 u29 u30 u31 u32 u33 u34 u35 u36 u37 u38 u39 u40 u41 u42 u43 u44 u45 u46 u47 u48 u49 u50 u51 u52 u53 u54 u55 u56 u57 u58 u59 u60 u61 u62 u63 u64 u65 u66 u67 u68 u69 u70 u71 u72 u73 u74 u75 u76 u77 u78 u79 u80 u81 u82 u83 u84 u85 u86 u87 u88 u89 u90 u91 u92 u93 u94 u95 u96 u97 u98 u99 u100 u101 u102 u103 u104 u105 u106 u107 u108 u109 u110 u111 u112 u113 u114 u115 u116 u117 u118 u119 u120 u121 u122 u123 u124 u125 u126 u127 u128 u129 u130 u131 u132 u133 u134 u135 u136 u137 u138 u139 u140 u141 u142 u143 u144 u145 u146 u147 u148 u149 u150 u151 u152 u153 u154 u155 u156 u157 u158 u159 u160 u161 u162 u163 u164 u165 u166 u167 u168 u169 u170 u171 u172 u173 u174 u175 u176 u177 u178 u179 u180 u181 u182 u183 u184 u185 u186 u187 u188 u189 u190 u191 u192 u193 u194 u195 u196 u197 u198 u199 u200 u201 u202 u203 u204 u205 u206 u207 u208 u209 u210 u211 u212 u213 u214 u215 u216 u217 u218 u219 u220 u221 u222 u223 u224 u225 u226 u227 u228 u229 u230 u231 u232 u233 u234 u235 u236 u237 : Value) (ht : Tab w) (he : Errs w) (hm : MaxL w) :
    Go.Code.wp Tryz.prog tail_readtx2 (bodyPost Tryz.prog Tryz.f3 fun e w' => e = .returned (.bool true) ∧ Below w.heap.size w w') ⟨#[.slice A code.length cap, u1, u2, u3, u4, u5, u6, u7, u8, u9, u10, u11, u12, u13, u14, u15, u16, u17, u18, u19, u20, u21, u22, u23, u24, u25, u26, u27, u28, u29, u30, u31, u32, u33, u34, u35, u36, u37, u38, u39, u40, u41, u42, u43, u44, u45, u46, u47, u48, u49, u50, u51, u52, u53, u54, u55, u56, u57, u58, u59, u60, u61, u62, u63, u64, u65, u66, u67, u68, u69, u70, u71, u72, u73, u74, u75, u76, u77, u78, u79, u80, u81, u82, u83, u84, u85, u86, u87, u88, u89, u90, u91, u92, u93, u94, u95, u96, u97, u98, u99, u100, u101, u102, u103, u104, u105, u106, u107, u108, u109, u110, u111, u112, u113, u114, u115, u116, u117, u118, u119, u120, u121, u122, u123, u124, u125, u126, u127, u128, u129, u130, u131, u132, u133, u134, u135, u136, u137, u138, u139, u140, u141, u142, u143, u144, u145, u146, u147, u148, u149, u150, u151, u152, u153, u154, u155, u156, u157, u158, u159, u160, u161, u162, u163, u164, u165, u166, u167, u168, u169, u170, u171, u172, u173, u174, u175, u176, u177, u178, u179, u180, u181, u182, u183, u184, u185, u186, u187, u188, u189, u190, u191, u192, u193, u194, u195, u196, u197, u198, u199, u200, u201, u202, u203, u204, u205, u206, u207, u208, u209, u210, u211, u212, u213, u214, u215, u216, u217, u218, u219, u220, u221, u222, u223, u224, u225, u226, u227, u228, u229, u230, u231, u232, u233, u234, u235, u236, u237], []⟩ wc := by
  have HT := hide ht; have HE := hide he; have HM := hide hm; clear ht he hm
  have HCODE := hide hcode; have HB := hide hbel; clear hcode hbel
  conv => arg 2; whnf
  generalize wc = w0 at *
  go_wp2_with fail
  refine (drawParseReader_is _ _ A cap code (HCODE.out.below HB.out (Nat.le_refl _))).mono ?_; rintro e w1 ⟨s, rfl, hs, hb⟩
  replace HB := hide (bstep HB.out hb HB.out.size); clear hb
  have cP := fun W h1 h2 h3 => ParseReaderI_is s W h1 h2 h3 (by omega)
  have cPS := fun W => ParseReaderS_is s W (by omega)
  generalize (parR s).2 = told at *
  generalize (parR s).1 = y at *
  obtain ⟨y0, y1, y2, y3, y4⟩ := y
  have hne := fun W => SReader.neq_self y0 y1 y2 y3 y4 W
  have t1 : (told != told) = false := by simp
  have CP := hide cP; have CPS := hide cPS; clear cP cPS
  go_wp2_with fail
  refine (CP.out _ (HM.out.below HB.out (Nat.le_refl _)) (HT.out.below HB.out (Nat.le_refl _)) (HE.out.below HB.out (Nat.le_refl _))).mono ?_; rintro e w2 ⟨rfl, hb⟩
  replace HB := hide (bstep HB.out hb HB.out.size); clear hb
  go_upto_region 14 with fail
  have HY := hide (Blk.new w2 25 #[.int .i64 y0, .string y1, .int .i64 y2, .int .i64 y3, .int .i64 y4])
  replace HB := hide (HB.out.alloc HB.out.size (.cells #[.int .i64 y0, .string y1, .int .i64 y2, .int .i64 y3, .int .i64 y4] 25))
  generalize w2.alloc (.cells #[.int .i64 y0, .string y1, .int .i64 y2, .int .i64 y3, .int .i64 y4] 25) = w3 at *
  generalize w2.heap.size = bY at *
  go_wp2_with fail
  refine (CPS.out _).mono ?_; rintro e w4 ⟨rfl, hb⟩
  replace HY := hide (HY.out.below hb HY.out.lt)
  replace HB := hide (bstep HB.out hb HB.out.size); clear hb
  go_upto_region 15 with fail
  replace HY := hide (HY.out.alloc (.cells #[.int .i64 y0, .string y1, .int .i64 y2, .int .i64 y3, .int .i64 y4] 25))
  have HW := hide (Blk.new w4 25 #[.int .i64 y0, .string y1, .int .i64 y2, .int .i64 y3, .int .i64 y4])
  replace HB := hide (HB.out.alloc HB.out.size (.cells #[.int .i64 y0, .string y1, .int .i64 y2, .int .i64 y3, .int .i64 y4] 25))
  generalize w4.alloc (.cells #[.int .i64 y0, .string y1, .int .i64 y2, .int .i64 y3, .int .i64 y4] 25) = w5 at *
  generalize w4.heap.size = bW at *
  obtain ⟨cya, cyb, cyc, cyd, cye⟩ := mk5 HY.out
  obtain ⟨cwa, cwb, cwc, cwd, cwe⟩ := mk5 HW.out
  clear CP CPS
  go_upto_if 98 with fail
  go_cut [] from 98 to 98 (fun wx => Below w.heap.size w wx)
  case first =>
    go_wp2_with fail
    go_meet
    exact HB.out
  case rest =>
    apply_assumption
    exact readtx3 A cap code w HCODE.out _ hcut _ _ _ _ _ _ _ _ _ _ _ _ _ _ _ _ _ _ _ _ _ _ _ _ _ _ _ _ _ _ _ _ _ _ _ _ _ _ _ _ _ _ _ _ _ _ _ _ _ _ _ _ _ _ _ _ _ _ _ _ _ _ _ _ _ _ _ _ _ _ _ _ _ _ _ _ _ _ _ _ _ _ _ _ _ _ _ _ _ _ _ _ _ _ _ _ _ _ _ _ _ _ _ _ _ _ _ _ _ _ _ _ _ _ _ _ _ _ _ _ _ _ _ _ _ _ _ _ _ _ _ _ _ _ _ _ _ _ _ _ _ _ _ _ _ _ _ _ _ _ _ _ _ _ _ _ _ _ _ _ _ _ _ _ _ _ _ _ _ _ _ _ _ _ _ _ _ _ _ _ _ _ _ _ _ _ _ _ _ _ _ _ _ _ _ _ _ _ _ _ _ _ _ _ _ _ _ _ _ _ _ _ _ _ _ _ _ _ _ _ _ _ _ _ _ _ _ _ _ _ _ _ _ _ _ _ _
end Go.Proofs.YtplemibckjnbhaaGreatDoor
