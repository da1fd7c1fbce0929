import Derived.Test.YtplemibckjnbhaaGreatDoorBase
import Derived.Test.YtplemibckjnbhaaGreatDoorD2D
import Derived.Test.YtplemibckjnbhaaGreatDoorL2O
/- The rest of a function's code from one of its statements on, taken out by a function: for laws that are walked in several declarations. Nothing here speaks of the program. -/
namespace Go.Proofs.YtplemibckjnbhaaGreatDoor
def headIs (k : Nat) : Go.Code → Bool
  | .region id _ _ => id == k
  | .seq a _ => headIs k a
  | _ => false
def codeTail (k : Nat) : Go.Code → Option Go.Code
  | .seq a b => match codeTail k b with
    | some c => some c
    | none => if headIs k a then some (.seq a b) else codeTail k a
  | .block _ c => codeTail k c
  | .loop c => codeTail k c
  | .cond _ a b => match codeTail k a with
    | some c => some c
    | none => codeTail k b
  | .scope c => codeTail k c
  | _ => none
end Go.Proofs.YtplemibckjnbhaaGreatDoor

/- The last part of FnSheets: from OnPaper on the law returns true. No condition. (Printed by mkfnsheets.py.) -/
namespace Go.Proofs.YtplemibckjnbhaaGreatDoor
open Go.RowKit
set_option linter.unusedVariables false
noncomputable def tail_sheets4 : Go.Code := (Tryz.f4.body.bind (codeTail 30)).getD .skip
set_option maxRecDepth 1000000 in
set_option maxHeartbeats 8000000 in
theorem sheets4 (A : Option Addr) (cap : Nat) (code : List Int) (w : World) (hcode : Code w (.slice A code.length cap) A cap code) (wc : World) (hbel : Below w.heap.size w wc) (u1 u2 u3 u4 u5 u6 u7 u8 u9 u10 u11 u12 u13 u14 u15 u16 u17 u18 u19 u20 u21 u22 u23 u24 u25 u26 u27 u28 u29 u30 u31 u32 u33 u34 u35 u36 u37 u38 u39 u40 u41 u42 u43 u44 u45 u46 u47 u48 u49 u50 u51 u52 u53 u54 u55 u56 u57 u58 u59 u60 u61 u62 u63 u64 u65 u66 u67 u68 u69 u70 u71 u72 u73 u74 u75 u76 u77 u78 u79 u80 u81 u82 u83 u84 u85 u86 u87 u88 u89 u90 u91 u92 u93 u94 u95 u96 u97 u98 u99 u100 u101 u102 u103 u104 u105 u106 u107 u108 u109 u110 u111 u112 u113 u114 u115 u116 u117 u118 u119 u120 u121 u122 u123 u124 u125 u126 u127 u128 u129 u130 u131 u132 u133 u134 u135 u136 u137 u138 u139 u140 u141 u142 u143 u144 u145 u146 u147 u148 u149 u150 u151 u152 u153 u154 u155 u156 u157 u158 u159 u160 u161 u162 u163 u164 u165 u166 u167 u168 u169 u170 u171 u172 u173 u174 u175 u176 u177 u178 u179 u180 u181 u182 u183 u184 u185 u186 u187 u188 u189 u190 u191 u192 u193 u194 u195 u196 u197 u198 u199 u200 u201 u202 u203 u204 u205 u206 u207 u208 u209 u210 u211 u212 u213 u214 u215 u216 u217 u218 u219 u220 u221 u222 u223 u224 u225 u226 u227 u228 u229 u230 u231 u232 u233 u234 u235 u236 u237 u238 u239 u240 u241 u242 u243 u244 u245 u246 u247 : Value) :
    Go.Code.wp Tryz.prog tail_sheets4 (bodyPost Tryz.prog Tryz.f4 fun e w' => e = .returned (.bool true) ∧ Below w.heap.size w w') ⟨#[.slice A code.length cap, u1, u2, u3, u4, u5, u6, u7, u8, u9, u10, u11, u12, u13, u14, u15, u16, u17, u18, u19, u20, u21, u22, u23, u24, u25, u26, u27, u28, u29, u30, u31, u32, u33, u34, u35, u36, u37, u38, u39, u40, u41, u42, u43, u44, u45, u46, u47, u48, u49, u50, u51, u52, u53, u54, u55, u56, u57, u58, u59, u60, u61, u62, u63, u64, u65, u66, u67, u68, u69, u70, u71, u72, u73, u74, u75, u76, u77, u78, u79, u80, u81, u82, u83, u84, u85, u86, u87, u88, u89, u90, u91, u92, u93, u94, u95, u96, u97, u98, u99, u100, u101, u102, u103, u104, u105, u106, u107, u108, u109, u110, u111, u112, u113, u114, u115, u116, u117, u118, u119, u120, u121, u122, u123, u124, u125, u126, u127, u128, u129, u130, u131, u132, u133, u134, u135, u136, u137, u138, u139, u140, u141, u142, u143, u144, u145, u146, u147, u148, u149, u150, u151, u152, u153, u154, u155, u156, u157, u158, u159, u160, u161, u162, u163, u164, u165, u166, u167, u168, u169, u170, u171, u172, u173, u174, u175, u176, u177, u178, u179, u180, u181, u182, u183, u184, u185, u186, u187, u188, u189, u190, u191, u192, u193, u194, u195, u196, u197, u198, u199, u200, u201, u202, u203, u204, u205, u206, u207, u208, u209, u210, u211, u212, u213, u214, u215, u216, u217, u218, u219, u220, u221, u222, u223, u224, u225, u226, u227, u228, u229, u230, u231, u232, u233, u234, u235, u236, u237, u238, u239, u240, u241, u242, u243, u244, u245, u246, u247], []⟩ wc := by
  have HCODE := hide hcode; have HB := hide hbel; clear hcode hbel
  conv => arg 2; whnf
  generalize wc = w0 at *
  go_wp2_with fail
  refine (drawOnPaper_is _ _ A cap code (HCODE.out.below HB.out (Nat.le_refl _))).mono ?_; rintro e w1 ⟨⟨z0, z1, z2, z3, z4⟩, m, rfl, hb⟩
  replace HB := hide (bstep HB.out hb HB.out.size); clear hb
  go_upto_region 31 with fail
  have HP := hide (Blk.new w1 50 #[.int .i64 z0, .int .i64 z1, .int .i64 z2, .int .i64 z3, .int .i64 z4])
  replace HB := hide (HB.out.alloc HB.out.size (.cells #[.int .i64 z0, .int .i64 z1, .int .i64 z2, .int .i64 z3, .int .i64 z4] 50))
  generalize w1.alloc (.cells #[.int .i64 z0, .int .i64 z1, .int .i64 z2, .int .i64 z3, .int .i64 z4] 50) = w2 at *
  generalize w1.heap.size = bP at *
  obtain ⟨cpa, cpb, cpc, cpd, cpe⟩ := mk5S HP.out
  have cI := fun W => OnPaperI_is z0 z1 z2 z3 z4 m W
  have cS := fun W => OnPaperS_is z0 z1 z2 z3 z4 m W
  have hlaw := fun h => @paper_law ⟨z0, z1, z2, z3, z4⟩ m h
  generalize (paperV ⟨z0, z1, z2, z3, z4⟩ m).1 = num at *
  generalize (paperV ⟨z0, z1, z2, z3, z4⟩ m).2.1 = den at *
  generalize (paperV ⟨z0, z1, z2, z3, z4⟩ m).2.2 = last at *
  have t1 : (num != num) = false := by simp
  have t2 : (den != den) = false := by simp
  have t3 : (last != last) = false := by simp
  have CI := hide cI; have CS := hide cS; have HLAW := hide hlaw; clear cI cS hlaw
  go_wp2_with fail
  refine (CI.out _).mono ?_; rintro e w3 ⟨rfl, hb⟩
  replace HP := hide (HP.out.below hb HP.out.lt)
  replace HB := hide (bstep HB.out hb HB.out.size); clear hb
  clear cpa cpb cpc cpd cpe
  obtain ⟨cqa, cqb, cqc, cqd, cqe⟩ := mk5S HP.out
  go_wp2_with fail
  refine (CS.out _).mono ?_; rintro e w4 ⟨rfl, hb⟩
  replace HP := hide (HP.out.below hb HP.out.lt)
  replace HB := hide (bstep HB.out hb HB.out.size); clear hb
  clear cqa cqb cqc cqd cqe
  obtain ⟨cra, crb, crc, crd, cre⟩ := mk5S HP.out
  cases last with
  | false =>
    go_wp2_with fail
    go_ret
    exact ⟨rfl, HB.out⟩
  | true =>
    obtain ⟨⟨⟨n0, n1⟩, d0, d1⟩, ⟨⟨m0, m1⟩, s0, s1⟩, he⟩ := HLAW.out rfl
    try simp only at s0 s1 he
    clear HLAW
    obtain ⟨k1, k2⟩ := mul_bd2 (a := num) (b := z3) (n := 1000001) (m := 1000001) (by omega) (by omega) (by omega) (by omega) (by omega) (by omega)
    obtain ⟨k3, k4⟩ := mul_bd2 (a := m) (b := den) (n := 1000001) (m := 1000001) (by omega) (by omega) (by omega) (by omega) (by omega) (by omega)
    simp only [Int.reduceMul, Int.reduceNeg] at k1 k2 k3 k4
    have t4 : (num * z3 == m * den) = true := by simp [he]
    go_wp2_with fail
    go_ret
    exact ⟨rfl, HB.out⟩
end Go.Proofs.YtplemibckjnbhaaGreatDoor
