/- A middle part of FnTurns: from region 12 on the law returns true. No condition. (Printed by mkfnturn.py.) -/
import Derived.Test.YtdbcilinoieabaaWFnTurn2
namespace Go.Proofs.Ytdbcilinoieabaa
open Go.RowKit
set_option linter.unusedVariables false
noncomputable def tail_run1 : Go.Code := (Try.f3.body.bind (codeTail 12)).getD .skip
set_option maxRecDepth 1000000 in
set_option maxHeartbeats 8000000 in
theorem run1 (A : Option Addr) (cap : Nat) (code : List Int) (w : World) (hcode : Code w (.slice A code.length cap) A cap code) (wc : World) (hbel : Below w.heap.size w wc) (u1 u2 u3 u4 u5 u6 u7 u8 u9 u10 u11 u12 u13 u14 u15 u16 u17 u18 u19 u20 u21 u22 u23 u24 u25 u26 u27 u28 u29 u30 u31 u32 u33 u34 u35 u36 u37 u38 u39 u40 u41 u42 u43 u44 u45 u46 u47 u48 u49 u50 u51 u52 u53 u54 u55 u56 u57 u58 u59 u60 u61 u62 u63 u64 u65 u66 u67 u68 u69 u70 u71 u72 u73 u74 u75 u76 u77 u78 u79 u80 u81 u82 u83 u84 u85 u86 u87 u88 u89 u90 u91 u92 u93 u94 u95 u96 u97 u98 u99 u100 u101 u102 u103 u104 u105 u106 u107 u108 u109 u110 u111 u112 u113 u114 u115 u116 u117 u118 u119 u120 u121 u122 u123 u124 u125 u126 u127 u128 u129 u130 u131 u132 u133 u134 u135 u136 u137 u138 u139 u140 u141 u142 u143 u144 u145 u146 u147 u148 u149 u150 u151 u152 u153 u154 u155 u156 u157 u158 u159 u160 u161 u162 u163 u164 u165 u166 u167 u168 u169 u170 u171 u172 u173 u174 u175 u176 u177 u178 u179 u180 u181 u182 u183 u184 u185 u186 u187 u188 u189 u190 u191 u192 u193 u194 u195 u196 u197 u198 u199 u200 u201 u202 u203 u204 u205 u206 u207 u208 u209 u210 u211 u212 u213 u214 u215 u216 u217 u218 u219 u220 u221 u222 u223 u224 u225 u226 u227 u228 u229 u230 u231 u232 u233 u234 u235 u236 u237 u238 u239 u240 u241 u242 u243 u244 u245 u246 u247 u248 u249 u250 u251 u252 u253 u254 u255 u256 u257 u258 u259 u260 u261 u262 u263 u264 u265 u266 u267 u268 u269 u270 u271 u272 u273 u274 u275 u276 u277 u278 u279 u280 u281 u282 u283 u284 : Value) (xs : List STurn) (x y : Int) (hx : Is 5 STurn.enc wc u3 xs) (h4 : u4 = .int .i64 x) (h5 : u5 = .int .i64 y) (h7 : u7 = .bool (tpV xs x y).2) :
    Go.Code.wp Try.prog tail_run1 (bodyPost Try.prog Try.f3 fun e w' => e = .returned (.bool true) ∧ Below w.heap.size w w') ⟨#[.slice A code.length cap, u1, u2, u3, u4, u5, u6, u7, u8, u9, u10, u11, u12, u13, u14, u15, u16, u17, u18, u19, u20, u21, u22, u23, u24, u25, u26, u27, u28, u29, u30, u31, u32, u33, u34, u35, u36, u37, u38, u39, u40, u41, u42, u43, u44, u45, u46, u47, u48, u49, u50, u51, u52, u53, u54, u55, u56, u57, u58, u59, u60, u61, u62, u63, u64, u65, u66, u67, u68, u69, u70, u71, u72, u73, u74, u75, u76, u77, u78, u79, u80, u81, u82, u83, u84, u85, u86, u87, u88, u89, u90, u91, u92, u93, u94, u95, u96, u97, u98, u99, u100, u101, u102, u103, u104, u105, u106, u107, u108, u109, u110, u111, u112, u113, u114, u115, u116, u117, u118, u119, u120, u121, u122, u123, u124, u125, u126, u127, u128, u129, u130, u131, u132, u133, u134, u135, u136, u137, u138, u139, u140, u141, u142, u143, u144, u145, u146, u147, u148, u149, u150, u151, u152, u153, u154, u155, u156, u157, u158, u159, u160, u161, u162, u163, u164, u165, u166, u167, u168, u169, u170, u171, u172, u173, u174, u175, u176, u177, u178, u179, u180, u181, u182, u183, u184, u185, u186, u187, u188, u189, u190, u191, u192, u193, u194, u195, u196, u197, u198, u199, u200, u201, u202, u203, u204, u205, u206, u207, u208, u209, u210, u211, u212, u213, u214, u215, u216, u217, u218, u219, u220, u221, u222, u223, u224, u225, u226, u227, u228, u229, u230, u231, u232, u233, u234, u235, u236, u237, u238, u239, u240, u241, u242, u243, u244, u245, u246, u247, u248, u249, u250, u251, u252, u253, u254, u255, u256, u257, u258, u259, u260, u261, u262, u263, u264, u265, u266, u267, u268, u269, u270, u271, u272, u273, u274, u275, u276, u277, u278, u279, u280, u281, u282, u283, u284], []⟩ wc := by
  subst h4 h5 h7
  have HX := hide hx; clear hx
  have HCODE := hide hcode; have HB := hide hbel; clear hcode hbel
  conv => arg 2; whnf
  generalize wc = w12 at *
  have cB := fun (W : World) (hi : Is 5 STurn.enc W u3 xs) => implTurnBack_is u3 xs x y W hi
  have cBS := fun (W : World) (hi : Is 5 STurn.enc W u3 xs) => specTurnBack_is u3 xs x y W hi
  have hlaw := fun (tx ty td : Int) h1 h2 h3 h4 h5 h6 h7 => @turn_law2 xs x y tx ty td h1 h2 h3 h4 h5 h6 h7
  rw [tp_two, ← tb_two]
  generalize (tbV xs x y).1 = fr at *
  generalize (tbV xs x y).2 = told at *
  obtain ⟨fx, fy, fd⟩ := fr
  have hlaw2 := hlaw fx fy fd rfl
  have cT := fun (W : World) (hi : Is 5 STurn.enc W u3 xs) => implTurnPlace_is u3 xs fx fy W hi
  clear hlaw
  generalize tpV xs fx fy = tp at *
  have t1 : (told != told) = false := by simp
  have hN := fun W => (SSpot.neq_run fx fy fd fx fy fd W).trans (by rw [sameS_iff.2 ⟨rfl, rfl, rfl⟩]; rfl : _ = Result.ok (Value.bool false) W)
  have HLAW := hide hlaw2; have CB := hide cB; have CBS := hide cBS; have CT := hide cT
  clear hlaw2 cB cBS cT
  go_wp2_with fail
  refine (CB.out _ HX.out).mono ?_; rintro e w13 ⟨rfl, hb⟩
  replace HX := hide (HX.out.below hb (Nat.le_refl _))
  replace HB := hide (bstep HB.out hb HB.out.size); clear hb
  go_wp2_with fail
  replace HX := hide (HX.out.below (below_alloc w13 (.cells #[.int .i64 fx, .int .i64 fy, .int .i64 fd] 28)) (Nat.le_refl _))
  have HF := hide (Blk.new w13 28 #[.int .i64 fx, .int .i64 fy, .int .i64 fd])
  replace HB := hide (HB.out.alloc HB.out.size (.cells #[.int .i64 fx, .int .i64 fy, .int .i64 fd] 28))
  generalize w13.alloc (.cells #[.int .i64 fx, .int .i64 fy, .int .i64 fd] 28) = w14 at *
  generalize w13.heap.size = bF at *
  refine (CBS.out _ HX.out).mono ?_; rintro e w15 ⟨rfl, hb⟩
  replace HX := hide (HX.out.below hb (Nat.le_refl _))
  replace HF := hide (HF.out.below hb HF.out.lt)
  replace HB := hide (bstep HB.out hb HB.out.size); clear hb
  go_upto_region 14 with fail
  replace HX := hide (HX.out.below (below_alloc w15 (.cells #[.int .i64 fx, .int .i64 fy, .int .i64 fd] 28)) (Nat.le_refl _))
  replace HF := hide (HF.out.alloc (.cells #[.int .i64 fx, .int .i64 fy, .int .i64 fd] 28))
  have HG := hide (Blk.new w15 28 #[.int .i64 fx, .int .i64 fy, .int .i64 fd])
  replace HB := hide (HB.out.alloc HB.out.size (.cells #[.int .i64 fx, .int .i64 fy, .int .i64 fd] 28))
  generalize w15.alloc (.cells #[.int .i64 fx, .int .i64 fy, .int .i64 fd] 28) = w16 at *
  generalize w15.heap.size = bG at *
  obtain ⟨cfa, cfb, cfc, _⟩ := spot3 HF.out
  obtain ⟨cga, cgb, cgc, _⟩ := spot3 HG.out
  clear CB CBS
  by_cases hc0 : told = true
  · subst hc0
    by_cases hc1 : fd = 1
    · subst hc1
      by_cases hc2 : 0 ≤ fx
      · by_cases hc3 : fx ≤ 99999
        · by_cases hc4 : 0 ≤ fy
          · by_cases hc5 : fy ≤ 99999
            · have hT := HLAW.out (by trivial) (by trivial) hc2 hc3 hc4 hc5
              subst hT
              clear HLAW
              go_upto_if 172 with fail
              go_cut [16, 17] from 173 to 200 (fun t16 t17 wx => Below w.heap.size w wx)
              case first =>
                go_wp2_with fail
                refine (CT.out _ HX.out).mono ?_; rintro e w17 ⟨rfl, hb⟩
                replace HX := hide (HX.out.below hb (Nat.le_refl _))
                replace HF := hide (HF.out.below hb HF.out.lt)
                replace HG := hide (HG.out.below hb HG.out.lt)
                replace HB := hide (bstep HB.out hb HB.out.size); clear hb
                have n1 : (x != x) = false := by simp
                have n2 : (y != y) = false := by simp
                go_upto_region 18 with fail
                replace HX := hide (HX.out.below (below_alloc w17 (.cells #[.int .i64 x, .int .i64 y, .int .i64 1] 28)) (Nat.le_refl _))
                replace HF := hide (HF.out.alloc (.cells #[.int .i64 x, .int .i64 y, .int .i64 1] 28))
                replace HG := hide (HG.out.alloc (.cells #[.int .i64 x, .int .i64 y, .int .i64 1] 28))
                have HH := hide (Blk.new w17 28 #[.int .i64 x, .int .i64 y, .int .i64 1])
                replace HB := hide (HB.out.alloc HB.out.size (.cells #[.int .i64 x, .int .i64 y, .int .i64 1] 28))
                generalize w17.alloc (.cells #[.int .i64 x, .int .i64 y, .int .i64 1] 28) = w18 at *
                generalize w17.heap.size = bH at *
                obtain ⟨cha, chb, chc, _⟩ := spot3 HH.out
                go_wp2_with fail
                go_meet
                exact HB.out
              case rest =>
                apply_assumption
                exact run2 A cap code w HCODE.out _ hcut _ _ _ _ _ _ _ _ _ _ _ _ _ _ _ _ _ _ _ _ _ _ _ _ _ _ _ _ _ _ _ _ _ _ _ _ _ _ _ _ _ _ _ _ _ _ _ _ _ _ _ _ _ _ _ _ _ _ _ _ _ _ _ _ _ _ _ _ _ _ _ _ _ _ _ _ _ _ _ _ _ _ _ _ _ _ _ _ _ _ _ _ _ _ _ _ _ _ _ _ _ _ _ _ _ _ _ _ _ _ _ _ _ _ _ _ _ _ _ _ _ _ _ _ _ _ _ _ _ _ _ _ _ _ _ _ _ _ _ _ _ _ _ _ _ _ _ _ _ _ _ _ _ _ _ _ _ _ _ _ _ _ _ _ _ _ _ _ _ _ _ _ _ _ _ _ _ _ _ _ _ _ _ _ _ _ _ _ _ _ _ _ _ _ _ _ _ _ _ _ _ _ _ _ _ _ _ _ _ _ _ _ _ _ _ _ _ _ _ _ _ _ _ _ _ _ _ _ _ _ _ _ _ _ _ _ _ _ _ _ _ _ _ _ _ _ _ _ _ _ _ _ _ _ _ _ _ _ _ _ _ _ _ _ _ _ _ _ _ _ _ _ _ _ _ _ _ _ _ _ _ _ _ _
            · have hz : ¬ (fy ≤ 99999) := by exact hc5
              go_upto_if 172 with fail
              go_cut [16, 17] from 173 to 200 (fun t16 t17 wx => Below w.heap.size w wx)
              case first =>
                go_wp2_with fail
                go_meet
                exact HB.out
              case rest =>
                apply_assumption
                exact run2 A cap code w HCODE.out _ hcut _ _ _ _ _ _ _ _ _ _ _ _ _ _ _ _ _ _ _ _ _ _ _ _ _ _ _ _ _ _ _ _ _ _ _ _ _ _ _ _ _ _ _ _ _ _ _ _ _ _ _ _ _ _ _ _ _ _ _ _ _ _ _ _ _ _ _ _ _ _ _ _ _ _ _ _ _ _ _ _ _ _ _ _ _ _ _ _ _ _ _ _ _ _ _ _ _ _ _ _ _ _ _ _ _ _ _ _ _ _ _ _ _ _ _ _ _ _ _ _ _ _ _ _ _ _ _ _ _ _ _ _ _ _ _ _ _ _ _ _ _ _ _ _ _ _ _ _ _ _ _ _ _ _ _ _ _ _ _ _ _ _ _ _ _ _ _ _ _ _ _ _ _ _ _ _ _ _ _ _ _ _ _ _ _ _ _ _ _ _ _ _ _ _ _ _ _ _ _ _ _ _ _ _ _ _ _ _ _ _ _ _ _ _ _ _ _ _ _ _ _ _ _ _ _ _ _ _ _ _ _ _ _ _ _ _ _ _ _ _ _ _ _ _ _ _ _ _ _ _ _ _ _ _ _ _ _ _ _ _ _ _ _ _ _ _ _ _ _ _ _ _ _ _ _ _ _ _ _ _ _ _ _ _
          · have hz : ¬ (0 ≤ fy) := by exact hc4
            go_upto_if 172 with fail
            go_cut [16, 17] from 173 to 200 (fun t16 t17 wx => Below w.heap.size w wx)
            case first =>
              go_wp2_with fail
              go_meet
              exact HB.out
            case rest =>
              apply_assumption
              exact run2 A cap code w HCODE.out _ hcut _ _ _ _ _ _ _ _ _ _ _ _ _ _ _ _ _ _ _ _ _ _ _ _ _ _ _ _ _ _ _ _ _ _ _ _ _ _ _ _ _ _ _ _ _ _ _ _ _ _ _ _ _ _ _ _ _ _ _ _ _ _ _ _ _ _ _ _ _ _ _ _ _ _ _ _ _ _ _ _ _ _ _ _ _ _ _ _ _ _ _ _ _ _ _ _ _ _ _ _ _ _ _ _ _ _ _ _ _ _ _ _ _ _ _ _ _ _ _ _ _ _ _ _ _ _ _ _ _ _ _ _ _ _ _ _ _ _ _ _ _ _ _ _ _ _ _ _ _ _ _ _ _ _ _ _ _ _ _ _ _ _ _ _ _ _ _ _ _ _ _ _ _ _ _ _ _ _ _ _ _ _ _ _ _ _ _ _ _ _ _ _ _ _ _ _ _ _ _ _ _ _ _ _ _ _ _ _ _ _ _ _ _ _ _ _ _ _ _ _ _ _ _ _ _ _ _ _ _ _ _ _ _ _ _ _ _ _ _ _ _ _ _ _ _ _ _ _ _ _ _ _ _ _ _ _ _ _ _ _ _ _ _ _ _ _ _ _ _ _ _ _ _ _ _ _ _ _ _ _ _ _ _ _
        · have hz : ¬ (fx ≤ 99999) := by exact hc3
          go_upto_if 172 with fail
          go_cut [16, 17] from 173 to 200 (fun t16 t17 wx => Below w.heap.size w wx)
          case first =>
            go_wp2_with fail
            go_meet
            exact HB.out
          case rest =>
            apply_assumption
            exact run2 A cap code w HCODE.out _ hcut _ _ _ _ _ _ _ _ _ _ _ _ _ _ _ _ _ _ _ _ _ _ _ _ _ _ _ _ _ _ _ _ _ _ _ _ _ _ _ _ _ _ _ _ _ _ _ _ _ _ _ _ _ _ _ _ _ _ _ _ _ _ _ _ _ _ _ _ _ _ _ _ _ _ _ _ _ _ _ _ _ _ _ _ _ _ _ _ _ _ _ _ _ _ _ _ _ _ _ _ _ _ _ _ _ _ _ _ _ _ _ _ _ _ _ _ _ _ _ _ _ _ _ _ _ _ _ _ _ _ _ _ _ _ _ _ _ _ _ _ _ _ _ _ _ _ _ _ _ _ _ _ _ _ _ _ _ _ _ _ _ _ _ _ _ _ _ _ _ _ _ _ _ _ _ _ _ _ _ _ _ _ _ _ _ _ _ _ _ _ _ _ _ _ _ _ _ _ _ _ _ _ _ _ _ _ _ _ _ _ _ _ _ _ _ _ _ _ _ _ _ _ _ _ _ _ _ _ _ _ _ _ _ _ _ _ _ _ _ _ _ _ _ _ _ _ _ _ _ _ _ _ _ _ _ _ _ _ _ _ _ _ _ _ _ _ _ _ _ _ _ _ _ _ _ _ _ _ _ _ _ _ _ _
      · have hz : ¬ (0 ≤ fx) := by exact hc2
        go_upto_if 172 with fail
        go_cut [16, 17] from 173 to 200 (fun t16 t17 wx => Below w.heap.size w wx)
        case first =>
          go_wp2_with fail
          go_meet
          exact HB.out
        case rest =>
          apply_assumption
          exact run2 A cap code w HCODE.out _ hcut _ _ _ _ _ _ _ _ _ _ _ _ _ _ _ _ _ _ _ _ _ _ _ _ _ _ _ _ _ _ _ _ _ _ _ _ _ _ _ _ _ _ _ _ _ _ _ _ _ _ _ _ _ _ _ _ _ _ _ _ _ _ _ _ _ _ _ _ _ _ _ _ _ _ _ _ _ _ _ _ _ _ _ _ _ _ _ _ _ _ _ _ _ _ _ _ _ _ _ _ _ _ _ _ _ _ _ _ _ _ _ _ _ _ _ _ _ _ _ _ _ _ _ _ _ _ _ _ _ _ _ _ _ _ _ _ _ _ _ _ _ _ _ _ _ _ _ _ _ _ _ _ _ _ _ _ _ _ _ _ _ _ _ _ _ _ _ _ _ _ _ _ _ _ _ _ _ _ _ _ _ _ _ _ _ _ _ _ _ _ _ _ _ _ _ _ _ _ _ _ _ _ _ _ _ _ _ _ _ _ _ _ _ _ _ _ _ _ _ _ _ _ _ _ _ _ _ _ _ _ _ _ _ _ _ _ _ _ _ _ _ _ _ _ _ _ _ _ _ _ _ _ _ _ _ _ _ _ _ _ _ _ _ _ _ _ _ _ _ _ _ _ _ _ _ _ _ _ _ _ _ _ _ _
    · have hz : ¬ (fd = 1) := by exact hc1
      go_upto_if 172 with fail
      go_cut [16, 17] from 173 to 200 (fun t16 t17 wx => Below w.heap.size w wx)
      case first =>
        go_wp2_with fail
        go_meet
        exact HB.out
      case rest =>
        apply_assumption
        exact run2 A cap code w HCODE.out _ hcut _ _ _ _ _ _ _ _ _ _ _ _ _ _ _ _ _ _ _ _ _ _ _ _ _ _ _ _ _ _ _ _ _ _ _ _ _ _ _ _ _ _ _ _ _ _ _ _ _ _ _ _ _ _ _ _ _ _ _ _ _ _ _ _ _ _ _ _ _ _ _ _ _ _ _ _ _ _ _ _ _ _ _ _ _ _ _ _ _ _ _ _ _ _ _ _ _ _ _ _ _ _ _ _ _ _ _ _ _ _ _ _ _ _ _ _ _ _ _ _ _ _ _ _ _ _ _ _ _ _ _ _ _ _ _ _ _ _ _ _ _ _ _ _ _ _ _ _ _ _ _ _ _ _ _ _ _ _ _ _ _ _ _ _ _ _ _ _ _ _ _ _ _ _ _ _ _ _ _ _ _ _ _ _ _ _ _ _ _ _ _ _ _ _ _ _ _ _ _ _ _ _ _ _ _ _ _ _ _ _ _ _ _ _ _ _ _ _ _ _ _ _ _ _ _ _ _ _ _ _ _ _ _ _ _ _ _ _ _ _ _ _ _ _ _ _ _ _ _ _ _ _ _ _ _ _ _ _ _ _ _ _ _ _ _ _ _ _ _ _ _ _ _ _ _ _ _ _ _ _ _ _ _ _
  · have hz : told = false := by simpa using hc0
    subst hz
    go_upto_if 172 with fail
    go_cut [16, 17] from 173 to 200 (fun t16 t17 wx => Below w.heap.size w wx)
    case first =>
      go_wp2_with fail
      go_meet
      exact HB.out
    case rest =>
      apply_assumption
      exact run2 A cap code w HCODE.out _ hcut _ _ _ _ _ _ _ _ _ _ _ _ _ _ _ _ _ _ _ _ _ _ _ _ _ _ _ _ _ _ _ _ _ _ _ _ _ _ _ _ _ _ _ _ _ _ _ _ _ _ _ _ _ _ _ _ _ _ _ _ _ _ _ _ _ _ _ _ _ _ _ _ _ _ _ _ _ _ _ _ _ _ _ _ _ _ _ _ _ _ _ _ _ _ _ _ _ _ _ _ _ _ _ _ _ _ _ _ _ _ _ _ _ _ _ _ _ _ _ _ _ _ _ _ _ _ _ _ _ _ _ _ _ _ _ _ _ _ _ _ _ _ _ _ _ _ _ _ _ _ _ _ _ _ _ _ _ _ _ _ _ _ _ _ _ _ _ _ _ _ _ _ _ _ _ _ _ _ _ _ _ _ _ _ _ _ _ _ _ _ _ _ _ _ _ _ _ _ _ _ _ _ _ _ _ _ _ _ _ _ _ _ _ _ _ _ _ _ _ _ _ _ _ _ _ _ _ _ _ _ _ _ _ _ _ _ _ _ _ _ _ _ _ _ _ _ _ _ _ _ _ _ _ _ _ _ _ _ _ _ _ _ _ _ _ _ _ _ _ _ _ _ _ _ _ _ _ _ _ _ _ _ _ _
end Go.Proofs.Ytdbcilinoieabaa
