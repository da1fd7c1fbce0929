/- The last part of FnHeirs: from region 31 on the law returns true. Condition: the table of powers of ten is laid. (Printed by mkfnheirs.py.) -/
import Derived.Test.YtapbnggdclpokaaDoorL7T
import Derived.Test.YtapbnggdclpokaaDoorLH
import Derived.Test.YtapbnggdclpokaaDoorLwH
import Derived.Test.YtapbnggdclpokaaDoorD7E
import Derived.Test.YtapbnggdclpokaaDoorSec
namespace Go.Proofs.YtapbnggdclpokaaDoor
open Go.RowKit
set_option linter.unusedVariables false
noncomputable def tail_heirs4 : Go.Code := (Tryd.f4.body.bind (codeTail 31)).getD .skip
set_option maxRecDepth 1000000 in
set_option maxHeartbeats 8000000 in
theorem heirs4 (A : Option Addr) (cap : Nat) (code : List Int) (w : World) (hcode : Code w (.slice A code.length cap) A cap code) (wc : World) (hbel : Below w.heap.size w wc) (u1 u2 u3 u4 u5 u6 u7 u8 u9 u10 u11 u12 u13 u14 u15 u16 u17 u18 u19 u20 u21 u22 u23 u24 u25 u26 u27 u28 u29 u30 u31 u32 u33 u34 u35 u36 u37 u38 u39 u40 u41 u42 u43 u44 u45 u46 u47 u48 u49 u50 u51 u52 u53 u54 u55 u56 u57 u58 u59 u60 u61 u62 u63 u64 u65 u66 u67 u68 u69 u70 u71 u72 u73 u74 u75 u76 u77 u78 u79 u80 u81 u82 u83 u84 u85 u86 u87 u88 u89 u90 u91 u92 u93 u94 u95 u96 u97 u98 u99 u100 u101 u102 u103 u104 u105 u106 u107 u108 u109 u110 u111 u112 u113 u114 u115 u116 u117 u118 u119 u120 u121 u122 u123 u124 u125 u126 u127 u128 u129 u130 u131 u132 u133 u134 u135 u136 u137 u138 u139 u140 u141 u142 u143 u144 u145 u146 u147 u148 u149 u150 u151 u152 u153 u154 u155 u156 u157 u158 u159 u160 u161 u162 u163 u164 u165 u166 u167 u168 u169 u170 u171 u172 u173 u174 u175 u176 u177 u178 u179 u180 u181 u182 u183 u184 u185 u186 u187 u188 u189 u190 u191 u192 u193 u194 u195 u196 u197 u198 u199 u200 u201 u202 u203 u204 u205 u206 u207 u208 u209 u210 u211 u212 u213 u214 u215 u216 u217 u218 u219 u220 u221 u222 u223 u224 u225 u226 u227 u228 u229 u230 u231 u232 u233 u234 u235 u236 u237 u238 u239 u240 u241 u242 u243 u244 u245 u246 u247 u248 u249 u250 u251 u252 u253 u254 u255 u256 u257 u258 u259 u260 u261 u262 u263 u264 u265 u266 u267 u268 u269 u270 u271 u272 u273 u274 u275 u276 u277 u278 u279 u280 u281 u282 u283 u284 u285 u286 u287 u288 : Value) (ht : Tab w) :
    Go.Code.wp Tryd.prog tail_heirs4 (bodyPost Tryd.prog Tryd.f4 fun e w' => e = .returned (.bool true) ∧ Below w.heap.size w w') ⟨#[.slice A code.length cap, u1, u2, u3, u4, u5, u6, u7, u8, u9, u10, u11, u12, u13, u14, u15, u16, u17, u18, u19, u20, u21, u22, u23, u24, u25, u26, u27, u28, u29, u30, u31, u32, u33, u34, u35, u36, u37, u38, u39, u40, u41, u42, u43, u44, u45, u46, u47, u48, u49, u50, u51, u52, u53, u54, u55, u56, u57, u58, u59, u60, u61, u62, u63, u64, u65, u66, u67, u68, u69, u70, u71, u72, u73, u74, u75, u76, u77, u78, u79, u80, u81, u82, u83, u84, u85, u86, u87, u88, u89, u90, u91, u92, u93, u94, u95, u96, u97, u98, u99, u100, u101, u102, u103, u104, u105, u106, u107, u108, u109, u110, u111, u112, u113, u114, u115, u116, u117, u118, u119, u120, u121, u122, u123, u124, u125, u126, u127, u128, u129, u130, u131, u132, u133, u134, u135, u136, u137, u138, u139, u140, u141, u142, u143, u144, u145, u146, u147, u148, u149, u150, u151, u152, u153, u154, u155, u156, u157, u158, u159, u160, u161, u162, u163, u164, u165, u166, u167, u168, u169, u170, u171, u172, u173, u174, u175, u176, u177, u178, u179, u180, u181, u182, u183, u184, u185, u186, u187, u188, u189, u190, u191, u192, u193, u194, u195, u196, u197, u198, u199, u200, u201, u202, u203, u204, u205, u206, u207, u208, u209, u210, u211, u212, u213, u214, u215, u216, u217, u218, u219, u220, u221, u222, u223, u224, u225, u226, u227, u228, u229, u230, u231, u232, u233, u234, u235, u236, u237, u238, u239, u240, u241, u242, u243, u244, u245, u246, u247, u248, u249, u250, u251, u252, u253, u254, u255, u256, u257, u258, u259, u260, u261, u262, u263, u264, u265, u266, u267, u268, u269, u270, u271, u272, u273, u274, u275, u276, u277, u278, u279, u280, u281, u282, u283, u284, u285, u286, u287, u288], []⟩ wc := by
  have HT := hide ht; clear ht
  have HCODE := hide hcode; have HB := hide hbel; clear hcode hbel
  conv => arg 2; whnf
  generalize wc = w0 at *
  go_wp2_with fail
  refine (drawGapYears_is _ _ A cap code (HCODE.out.below HB.out (Nat.le_refl _))).mono ?_; rintro e w1 ⟨v, xs, id, rfl, hwf, hid, hl, ho, hb⟩
  replace HB := hide (bstep HB.out hb HB.out.size); clear hb
  have HX := hide ho.is; clear ho
  have cG := fun (W : World) (hi : Is 5 SMaker.enc W v xs) => implGapYears_any v xs id W hi hwf
  have cGS := fun (W : World) (hi : Is 5 SMaker.enc W v xs) => specGapYears_any v xs id W hi hwf
  generalize (gapV xs id).1 = gap at *
  generalize (gapV xs id).2 = known at *
  have CG := hide cG; have CGS := hide cGS; clear cG cGS hwf hid hl
  go_wp2_with fail
  refine (CG.out _ HX.out).mono ?_; rintro e w2 ⟨rfl, hb⟩
  replace HX := hide (HX.out.below hb (Nat.le_refl _))
  replace HB := hide (bstep HB.out hb HB.out.size); clear hb
  go_wp2_with fail
  refine (CGS.out _ HX.out).mono ?_; rintro e w3 ⟨rfl, hb⟩
  replace HX := hide (HX.out.below hb (Nat.le_refl _))
  replace HB := hide (bstep HB.out hb HB.out.size); clear hb
  clear HX CG CGS
  go_wp2_with fail
  refine (drawActiveIn_is _ _ A cap code (HCODE.out.below HB.out (Nat.le_refl _))).mono ?_; rintro e w4 ⟨v', ys, at', rfl, hwf, hid, hl, ho, hb⟩
  replace HB := hide (bstep HB.out hb HB.out.size); clear hb
  have HY := hide ho.is; clear ho
  have cA := fun (W : World) (hi : Is 5 SMaker.enc W v' ys) => implActiveIn_any v' ys at' W hi hwf
  have cAS := fun (W : World) (hi : Is 5 SMaker.enc W v' ys) => specActiveIn_any v' ys at' W hi hwf
  generalize (actV ys at').1 = act at *
  generalize (actV ys at').2 = is at *
  have CA := hide cA; have CAS := hide cAS; clear cA cAS hwf hid hl
  go_wp2_with fail
  refine (CA.out _ HY.out).mono ?_; rintro e w5 ⟨rP, rfl, ho, hb⟩
  replace HY := hide (HY.out.below hb (Nat.le_refl _))
  replace HB := hide (bstep HB.out hb HB.out.size); clear hb
  have HP := hide ho.is; clear ho
  go_wp2_with fail
  refine (CAS.out _ HY.out).mono ?_; rintro e w6 ⟨rQ, rfl, ho, hb⟩
  replace HY := hide (HY.out.below hb (Nat.le_refl _))
  replace HP := hide (HP.out.below hb (Nat.le_refl _))
  replace HB := hide (bstep HB.out hb HB.out.size); clear hb
  have HQ := hide ho.is; clear ho
  clear HY CA CAS
  go_wp2_with fail
  refine (drawMakerText_is _ _ A cap code (HCODE.out.below HB.out (Nat.le_refl _))).mono ?_; rintro e w7 ⟨z, rfl, hfit, hb⟩
  replace HP := hide (HP.out.below hb (Nat.le_refl _))
  replace HQ := hide (HQ.out.below hb (Nat.le_refl _))
  replace HB := hide (bstep HB.out hb HB.out.size); clear hb
  obtain ⟨z0, z1, z2, z3, z4⟩ := z
  have hm : z1.size ≤ 9223372036854775807 := by have := hfit.2.2.2.2; simp only at this; omega
  have cI := fun W h => MakerTextI_is z0 z1 z2 z3 z4 W hm h
  have cS := fun W => MakerTextS_is z0 z1 z2 z3 z4 W hm
  have cM := fun W => IsMaker_any z0 z1 z2 z3 z4 W hm
  have cN := fun W => specIsMaker_any z0 z1 z2 z3 z4 W hm
  generalize textM ⟨z0, z1, z2, z3, z4⟩ = tx at *
  obtain ⟨ts, tg⟩ := tx
  generalize SMaker.okB ⟨z0, z1, z2, z3, z4⟩ = okz at *
  have CI := hide cI; have CS := hide cS; have CM := hide cM; have CN := hide cN; clear cI cS cM cN hfit hm
  have HZ := hide (Blk.new w7 27 #[.int .i64 z0, .string z1, .int .i64 z2, .int .i64 z3, .int .i64 z4])
  go_wp2_with fail
  have hba := below_alloc w7 (.cells #[.int .i64 z0, .string z1, .int .i64 z2, .int .i64 z3, .int .i64 z4] 27)
  replace HP := hide (HP.out.below hba (Nat.le_refl _)); replace HQ := hide (HQ.out.below hba (Nat.le_refl _)); replace HB := hide (bstep HB.out hba HB.out.size); clear hba
  generalize hbz : w7.heap.size = bz at *
  generalize w7.alloc (.cells #[.int .i64 z0, .string z1, .int .i64 z2, .int .i64 z3, .int .i64 z4] 27) = w8 at *
  refine (CI.out _ (HT.out.below HB.out (Nat.le_refl _))).mono ?_; rintro e w9 ⟨rfl, hb⟩
  replace HZ := hide (HZ.out.below hb HZ.out.lt)
  replace HP := hide (HP.out.below hb (Nat.le_refl _)); replace HQ := hide (HQ.out.below hb (Nat.le_refl _)); replace HB := hide (bstep HB.out hb HB.out.size); clear hb
  obtain ⟨m0, m1, m2, m3, m4⟩ := mk5 HZ.out
  have mf := fun o => HZ.out.frozen o
  go_wp2_with fail
  clear m0 m1 m2 m3 m4 mf
  refine (CS.out _).mono ?_; rintro e w10 ⟨rfl, hb⟩
  replace HZ := hide (HZ.out.below hb HZ.out.lt)
  replace HP := hide (HP.out.below hb (Nat.le_refl _)); replace HQ := hide (HQ.out.below hb (Nat.le_refl _)); replace HB := hide (bstep HB.out hb HB.out.size); clear hb
  obtain ⟨m0, m1, m2, m3, m4⟩ := mk5 HZ.out
  have n0 := fun n => later_cell m0 n; have n1 := fun n => later_cell m1 n; have n2 := fun n => later_cell m2 n; have n3 := fun n => later_cell m3 n; have n4 := fun n => later_cell m4 n
  have t1 : (gap == gap) = true := by simp
  have t2 : (known == known) = true := by simp
  have t3 : (is == is) = true := by simp
  have t4 : (ts.toList == ts.toList) = true := by simp
  have t5 : (tg == tg) = true := by simp
  have t6 : (okz == okz) = true := by simp
  go_wp2_with fail
  (refine wp_region_later (by kernel_rfl) (by kernel_rfl) ?_; (repeat (go_big_quiet_step ((first | (go_at_call 17; exact later_call (rInts_is _ _ _ _ (HP.out.below (Later.h _) (Nat.le_refl _)) (HQ.out.below (Later.h _) (Nat.le_refl _)))) | (go_at_call 28; exact later_call (CM.out _)) | (go_at_call 29; exact later_call (CN.out _)))))); refine wpQuiet_nil ?_; intro _ hw'; obtain ⟨nq, hw''⟩ := hw'; subst hw'')
  have hB := bstep HB.out nq.h HB.out.size
  have HBE := hide hB; clear hB
  go_wp2_with fail
  go_ret
  exact ⟨rfl, HBE.out⟩
end Go.Proofs.YtapbnggdclpokaaDoor
