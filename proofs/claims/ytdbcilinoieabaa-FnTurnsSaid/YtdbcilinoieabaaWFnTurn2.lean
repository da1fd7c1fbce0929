/- The last parts of FnTurns: from each on the law returns true. No condition. (Printed by mkfnturn.py.) -/
import Derived.Test.YtdbcilinoieabaaD4B
import Derived.Test.YtdbcilinoieabaaLw
import Derived.Test.YtdbcilinoieabaaSec
namespace Go.Proofs.Ytdbcilinoieabaa
open Go.RowKit
set_option linter.unusedVariables false
theorem tp_two (xs : List STurn) (x y : Int) : (tpV xs x y).2 = (chainB xs && placeB x y) := by unfold tpV; cases chainB xs && placeB x y <;> rfl
theorem tb_two (xs : List STurn) (x y : Int) : (tbV xs x y).2 = (chainB xs && placeB x y) := by unfold tbV; cases chainB xs && placeB x y <;> rfl
theorem tp_of {xs : List STurn} {x y : Int} (h : (chainB xs && placeB x y) = true) : tpV xs x y = (goV xs ⟨x, y, 1⟩, true) := by unfold tpV; rw [h]; rfl
theorem tb_of {xs : List STurn} {x y : Int} (h : (chainB xs && placeB x y) = true) : tbV xs x y = (backV xs ⟨x, y, 1⟩, true) := by unfold tbV; rw [h]; rfl
theorem place_in {x y : Int} (hx0 : 0 ≤ x) (hx1 : x ≤ 99999) (hy0 : 0 ≤ y) (hy1 : y ≤ 99999) : placeB x y = true := by
  unfold placeB; rw [Bool.and_eq_true, inB_iff, inB_iff]; exact ⟨⟨hx0, hx1⟩, ⟨hy0, hy1⟩⟩
/-- turning back what a chain leads to a place -/
theorem turn_law1 {xs : List STurn} {x y : Int} {tx ty td : Int} (ht : (tpV xs x y).1 = ⟨tx, ty, td⟩) (h : (tpV xs x y).2 = true) (hd : td = 1) (hx0 : 0 ≤ tx) (hx1 : tx ≤ 99999) (hy0 : 0 ≤ ty) (hy1 : ty ≤ 99999) :
    tbV xs tx ty = (⟨x, y, 1⟩, true) := by
  subst hd
  rw [tp_two] at h
  rw [tp_of h] at ht
  rw [Bool.and_eq_true] at h
  rw [tb_of (by rw [h.1, place_in hx0 hx1 hy0 hy1]; rfl), ← ht, backV_goV xs (chainB_iff.1 h.1).1 (place_good x y)]
theorem turn_law2 {xs : List STurn} {x y : Int} {tx ty td : Int} (ht : (tbV xs x y).1 = ⟨tx, ty, td⟩) (h : (tbV xs x y).2 = true) (hd : td = 1) (hx0 : 0 ≤ tx) (hx1 : tx ≤ 99999) (hy0 : 0 ≤ ty) (hy1 : ty ≤ 99999) :
    tpV xs tx ty = (⟨x, y, 1⟩, true) := by
  subst hd
  rw [tb_two] at h
  rw [tb_of h] at ht
  rw [Bool.and_eq_true] at h
  rw [tp_of (by rw [h.1, place_in hx0 hx1 hy0 hy1]; rfl), ← ht, goV_backV xs (chainB_iff.1 h.1).1 (place_good x y)]
theorem same_law {xa xb : List STurn} (h : (scV xa xb).1 = true) : tpV xa 7 11 = tpV xb 7 11 ∧ stV xa = stV xb ∧ (tpV xa 7 11).2 = true ∧ (stV xa).2 = true := by
  unfold scV at h
  split at h
  · rename_i hc
    rw [Bool.and_eq_true] at hc
    simp only [Bool.and_eq_true, sameP_iff] at h
    have hs := same_all (chainB_iff.1 hc.1).1 (chainB_iff.1 hc.2).1 h.1 h.2
    have hp : placeB 7 11 = true := place_in (by omega) (by omega) (by omega) (by omega)
    have h1 := tp_of (xs := xa) (x := 7) (y := 11) (by rw [hc.1, hp]; rfl)
    have h2 := tp_of (xs := xb) (x := 7) (y := 11) (by rw [hc.2, hp]; rfl)
    refine ⟨by rw [h1, h2, hs.1], ?_, by rw [h1], ?_⟩
    · unfold stV; rw [hc.1, hc.2, hs.2]
    · unfold stV; rw [hc.1]; rfl
  · simp at h
noncomputable def tail_run2 : Go.Code := (Try.f3.body.bind (codeTail 20)).getD .skip
set_option maxRecDepth 1000000 in
set_option maxHeartbeats 8000000 in
theorem run2 (A : Option Addr) (cap : Nat) (code : List Int) (w : World) (hcode : Code w (.slice A code.length cap) A cap code) (wc : World) (hbel : Below w.heap.size w wc) (u1 u2 u3 u4 u5 u6 u7 u8 u9 u10 u11 u12 u13 u14 u15 u16 u17 u18 u19 u20 u21 u22 u23 u24 u25 u26 u27 u28 u29 u30 u31 u32 u33 u34 u35 u36 u37 u38 u39 u40 u41 u42 u43 u44 u45 u46 u47 u48 u49 u50 u51 u52 u53 u54 u55 u56 u57 u58 u59 u60 u61 u62 u63 u64 u65 u66 u67 u68 u69 u70 u71 u72 u73 u74 u75 u76 u77 u78 u79 u80 u81 u82 u83 u84 u85 u86 u87 u88 u89 u90 u91 u92 u93 u94 u95 u96 u97 u98 u99 u100 u101 u102 u103 u104 u105 u106 u107 u108 u109 u110 u111 u112 u113 u114 u115 u116 u117 u118 u119 u120 u121 u122 u123 u124 u125 u126 u127 u128 u129 u130 u131 u132 u133 u134 u135 u136 u137 u138 u139 u140 u141 u142 u143 u144 u145 u146 u147 u148 u149 u150 u151 u152 u153 u154 u155 u156 u157 u158 u159 u160 u161 u162 u163 u164 u165 u166 u167 u168 u169 u170 u171 u172 u173 u174 u175 u176 u177 u178 u179 u180 u181 u182 u183 u184 u185 u186 u187 u188 u189 u190 u191 u192 u193 u194 u195 u196 u197 u198 u199 u200 u201 u202 u203 u204 u205 u206 u207 u208 u209 u210 u211 u212 u213 u214 u215 u216 u217 u218 u219 u220 u221 u222 u223 u224 u225 u226 u227 u228 u229 u230 u231 u232 u233 u234 u235 u236 u237 u238 u239 u240 u241 u242 u243 u244 u245 u246 u247 u248 u249 u250 u251 u252 u253 u254 u255 u256 u257 u258 u259 u260 u261 u262 u263 u264 u265 u266 u267 u268 u269 u270 u271 u272 u273 u274 u275 u276 u277 u278 u279 u280 u281 u282 u283 u284 : Value) :
    Go.Code.wp Try.prog tail_run2 (bodyPost Try.prog Try.f3 fun e w' => e = .returned (.bool true) ∧ Below w.heap.size w w') ⟨#[.slice A code.length cap, u1, u2, u3, u4, u5, u6, u7, u8, u9, u10, u11, u12, u13, u14, u15, u16, u17, u18, u19, u20, u21, u22, u23, u24, u25, u26, u27, u28, u29, u30, u31, u32, u33, u34, u35, u36, u37, u38, u39, u40, u41, u42, u43, u44, u45, u46, u47, u48, u49, u50, u51, u52, u53, u54, u55, u56, u57, u58, u59, u60, u61, u62, u63, u64, u65, u66, u67, u68, u69, u70, u71, u72, u73, u74, u75, u76, u77, u78, u79, u80, u81, u82, u83, u84, u85, u86, u87, u88, u89, u90, u91, u92, u93, u94, u95, u96, u97, u98, u99, u100, u101, u102, u103, u104, u105, u106, u107, u108, u109, u110, u111, u112, u113, u114, u115, u116, u117, u118, u119, u120, u121, u122, u123, u124, u125, u126, u127, u128, u129, u130, u131, u132, u133, u134, u135, u136, u137, u138, u139, u140, u141, u142, u143, u144, u145, u146, u147, u148, u149, u150, u151, u152, u153, u154, u155, u156, u157, u158, u159, u160, u161, u162, u163, u164, u165, u166, u167, u168, u169, u170, u171, u172, u173, u174, u175, u176, u177, u178, u179, u180, u181, u182, u183, u184, u185, u186, u187, u188, u189, u190, u191, u192, u193, u194, u195, u196, u197, u198, u199, u200, u201, u202, u203, u204, u205, u206, u207, u208, u209, u210, u211, u212, u213, u214, u215, u216, u217, u218, u219, u220, u221, u222, u223, u224, u225, u226, u227, u228, u229, u230, u231, u232, u233, u234, u235, u236, u237, u238, u239, u240, u241, u242, u243, u244, u245, u246, u247, u248, u249, u250, u251, u252, u253, u254, u255, u256, u257, u258, u259, u260, u261, u262, u263, u264, u265, u266, u267, u268, u269, u270, u271, u272, u273, u274, u275, u276, u277, u278, u279, u280, u281, u282, u283, u284], []⟩ wc := by
  have HCODE := hide hcode; have HB := hide hbel; clear hcode hbel
  conv => arg 2; whnf
  generalize wc = w20 at *
  go_wp2_with fail
  refine (drawSameChains_is _ _ A cap code (HCODE.out.below HB.out (Nat.le_refl _))).mono ?_; rintro e w21 ⟨v1, v2, xa, xb, rfl, hx, hy, hb⟩
  replace HB := hide (bstep HB.out hb HB.out.size); clear hb
  have HX := hide hx.is; clear hx
  have HY := hide hy.is; clear hy
  have cS := fun (W : World) (hi : Is 5 STurn.enc W v1 xa) (hj : Is 5 STurn.enc W v2 xb) => implSameChains_is v1 v2 xa xb W hi hj
  have cSS := fun (W : World) (hi : Is 5 STurn.enc W v1 xa) (hj : Is 5 STurn.enc W v2 xb) => specSameChains_is v1 v2 xa xb W hi hj
  have hlaw := @same_law xa xb
  have cTa := fun (W : World) (hi : Is 5 STurn.enc W v1 xa) => implTurnPlace_is v1 xa 7 11 W hi
  have cTb := fun (W : World) (hi : Is 5 STurn.enc W v2 xb) => implTurnPlace_is v2 xb 7 11 W hi
  have cRa := fun (W : World) (hi : Is 5 STurn.enc W v1 xa) => StretchOf_is v1 xa W hi
  have cRb := fun (W : World) (hi : Is 5 STurn.enc W v2 xb) => StretchOf_is v2 xb W hi
  generalize (scV xa xb).1 = sm at *
  generalize (scV xa xb).2 = fine at *
  generalize tpV xa 7 11 = pa at *; generalize tpV xb 7 11 = pb at *; generalize stV xa = ra at *; generalize stV xb = rb at *
  have t1 : (sm != sm) = false := by simp
  have t2 : (fine != fine) = false := by simp
  have HLAW := hide hlaw; have CS := hide cS; have CSS := hide cSS; have CTA := hide cTa; have CTB := hide cTb; have CRA := hide cRa; have CRB := hide cRb
  clear hlaw cS cSS cTa cTb cRa cRb
  go_wp2_with fail
  refine (CS.out _ HX.out HY.out).mono ?_; rintro e w22 ⟨rfl, hb⟩
  replace HX := hide (HX.out.below hb (Nat.le_refl _))
  replace HY := hide (HY.out.below hb (Nat.le_refl _))
  replace HB := hide (bstep HB.out hb HB.out.size); clear hb
  go_wp2_with fail
  refine (CSS.out _ HX.out HY.out).mono ?_; rintro e w23 ⟨rfl, hb⟩
  replace HX := hide (HX.out.below hb (Nat.le_refl _))
  replace HY := hide (HY.out.below hb (Nat.le_refl _))
  replace HB := hide (bstep HB.out hb HB.out.size); clear hb
  cases sm with
  | false =>
    go_wp2_with fail
    go_ret
    exact ⟨rfl, HB.out⟩
  | true =>
    obtain ⟨e1, e2, e3, e4⟩ := HLAW.out (by trivial)
    subst e1 e2
    obtain ⟨⟨px, py, pd⟩, pok⟩ := pa
    obtain ⟨⟨r1, r2, r3⟩, rok⟩ := ra
    simp only at e3 e4
    subst e3 e4
    have hN := fun W => (SSpot.neq_run px py pd px py pd W).trans (by rw [sameS_iff.2 ⟨rfl, rfl, rfl⟩]; rfl : _ = Result.ok (Value.bool false) W)
    have n1 : (r1 != r1) = false := by simp
    have n2 : (r2 != r2) = false := by simp
    have n3 : (r3 != r3) = false := by simp
    clear HLAW CS CSS
    go_wp2_with fail
    refine (CTA.out _ HX.out).mono ?_; rintro e w24 ⟨rfl, hb⟩
    replace HX := hide (HX.out.below hb (Nat.le_refl _))
    replace HY := hide (HY.out.below hb (Nat.le_refl _))
    replace HB := hide (bstep HB.out hb HB.out.size); clear hb
    go_wp2_with fail
    replace HX := hide (HX.out.below (below_alloc w24 (.cells #[.int .i64 px, .int .i64 py, .int .i64 pd] 28)) (Nat.le_refl _))
    replace HY := hide (HY.out.below (below_alloc w24 (.cells #[.int .i64 px, .int .i64 py, .int .i64 pd] 28)) (Nat.le_refl _))
    have HP := hide (Blk.new w24 28 #[.int .i64 px, .int .i64 py, .int .i64 pd])
    replace HB := hide (HB.out.alloc HB.out.size (.cells #[.int .i64 px, .int .i64 py, .int .i64 pd] 28))
    generalize w24.alloc (.cells #[.int .i64 px, .int .i64 py, .int .i64 pd] 28) = w25 at *
    generalize w24.heap.size = bP at *
    refine (CTB.out _ HY.out).mono ?_; rintro e w26 ⟨rfl, hb⟩
    replace HX := hide (HX.out.below hb (Nat.le_refl _))
    replace HY := hide (HY.out.below hb (Nat.le_refl _))
    replace HP := hide (HP.out.below hb HP.out.lt)
    replace HB := hide (bstep HB.out hb HB.out.size); clear hb
    go_wp2_with fail
    replace HX := hide (HX.out.below (below_alloc w26 (.cells #[.int .i64 px, .int .i64 py, .int .i64 pd] 28)) (Nat.le_refl _))
    replace HY := hide (HY.out.below (below_alloc w26 (.cells #[.int .i64 px, .int .i64 py, .int .i64 pd] 28)) (Nat.le_refl _))
    replace HP := hide (HP.out.alloc (.cells #[.int .i64 px, .int .i64 py, .int .i64 pd] 28))
    have HQ := hide (Blk.new w26 28 #[.int .i64 px, .int .i64 py, .int .i64 pd])
    replace HB := hide (HB.out.alloc HB.out.size (.cells #[.int .i64 px, .int .i64 py, .int .i64 pd] 28))
    generalize w26.alloc (.cells #[.int .i64 px, .int .i64 py, .int .i64 pd] 28) = w27 at *
    generalize w26.heap.size = bQ at *
    refine (CRA.out _ HX.out).mono ?_; rintro e w28 ⟨rfl, hb⟩
    replace HX := hide (HX.out.below hb (Nat.le_refl _))
    replace HY := hide (HY.out.below hb (Nat.le_refl _))
    replace HP := hide (HP.out.below hb HP.out.lt)
    replace HQ := hide (HQ.out.below hb HQ.out.lt)
    replace HB := hide (bstep HB.out hb HB.out.size); clear hb
    go_wp2_with fail
    refine (CRB.out _ HY.out).mono ?_; rintro e w29 ⟨rfl, hb⟩
    replace HX := hide (HX.out.below hb (Nat.le_refl _))
    replace HY := hide (HY.out.below hb (Nat.le_refl _))
    replace HP := hide (HP.out.below hb HP.out.lt)
    replace HQ := hide (HQ.out.below hb HQ.out.lt)
    replace HB := hide (bstep HB.out hb HB.out.size); clear hb
    obtain ⟨cpa, cpb, cpc, _⟩ := spot3 HP.out
    obtain ⟨cqa, cqb, cqc, _⟩ := spot3 HQ.out
    go_wp2_with fail
    go_ret
    exact ⟨rfl, HB.out⟩
end Go.Proofs.Ytdbcilinoieabaa
