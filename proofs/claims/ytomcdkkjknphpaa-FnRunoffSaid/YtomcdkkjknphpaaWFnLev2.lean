/- The last two parts of FnLevels: from each on the law returns true. No condition. (Printed by mkfnlev.py.) -/
import Derived.Test.YtomcdkkjknphpaaD9B
import Derived.Test.YtomcdkkjknphpaaLw9
import Derived.Test.YtomcdkkjknphpaaSec
import Derived.IntWalk
namespace Go.Proofs.Ytomcdkkjknphpaa
open Go.RowKit
set_option linter.unusedVariables false
theorem drewN9 {B : Nat} {a w : World} (h : Below B a w) (n : Nat) : Below B a (w.drewN n) := ⟨h.os, h.tape, h.output, h.size, h.block⟩
theorem IsG.slice9 {w : World} {v : Value} {xss : List (List Int)} (h : IsG w v xss) : ∃ A cap, v = .slice A xss.length cap ∧ xss.length ≤ 9223372036854775807 := by
  obtain ⟨rs, hmap, his, _⟩ := h
  have hm := his.len
  obtain ⟨A, cap, rfl, _, _, _⟩ := his
  have hl : rs.length = xss.length := by rw [← hmap]; simp
  rw [hl] at hm ⊢
  exact ⟨A, cap, rfl, by omega⟩
theorem IsG.row {w : World} {A : Option Addr} {n cap : Nat} {xss : List (List Int)} (h : IsG w (.slice A n cap) xss) {i : Nat} (hi : i < xss.length) :
    ∃ b off A1 cap1, A = some ⟨b, off, none⟩ ∧ w.cell? ⟨b, off + i, none⟩ = some (.slice A1 xss[i].length cap1) ∧ Is 1 encI w (.slice A1 xss[i].length cap1) xss[i] := by
  obtain ⟨rs, hmap, his, hrs⟩ := h
  have hl : rs.length = xss.length := by rw [← hmap]; simp
  have hx : rs[i].xs = xss[i] := by simp [← hmap]
  obtain ⟨A', cap', he, hr, _, _⟩ := his
  injection he with e1; subst e1
  obtain ⟨b, off, rfl, _, c0⟩ := SRow.cell hr (show i < rs.length by omega) (Below.refl _ _)
  have h2 := (hrs _ (List.getElem_mem (show i < rs.length by omega))).is
  rw [hx] at c0 h2
  exact ⟨b, off, _, _, rfl, c0, h2⟩
theorem IsG.sq {w : World} {A : Option Addr} {n cap : Nat} {xss : List (List Int)} (h : IsG w (.slice A n cap) xss) (hrel : reliefB xss = true) {i j : Nat} (hi : i < xss.length) (hj : j < hdLen xss) :
    ∃ b off br offr cr, A = some ⟨b, off, none⟩ ∧ w.cell? ⟨b, off + i, none⟩ = some (.slice (some ⟨br, offr, none⟩) (hdLen xss) cr) ∧ w.cell? ⟨br, offr + j, none⟩ = some (.int .i64 (cellS xss ⟨(i : Int), (j : Int)⟩)) := by
  obtain ⟨rs, hmap, his, hrs⟩ := h
  obtain ⟨A', cap', he, hr, _, _⟩ := his
  injection he with e1; subst e1
  obtain ⟨b, off, br, offr, cr, hA, hc⟩ := grid_cells hmap hr hrs hrel (p := ⟨(i : Int), (j : Int)⟩) ⟨⟨by simp, by simp; omega⟩, ⟨by simp, by simp; omega⟩⟩
  obtain ⟨h1, h2⟩ := hc w (Below.refl _ _)
  exact ⟨b, off, br, offr, cr, hA, by simpa using h1, by simpa using h2⟩
theorem relief_rows {xss : List (List Int)} (h : reliefB xss = true) {i : Nat} (hi : i < xss.length) : xss[i].length ≤ 8 ∧ (∀ x ∈ xss[i], 0 ≤ x ∧ x ≤ 9999) := by
  unfold reliefB at h
  rw [Bool.and_eq_true] at h
  have := List.all_eq_true.1 h.2 _ (List.getElem_mem hi)
  unfold rowB at this
  rw [Bool.and_eq_true, Bool.and_eq_true] at this
  obtain ⟨_, h2, h3⟩ := this
  have h2 := inB_iff.1 h2
  refine ⟨by omega, fun x hx => ?_⟩
  have := inB_iff.1 (List.all_eq_true.1 h3 x hx)
  omega
theorem sum_bound : ∀ (l : List Int), (∀ x ∈ l, 0 ≤ x ∧ x ≤ 9999) → 0 ≤ l.sum ∧ l.sum ≤ 9999 * l.length
  | [], _ => by simp
  | a :: l, h => by
    have h1 := h a (by simp)
    have h2 := sum_bound l fun x hx => h x (by simp [hx])
    simp only [List.sum_cons, List.length_cons]
    omega
theorem relief_sum {xss : List (List Int)} (h : reliefB xss = true) {i : Nat} (hi : i < xss.length) : 0 ≤ xss[i].sum ∧ xss[i].sum ≤ 100000 := by
  obtain ⟨h1, h2⟩ := relief_rows h hi
  have := sum_bound _ h2
  omega
theorem relief_len {xss : List (List Int)} (h : reliefB xss = true) : xss.length ≤ 8 := by
  unfold reliefB at h
  rw [Bool.and_eq_true] at h
  have := inB_iff.1 h.1
  omega
noncomputable def tail_lev3 : Go.Code := (Try.f4.body.bind (codeTail 29)).getD .skip
set_option maxRecDepth 1000000 in
set_option maxHeartbeats 8000000 in
theorem lev3 (A : Option Addr) (cap : Nat) (code : List Int) (w : World) (hcode : Code w (.slice A code.length cap) A cap code) (wc : World) (hbel : Below w.heap.size w wc) (u1 u2 u3 u4 u5 u6 u7 u8 u9 u10 u11 u12 u13 u14 u15 u16 u17 u18 u19 u20 u21 u22 u23 u24 u25 u26 u27 u28 u29 u30 u31 u32 u33 u34 u35 u36 u37 u38 u39 u40 u41 u42 u43 u44 u45 u46 u47 u48 u49 u50 u51 u52 u53 u54 u55 u56 u57 u58 u59 u60 u61 u62 u63 u64 u65 u66 u67 u68 u69 u70 u71 u72 u73 u74 u75 u76 u77 u78 u79 u80 u81 u82 u83 u84 u85 u86 u87 u88 u89 u90 u91 u92 u93 u94 u95 u96 u97 u98 u99 u100 u101 u102 u103 u104 u105 u106 u107 u108 u109 u110 u111 u112 u113 u114 u115 u116 u117 u118 u119 u120 u121 u122 u123 u124 u125 u126 u127 u128 u129 u130 u131 u132 u133 u134 u135 u136 u137 u138 u139 u140 u141 u142 u143 u144 u145 u146 u147 u148 u149 u150 u151 u152 u153 u154 u155 u156 u157 u158 u159 u160 u161 u162 u163 u164 u165 u166 u167 u168 u169 u170 u171 u172 u173 u174 u175 u176 u177 u178 u179 u180 u181 u182 u183 u184 u185 u186 u187 u188 u189 u190 u191 u192 u193 u194 u195 u196 u197 u198 u199 u200 u201 u202 u203 u204 u205 u206 u207 u208 u209 u210 u211 u212 u213 u214 u215 u216 u217 u218 u219 u220 u221 u222 u223 u224 u225 u226 u227 u228 u229 u230 u231 u232 u233 u234 u235 u236 u237 u238 u239 u240 u241 u242 u243 u244 u245 u246 u247 u248 u249 u250 u251 u252 u253 u254 u255 u256 u257 u258 u259 u260 u261 u262 u263 u264 u265 u266 u267 u268 u269 u270 u271 u272 u273 u274 u275 u276 u277 u278 u279 u280 u281 u282 u283 u284 u285 u286 : Value) :
    Go.Code.wp Try.prog tail_lev3 (bodyPost Try.prog Try.f4 fun e w' => e = .returned (.bool true) ∧ Below w.heap.size w w') ⟨#[.slice A code.length cap, u1, u2, u3, u4, u5, u6, u7, u8, u9, u10, u11, u12, u13, u14, u15, u16, u17, u18, u19, u20, u21, u22, u23, u24, u25, u26, u27, u28, u29, u30, u31, u32, u33, u34, u35, u36, u37, u38, u39, u40, u41, u42, u43, u44, u45, u46, u47, u48, u49, u50, u51, u52, u53, u54, u55, u56, u57, u58, u59, u60, u61, u62, u63, u64, u65, u66, u67, u68, u69, u70, u71, u72, u73, u74, u75, u76, u77, u78, u79, u80, u81, u82, u83, u84, u85, u86, u87, u88, u89, u90, u91, u92, u93, u94, u95, u96, u97, u98, u99, u100, u101, u102, u103, u104, u105, u106, u107, u108, u109, u110, u111, u112, u113, u114, u115, u116, u117, u118, u119, u120, u121, u122, u123, u124, u125, u126, u127, u128, u129, u130, u131, u132, u133, u134, u135, u136, u137, u138, u139, u140, u141, u142, u143, u144, u145, u146, u147, u148, u149, u150, u151, u152, u153, u154, u155, u156, u157, u158, u159, u160, u161, u162, u163, u164, u165, u166, u167, u168, u169, u170, u171, u172, u173, u174, u175, u176, u177, u178, u179, u180, u181, u182, u183, u184, u185, u186, u187, u188, u189, u190, u191, u192, u193, u194, u195, u196, u197, u198, u199, u200, u201, u202, u203, u204, u205, u206, u207, u208, u209, u210, u211, u212, u213, u214, u215, u216, u217, u218, u219, u220, u221, u222, u223, u224, u225, u226, u227, u228, u229, u230, u231, u232, u233, u234, u235, u236, u237, u238, u239, u240, u241, u242, u243, u244, u245, u246, u247, u248, u249, u250, u251, u252, u253, u254, u255, u256, u257, u258, u259, u260, u261, u262, u263, u264, u265, u266, u267, u268, u269, u270, u271, u272, u273, u274, u275, u276, u277, u278, u279, u280, u281, u282, u283, u284, u285, u286], []⟩ wc := by
  have HCODE := hide hcode; have HB := hide hbel; clear hcode hbel
  conv => arg 2; whnf
  generalize wc = w40 at *
  go_wp2_with fail
  refine (drawSteepestSquare_is _ _ A cap code (HCODE.out.below HB.out (Nat.le_refl _))).mono ?_; rintro e w41 ⟨v, xss, rfl, hg, hb⟩
  replace HB := hide (bstep HB.out hb HB.out.size); clear hb
  have HX := hide hg; clear hg
  have hst := @steep_law xss
  have cL := fun (W : World) (hi : IsG W v xss) => implSteepestSquare_any v xss W hi
  have cLS := fun (W : World) (hi : IsG W v xss) => specSteepestSquare_any v xss W hi
  generalize (steepV xss).1.1 = r at *
  generalize (steepV xss).1.2.1 = c at *
  generalize (steepV xss).1.2.2 = dd at *
  generalize (steepV xss).2 = fl at *
  have t1 : (fl != fl) = false := by simp
  have HST := hide hst; have CL := hide cL; have CLS := hide cLS
  clear hst cL cLS
  go_wp2_with fail
  refine (CL.out _ HX.out).mono ?_; rintro e w42 ⟨rfl, hb⟩
  replace HX := hide (HX.out.below hb (Nat.le_refl _))
  replace HB := hide (bstep HB.out hb HB.out.size); clear hb
  go_wp2_with fail
  refine (CLS.out _ HX.out).mono ?_; rintro e w43 ⟨rfl, hb⟩
  replace HX := hide (HX.out.below hb (Nat.le_refl _))
  replace HB := hide (bstep HB.out hb HB.out.size); clear hb
  cases fl with
  | false =>
    go_wp2_with fail
    go_ret
    exact ⟨rfl, HB.out⟩
  | true =>
    obtain ⟨hrel, ⟨⟨hr1, hr2⟩, ⟨hc1, hc2⟩⟩, hin2, hnext, hdrop⟩ := HST.out rfl
    have cN := fun (W : World) (hi : IsG W v xss) => implNextSquare_any v xss r c W hi
    have cNS := fun (W : World) (hi : IsG W v xss) => specNextSquare_any v xss r c W hi
    rw [hnext] at cN cNS
    simp only at cN cNS hr1 hr2 hc1 hc2
    clear hnext
    generalize hq : bestN xss r c = q at *
    clear hq
    obtain ⟨r2, c2⟩ := q
    obtain ⟨⟨h1, h2⟩, ⟨h3, h4⟩⟩ := hin2
    simp only at cN cNS h1 h2 h3 h4
    obtain ⟨i, rfl⟩ : ∃ i : Nat, r = (i : Int) := ⟨r.toNat, by omega⟩
    obtain ⟨j, rfl⟩ : ∃ j : Nat, c = (j : Int) := ⟨c.toNat, by omega⟩
    obtain ⟨i2, rfl⟩ : ∃ i : Nat, r2 = (i : Int) := ⟨r2.toNat, by omega⟩
    obtain ⟨j2, rfl⟩ : ∃ j : Nat, c2 = (j : Int) := ⟨c2.toNat, by omega⟩
    have hb1 := (relief_inR hrel) ⟨(i : Int), (j : Int)⟩ ⟨⟨hr1, hr2⟩, ⟨hc1, hc2⟩⟩
    have hb2 := (relief_inR hrel) ⟨(i2 : Int), (j2 : Int)⟩ ⟨⟨h1, h2⟩, ⟨h3, h4⟩⟩
    have CN := hide cN; have CNS := hide cNS; have HDROP := hide hdrop; have HREL := hide hrel; clear cN cNS hdrop hrel CL CLS HST
    go_wp2_with fail
    refine (CN.out _ HX.out).mono ?_; rintro e w44 ⟨rfl, hb⟩
    replace HX := hide (HX.out.below hb (Nat.le_refl _))
    replace HB := hide (bstep HB.out hb HB.out.size); clear hb
    go_wp2_with fail
    refine (CNS.out _ HX.out).mono ?_; rintro e w45 ⟨rfl, hb⟩
    replace HX := hide (HX.out.below hb (Nat.le_refl _))
    replace HB := hide (bstep HB.out hb HB.out.size); clear hb
    obtain ⟨AX, cX, rfl, hxm⟩ := HX.out.slice9
    have hdrop := HDROP.out
    obtain ⟨b, off, br, offr, cr, rfl, d0, d1⟩ := HX.out.sq HREL.out (show i < xss.length by omega) (show j < hdLen xss by omega)
    obtain ⟨b2, off2, br2, offr2, cr2, hA, d2, d3⟩ := HX.out.sq HREL.out (show i2 < xss.length by omega) (show j2 < hdLen xss by omega)
    injection hA with hA; injection hA with hA1 hA2; subst hA1 hA2
    generalize cellS xss ⟨(i : Int), (j : Int)⟩ = y1 at *
    generalize cellS xss ⟨(i2 : Int), (j2 : Int)⟩ = y2 at *
    have HXX := hide HX; clear HX HREL HDROP CN CNS
    generalize hdLen xss = m at *
    subst hdrop
    have wr1 : IntKind.i64.wrap (y1 - y2) = y1 - y2 := IntWalk.i64_in _ (by omega)
    go_wp2_with fail
    (try go_quiet (fail))
    (try go_wp2_with fail)
    go_ret
    first | exact ⟨rfl, HB.out⟩ | exact ⟨rfl, HB.out.drew⟩ | exact ⟨rfl, drewN9 HB.out _⟩
noncomputable def tail_lev2 : Go.Code := (Try.f4.body.bind (codeTail 24)).getD .skip
set_option maxRecDepth 1000000 in
set_option maxHeartbeats 8000000 in
theorem lev2 (A : Option Addr) (cap : Nat) (code : List Int) (w : World) (hcode : Code w (.slice A code.length cap) A cap code) (wc : World) (hbel : Below w.heap.size w wc) (u1 u2 u3 u4 u5 u6 u7 u8 u9 u10 u11 u12 u13 u14 u15 u16 u17 u18 u19 u20 u21 u22 u23 u24 u25 u26 u27 u28 u29 u30 u31 u32 u33 u34 u35 u36 u37 u38 u39 u40 u41 u42 u43 u44 u45 u46 u47 u48 u49 u50 u51 u52 u53 u54 u55 u56 u57 u58 u59 u60 u61 u62 u63 u64 u65 u66 u67 u68 u69 u70 u71 u72 u73 u74 u75 u76 u77 u78 u79 u80 u81 u82 u83 u84 u85 u86 u87 u88 u89 u90 u91 u92 u93 u94 u95 u96 u97 u98 u99 u100 u101 u102 u103 u104 u105 u106 u107 u108 u109 u110 u111 u112 u113 u114 u115 u116 u117 u118 u119 u120 u121 u122 u123 u124 u125 u126 u127 u128 u129 u130 u131 u132 u133 u134 u135 u136 u137 u138 u139 u140 u141 u142 u143 u144 u145 u146 u147 u148 u149 u150 u151 u152 u153 u154 u155 u156 u157 u158 u159 u160 u161 u162 u163 u164 u165 u166 u167 u168 u169 u170 u171 u172 u173 u174 u175 u176 u177 u178 u179 u180 u181 u182 u183 u184 u185 u186 u187 u188 u189 u190 u191 u192 u193 u194 u195 u196 u197 u198 u199 u200 u201 u202 u203 u204 u205 u206 u207 u208 u209 u210 u211 u212 u213 u214 u215 u216 u217 u218 u219 u220 u221 u222 u223 u224 u225 u226 u227 u228 u229 u230 u231 u232 u233 u234 u235 u236 u237 u238 u239 u240 u241 u242 u243 u244 u245 u246 u247 u248 u249 u250 u251 u252 u253 u254 u255 u256 u257 u258 u259 u260 u261 u262 u263 u264 u265 u266 u267 u268 u269 u270 u271 u272 u273 u274 u275 u276 u277 u278 u279 u280 u281 u282 u283 u284 u285 u286 : Value) :
    Go.Code.wp Try.prog tail_lev2 (bodyPost Try.prog Try.f4 fun e w' => e = .returned (.bool true) ∧ Below w.heap.size w w') ⟨#[.slice A code.length cap, u1, u2, u3, u4, u5, u6, u7, u8, u9, u10, u11, u12, u13, u14, u15, u16, u17, u18, u19, u20, u21, u22, u23, u24, u25, u26, u27, u28, u29, u30, u31, u32, u33, u34, u35, u36, u37, u38, u39, u40, u41, u42, u43, u44, u45, u46, u47, u48, u49, u50, u51, u52, u53, u54, u55, u56, u57, u58, u59, u60, u61, u62, u63, u64, u65, u66, u67, u68, u69, u70, u71, u72, u73, u74, u75, u76, u77, u78, u79, u80, u81, u82, u83, u84, u85, u86, u87, u88, u89, u90, u91, u92, u93, u94, u95, u96, u97, u98, u99, u100, u101, u102, u103, u104, u105, u106, u107, u108, u109, u110, u111, u112, u113, u114, u115, u116, u117, u118, u119, u120, u121, u122, u123, u124, u125, u126, u127, u128, u129, u130, u131, u132, u133, u134, u135, u136, u137, u138, u139, u140, u141, u142, u143, u144, u145, u146, u147, u148, u149, u150, u151, u152, u153, u154, u155, u156, u157, u158, u159, u160, u161, u162, u163, u164, u165, u166, u167, u168, u169, u170, u171, u172, u173, u174, u175, u176, u177, u178, u179, u180, u181, u182, u183, u184, u185, u186, u187, u188, u189, u190, u191, u192, u193, u194, u195, u196, u197, u198, u199, u200, u201, u202, u203, u204, u205, u206, u207, u208, u209, u210, u211, u212, u213, u214, u215, u216, u217, u218, u219, u220, u221, u222, u223, u224, u225, u226, u227, u228, u229, u230, u231, u232, u233, u234, u235, u236, u237, u238, u239, u240, u241, u242, u243, u244, u245, u246, u247, u248, u249, u250, u251, u252, u253, u254, u255, u256, u257, u258, u259, u260, u261, u262, u263, u264, u265, u266, u267, u268, u269, u270, u271, u272, u273, u274, u275, u276, u277, u278, u279, u280, u281, u282, u283, u284, u285, u286], []⟩ wc := by
  have HCODE := hide hcode; have HB := hide hbel; clear hcode hbel
  conv => arg 2; whnf
  generalize wc = w20 at *
  go_wp2_with fail
  refine (drawLevelAt_is _ _ A cap code (HCODE.out.below HB.out (Nat.le_refl _))).mono ?_; rintro e w21 ⟨v, xss, r, c, rfl, hg, hb⟩
  replace HB := hide (bstep HB.out hb HB.out.size); clear hb
  have HX := hide hg; clear hg
  have hge := @levAt_ge xss r c
  have cL := fun (W : World) (hi : IsG W v xss) => implLevelAt_any v xss r c W hi
  have cLS := fun (W : World) (hi : IsG W v xss) => specLevelAt_any v xss r c W hi
  generalize (levAtV xss r c).1 = lv at *
  generalize (levAtV xss r c).2 = fl at *
  have t1 : (fl != fl) = false := by simp
  have HGE := hide hge; have CL := hide cL; have CLS := hide cLS
  clear hge cL cLS
  go_wp2_with fail
  refine (CL.out _ HX.out).mono ?_; rintro e w22 ⟨rfl, hb⟩
  replace HX := hide (HX.out.below hb (Nat.le_refl _))
  replace HB := hide (bstep HB.out hb HB.out.size); clear hb
  go_wp2_with fail
  refine (CLS.out _ HX.out).mono ?_; rintro e w23 ⟨rfl, hb⟩
  replace HX := hide (HX.out.below hb (Nat.le_refl _))
  replace HB := hide (bstep HB.out hb HB.out.size); clear hb
  go_upto_region 27 with fail
  go_cut [202] from 181 to 202 (fun t wx => t = .bool false ∧ Below w.heap.size w wx)
  case first =>
    cases fl with
    | false =>
      go_wp2_with fail
      go_meet
      exact ⟨rfl, HB.out⟩
    | true =>
      obtain ⟨⟨hr1, hr2⟩, ⟨hc1, hc2⟩, hrel, hle⟩ := HGE.out rfl
      obtain ⟨i, rfl⟩ : ∃ i : Nat, r = (i : Int) := ⟨r.toNat, by omega⟩
      obtain ⟨j, rfl⟩ : ∃ j : Nat, c = (j : Int) := ⟨c.toNat, by omega⟩
      obtain ⟨AX, cX, rfl, hxm⟩ := HX.out.slice9
      obtain ⟨b, off, br, offr, cr, rfl, d0, d1⟩ := HX.out.sq hrel (show i < xss.length by omega) (show j < hdLen xss by omega)
      have hnl : ¬ lv < cellS xss ⟨(i : Int), (j : Int)⟩ := by omega
      generalize cellS xss ⟨(i : Int), (j : Int)⟩ = y at *
      have HXX := hide hrel; clear hrel hle CL CLS HGE
      generalize hdLen xss = m at *
      go_wp2_with fail
      go_meet
      exact ⟨rfl, HB.out⟩
  case rest =>
    obtain ⟨rfl, hbel⟩ := hcut
    go_upto_if 202 with fail
    go_cut [] from 202 to 202 (fun wx => Below w.heap.size w wx)
    case first =>
      go_wp2_with fail
      go_meet
      exact hbel
    case rest =>
      apply_assumption
      exact lev3 A cap code w HCODE.out _ hcut _ _ _ _ _ _ _ _ _ _ _ _ _ _ _ _ _ _ _ _ _ _ _ _ _ _ _ _ _ _ _ _ _ _ _ _ _ _ _ _ _ _ _ _ _ _ _ _ _ _ _ _ _ _ _ _ _ _ _ _ _ _ _ _ _ _ _ _ _ _ _ _ _ _ _ _ _ _ _ _ _ _ _ _ _ _ _ _ _ _ _ _ _ _ _ _ _ _ _ _ _ _ _ _ _ _ _ _ _ _ _ _ _ _ _ _ _ _ _ _ _ _ _ _ _ _ _ _ _ _ _ _ _ _ _ _ _ _ _ _ _ _ _ _ _ _ _ _ _ _ _ _ _ _ _ _ _ _ _ _ _ _ _ _ _ _ _ _ _ _ _ _ _ _ _ _ _ _ _ _ _ _ _ _ _ _ _ _ _ _ _ _ _ _ _ _ _ _ _ _ _ _ _ _ _ _ _ _ _ _ _ _ _ _ _ _ _ _ _ _ _ _ _ _ _ _ _ _ _ _ _ _ _ _ _ _ _ _ _ _ _ _ _ _ _ _ _ _ _ _ _ _ _ _ _ _ _ _ _ _ _ _ _ _ _ _ _ _ _ _ _ _ _ _ _ _ _ _ _ _ _ _ _ _ _ _
end Go.Proofs.Ytomcdkkjknphpaa
