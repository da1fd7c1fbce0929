/- The walk of FnContours: it returns true whatever the code; old memory stays. No condition. (Printed by mkfncont.py.) -/
import Derived.Test.YtijjecckfcbaoaaL8Y
import Derived.Test.YtijjecckfcbaoaaL8Z
import Derived.Test.YtijjecckfcbaoaaLw
import Derived.Test.YtijjecckfcbaoaaSec
namespace Go.Proofs.Ytijjecckfcbaoaa
open Go.RowKit
set_option linter.unusedVariables false
theorem SClaim.neq_same (a0 a1 a2 a3 : Int) (w : World) : (binOp .neq 23 (.agg #[.int .i64 a0, .int .i64 a1, .int .i64 a2, .int .i64 a3]) (.agg #[.int .i64 a0, .int .i64 a1, .int .i64 a2, .int .i64 a3])).run Try.prog w = .ok (.bool false) w := by
  have u3 := Try.underlying3
  have hS : Try.prog.underlying 23 = some (.struct (Try.prog.fieldsOf 23)) := by kernel_rfl
  have hp : Try.prog.stoodInHeld 23 = false := by kernel_rfl
  rw [run_neq_struct, show (10000 : Nat) = 9999 + 1 from rfl, run_equalIn_agg w 9999 23 _ _ hS hp]
  simp only [Program.fieldsOf, Try.underlying23]
  go_simp
theorem is_claim1 (w : World) (p q r t : Int) : Is 4 SClaim.enc (w.alloc (.cells #[.int .i64 p, .int .i64 q, .int .i64 r, .int .i64 t] 23)) (.slice (some ⟨w.heap.size, 0, none⟩) 1 1) [(⟨p, q, r, t⟩ : SClaim)] :=
  Is.lit (cs := #[.int .i64 p, .int .i64 q, .int .i64 r, .int .i64 t]) rfl (by simp only [maxLen, List.length_singleton]; omega) (by
    intro j z hj hz c hc
    have hj0 : j = 0 := by simpa using hj
    subst hj0
    simp at hz
    subst hz
    have : c = 0 ∨ c = 1 ∨ c = 2 ∨ c = 3 := by omega
    rcases this with rfl | rfl | rfl | rfl <;> rfl)
theorem is_int2 (w : World) (p q : Int) : Is 1 encI (w.alloc (.cells #[.int .i64 p, .int .i64 q] 3)) (.slice (some ⟨w.heap.size, 0, none⟩) 2 2) [p, q] :=
  Is.lit (cs := #[.int .i64 p, .int .i64 q]) rfl (by simp only [maxLen]; simp) (by
    intro j z hj hz c hc
    obtain rfl : c = 0 := by omega
    have : j = 0 ∨ j = 1 := by simp at hj; omega
    rcases this with rfl | rfl
    · simp at hz; subst hz; rfl
    · simp at hz; subst hz; rfl)
theorem tied_some {n k : Int} {xs : List SClaim} {x : Int} (h : x ∈ (tiedV n xs k).1) : (tiedV n xs k).2 = true := by
  unfold tiedV at h ⊢
  split at h
  · rename_i hc; rw [if_pos hc]
  · simp at h
noncomputable def tail_cont4 : Go.Code := (Try.f14.body.bind (codeTail 31)).getD .skip
set_option maxRecDepth 1000000 in
set_option maxHeartbeats 8000000 in
theorem cont4 (A : Option Addr) (cap : Nat) (code : List Int) (w : World) (hcode : Code w (.slice A code.length cap) A cap code) (wc : World) (hbel : Below w.heap.size w wc) (u1 u2 u3 u4 u5 u6 u7 u8 u9 u10 u11 u12 u13 u14 u15 u16 u17 u18 u19 u20 u21 u22 u23 u24 u25 u26 u27 u28 u29 u30 u31 u32 u33 u34 u35 u36 u37 u38 u39 u40 u41 u42 u43 u44 u45 u46 u47 u48 u49 u50 u51 u52 u53 u54 u55 u56 u57 u58 u59 u60 u61 u62 u63 u64 u65 u66 u67 u68 u69 u70 u71 u72 u73 u74 u75 u76 u77 u78 u79 u80 u81 u82 u83 u84 u85 u86 u87 u88 u89 u90 u91 u92 u93 u94 u95 u96 u97 u98 u99 u100 u101 u102 u103 u104 u105 u106 u107 u108 u109 u110 u111 u112 u113 u114 u115 u116 u117 u118 u119 u120 u121 u122 u123 u124 u125 u126 u127 u128 u129 u130 u131 u132 u133 u134 u135 u136 u137 u138 u139 u140 u141 u142 u143 u144 u145 u146 u147 u148 u149 u150 u151 u152 u153 u154 u155 u156 u157 u158 u159 u160 u161 u162 u163 u164 u165 u166 u167 u168 u169 u170 u171 u172 u173 u174 u175 u176 u177 u178 u179 u180 u181 u182 u183 u184 u185 u186 u187 u188 u189 u190 u191 u192 u193 u194 u195 u196 u197 u198 u199 u200 u201 u202 u203 u204 u205 u206 u207 u208 u209 u210 u211 u212 u213 u214 u215 u216 u217 u218 u219 u220 u221 u222 u223 u224 u225 u226 u227 u228 u229 u230 u231 u232 u233 u234 u235 u236 u237 u238 u239 u240 u241 u242 u243 u244 u245 u246 u247 u248 u249 u250 u251 u252 u253 u254 u255 u256 u257 u258 u259 u260 u261 u262 u263 u264 u265 u266 u267 u268 u269 u270 u271 u272 u273 u274 u275 u276 u277 u278 u279 u280 u281 u282 u283 u284 u285 u286 u287 u288 u289 u290 u291 u292 u293 u294 u295 u296 u297 : Value) :
    Go.Code.wp Try.prog tail_cont4 (bodyPost Try.prog Try.f14 fun e w' => e = .returned (.bool true) ∧ Below w.heap.size w w') ⟨#[.slice A code.length cap, u1, u2, u3, u4, u5, u6, u7, u8, u9, u10, u11, u12, u13, u14, u15, u16, u17, u18, u19, u20, u21, u22, u23, u24, u25, u26, u27, u28, u29, u30, u31, u32, u33, u34, u35, u36, u37, u38, u39, u40, u41, u42, u43, u44, u45, u46, u47, u48, u49, u50, u51, u52, u53, u54, u55, u56, u57, u58, u59, u60, u61, u62, u63, u64, u65, u66, u67, u68, u69, u70, u71, u72, u73, u74, u75, u76, u77, u78, u79, u80, u81, u82, u83, u84, u85, u86, u87, u88, u89, u90, u91, u92, u93, u94, u95, u96, u97, u98, u99, u100, u101, u102, u103, u104, u105, u106, u107, u108, u109, u110, u111, u112, u113, u114, u115, u116, u117, u118, u119, u120, u121, u122, u123, u124, u125, u126, u127, u128, u129, u130, u131, u132, u133, u134, u135, u136, u137, u138, u139, u140, u141, u142, u143, u144, u145, u146, u147, u148, u149, u150, u151, u152, u153, u154, u155, u156, u157, u158, u159, u160, u161, u162, u163, u164, u165, u166, u167, u168, u169, u170, u171, u172, u173, u174, u175, u176, u177, u178, u179, u180, u181, u182, u183, u184, u185, u186, u187, u188, u189, u190, u191, u192, u193, u194, u195, u196, u197, u198, u199, u200, u201, u202, u203, u204, u205, u206, u207, u208, u209, u210, u211, u212, u213, u214, u215, u216, u217, u218, u219, u220, u221, u222, u223, u224, u225, u226, u227, u228, u229, u230, u231, u232, u233, u234, u235, u236, u237, u238, u239, u240, u241, u242, u243, u244, u245, u246, u247, u248, u249, u250, u251, u252, u253, u254, u255, u256, u257, u258, u259, u260, u261, u262, u263, u264, u265, u266, u267, u268, u269, u270, u271, u272, u273, u274, u275, u276, u277, u278, u279, u280, u281, u282, u283, u284, u285, u286, u287, u288, u289, u290, u291, u292, u293, u294, u295, u296, u297], []⟩ wc := by
  have HCODE := hide hcode; have HB := hide hbel; clear hcode hbel
  conv => arg 2; whnf
  generalize wc = w60 at *
  go_wp2_with fail
  refine (drawTiedMarks_is _ _ A cap code (HCODE.out.below HB.out (Nat.le_refl _))).mono ?_; rintro e w61 ⟨m2, v2, k, ys, rfl, hm2, hyl, ho, hb⟩
  replace HB := hide (bstep HB.out hb HB.out.size); clear hb
  have HY := hide ho.is; clear ho
  have hone := @tied_law (m2 : Int) k ys
  have hsome := fun x h => @tied_some (m2 : Int) k ys x h
  have cT := fun (W : World) (hi : Is 4 SClaim.enc W v2 ys) => implTiedMarks_any (m2 : Int) v2 ys k W hi
  have cTS := fun (W : World) (hi : Is 4 SClaim.enc W v2 ys) => specTiedMarks_any (m2 : Int) v2 ys k W hi
  have cTx := fun (x : Int) (W : World) (hi : Is 4 SClaim.enc W v2 ys) => implTiedMarks_any (m2 : Int) v2 ys x W hi
  have hlen := tiedV_len (m2 : Int) ys k
  generalize htv : tiedV (m2 : Int) ys k = tv at *
  have HTV := hide htv; clear htv
  obtain ⟨tl, so⟩ := tv
  simp only at hone hsome cT cTS hlen
  have t5 : (so != so) = false := by simp
  have HONE := hide hone; have HSOME := hide hsome; have CT := hide cT; have CTS := hide cTS; have CTX := hide cTx
  clear hone hsome cT cTS cTx
  go_wp2_with fail
  refine (CT.out _ HY.out).mono ?_; rintro e w62 ⟨rT, rfl, ho, hb⟩
  replace HY := hide (HY.out.below hb (Nat.le_refl _))
  replace HB := hide (bstep HB.out hb HB.out.size); clear hb
  have HT := hide ho.is; clear ho
  go_wp2_with fail
  refine (CTS.out _ HY.out).mono ?_; rintro e w63 ⟨rU, rfl, ho, hb⟩
  replace HY := hide (HY.out.below hb (Nat.le_refl _))
  replace HT := hide (HT.out.below hb (Nat.le_refl _))
  replace HB := hide (bstep HB.out hb HB.out.size); clear hb
  have HU := hide ho.is; clear ho
  go_wp2_with fail
  refine (vInts_is _ _ _ _ HT.out HU.out).mono ?_; rintro e w64 ⟨rfl, hb⟩
  replace HY := hide (HY.out.below hb (Nat.le_refl _))
  replace HT := hide (HT.out.below hb (Nat.le_refl _))
  replace HU := hide (HU.out.below hb (Nat.le_refl _))
  replace HB := hide (bstep HB.out hb HB.out.size); clear hb
  cases so with
  | false =>
    obtain ⟨AT, cT, rfl, _, _, hcT⟩ := HT.out
    simp only [maxLen] at hcT
    go_wp2_with fail
    go_loopw [42] (fun i wr => ∃ q : Nat, q ≤ tl.length ∧ i = .int .i64 (q : Int) ∧ Is 4 SClaim.enc wr v2 ys ∧ Is 1 encI wr (.slice AT tl.length cT) tl ∧ Below w.heap.size w wr) (fun i _ => tl.length - (intOf i).toNat)
    case atStart => exact ⟨0, Nat.zero_le _, rfl, HY.out, HT.out, HB.out⟩
    case round =>
      clear HY HT HB HU
      obtain ⟨q, hq, rfl, hy, ht, hbel⟩ := hrel
      have HB := hide hbel; have HY := hide hy; have HT := hide ht; clear hbel hy ht
      by_cases hlt : q < tl.length
      · have hlt' : (q : Int) < tl.length := by omega
        have hm := HONE.out.2 tl[q] (List.getElem_mem hlt)
        have hso := HSOME.out tl[q] (List.getElem_mem hlt)
        obtain ⟨A8, c8, he8, hr8, _, _⟩ := HT.out
        injection he8 with e1 e2 e3; subst e1 e3; clear e2
        obtain ⟨b, off, rfl, hbw, c0⟩ := Ints.cells hr8 hlt (Below.refl _ _)
        generalize tl[q] = x at *
        have cX := fun (W : World) (hi : Is 4 SClaim.enc W v2 ys) => CTX.out x W hi
        rw [hm] at cX
        simp only at cX
        exact absurd hso (by simp)
      · have hql : ¬ (q : Int) < tl.length := by omega
        go_wp2_with fail
        go_ret
        exact ⟨rfl, HB.out⟩
  | true =>
    have hvh : decide (k ∈ tl) = true := decide_eq_true (List.contains_iff_mem.1 (HONE.out.1 rfl))
    have cV := fun (W : World) (hi : Is 1 encI W rT tl) => vHas_is rT tl k W hi
    rw [hvh] at cV
    have CV := hide cV; clear cV hvh
    go_wp2_with fail
    refine (CV.out _ HT.out).mono ?_; rintro e w65 ⟨rfl, hb⟩
    replace HY := hide (HY.out.below hb (Nat.le_refl _))
    replace HT := hide (HT.out.below hb (Nat.le_refl _))
    replace HU := hide (HU.out.below hb (Nat.le_refl _))
    replace HB := hide (bstep HB.out hb HB.out.size); clear hb
    obtain ⟨AT, cT, rfl, _, _, hcT⟩ := HT.out
    simp only [maxLen] at hcT
    go_wp2_with fail
    go_loopw [42] (fun i wr => ∃ q : Nat, q ≤ tl.length ∧ i = .int .i64 (q : Int) ∧ Is 4 SClaim.enc wr v2 ys ∧ Is 1 encI wr (.slice AT tl.length cT) tl ∧ Below w.heap.size w wr) (fun i _ => tl.length - (intOf i).toNat)
    case atStart => exact ⟨0, Nat.zero_le _, rfl, HY.out, HT.out, HB.out⟩
    case round =>
      clear HY HT HB HU
      obtain ⟨q, hq, rfl, hy, ht, hbel⟩ := hrel
      have HB := hide hbel; have HY := hide hy; have HT := hide ht; clear hbel hy ht
      by_cases hlt : q < tl.length
      · have hlt' : (q : Int) < tl.length := by omega
        have hm := HONE.out.2 tl[q] (List.getElem_mem hlt)
        have hso := HSOME.out tl[q] (List.getElem_mem hlt)
        obtain ⟨A8, c8, he8, hr8, _, _⟩ := HT.out
        injection he8 with e1 e2 e3; subst e1 e3; clear e2
        obtain ⟨b, off, rfl, hbw, c0⟩ := Ints.cells hr8 hlt (Below.refl _ _)
        generalize tl[q] = x at *
        have cX := fun (W : World) (hi : Is 4 SClaim.enc W v2 ys) => CTX.out x W hi
        rw [hm] at cX
        simp only at cX
        have CX := hide cX; clear cX hm hr8
        go_wp2_with fail
        refine (CX.out _ HY.out).mono ?_; rintro e w71 ⟨rX, rfl, ho, hb⟩
        have HX := hide ho.is
        replace HY := hide (HY.out.below hb (Nat.le_refl _)); replace HT := hide (HT.out.below hb (Nat.le_refl _)); replace HB := hide (bstep HB.out hb HB.out.size); clear hb ho
        go_wp2_with fail
        refine (vInts_is _ _ _ _ HX.out HT.out).mono ?_; rintro e w72 ⟨rfl, hb⟩
        replace HY := hide (HY.out.below hb (Nat.le_refl _)); replace HT := hide (HT.out.below hb (Nat.le_refl _)); replace HB := hide (bstep HB.out hb HB.out.size); clear hb
        go_wp2_with fail
        go_round
        case measure => (first | (simp [intOf]; done) | (simp [intOf] <;> omega))
        case rel => exact ⟨q + 1, by omega, by go_num, HY.out, HT.out, HB.out⟩
      · have hql : ¬ (q : Int) < tl.length := by omega
        go_wp2_with fail
        go_ret
        exact ⟨rfl, HB.out⟩
noncomputable def tail_cont3 : Go.Code := (Try.f14.body.bind (codeTail 26)).getD .skip
set_option maxRecDepth 1000000 in
set_option maxHeartbeats 8000000 in
theorem cont3 (A : Option Addr) (cap : Nat) (code : List Int) (w : World) (hcode : Code w (.slice A code.length cap) A cap code) (wc : World) (hbel : Below w.heap.size w wc) (u1 u2 u3 u4 u5 u6 u7 u8 u9 u10 u11 u12 u13 u14 u15 u16 u17 u18 u19 u20 u21 u22 u23 u24 u25 u26 u27 u28 u29 u30 u31 u32 u33 u34 u35 u36 u37 u38 u39 u40 u41 u42 u43 u44 u45 u46 u47 u48 u49 u50 u51 u52 u53 u54 u55 u56 u57 u58 u59 u60 u61 u62 u63 u64 u65 u66 u67 u68 u69 u70 u71 u72 u73 u74 u75 u76 u77 u78 u79 u80 u81 u82 u83 u84 u85 u86 u87 u88 u89 u90 u91 u92 u93 u94 u95 u96 u97 u98 u99 u100 u101 u102 u103 u104 u105 u106 u107 u108 u109 u110 u111 u112 u113 u114 u115 u116 u117 u118 u119 u120 u121 u122 u123 u124 u125 u126 u127 u128 u129 u130 u131 u132 u133 u134 u135 u136 u137 u138 u139 u140 u141 u142 u143 u144 u145 u146 u147 u148 u149 u150 u151 u152 u153 u154 u155 u156 u157 u158 u159 u160 u161 u162 u163 u164 u165 u166 u167 u168 u169 u170 u171 u172 u173 u174 u175 u176 u177 u178 u179 u180 u181 u182 u183 u184 u185 u186 u187 u188 u189 u190 u191 u192 u193 u194 u195 u196 u197 u198 u199 u200 u201 u202 u203 u204 u205 u206 u207 u208 u209 u210 u211 u212 u213 u214 u215 u216 u217 u218 u219 u220 u221 u222 u223 u224 u225 u226 u227 u228 u229 u230 u231 u232 u233 u234 u235 u236 u237 u238 u239 u240 u241 u242 u243 u244 u245 u246 u247 u248 u249 u250 u251 u252 u253 u254 u255 u256 u257 u258 u259 u260 u261 u262 u263 u264 u265 u266 u267 u268 u269 u270 u271 u272 u273 u274 u275 u276 u277 u278 u279 u280 u281 u282 u283 u284 u285 u286 u287 u288 u289 u290 u291 u292 u293 u294 u295 u296 u297 : Value) :
    Go.Code.wp Try.prog tail_cont3 (bodyPost Try.prog Try.f14 fun e w' => e = .returned (.bool true) ∧ Below w.heap.size w w') ⟨#[.slice A code.length cap, u1, u2, u3, u4, u5, u6, u7, u8, u9, u10, u11, u12, u13, u14, u15, u16, u17, u18, u19, u20, u21, u22, u23, u24, u25, u26, u27, u28, u29, u30, u31, u32, u33, u34, u35, u36, u37, u38, u39, u40, u41, u42, u43, u44, u45, u46, u47, u48, u49, u50, u51, u52, u53, u54, u55, u56, u57, u58, u59, u60, u61, u62, u63, u64, u65, u66, u67, u68, u69, u70, u71, u72, u73, u74, u75, u76, u77, u78, u79, u80, u81, u82, u83, u84, u85, u86, u87, u88, u89, u90, u91, u92, u93, u94, u95, u96, u97, u98, u99, u100, u101, u102, u103, u104, u105, u106, u107, u108, u109, u110, u111, u112, u113, u114, u115, u116, u117, u118, u119, u120, u121, u122, u123, u124, u125, u126, u127, u128, u129, u130, u131, u132, u133, u134, u135, u136, u137, u138, u139, u140, u141, u142, u143, u144, u145, u146, u147, u148, u149, u150, u151, u152, u153, u154, u155, u156, u157, u158, u159, u160, u161, u162, u163, u164, u165, u166, u167, u168, u169, u170, u171, u172, u173, u174, u175, u176, u177, u178, u179, u180, u181, u182, u183, u184, u185, u186, u187, u188, u189, u190, u191, u192, u193, u194, u195, u196, u197, u198, u199, u200, u201, u202, u203, u204, u205, u206, u207, u208, u209, u210, u211, u212, u213, u214, u215, u216, u217, u218, u219, u220, u221, u222, u223, u224, u225, u226, u227, u228, u229, u230, u231, u232, u233, u234, u235, u236, u237, u238, u239, u240, u241, u242, u243, u244, u245, u246, u247, u248, u249, u250, u251, u252, u253, u254, u255, u256, u257, u258, u259, u260, u261, u262, u263, u264, u265, u266, u267, u268, u269, u270, u271, u272, u273, u274, u275, u276, u277, u278, u279, u280, u281, u282, u283, u284, u285, u286, u287, u288, u289, u290, u291, u292, u293, u294, u295, u296, u297], []⟩ wc := by
  have HCODE := hide hcode; have HB := hide hbel; clear hcode hbel
  conv => arg 2; whnf
  generalize wc = w50 at *
  go_wp2_with fail
  refine (drawClaimOfContours_is _ _ A cap code (HCODE.out.below HB.out (Nat.le_refl _))).mono ?_; rintro e w51 ⟨a2, b2, c2, d2, rfl, hb⟩
  replace HB := hide (bstep HB.out hb HB.out.size); clear hb
  have cI := fun W => impl_coc a2 b2 c2 d2 W
  have cS := fun W => spec_coc a2 b2 c2 d2 W
  obtain ⟨p, q, r, t, fl2, hcv⟩ : ∃ p q r t fl2, cocV (coc a2 b2 c2 d2) = .tuple #[.agg #[.int .i64 p, .int .i64 q, .int .i64 r, .int .i64 t], .bool fl2] := by
    cases coc a2 b2 c2 d2 with
    | none => exact ⟨0, 0, 0, 0, false, rfl⟩
    | some x => obtain ⟨x0, x1, x2, x3⟩ := x; exact ⟨x0, x1, x2, x3, true, rfl⟩
  rw [hcv] at cI cS
  have CI := hide cI; have CS := hide cS; clear cI cS hcv
  have t4 : (fl2 != fl2) = false := by simp
  have hne := SClaim.neq_same p q r t
  go_wp2_with fail
  refine (CI.out _).mono ?_; rintro e w52 ⟨rfl, hb⟩
  replace HB := hide (bstep HB.out hb HB.out.size); clear hb
  have hsz := HB.out.size
  have hbk := Blk.new w52 23 #[.int .i64 p, .int .i64 q, .int .i64 r, .int .i64 t]
  replace HB := hide (HB.out.alloc hsz (.cells #[.int .i64 p, .int .i64 q, .int .i64 r, .int .i64 t] 23))
  have HK5 := hide hbk; clear hbk hsz
  go_wp2_with fail
  generalize w52.heap.size = g52 at *
  generalize w52.alloc (.cells #[.int .i64 p, .int .i64 q, .int .i64 r, .int .i64 t] 23) = w53 at *
  refine (CS.out _).mono ?_; rintro e w54 ⟨rfl, hb⟩
  replace HB := hide (bstep HB.out hb HB.out.size); replace HK5 := hide (HK5.out.below hb HK5.out.lt); clear hb
  have hsz := HB.out.size
  have hg5 := HK5.out.lt
  have hbk := Blk.new w54 23 #[.int .i64 p, .int .i64 q, .int .i64 r, .int .i64 t]
  replace HB := hide (HB.out.alloc hsz (.cells #[.int .i64 p, .int .i64 q, .int .i64 r, .int .i64 t] 23))
  replace HK5 := hide (HK5.out.alloc (.cells #[.int .i64 p, .int .i64 q, .int .i64 r, .int .i64 t] 23))
  have k0 := HK5.out.cell 0; have k1 := HK5.out.cell 1; have k2 := HK5.out.cell 2; have k3 := HK5.out.cell 3
  have j0 := hbk.cell 0; have j1 := hbk.cell 1; have j2 := hbk.cell 2; have j3 := hbk.cell 3
  simp only [List.getElem?_toArray, List.getElem?_cons_zero, List.getElem?_cons_succ] at k0 k1 k2 k3 j0 j1 j2 j3
  clear hbk hsz HK5
  go_upto_region 29 with fail
  generalize w54.heap.size = g54 at *
  generalize w54.alloc (.cells #[.int .i64 p, .int .i64 q, .int .i64 r, .int .i64 t] 23) = w55 at *
  go_cut [235] from 228 to 235 (fun t wx => t = .bool false ∧ Below w.heap.size w wx)
  case first =>
    go_wp2_with fail
    (try go_quiet (fail))
    (try go_wp2_with fail)
    go_meet
    first | exact ⟨rfl, HB.out⟩ | exact ⟨rfl, HB.out.drew⟩
  case rest =>
    obtain ⟨rfl, hbel⟩ := hcut
    go_upto_if 235 with fail
    go_cut [] from 235 to 235 (fun wx => Below w.heap.size w wx)
    case first =>
      go_wp2_with fail
      go_meet
      exact hbel
    case rest =>
      apply_assumption
      exact cont4 A cap code w HCODE.out _ hcut _ _ _ _ _ _ _ _ _ _ _ _ _ _ _ _ _ _ _ _ _ _ _ _ _ _ _ _ _ _ _ _ _ _ _ _ _ _ _ _ _ _ _ _ _ _ _ _ _ _ _ _ _ _ _ _ _ _ _ _ _ _ _ _ _ _ _ _ _ _ _ _ _ _ _ _ _ _ _ _ _ _ _ _ _ _ _ _ _ _ _ _ _ _ _ _ _ _ _ _ _ _ _ _ _ _ _ _ _ _ _ _ _ _ _ _ _ _ _ _ _ _ _ _ _ _ _ _ _ _ _ _ _ _ _ _ _ _ _ _ _ _ _ _ _ _ _ _ _ _ _ _ _ _ _ _ _ _ _ _ _ _ _ _ _ _ _ _ _ _ _ _ _ _ _ _ _ _ _ _ _ _ _ _ _ _ _ _ _ _ _ _ _ _ _ _ _ _ _ _ _ _ _ _ _ _ _ _ _ _ _ _ _ _ _ _ _ _ _ _ _ _ _ _ _ _ _ _ _ _ _ _ _ _ _ _ _ _ _ _ _ _ _ _ _ _ _ _ _ _ _ _ _ _ _ _ _ _ _ _ _ _ _ _ _ _ _ _ _ _ _ _ _ _ _ _ _ _ _ _ _ _ _ _ _ _ _ _ _ _ _ _ _ _ _ _ _
noncomputable def tail_cont2 : Go.Code := (Try.f14.body.bind (codeTail 14)).getD .skip
set_option maxRecDepth 1000000 in
set_option maxHeartbeats 8000000 in
theorem cont2 (A : Option Addr) (cap : Nat) (code : List Int) (w : World) (hcode : Code w (.slice A code.length cap) A cap code) (wc : World) (hbel : Below w.heap.size w wc) (u1 u2 u3 u4 u5 u6 u7 u8 u9 u10 u11 u12 u13 u14 u15 u16 u17 u18 u19 u20 u21 u22 u23 u24 u25 u26 u27 u28 u29 u30 u31 u32 u33 u34 u35 u36 u37 u38 u39 u40 u41 u42 u43 u44 u45 u46 u47 u48 u49 u50 u51 u52 u53 u54 u55 u56 u57 u58 u59 u60 u61 u62 u63 u64 u65 u66 u67 u68 u69 u70 u71 u72 u73 u74 u75 u76 u77 u78 u79 u80 u81 u82 u83 u84 u85 u86 u87 u88 u89 u90 u91 u92 u93 u94 u95 u96 u97 u98 u99 u100 u101 u102 u103 u104 u105 u106 u107 u108 u109 u110 u111 u112 u113 u114 u115 u116 u117 u118 u119 u120 u121 u122 u123 u124 u125 u126 u127 u128 u129 u130 u131 u132 u133 u134 u135 u136 u137 u138 u139 u140 u141 u142 u143 u144 u145 u146 u147 u148 u149 u150 u151 u152 u153 u154 u155 u156 u157 u158 u159 u160 u161 u162 u163 u164 u165 u166 u167 u168 u169 u170 u171 u172 u173 u174 u175 u176 u177 u178 u179 u180 u181 u182 u183 u184 u185 u186 u187 u188 u189 u190 u191 u192 u193 u194 u195 u196 u197 u198 u199 u200 u201 u202 u203 u204 u205 u206 u207 u208 u209 u210 u211 u212 u213 u214 u215 u216 u217 u218 u219 u220 u221 u222 u223 u224 u225 u226 u227 u228 u229 u230 u231 u232 u233 u234 u235 u236 u237 u238 u239 u240 u241 u242 u243 u244 u245 u246 u247 u248 u249 u250 u251 u252 u253 u254 u255 u256 u257 u258 u259 u260 u261 u262 u263 u264 u265 u266 u267 u268 u269 u270 u271 u272 u273 u274 u275 u276 u277 u278 u279 u280 u281 u282 u283 u284 u285 u286 u287 u288 u289 u290 u291 u292 u293 u294 u295 u296 u297 : Value) :
    Go.Code.wp Try.prog tail_cont2 (bodyPost Try.prog Try.f14 fun e w' => e = .returned (.bool true) ∧ Below w.heap.size w w') ⟨#[.slice A code.length cap, u1, u2, u3, u4, u5, u6, u7, u8, u9, u10, u11, u12, u13, u14, u15, u16, u17, u18, u19, u20, u21, u22, u23, u24, u25, u26, u27, u28, u29, u30, u31, u32, u33, u34, u35, u36, u37, u38, u39, u40, u41, u42, u43, u44, u45, u46, u47, u48, u49, u50, u51, u52, u53, u54, u55, u56, u57, u58, u59, u60, u61, u62, u63, u64, u65, u66, u67, u68, u69, u70, u71, u72, u73, u74, u75, u76, u77, u78, u79, u80, u81, u82, u83, u84, u85, u86, u87, u88, u89, u90, u91, u92, u93, u94, u95, u96, u97, u98, u99, u100, u101, u102, u103, u104, u105, u106, u107, u108, u109, u110, u111, u112, u113, u114, u115, u116, u117, u118, u119, u120, u121, u122, u123, u124, u125, u126, u127, u128, u129, u130, u131, u132, u133, u134, u135, u136, u137, u138, u139, u140, u141, u142, u143, u144, u145, u146, u147, u148, u149, u150, u151, u152, u153, u154, u155, u156, u157, u158, u159, u160, u161, u162, u163, u164, u165, u166, u167, u168, u169, u170, u171, u172, u173, u174, u175, u176, u177, u178, u179, u180, u181, u182, u183, u184, u185, u186, u187, u188, u189, u190, u191, u192, u193, u194, u195, u196, u197, u198, u199, u200, u201, u202, u203, u204, u205, u206, u207, u208, u209, u210, u211, u212, u213, u214, u215, u216, u217, u218, u219, u220, u221, u222, u223, u224, u225, u226, u227, u228, u229, u230, u231, u232, u233, u234, u235, u236, u237, u238, u239, u240, u241, u242, u243, u244, u245, u246, u247, u248, u249, u250, u251, u252, u253, u254, u255, u256, u257, u258, u259, u260, u261, u262, u263, u264, u265, u266, u267, u268, u269, u270, u271, u272, u273, u274, u275, u276, u277, u278, u279, u280, u281, u282, u283, u284, u285, u286, u287, u288, u289, u290, u291, u292, u293, u294, u295, u296, u297], []⟩ wc := by
  have HCODE := hide hcode; have HB := hide hbel; clear hcode hbel
  conv => arg 2; whnf
  generalize wc = w20 at *
  go_wp2_with fail
  refine (drawContoursBetween_is _ _ A cap code (HCODE.out.below HB.out (Nat.le_refl _))).mono ?_; rintro e w21 ⟨a, b, s, rfl, hb⟩
  replace HB := hide (bstep HB.out hb HB.out.size); clear hb
  have hone := fun h => @cbt_in a b s h
  have hfit := fun (p q r t : Int) h1 h2 h3 h4 => @contours_fit a b s p q r t h1 h2 h3 h4
  have hpos := cbt_pos a b s
  have cC := fun (W : World) => implCbt_any a b s W
  have cD := fun (W : World) => implCbt_any b a s W
  have cS := fun (W : World) => specCbt_any a b s W
  rw [cbt_comm] at cD
  generalize (cbt a b s).1 = n at *
  generalize (cbt a b s).2 = fl at *
  have t3 : (fl != fl) = false := by simp
  have hpos2 : ¬ n < 0 := by omega
  have HONE := hide hone; have HFIT := hide hfit; have CC := hide cC; have CD := hide cD; have CS := hide cS
  clear hone hfit cC cD cS
  go_wp2_with fail
  refine (CC.out _).mono ?_; rintro e w22 ⟨rfl, hb⟩
  replace HB := hide (bstep HB.out hb HB.out.size); clear hb
  go_wp2_with fail
  refine (CD.out _).mono ?_; rintro e w23 ⟨rfl, hb⟩
  replace HB := hide (bstep HB.out hb HB.out.size); clear hb
  go_wp2_with fail
  refine (CS.out _).mono ?_; rintro e w' ⟨rfl, rfl⟩
  go_upto_region 20 with fail
  go_cut [175] from 166 to 175 (fun t wx => (∃ bb : Bool, t = .bool bb ∧ (bb = true → fl = true ∧ a ≤ b)) ∧ Below w.heap.size w wx)
  case first =>
    cases fl with
    | false =>
      go_wp2_with fail
      go_meet
      exact ⟨⟨false, rfl, fun h => absurd h (by simp)⟩, HB.out⟩
    | true =>
      by_cases hab : a ≤ b
      · go_wp2_with fail
        go_meet
        exact ⟨⟨_, rfl, fun _ => ⟨by trivial, hab⟩⟩, HB.out⟩
      · go_wp2_with fail
        go_meet
        exact ⟨⟨false, rfl, fun h => absurd h (by simp)⟩, HB.out⟩
  case rest =>
    obtain ⟨⟨bb, rfl, hbb⟩, hbel⟩ := hcut
    replace HB := hide hbel; clear hbel
    generalize wc = w30 at *
    go_upto_if 175 with fail
    go_cut [] from 176 to 204 (fun wx => Below w.heap.size w wx)
    case first =>
      cases bb with
      | false =>
        go_wp2_with fail
        go_meet
        exact HB.out
      | true =>
        obtain ⟨rfl, hab⟩ := hbb rfl
        obtain ⟨⟨ha1, ha2⟩, ⟨hb1, hb2⟩, ⟨hs1, hs2⟩, hnn⟩ := HONE.out rfl
        clear hnn
        have cI := fun W => impl_coc 0 1 n s W
        rcases hcoc : coc 0 1 n s with _ | ⟨p, q, r, t⟩
        · rw [hcoc] at cI
          simp only [cocV, zeroClaim] at cI
          have CI := hide cI; clear cI
          go_wp2_with fail
          refine (CI.out _).mono ?_; rintro e w31 ⟨rfl, hb⟩
          replace HB := hide (bstep HB.out hb HB.out.size); clear hb
          have hsz := HB.out.size
          go_wp2_with fail
          go_meet
          exact HB.out.alloc hsz _
        · rw [hcoc] at cI
          simp only [cocV, someClaim] at cI
          have hfl := fun h => HFIT.out p q r t rfl hab hcoc h
          have CI := hide cI; have HFL := hide hfl; clear cI hfl hcoc
          go_wp2_with fail
          refine (CI.out _).mono ?_; rintro e w31 ⟨rfl, hb⟩
          replace HB := hide (bstep HB.out hb HB.out.size); clear hb
          have hsz := HB.out.size
          have B2 := hide (HB.out.alloc hsz (.cells #[.int .i64 p, .int .i64 q, .int .i64 r, .int .i64 t] 23))
          have hbk := Blk.new w31 23 #[.int .i64 p, .int .i64 q, .int .i64 r, .int .i64 t]
          have k0 := hbk.cell 0; have k1 := hbk.cell 1; have k2 := hbk.cell 2; have k3 := hbk.cell 3
          simp only [List.getElem?_toArray, List.getElem?_cons_zero, List.getElem?_cons_succ] at k0 k1 k2 k3
          clear hbk
          have hs31 : (w31.alloc (.cells #[.int .i64 p, .int .i64 q, .int .i64 r, .int .i64 t] 23)).heap.size = w31.heap.size + 1 := by simp
          go_upto_region 23 with fail
          generalize w31.heap.size = g31 at *
          generalize w31.alloc (.cells #[.int .i64 p, .int .i64 q, .int .i64 r, .int .i64 t] 23) = w32 at *
          have i1 := is_claim1 w32 p q r t
          have B3 := hide (B2.out.alloc B2.out.size (.cells #[.int .i64 p, .int .i64 q, .int .i64 r, .int .i64 t] 23))
          have i2 := is_int2 (w32.alloc (.cells #[.int .i64 p, .int .i64 q, .int .i64 r, .int .i64 t] 23)) 0 (b - a)
          have i3 := i1.below (below_alloc _ (.cells #[.int .i64 0, .int .i64 (b - a)] 3)) (Nat.le_refl _)
          have B4 := hide (B3.out.alloc B3.out.size (.cells #[.int .i64 0, .int .i64 (b - a)] 3))
          have cF := implDoHeightsFit_any 2 _ _ _ _ _ i3 i2
          rw [show (w32.alloc (.cells #[.int .i64 p, .int .i64 q, .int .i64 r, .int .i64 t] 23)).heap.size = w32.heap.size + 1 by simp] at cF
          rw [hs31] at cF
          have CF := hide cF; clear cF i1 i2 i3 B3
          have hba : -9223372036854775808 ≤ b - a ∧ b - a ≤ 9223372036854775807 := by omega
          have B4s := B4.out.size
          by_cases hle : b - a ≤ 200000
          · have hfe := HFL.out hle
            rw [hfe] at CF
            clear hfe
            go_wp2_with fail
            refine CF.out.mono ?_; rintro e w40 ⟨rfl, hb⟩
            replace HB := hide (bstep B4.out hb B4s); clear hb
            go_wp2_with fail
            go_meet
            exact HB.out
          · generalize fitV 2 [(⟨p, q, r, t⟩ : SClaim)] [0, b - a] = ff at *
            go_wp2_with fail
            refine CF.out.mono ?_; rintro e w40 ⟨rfl, hb⟩
            replace HB := hide (bstep B4.out hb B4s); clear hb
            go_wp2_with fail
            go_meet
            exact HB.out
    case rest =>
      apply_assumption
      exact cont3 A cap code w HCODE.out _ hcut _ _ _ _ _ _ _ _ _ _ _ _ _ _ _ _ _ _ _ _ _ _ _ _ _ _ _ _ _ _ _ _ _ _ _ _ _ _ _ _ _ _ _ _ _ _ _ _ _ _ _ _ _ _ _ _ _ _ _ _ _ _ _ _ _ _ _ _ _ _ _ _ _ _ _ _ _ _ _ _ _ _ _ _ _ _ _ _ _ _ _ _ _ _ _ _ _ _ _ _ _ _ _ _ _ _ _ _ _ _ _ _ _ _ _ _ _ _ _ _ _ _ _ _ _ _ _ _ _ _ _ _ _ _ _ _ _ _ _ _ _ _ _ _ _ _ _ _ _ _ _ _ _ _ _ _ _ _ _ _ _ _ _ _ _ _ _ _ _ _ _ _ _ _ _ _ _ _ _ _ _ _ _ _ _ _ _ _ _ _ _ _ _ _ _ _ _ _ _ _ _ _ _ _ _ _ _ _ _ _ _ _ _ _ _ _ _ _ _ _ _ _ _ _ _ _ _ _ _ _ _ _ _ _ _ _ _ _ _ _ _ _ _ _ _ _ _ _ _ _ _ _ _ _ _ _ _ _ _ _ _ _ _ _ _ _ _ _ _ _ _ _ _ _ _ _ _ _ _ _ _ _ _ _ _ _ _ _ _ _ _ _ _ _ _ _ _
set_option maxRecDepth 100000 in
set_option maxHeartbeats 8000000 in
theorem law_FnContours (A : Option Addr) (cap : Nat) (code : List Int) (w : World) (hr : Row 1 encU w w.heap.size A code) (hl : code.length ≤ cap) (hc : cap ≤ maxLen) (wz : ∀ z ∈ code, (Lit.int .u8 z).wf = true) :
    Calls Try.prog 14 #[.slice A code.length cap] w fun e w' => e = .returned (.bool true) ∧ Below w.heap.size w w' := by
  have hcode : Code w (.slice A code.length cap) A cap code := ⟨rfl, hr, fun z hz => wf8 (wz z hz), hl, hc⟩
  have hbig := vBig_is A code.length cap w
  by_cases hlen : (65536 : Int) < code.length
  · rw [decide_eq_true hlen] at hbig
    have HBIG := hide hbig; clear hbig hr wz hcode
    go_enter Try.func14, Try.ntmps14
    go_wp2_with fail
    refine HBIG.out.mono ?_; rintro e w' ⟨rfl, rfl⟩
    go_wp2_with fail
    go_ret
    exact ⟨rfl, Below.refl _ _⟩
  rw [decide_eq_false hlen] at hbig
  have HBIG := hide hbig; have HCODE := hide hcode; clear hbig hr wz hcode hlen
  have HB := hide (Below.refl w.heap.size w)
  go_enter Try.func14, Try.ntmps14
  go_wp2_with fail
  refine HBIG.out.mono ?_; rintro e w' ⟨rfl, rfl⟩
  clear HBIG
  go_wp2_with fail
  refine (drawDoHeightsFit_is _ _ A cap code (HCODE.out.below HB.out (Nat.le_refl _))).mono ?_; rintro e w1 ⟨m, v, r, xs, hs, rfl, hm, hxl, hsl, ho, ho2, hb⟩
  replace HB := hide (bstep HB.out hb HB.out.size); clear hb
  have HX := hide ho.is; clear ho
  have HH := hide ho2.is; clear ho2
  have hone := fun h => @fit_law m xs hs h
  have cF := fun (W : World) (hi : Is 4 SClaim.enc W v xs) (hj : Is 1 encI W r hs) => implDoHeightsFit_any m v xs r hs W hi hj
  have cFS := fun (W : World) (hi : Is 4 SClaim.enc W v xs) (hj : Is 1 encI W r hs) => specDoHeightsFit_any m v xs r hs W hi hj
  have cK := fun (W : World) (hi : Is 4 SClaim.enc W v xs) (hj : Is 1 encI W r hs) => implBrokenClaims_any m v xs r hs W hi hj
  have cKS := fun (W : World) (hi : Is 4 SClaim.enc W v xs) (hj : Is 1 encI W r hs) => specBrokenClaims_any m v xs r hs W hi hj
  rw [fit_two] at cF cFS
  rw [brk_two] at cK cKS
  generalize (areB m xs && hgtB m hs) = ok at *
  generalize (fitV m xs hs).1 = f at *
  generalize (brkV m xs hs).1 = bl at *
  have t1 : (ok != ok) = false := by simp
  have t2 : (f != f) = false := by simp
  have HONE := hide hone; have CF := hide cF; have CFS := hide cFS; have CK := hide cK; have CKS := hide cKS
  clear hone cF cFS cK cKS
  go_wp2_with fail
  refine (CF.out _ HX.out HH.out).mono ?_; rintro e w2 ⟨rfl, hb⟩
  replace HX := hide (HX.out.below hb (Nat.le_refl _))
  replace HH := hide (HH.out.below hb (Nat.le_refl _))
  replace HB := hide (bstep HB.out hb HB.out.size); clear hb
  go_wp2_with fail
  refine (CFS.out _ HX.out HH.out).mono ?_; rintro e w3 ⟨rfl, hb⟩
  replace HX := hide (HX.out.below hb (Nat.le_refl _))
  replace HH := hide (HH.out.below hb (Nat.le_refl _))
  replace HB := hide (bstep HB.out hb HB.out.size); clear hb
  go_wp2_with fail
  refine (CK.out _ HX.out HH.out).mono ?_; rintro e w4 ⟨rK, rfl, ho, hb⟩
  replace HX := hide (HX.out.below hb (Nat.le_refl _))
  replace HH := hide (HH.out.below hb (Nat.le_refl _))
  replace HB := hide (bstep HB.out hb HB.out.size); clear hb
  have HK := hide ho.is; clear ho
  go_wp2_with fail
  refine (CKS.out _ HX.out HH.out).mono ?_; rintro e w5 ⟨rL, rfl, ho, hb⟩
  replace HX := hide (HX.out.below hb (Nat.le_refl _))
  replace HH := hide (HH.out.below hb (Nat.le_refl _))
  replace HK := hide (HK.out.below hb (Nat.le_refl _))
  replace HB := hide (bstep HB.out hb HB.out.size); clear hb
  have HL := hide ho.is; clear ho
  go_wp2_with fail
  refine (vInts_is _ _ _ _ HK.out HL.out).mono ?_; rintro e w6 ⟨rfl, hb⟩
  replace HX := hide (HX.out.below hb (Nat.le_refl _))
  replace HH := hide (HH.out.below hb (Nat.le_refl _))
  replace HK := hide (HK.out.below hb (Nat.le_refl _))
  replace HL := hide (HL.out.below hb (Nat.le_refl _))
  replace HB := hide (bstep HB.out hb HB.out.size); clear hb
  go_upto_region 12 with fail
  go_cut [116] from 103 to 116 (fun t wx => t = .bool false ∧ Below w.heap.size w wx)
  case first =>
    cases ok with
    | false =>
      go_wp2_with fail
      go_meet
      exact ⟨rfl, HB.out⟩
    | true =>
      obtain ⟨h1, hf⟩ := HONE.out rfl
      obtain ⟨AH, cH, rfl, hrH, _, _⟩ := HH.out
      obtain ⟨AK, cK, rfl, _, _, _⟩ := HK.out
      obtain ⟨b, off, rfl, hbw, c0⟩ := Ints.cells hrH (i := 0) (by omega) (Below.refl _ _)
      have e0 : hs.getD 0 0 = hs[0] := by rw [List.getD_eq_getElem?_getD, List.getElem?_eq_getElem (by omega), Option.getD_some]
      rw [e0] at hf
      rw [Nat.add_zero] at c0
      generalize hs[0] = h0 at *
      have HXX := hide hrH; clear hrH e0
      have y0 : (0 : Int) < (hs.length : Int) := by omega
      by_cases z1 : h0 = 0
      · have z1b : (h0 == 0) = true := by simp [z1]
        by_cases z2 : bl.length = 0
        · have z2b : ((bl.length : Int) == 0) = true := by simp [z2]
          have hf2 : f = true := by rw [hf, decide_eq_true z1, decide_eq_true z2]; rfl
          clear hf; subst hf2
          clear z1 z2
          go_wp2_with fail
          go_meet
          exact ⟨rfl, HB.out⟩
        · have z2b : ((bl.length : Int) == 0) = false := by simp; intro h; exact z2 (by rw [h]; rfl)
          have hf2 : f = false := by rw [hf, decide_eq_true z1, decide_eq_false z2]; rfl
          clear hf; subst hf2
          clear z1 z2
          go_wp2_with fail
          go_meet
          exact ⟨rfl, HB.out⟩
      · have z1b : (h0 == 0) = false := by simp [z1]
        have hf2 : f = false := by rw [hf, decide_eq_false z1]; rfl
        clear hf; subst hf2
        clear z1
        go_wp2_with fail
        go_meet
        exact ⟨rfl, HB.out⟩
  case rest =>
    obtain ⟨rfl, hbel⟩ := hcut
    skip
    go_upto_if 116 with fail
    go_cut [] from 116 to 116 (fun wx => Below w.heap.size w wx)
    case first =>
      go_wp2_with fail
      go_meet
      exact hbel
    case rest =>
      apply_assumption
      exact cont2 A cap code w HCODE.out _ hcut _ _ _ _ _ _ _ _ _ _ _ _ _ _ _ _ _ _ _ _ _ _ _ _ _ _ _ _ _ _ _ _ _ _ _ _ _ _ _ _ _ _ _ _ _ _ _ _ _ _ _ _ _ _ _ _ _ _ _ _ _ _ _ _ _ _ _ _ _ _ _ _ _ _ _ _ _ _ _ _ _ _ _ _ _ _ _ _ _ _ _ _ _ _ _ _ _ _ _ _ _ _ _ _ _ _ _ _ _ _ _ _ _ _ _ _ _ _ _ _ _ _ _ _ _ _ _ _ _ _ _ _ _ _ _ _ _ _ _ _ _ _ _ _ _ _ _ _ _ _ _ _ _ _ _ _ _ _ _ _ _ _ _ _ _ _ _ _ _ _ _ _ _ _ _ _ _ _ _ _ _ _ _ _ _ _ _ _ _ _ _ _ _ _ _ _ _ _ _ _ _ _ _ _ _ _ _ _ _ _ _ _ _ _ _ _ _ _ _ _ _ _ _ _ _ _ _ _ _ _ _ _ _ _ _ _ _ _ _ _ _ _ _ _ _ _ _ _ _ _ _ _ _ _ _ _ _ _ _ _ _ _ _ _ _ _ _ _ _ _ _ _ _ _ _ _ _ _ _ _ _ _ _ _ _ _ _ _ _ _ _ _ _ _ _ _ _
end Go.Proofs.Ytijjecckfcbaoaa
