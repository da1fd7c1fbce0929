/- A part of FnHeirs: from region 12 on the law returns true. Condition: the table of powers of ten is laid. (Printed by mkfnheirs.py.) -/
import Derived.Test.YtapbnggdclpokaaDoorWFnHei3
import Derived.Deep.CutBlock
namespace Go.Proofs.YtapbnggdclpokaaDoor
open Go.RowKit
set_option linter.unusedVariables false
noncomputable def tail_heirs2 : Go.Code := (Tryd.f4.body.bind (codeTail 12)).getD .skip
set_option maxRecDepth 1000000 in
set_option maxHeartbeats 8000000 in
theorem heirs2 (A : Option Addr) (cap : Nat) (code : List Int) (w : World) (hcode : Code w (.slice A code.length cap) A cap code) (wc : World) (hbel : Below w.heap.size w wc) (u1 u2 u3 u4 u5 u6 u7 u8 u9 u10 u11 u12 u13 u14 u15 u16 u17 u18 u19 u20 u21 u22 u23 u24 u25 u26 u27 u28 u29 u30 u31 u32 u33 u34 u35 u36 u37 u38 u39 u40 u41 u42 u43 u44 u45 u46 u47 u48 u49 u50 u51 u52 u53 u54 u55 u56 u57 u58 u59 u60 u61 u62 u63 u64 u65 u66 u67 u68 u69 u70 u71 u72 u73 u74 u75 u76 u77 u78 u79 u80 u81 u82 u83 u84 u85 u86 u87 u88 u89 u90 u91 u92 u93 u94 u95 u96 u97 u98 u99 u100 u101 u102 u103 u104 u105 u106 u107 u108 u109 u110 u111 u112 u113 u114 u115 u116 u117 u118 u119 u120 u121 u122 u123 u124 u125 u126 u127 u128 u129 u130 u131 u132 u133 u134 u135 u136 u137 u138 u139 u140 u141 u142 u143 u144 u145 u146 u147 u148 u149 u150 u151 u152 u153 u154 u155 u156 u157 u158 u159 u160 u161 u162 u163 u164 u165 u166 u167 u168 u169 u170 u171 u172 u173 u174 u175 u176 u177 u178 u179 u180 u181 u182 u183 u184 u185 u186 u187 u188 u189 u190 u191 u192 u193 u194 u195 u196 u197 u198 u199 u200 u201 u202 u203 u204 u205 u206 u207 u208 u209 u210 u211 u212 u213 u214 u215 u216 u217 u218 u219 u220 u221 u222 u223 u224 u225 u226 u227 u228 u229 u230 u231 u232 u233 u234 u235 u236 u237 u238 u239 u240 u241 u242 u243 u244 u245 u246 u247 u248 u249 u250 u251 u252 u253 u254 u255 u256 u257 u258 u259 u260 u261 u262 u263 u264 u265 u266 u267 u268 u269 u270 u271 u272 u273 u274 u275 u276 u277 u278 u279 u280 u281 u282 u283 u284 u285 u286 u287 u288 : Value) (xs : List SMaker) (hwf : ∀ z ∈ xs, z.wf) (hl : xs.length ≤ 12) (hx : Is 5 SMaker.enc wc u3 xs) (ht : Tab w) :
    Go.Code.wp Tryd.prog tail_heirs2 (bodyPost Tryd.prog Tryd.f4 fun e w' => e = .returned (.bool true) ∧ Below w.heap.size w w') ⟨#[.slice A code.length cap, u1, u2, u3, u4, u5, u6, u7, u8, u9, u10, u11, u12, u13, u14, u15, u16, u17, u18, u19, u20, u21, u22, u23, u24, u25, u26, u27, u28, u29, u30, u31, u32, u33, u34, u35, u36, u37, u38, u39, u40, u41, u42, u43, u44, u45, u46, u47, u48, u49, u50, u51, u52, u53, u54, u55, u56, u57, u58, u59, u60, u61, u62, u63, u64, u65, u66, u67, u68, u69, u70, u71, u72, u73, u74, u75, u76, u77, u78, u79, u80, u81, u82, u83, u84, u85, u86, u87, u88, u89, u90, u91, u92, u93, u94, u95, u96, u97, u98, u99, u100, u101, u102, u103, u104, u105, u106, u107, u108, u109, u110, u111, u112, u113, u114, u115, u116, u117, u118, u119, u120, u121, u122, u123, u124, u125, u126, u127, u128, u129, u130, u131, u132, u133, u134, u135, u136, u137, u138, u139, u140, u141, u142, u143, u144, u145, u146, u147, u148, u149, u150, u151, u152, u153, u154, u155, u156, u157, u158, u159, u160, u161, u162, u163, u164, u165, u166, u167, u168, u169, u170, u171, u172, u173, u174, u175, u176, u177, u178, u179, u180, u181, u182, u183, u184, u185, u186, u187, u188, u189, u190, u191, u192, u193, u194, u195, u196, u197, u198, u199, u200, u201, u202, u203, u204, u205, u206, u207, u208, u209, u210, u211, u212, u213, u214, u215, u216, u217, u218, u219, u220, u221, u222, u223, u224, u225, u226, u227, u228, u229, u230, u231, u232, u233, u234, u235, u236, u237, u238, u239, u240, u241, u242, u243, u244, u245, u246, u247, u248, u249, u250, u251, u252, u253, u254, u255, u256, u257, u258, u259, u260, u261, u262, u263, u264, u265, u266, u267, u268, u269, u270, u271, u272, u273, u274, u275, u276, u277, u278, u279, u280, u281, u282, u283, u284, u285, u286, u287, u288], []⟩ wc := by
  have HX := hide hx; have HWF := hide hwf; clear hx hwf
  have HT := hide ht; clear ht
  have HCODE := hide hcode; have HB := hide hbel; clear hcode hbel
  conv => arg 2; whnf
  generalize wc = w0 at *
  have cF := fun (W : World) (hi : Is 5 SMaker.enc W u3 xs) => implFounderIds_any u3 xs W hi HWF.out
  have cFS := fun (W : World) (hi : Is 5 SMaker.enc W u3 xs) => specFounderIds_any u3 xs W hi HWF.out
  have hlaw := fun (i : Nat) (hi : i < xs.length) => decide_eq_false (@fou_law xs i hi)
  generalize (fouV xs).1 = fs at *
  generalize (fouV xs).2 = fine at *
  have t1 : (fine != fine) = false := by simp
  have CF := hide cF; have CFS := hide cFS; have HLAW := hide hlaw
  clear cF cFS hlaw
  go_wp2_with fail
  refine (CF.out _ HX.out).mono ?_; rintro e w1 ⟨rP, rfl, ho, hb⟩
  replace HX := hide (HX.out.below hb (Nat.le_refl _))
  replace HB := hide (bstep HB.out hb HB.out.size); clear hb
  have HP := hide ho.is; clear ho
  go_wp2_with fail
  refine (CFS.out _ HX.out).mono ?_; rintro e w2 ⟨rQ, rfl, ho, hb⟩
  replace HX := hide (HX.out.below hb (Nat.le_refl _))
  replace HP := hide (HP.out.below hb (Nat.le_refl _))
  replace HB := hide (bstep HB.out hb HB.out.size); clear hb
  have HQ := hide ho.is; clear ho
  go_wp2_with fail
  refine (rInts_is _ _ _ _ HP.out HQ.out).mono ?_; rintro e w3 ⟨rfl, hb⟩
  replace HX := hide (HX.out.below hb (Nat.le_refl _))
  replace HP := hide (HP.out.below hb (Nat.le_refl _))
  replace HQ := hide (HQ.out.below hb (Nat.le_refl _))
  replace HB := hide (bstep HB.out hb HB.out.size); clear hb
  clear HQ CF CFS
  go_upto_block 0 with fail
  go_cut [17] from 129 to 144 (fun t17 wx => Below w.heap.size w wx ∧ Is 5 SMaker.enc wx u3 xs)
  case first =>
    have hX0 := HX.out
    obtain ⟨AX, cX, rfl, hrX, hlX, hcX⟩ := HX.out
    have HRX := hide hrX; clear hrX HX
    have HX := hide hX0; clear hX0
    cases fine with
    | false =>
      clear HLAW HP
      go_wp2_with fail
      go_loopw [17] (fun i wr => i = .int .i64 0 ∧ wr = w3)  (fun _ _ => 0)
      case atStart => exact ⟨rfl, rfl⟩
      case round =>
        obtain ⟨rfl, rfl⟩ := hrel
        clear HRX
        by_cases hz : 0 < xs.length
        · go_wp2_with fail
          go_meet
          exact ⟨HB.out, HX.out⟩
        · have hz2 : ¬ ((0 : Int) < xs.length) := by omega
          clear hl hlX hcX
          go_wp2_with fail
          go_meet
          exact ⟨HB.out, HX.out⟩
    | true =>
      generalize hwl : w3 = wl at *
      have hszl : w.heap.size ≤ wl.heap.size := HB.out.size
      clear hwl
      go_wp2_with fail
      go_loopw [17] (fun i wr => ∃ n : Nat, n ≤ xs.length ∧ i = .int .i64 (n : Int) ∧ Below wl.heap.size wl wr) (fun i _ => xs.length - (intOf i).toNat)
      case atStart => exact ⟨0, Nat.zero_le _, rfl, Below.refl _ _⟩
      case round =>
        obtain ⟨n, hn, rfl, hbel⟩ := hrel
        by_cases hlt : n < xs.length
        · obtain ⟨b, off, rfl, hb, c0, c1, c2, c3, c4⟩ := SMaker.cells HRX.out hlt hbel
          have hno := HLAW.out n hlt
          have hlt2 : (n : Int) < xs.length := by omega
          have HLT := hide hlt2
          generalize xs[n].heir = y4 at *
          have hc := rHas_is rP fs y4 wr (HP.out.below hbel (Nat.le_refl _))
          rw [hno] at hc
          have HC := hide hc; clear hc hno c0 c1 c2 c3
          go_wp2_with fail
          refine HC.out.mono ?_; rintro e w9 ⟨rfl, hb9⟩
          have HB9 := hide (bstep hbel hb9 hbel.size); clear hb9
          clear c4 HC
          go_wp2_with fail
          go_round
          case measure => (have hq := HLT.out; simp [intOf]; omega)
          case rel => have hq := HLT.out; exact ⟨n + 1, by omega, by go_num, HB9.out⟩
        · have hk : n = xs.length := by omega
          have HK := hide hk; clear hk hl hlX hcX
          go_wp2_with fail
          go_meet
          exact ⟨HB.out.trans (hbel.mono hszl), HX.out.below hbel (Nat.le_refl _)⟩
  case rest =>
    apply_assumption
    exact heirs3 A cap code w HCODE.out _ hcut.1 _ _ _ _ _ _ _ _ _ _ _ _ _ _ _ _ _ _ _ _ _ _ _ _ _ _ _ _ _ _ _ _ _ _ _ _ _ _ _ _ _ _ _ _ _ _ _ _ _ _ _ _ _ _ _ _ _ _ _ _ _ _ _ _ _ _ _ _ _ _ _ _ _ _ _ _ _ _ _ _ _ _ _ _ _ _ _ _ _ _ _ _ _ _ _ _ _ _ _ _ _ _ _ _ _ _ _ _ _ _ _ _ _ _ _ _ _ _ _ _ _ _ _ _ _ _ _ _ _ _ _ _ _ _ _ _ _ _ _ _ _ _ _ _ _ _ _ _ _ _ _ _ _ _ _ _ _ _ _ _ _ _ _ _ _ _ _ _ _ _ _ _ _ _ _ _ _ _ _ _ _ _ _ _ _ _ _ _ _ _ _ _ _ _ _ _ _ _ _ _ _ _ _ _ _ _ _ _ _ _ _ _ _ _ _ _ _ _ _ _ _ _ _ _ _ _ _ _ _ _ _ _ _ _ _ _ _ _ _ _ _ _ _ _ _ _ _ _ _ _ _ _ _ _ _ _ _ _ _ _ _ _ _ _ _ _ _ _ _ _ _ _ _ _ _ _ _ _ _ _ _ _ _ _ _ _ _ _ xs HWF.out hl hcut.2 HT.out
end Go.Proofs.YtapbnggdclpokaaDoor
