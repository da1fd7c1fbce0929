/- A middle part of FnRunoff: from region 20 on the law returns true. No condition. (Printed by mkfnrun.py.) -/
import Derived.Test.YtomcdkkjknphpaaWFnRun3
namespace Go.Proofs.Ytomcdkkjknphpaa
open Go.RowKit
set_option linter.unusedVariables false
noncomputable def tail_run2 : Go.Code := (Try.f14.body.bind (codeTail 20)).getD .skip
set_option maxRecDepth 1000000 in
set_option maxHeartbeats 8000000 in
theorem run2 (A : Option Addr) (cap : Nat) (code : List Int) (w : World) (hcode : Code w (.slice A code.length cap) A cap code) (wc : World) (hbel : Below w.heap.size w wc) (u1 u2 u3 u4 u5 u6 u7 u8 u9 u10 u11 u12 u13 u14 u15 u16 u17 u18 u19 u20 u21 u22 u23 u24 u25 u26 u27 u28 u29 u30 u31 u32 u33 u34 u35 u36 u37 u38 u39 u40 u41 u42 u43 u44 u45 u46 u47 u48 u49 u50 u51 u52 u53 u54 u55 u56 u57 u58 u59 u60 u61 u62 u63 u64 u65 u66 u67 u68 u69 u70 u71 u72 u73 u74 u75 u76 u77 u78 u79 u80 u81 u82 u83 u84 u85 u86 u87 u88 u89 u90 u91 u92 u93 u94 u95 u96 u97 u98 u99 u100 u101 u102 u103 u104 u105 u106 u107 u108 u109 u110 u111 u112 u113 u114 u115 u116 u117 u118 u119 u120 u121 u122 u123 u124 u125 u126 u127 u128 u129 u130 u131 u132 u133 u134 u135 u136 u137 u138 u139 u140 u141 u142 u143 u144 u145 u146 u147 u148 u149 u150 u151 u152 u153 u154 u155 u156 u157 u158 u159 u160 u161 u162 u163 u164 u165 u166 u167 u168 u169 u170 u171 u172 u173 u174 u175 u176 u177 u178 u179 u180 u181 u182 u183 u184 u185 u186 u187 u188 u189 u190 u191 u192 u193 u194 u195 u196 u197 u198 u199 u200 u201 u202 u203 u204 u205 u206 u207 u208 u209 u210 u211 u212 u213 u214 u215 u216 u217 u218 u219 u220 u221 u222 u223 u224 u225 u226 u227 u228 u229 u230 u231 u232 u233 u234 u235 u236 u237 u238 u239 u240 u241 u242 u243 u244 u245 u246 u247 u248 u249 u250 u251 u252 u253 u254 u255 u256 u257 u258 u259 u260 u261 u262 u263 u264 u265 u266 u267 u268 u269 u270 u271 u272 u273 u274 u275 u276 u277 u278 u279 u280 u281 u282 u283 u284 u285 u286 u287 u288 u289 u290 u291 u292 u293 u294 u295 u296 u297 u298 u299 u300 u301 u302 u303 u304 u305 u306 u307 u308 : Value) (xss : List (List Int)) (hx : IsG wc u3 xss) :
    Go.Code.wp Try.prog tail_run2 (bodyPost Try.prog Try.f14 fun e w' => e = .returned (.bool true) ∧ Below w.heap.size w w') ⟨#[.slice A code.length cap, u1, u2, u3, u4, u5, u6, u7, u8, u9, u10, u11, u12, u13, u14, u15, u16, u17, u18, u19, u20, u21, u22, u23, u24, u25, u26, u27, u28, u29, u30, u31, u32, u33, u34, u35, u36, u37, u38, u39, u40, u41, u42, u43, u44, u45, u46, u47, u48, u49, u50, u51, u52, u53, u54, u55, u56, u57, u58, u59, u60, u61, u62, u63, u64, u65, u66, u67, u68, u69, u70, u71, u72, u73, u74, u75, u76, u77, u78, u79, u80, u81, u82, u83, u84, u85, u86, u87, u88, u89, u90, u91, u92, u93, u94, u95, u96, u97, u98, u99, u100, u101, u102, u103, u104, u105, u106, u107, u108, u109, u110, u111, u112, u113, u114, u115, u116, u117, u118, u119, u120, u121, u122, u123, u124, u125, u126, u127, u128, u129, u130, u131, u132, u133, u134, u135, u136, u137, u138, u139, u140, u141, u142, u143, u144, u145, u146, u147, u148, u149, u150, u151, u152, u153, u154, u155, u156, u157, u158, u159, u160, u161, u162, u163, u164, u165, u166, u167, u168, u169, u170, u171, u172, u173, u174, u175, u176, u177, u178, u179, u180, u181, u182, u183, u184, u185, u186, u187, u188, u189, u190, u191, u192, u193, u194, u195, u196, u197, u198, u199, u200, u201, u202, u203, u204, u205, u206, u207, u208, u209, u210, u211, u212, u213, u214, u215, u216, u217, u218, u219, u220, u221, u222, u223, u224, u225, u226, u227, u228, u229, u230, u231, u232, u233, u234, u235, u236, u237, u238, u239, u240, u241, u242, u243, u244, u245, u246, u247, u248, u249, u250, u251, u252, u253, u254, u255, u256, u257, u258, u259, u260, u261, u262, u263, u264, u265, u266, u267, u268, u269, u270, u271, u272, u273, u274, u275, u276, u277, u278, u279, u280, u281, u282, u283, u284, u285, u286, u287, u288, u289, u290, u291, u292, u293, u294, u295, u296, u297, u298, u299, u300, u301, u302, u303, u304, u305, u306, u307, u308], []⟩ wc := by
  have HX := hide hx; clear hx
  have HCODE := hide hcode; have HB := hide hbel; clear hcode hbel
  conv => arg 2; whnf
  generalize wc = w20 at *
  have cP := fun (W : World) (hi : IsG W u3 xss) => implPitsOf_any u3 xss W hi
  have cPS := fun (W : World) (hi : IsG W u3 xss) => specPitsOf_any u3 xss W hi
  have hp2 : (pitsV xss).2 = reliefB xss := by unfold pitsV; cases reliefB xss <;> rfl
  have hp1 := fun (h : reliefB xss = true) => (show (pitsV xss).1 = pits xss (allS xss) by unfold pitsV; rw [h]; rfl)
  rw [hp2] at cP cPS
  generalize hP : (pitsV xss).1 = ps at *
  generalize hok : reliefB xss = ok at *
  have t1 : (ok != ok) = false := by simp
  have HOK := hide hok; have HP1 := hide hp1; have CP := hide cP; have CPS := hide cPS
  clear hok hp1 hp2 hP cP cPS
  go_wp2_with fail
  refine (CP.out _ HX.out).mono ?_; rintro e w21 ⟨rP, rfl, ho, hb⟩
  replace HX := hide (HX.out.below hb (Nat.le_refl _))
  replace HB := hide (bstep HB.out hb HB.out.size); clear hb
  have HP := hide ho.is; clear ho
  go_wp2_with fail
  refine (CPS.out _ HX.out).mono ?_; rintro e w22 ⟨rQ, rfl, ho, hb⟩
  replace HX := hide (HX.out.below hb (Nat.le_refl _))
  replace HP := hide (HP.out.below hb (Nat.le_refl _))
  replace HB := hide (bstep HB.out hb HB.out.size); clear hb
  have HQ := hide ho.is; clear ho
  go_wp2_with fail
  refine (vPairs_is _ _ _ _ HP.out HQ.out).mono ?_; rintro e w23 ⟨rfl, hb⟩
  replace HX := hide (HX.out.below hb (Nat.le_refl _))
  replace HP := hide (HP.out.below hb (Nat.le_refl _))
  replace HQ := hide (HQ.out.below hb (Nat.le_refl _))
  replace HB := hide (bstep HB.out hb HB.out.size); clear hb
  clear CP CPS HQ
  go_upto_if 172 with fail
  go_cut [19, 20, 21, 22, 23, 24] from 173 to 218 (fun t19 t20 t21 t22 t23 t24 wx => Below w.heap.size w wx)
  case first =>
    cases ok with
    | false =>
      go_wp2_with fail
      go_meet
      exact HB.out
    | true =>
      have hrel := HOK.out
      have hpe := HP1.out rfl
      subst hpe
      have hcat := fun p hp => @pit_cat xss hrel p hp
      have hall := catSum_all hrel
      have hstep := fun k hk => @catSum_succ xss k hk
      have hrows := fun i hi => @relief_rows xss hrel i hi
      have hl8 := relief_len hrel
      have h0 : catSum xss 0 = 0 := by simp [catSum]
      have hplen : (pits xss (allS xss)).length ≤ 64 := Nat.le_trans (List.length_filter_le _ _) (allS_len hrel)
      generalize pits xss (allS xss) = ps at *
      have HCAT := hide hcat; have HALL := hide hall; have HSTEP := hide hstep; have HROWS := hide hrows; have H0 := hide h0
      clear hcat hall hstep hrows h0 HOK HP1 hrel
      obtain ⟨AX, cX, rfl, _⟩ := HX.out.slice9
      obtain ⟨AP, cP, rfl, _, _, _⟩ := HP.out
      go_wp2_with fail
      go_loopw [19, 21] (fun s i wr => ∃ n : Nat, n ≤ ps.length ∧ i = .int .i64 (n : Int) ∧ ∃ t : Nat, s = .int .i64 (t : Int) ∧ t = catSum xss n ∧ t ≤ 64 * n ∧ IsG wr (.slice AX xss.length cX) xss ∧ Is 2 SA2.enc wr (.slice AP ps.length cP) ps ∧ Below w.heap.size w wr) (fun _ i _ => ps.length - (intOf i).toNat)
      case atStart => exact ⟨0, Nat.zero_le _, rfl, 0, rfl, H0.out.symm, by omega, HX.out, HP.out, HB.out⟩
      case round =>
        clear HX HP HB
        obtain ⟨n, hn, rfl, t, rfl, ht, hb1, hx, hp, hbel⟩ := hrel
        have HT := hide ht; have HX := hide hx; have HP := hide hp; have HB := hide hbel; clear ht hx hp hbel
        by_cases hlt : n < ps.length
        · have hlt' : (n : Int) < ps.length := by omega
          obtain ⟨hc, hc1, hc2⟩ := HCAT.out ps[n] (List.getElem_mem hlt)
          have hst := HSTEP.out n hlt
          rw [← HT.out] at hst
          have cC := fun (W : World) (hi : IsG W (.slice AX xss.length cX) xss) => implCatchment_any (.slice AX xss.length cX) xss ps[n].x ps[n].y W hi
          rw [hc] at cC
          obtain ⟨A8, c8, he8, hr8, _, _⟩ := HP.out
          injection he8 with e1 e2 e3; subst e1 e3; clear e2
          obtain ⟨b, off, rfl, hbw, c0, c1⟩ := SA2.cells hr8 hlt (Below.refl _ _)
          have CC := hide cC; have HST := hide hst; have HXd := hide (HX.out.below (Below.refl wr.heap.size wr).drew (Nat.le_refl _)); clear cC hst hc hr8
          generalize catN xss ps[n] = cn at *
          generalize ps[n].x = px at *; generalize ps[n].y = py at *
          have hcn : ¬ (cn : Int) < 1 := by omega
          go_wp2_with fail
          go_region_with (go_at_call 37; refine (CC.out _ HXd.out).mono ?_; rintro e w2 ⟨rfl, hb⟩; have HX2 := hide (HXd.out.below hb (Nat.le_refl _)); have HP2 := hide ((HP.out.below (Below.refl _ _).drew (Nat.le_refl _)).below hb (Nat.le_refl _)); have HB2 := hide (bstep HB.out.drew hb HB.out.drew.size); clear hb)
          all_goals
            go_wp2_with fail
            go_round
            case measure => (first | (simp [intOf]; done) | (simp [intOf] <;> omega))
            case rel => exact ⟨n + 1, by omega, by go_num, t + cn, by go_num, HST.out.symm, by omega, HX2.out, HP2.out, HB2.out⟩
        · have hql : ¬ (n : Int) < ps.length := by omega
          have hte : t = (xss.map List.length).sum := by rw [HT.out, ← HALL.out]; congr 1; omega
          have HTE := hide hte; clear hte HT HP
          go_wp2_with fail
          go_loopw [20, 24] (fun s i wr => ∃ k : Nat, k ≤ xss.length ∧ i = .int .i64 (k : Int) ∧ ∃ q : Nat, s = .int .i64 (q : Int) ∧ q = ((xss.take k).map List.length).sum ∧ q ≤ 8 * k ∧ IsG wr (.slice AX xss.length cX) xss ∧ Below w.heap.size w wr) (fun _ i _ => xss.length - (intOf i).toNat)
          case atStart => exact ⟨0, Nat.zero_le _, rfl, 0, rfl, by simp, by omega, HX.out, HB.out⟩
          case round =>
            clear HX HB
            obtain ⟨k, hk, rfl, q, rfl, hq, hq1, hx, hbel⟩ := hrel
            have HQ := hide hq; have HX := hide hx; have HB := hide hbel; clear hq hx hbel
            by_cases hlk : k < xss.length
            · have hlk' : (k : Int) < xss.length := by omega
              have hs : ((xss.take (k + 1)).map List.length).sum = q + xss[k].length := by rw [take_snoc' hlk, List.map_append, List.sum_append, HQ.out]; simp
              have h8 := (HROWS.out k hlk).1
              obtain ⟨b, off, A1, c1, rfl, d1, i1⟩ := HX.out.row hlk
              have HS := hide hs; clear hs i1
              generalize xss[k].length = m at *
              go_wp2_with fail
              go_round
              case measure => (first | (simp [intOf]; done) | (simp [intOf] <;> omega))
              case rel => exact ⟨k + 1, by omega, by go_num, q + m, by go_num, HS.out.symm, by omega, HX.out, HB.out⟩
            · have hqk : ¬ (k : Int) < xss.length := by omega
              have hqe : q = t := by rw [HQ.out, HTE.out, show k = xss.length by omega, List.take_length]
              clear HQ HTE
              subst hqe
              go_wp2_with fail
              go_meet
              exact HB.out
  case rest =>
    apply_assumption
    exact run3 A cap code w HCODE.out _ hcut _ _ _ _ _ _ _ _ _ _ _ _ _ _ _ _ _ _ _ _ _ _ _ _ _ _ _ _ _ _ _ _ _ _ _ _ _ _ _ _ _ _ _ _ _ _ _ _ _ _ _ _ _ _ _ _ _ _ _ _ _ _ _ _ _ _ _ _ _ _ _ _ _ _ _ _ _ _ _ _ _ _ _ _ _ _ _ _ _ _ _ _ _ _ _ _ _ _ _ _ _ _ _ _ _ _ _ _ _ _ _ _ _ _ _ _ _ _ _ _ _ _ _ _ _ _ _ _ _ _ _ _ _ _ _ _ _ _ _ _ _ _ _ _ _ _ _ _ _ _ _ _ _ _ _ _ _ _ _ _ _ _ _ _ _ _ _ _ _ _ _ _ _ _ _ _ _ _ _ _ _ _ _ _ _ _ _ _ _ _ _ _ _ _ _ _ _ _ _ _ _ _ _ _ _ _ _ _ _ _ _ _ _ _ _ _ _ _ _ _ _ _ _ _ _ _ _ _ _ _ _ _ _ _ _ _ _ _ _ _ _ _ _ _ _ _ _ _ _ _ _ _ _ _ _ _ _ _ _ _ _ _ _ _ _ _ _ _ _ _ _ _ _ _ _ _ _ _ _ _ _ _ _ _ _ _ _ _ _ _ _ _ _ _ _ _ _ _ _ _ _ _ _ _ _ _ _ _
end Go.Proofs.Ytomcdkkjknphpaa
