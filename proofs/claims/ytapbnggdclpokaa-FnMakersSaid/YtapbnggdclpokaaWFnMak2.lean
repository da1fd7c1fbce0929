/- A part of FnMakers: from region 18 on the law returns true. No condition. (Printed by mkfnmakers2.py.) -/
import Derived.Test.YtapbnggdclpokaaWFnMak3
namespace Go.Proofs.Ytapbnggdclpokaa
open Go.RowKit
set_option linter.unusedVariables false
noncomputable def tail_run2 : Go.Code := (Try.f12.body.bind (codeTail 18)).getD .skip
set_option maxRecDepth 1000000 in
set_option maxHeartbeats 8000000 in
theorem run2 (A : Option Addr) (cap : Nat) (code : List Int) (w : World) (hcode : Code w (.slice A code.length cap) A cap code) (wc : World) (hbel : Below w.heap.size w wc) (u1 u2 u3 u4 u5 u6 u7 u8 u9 u10 u11 u12 u13 u14 u15 u16 u17 u18 u19 u20 u21 u22 u23 u24 u25 u26 u27 u28 u29 u30 u31 u32 u33 u34 u35 u36 u37 u38 u39 u40 u41 u42 u43 u44 u45 u46 u47 u48 u49 u50 u51 u52 u53 u54 u55 u56 u57 u58 u59 u60 u61 u62 u63 u64 u65 u66 u67 u68 u69 u70 u71 u72 u73 u74 u75 u76 u77 u78 u79 u80 u81 u82 u83 u84 u85 u86 u87 u88 u89 u90 u91 u92 u93 u94 u95 u96 u97 u98 u99 u100 u101 u102 u103 u104 u105 u106 u107 u108 u109 u110 u111 u112 u113 u114 u115 u116 u117 u118 u119 u120 u121 u122 u123 u124 u125 u126 u127 u128 u129 u130 u131 u132 u133 u134 u135 u136 u137 u138 u139 u140 u141 u142 u143 u144 u145 u146 u147 u148 u149 u150 u151 u152 u153 u154 u155 u156 u157 u158 u159 u160 u161 u162 u163 u164 u165 u166 u167 u168 u169 u170 u171 u172 u173 u174 u175 u176 u177 u178 u179 u180 u181 u182 u183 u184 u185 u186 u187 u188 u189 u190 u191 u192 u193 u194 u195 u196 u197 u198 u199 u200 u201 u202 u203 u204 u205 u206 u207 u208 u209 u210 u211 u212 u213 u214 u215 u216 u217 u218 u219 u220 u221 u222 u223 u224 u225 u226 u227 : Value) (xs : List SMaker) (a b : Int) (hwf : ∀ z ∈ xs, z.wf) (hx : Is 5 SMaker.enc wc u3 xs) (h4 : u4 = .int .i64 a) (h5 : u5 = .int .i64 b) (h7 : u7 = .bool (fcV xs a b).2) (h11 : u11 = .bool (lineV xs a).2) (h15 : u15 = .bool (lineV xs b).2) :
    Go.Code.wp Try.prog tail_run2 (bodyPost Try.prog Try.f12 fun e w' => e = .returned (.bool true) ∧ Below w.heap.size w w') ⟨#[.slice A code.length cap, u1, u2, u3, u4, u5, u6, u7, u8, u9, u10, u11, u12, u13, u14, u15, u16, u17, u18, u19, u20, u21, u22, u23, u24, u25, u26, u27, u28, u29, u30, u31, u32, u33, u34, u35, u36, u37, u38, u39, u40, u41, u42, u43, u44, u45, u46, u47, u48, u49, u50, u51, u52, u53, u54, u55, u56, u57, u58, u59, u60, u61, u62, u63, u64, u65, u66, u67, u68, u69, u70, u71, u72, u73, u74, u75, u76, u77, u78, u79, u80, u81, u82, u83, u84, u85, u86, u87, u88, u89, u90, u91, u92, u93, u94, u95, u96, u97, u98, u99, u100, u101, u102, u103, u104, u105, u106, u107, u108, u109, u110, u111, u112, u113, u114, u115, u116, u117, u118, u119, u120, u121, u122, u123, u124, u125, u126, u127, u128, u129, u130, u131, u132, u133, u134, u135, u136, u137, u138, u139, u140, u141, u142, u143, u144, u145, u146, u147, u148, u149, u150, u151, u152, u153, u154, u155, u156, u157, u158, u159, u160, u161, u162, u163, u164, u165, u166, u167, u168, u169, u170, u171, u172, u173, u174, u175, u176, u177, u178, u179, u180, u181, u182, u183, u184, u185, u186, u187, u188, u189, u190, u191, u192, u193, u194, u195, u196, u197, u198, u199, u200, u201, u202, u203, u204, u205, u206, u207, u208, u209, u210, u211, u212, u213, u214, u215, u216, u217, u218, u219, u220, u221, u222, u223, u224, u225, u226, u227], []⟩ wc := by
  subst h4 h5 h7 h11 h15
  have HX := hide hx; clear hx
  have HCODE := hide hcode; have HB := hide hbel; clear hcode hbel
  conv => arg 2; whnf
  generalize wc = w18 at *
  have cG := fun (W : World) (hi : Is 5 SMaker.enc W u3 xs) => implFamilies_is u3 xs W hi hwf
  have cGS := fun (W : World) (hi : Is 5 SMaker.enc W u3 xs) => specFamilies_is u3 xs W hi hwf
  have hfam := @fam_law xs a b
  rw [inFam_any] at hfam
  generalize (fcV xs a b).2 = fok at *
  generalize (lineV xs a).2 = oka at *
  generalize (lineV xs b).2 = okb at *
  generalize (famV xs).1 = fam at *
  generalize (famV xs).2 = fine at *
  have t2 : (fok != fok) = false := by simp
  have t5 : (fine != fine) = false := by simp
  have CG := hide cG; have CGS := hide cGS; have HFAM := hide hfam
  clear cG cGS hfam hwf
  go_wp2_with fail
  refine (CG.out _ HX.out).mono ?_; rintro e w19 ⟨rF, rfl, hxg, hb⟩
  replace HX := hide (HX.out.below hb (Nat.le_refl _))
  replace HB := hide (bstep HB.out hb HB.out.size); clear hb
  have HF := hide hxg.isG; clear hxg
  go_wp2_with fail
  refine (CGS.out _ HX.out).mono ?_; rintro e w20 ⟨rT, rfl, hxg, hb⟩
  replace HX := hide (HX.out.below hb (Nat.le_refl _))
  replace HF := hide (HF.out.below hb (Nat.le_refl _))
  replace HB := hide (bstep HB.out hb HB.out.size); clear hb
  have HT := hide hxg.isG; clear hxg
  go_wp2_with fail
  refine (rTable_is _ _ _ _ HF.out HT.out).mono ?_; rintro e w21 ⟨rfl, hb⟩
  replace HX := hide (HX.out.below hb (Nat.le_refl _))
  replace HF := hide (HF.out.below hb (Nat.le_refl _))
  replace HT := hide (HT.out.below hb (Nat.le_refl _))
  replace HB := hide (bstep HB.out hb HB.out.size); clear hb
  clear HT HX CG CGS
  obtain ⟨AX, cX, rfl, _⟩ := HF.out.slice7
  go_wp2_with fail
  go_loopw [22, 23] (fun s i wr => ∃ n : Nat, n ≤ fam.length ∧ i = .int .i64 (n : Int) ∧ s = .bool ((fam.take n).any (inFam a b)) ∧ IsG wr (.slice AX fam.length cX) fam ∧ Below w.heap.size w wr) (fun _ i _ => fam.length - (intOf i).toNat)
  case atStart => exact ⟨0, Nat.zero_le _, rfl, rfl, HF.out, HB.out⟩
  case round =>
    clear HF HB
    obtain ⟨n, hn, rfl, rfl, hf, hbel⟩ := hrel
    generalize wr = w30 at *
    have HF := hide hf; have HB := hide hbel; clear hf hbel
    by_cases hlt : n < fam.length
    · have hlt' : (n : Int) < fam.length := by omega
      have hst : (fam.take (n + 1)).any (inFam a b) = ((fam.take n).any (inFam a b) || inFam a b fam[n]) := by rw [take_snoc' hlt, List.any_append]; simp
      obtain ⟨bb, off, A1, c1, rfl, d1, i1⟩ := HF.out.row7 hlt
      have HST := hide hst; have HI := hide i1; clear hst i1
      skip
      generalize hfn : fam[n] = fn at *
      have HFN := hide hfn
      clear hfn
      generalize (fam.take n).any (inFam a b) = sm at *
      cases sm with
      | true =>
        go_wp2_with fail
        go_roundw
        case measure => (first | (simp [intOf]; done) | (simp [intOf] <;> omega))
        case rel => exact ⟨n + 1, by omega, by go_num, by rw [HST.out]; rfl, HF.out, HB.out⟩
      | false =>
        have ca := fun vv W hi => rHas_is vv fn a W hi
        have cb := fun vv W hi => rHas_is vv fn b W hi
        have hin : inFam a b fn = (decide (a ∈ fn) && decide (b ∈ fn)) := rfl
        generalize decide (a ∈ fn) = da at *; generalize decide (b ∈ fn) = db at *
        have CA := hide ca; have CB := hide cb; have HIN := hide hin; clear ca cb hin
        go_wp2_with fail
        refine (CA.out _ _ HI.out).mono ?_; rintro e w31 ⟨rfl, hb⟩
        replace HF := hide (HF.out.below hb (Nat.le_refl _))
        replace HI := hide (HI.out.below hb (Nat.le_refl _))
        replace HB := hide (bstep HB.out hb HB.out.size); clear hb
        obtain ⟨b9, o9, A9, c9, hA9, d9, i9⟩ := HF.out.row7 hlt
        simp only [Option.some.injEq, Addr.mk.injEq, and_true] at hA9
        obtain ⟨hA1, hA2⟩ := hA9
        subst hA1 hA2
        rw [HFN.out] at d9 i9
        have HI9 := hide i9
        clear i9 HI
        cases da with
        | false =>
          go_wp2_with fail
          go_roundw
          case measure => (first | (simp [intOf]; done) | (simp [intOf] <;> omega))
          case rel => exact ⟨n + 1, by omega, by go_num, by rw [HST.out]; (simp [HIN.out]), HF.out, HB.out⟩
        | true =>
          go_wp2_with fail
          refine (CB.out _ _ HI9.out).mono ?_; rintro e w32 ⟨rfl, hb⟩
          replace HF := hide (HF.out.below hb (Nat.le_refl _))
          replace HI9 := hide (HI9.out.below hb (Nat.le_refl _))
          replace HB := hide (bstep HB.out hb HB.out.size); clear hb
          go_wp2_with fail
          go_roundw
          case measure => (first | (simp [intOf]; done) | (simp [intOf] <;> omega))
          case rel => exact ⟨n + 1, by omega, by go_num, by rw [HST.out]; (simp [HIN.out]), HF.out, HB.out⟩
    · have hnl : n = fam.length := by omega
      subst hnl
      rw [List.take_length]
      generalize fam.any (inFam a b) = sm at *
      clear HF
      have hoo : oka = true → okb = true → sm = fok := fun h1 h2 => HFAM.out h1 h2
      have HOO := hide hoo; clear hoo HFAM
      cases oka with
      | false =>
        go_upto_if 183 with fail
        go_cut [] from 183 to 183 (fun wx => Below w.heap.size w wx)
        case first =>
          go_wp2_with fail
          go_meet
          exact HB.out
        case rest =>
          apply_assumption
          exact run3 A cap code w HCODE.out _ hcut _ _ _ _ _ _ _ _ _ _ _ _ _ _ _ _ _ _ _ _ _ _ _ _ _ _ _ _ _ _ _ _ _ _ _ _ _ _ _ _ _ _ _ _ _ _ _ _ _ _ _ _ _ _ _ _ _ _ _ _ _ _ _ _ _ _ _ _ _ _ _ _ _ _ _ _ _ _ _ _ _ _ _ _ _ _ _ _ _ _ _ _ _ _ _ _ _ _ _ _ _ _ _ _ _ _ _ _ _ _ _ _ _ _ _ _ _ _ _ _ _ _ _ _ _ _ _ _ _ _ _ _ _ _ _ _ _ _ _ _ _ _ _ _ _ _ _ _ _ _ _ _ _ _ _ _ _ _ _ _ _ _ _ _ _ _ _ _ _ _ _ _ _ _ _ _ _ _ _ _ _ _ _ _ _ _ _ _ _ _ _ _ _ _ _ _ _ _ _ _ _ _ _ _ _ _ _ _ _ _ _ _ _ _ _ _ _ _ _ _ _ _ _ _ _ _ _
      | true =>
        cases okb with
        | false =>
          go_upto_if 183 with fail
          go_cut [] from 183 to 183 (fun wx => Below w.heap.size w wx)
          case first =>
            go_wp2_with fail
            go_meet
            exact HB.out
          case rest =>
            apply_assumption
            exact run3 A cap code w HCODE.out _ hcut _ _ _ _ _ _ _ _ _ _ _ _ _ _ _ _ _ _ _ _ _ _ _ _ _ _ _ _ _ _ _ _ _ _ _ _ _ _ _ _ _ _ _ _ _ _ _ _ _ _ _ _ _ _ _ _ _ _ _ _ _ _ _ _ _ _ _ _ _ _ _ _ _ _ _ _ _ _ _ _ _ _ _ _ _ _ _ _ _ _ _ _ _ _ _ _ _ _ _ _ _ _ _ _ _ _ _ _ _ _ _ _ _ _ _ _ _ _ _ _ _ _ _ _ _ _ _ _ _ _ _ _ _ _ _ _ _ _ _ _ _ _ _ _ _ _ _ _ _ _ _ _ _ _ _ _ _ _ _ _ _ _ _ _ _ _ _ _ _ _ _ _ _ _ _ _ _ _ _ _ _ _ _ _ _ _ _ _ _ _ _ _ _ _ _ _ _ _ _ _ _ _ _ _ _ _ _ _ _ _ _ _ _ _ _ _ _ _ _ _ _ _ _ _ _ _ _
        | true =>
          have hs := HOO.out (by trivial) (by trivial)
          subst hs
          go_upto_if 183 with fail
          go_cut [] from 183 to 183 (fun wx => Below w.heap.size w wx)
          case first =>
            go_wp2_with fail
            go_meet
            exact HB.out
          case rest =>
            apply_assumption
            exact run3 A cap code w HCODE.out _ hcut _ _ _ _ _ _ _ _ _ _ _ _ _ _ _ _ _ _ _ _ _ _ _ _ _ _ _ _ _ _ _ _ _ _ _ _ _ _ _ _ _ _ _ _ _ _ _ _ _ _ _ _ _ _ _ _ _ _ _ _ _ _ _ _ _ _ _ _ _ _ _ _ _ _ _ _ _ _ _ _ _ _ _ _ _ _ _ _ _ _ _ _ _ _ _ _ _ _ _ _ _ _ _ _ _ _ _ _ _ _ _ _ _ _ _ _ _ _ _ _ _ _ _ _ _ _ _ _ _ _ _ _ _ _ _ _ _ _ _ _ _ _ _ _ _ _ _ _ _ _ _ _ _ _ _ _ _ _ _ _ _ _ _ _ _ _ _ _ _ _ _ _ _ _ _ _ _ _ _ _ _ _ _ _ _ _ _ _ _ _ _ _ _ _ _ _ _ _ _ _ _ _ _ _ _ _ _ _ _ _ _ _ _ _ _ _ _ _ _ _ _ _ _ _ _ _ _
end Go.Proofs.Ytapbnggdclpokaa
