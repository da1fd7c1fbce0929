/- A part of FnReaders: from region 12 on the law returns true. No condition. (Printed by mkfnreaders.py.) -/
import Derived.Test.YtdbcilinoieabaaWFnRead3
import Derived.Deep.CutBlock
namespace Go.Proofs.Ytdbcilinoieabaa
open Go.RowKit
set_option linter.unusedVariables false
noncomputable def tail_readers2 : Go.Code := (Try.f4.body.bind (codeTail 12)).getD .skip
set_option maxRecDepth 1000000 in
set_option maxHeartbeats 8000000 in
theorem readers2 (A : Option Addr) (cap : Nat) (code : List Int) (w : World) (hcode : Code w (.slice A code.length cap) A cap code) (wc : World) (hbel : Below w.heap.size w wc) (u1 u2 u3 u4 u5 u6 u7 u8 u9 u10 u11 u12 u13 u14 u15 u16 u17 u18 u19 u20 u21 u22 u23 u24 u25 u26 u27 u28 u29 u30 u31 u32 u33 u34 u35 u36 u37 u38 u39 u40 u41 u42 u43 u44 u45 u46 u47 u48 u49 u50 u51 u52 u53 u54 u55 u56 u57 u58 u59 u60 u61 u62 u63 u64 u65 u66 u67 u68 u69 u70 u71 u72 u73 u74 u75 u76 u77 u78 u79 u80 u81 u82 u83 u84 u85 u86 u87 u88 u89 u90 u91 u92 u93 u94 u95 u96 u97 u98 u99 u100 u101 u102 u103 u104 u105 u106 u107 u108 u109 u110 u111 u112 u113 u114 u115 u116 u117 u118 u119 u120 u121 u122 u123 u124 u125 u126 u127 u128 u129 u130 u131 u132 u133 u134 u135 u136 u137 u138 u139 u140 u141 u142 u143 u144 u145 u146 u147 u148 u149 u150 u151 u152 u153 u154 u155 u156 u157 u158 u159 u160 u161 u162 u163 u164 u165 u166 u167 u168 u169 u170 u171 u172 u173 u174 u175 u176 u177 u178 u179 u180 u181 u182 u183 u184 u185 u186 u187 u188 u189 u190 u191 u192 u193 u194 u195 u196 u197 u198 u199 u200 u201 u202 u203 u204 u205 u206 u207 u208 u209 u210 u211 u212 : Value) :
    Go.Code.wp Try.prog tail_readers2 (bodyPost Try.prog Try.f4 fun e w' => e = .returned (.bool true) ∧ Below w.heap.size w w') ⟨#[.slice A code.length cap, u1, u2, u3, u4, u5, u6, u7, u8, u9, u10, u11, u12, u13, u14, u15, u16, u17, u18, u19, u20, u21, u22, u23, u24, u25, u26, u27, u28, u29, u30, u31, u32, u33, u34, u35, u36, u37, u38, u39, u40, u41, u42, u43, u44, u45, u46, u47, u48, u49, u50, u51, u52, u53, u54, u55, u56, u57, u58, u59, u60, u61, u62, u63, u64, u65, u66, u67, u68, u69, u70, u71, u72, u73, u74, u75, u76, u77, u78, u79, u80, u81, u82, u83, u84, u85, u86, u87, u88, u89, u90, u91, u92, u93, u94, u95, u96, u97, u98, u99, u100, u101, u102, u103, u104, u105, u106, u107, u108, u109, u110, u111, u112, u113, u114, u115, u116, u117, u118, u119, u120, u121, u122, u123, u124, u125, u126, u127, u128, u129, u130, u131, u132, u133, u134, u135, u136, u137, u138, u139, u140, u141, u142, u143, u144, u145, u146, u147, u148, u149, u150, u151, u152, u153, u154, u155, u156, u157, u158, u159, u160, u161, u162, u163, u164, u165, u166, u167, u168, u169, u170, u171, u172, u173, u174, u175, u176, u177, u178, u179, u180, u181, u182, u183, u184, u185, u186, u187, u188, u189, u190, u191, u192, u193, u194, u195, u196, u197, u198, u199, u200, u201, u202, u203, u204, u205, u206, u207, u208, u209, u210, u211, u212], []⟩ wc := by
  have HCODE := hide hcode; have HB := hide hbel; clear hcode hbel
  conv => arg 2; whnf
  generalize wc = w0 at *
  go_wp2_with fail
  refine (drawPayFines_is _ _ A cap code (HCODE.out.below HB.out (Nat.le_refl _))).mono ?_; rintro e w1 ⟨v, xs, id, cents, rfl, hfit, hl, hc, ho, hb⟩
  replace HB := hide (bstep HB.out hb HB.out.size); clear hb
  have HX := hide ho.is; clear ho
  have hwf : ∀ z ∈ xs, z.wf := fun z hz => (hfit z hz).wf
  have cP := fun (W : World) (hi : Is 5 SReader.enc W v xs) => PayFines_is v xs id cents W hi hwf
  have cPS := fun (W : World) (hi : Is 5 SReader.enc W v xs) => l3PayFines_is v xs id cents W hi hwf
  have hlaw := @pay_law xs id cents
  generalize (payV xs id cents).1 = pl at *
  generalize (payV xs id cents).2.1 = back at *
  generalize (payV xs id cents).2.2 = fine at *
  have t1 : (back != back) = false := by simp
  have t2 : (fine != fine) = false := by simp
  have CP := hide cP; have CPS := hide cPS; have HLAW := hide hlaw
  clear cP cPS hlaw hfit hwf
  go_wp2_with fail
  refine (CP.out _ HX.out).mono ?_; rintro e w2 ⟨rP, rfl, ho, hb⟩
  replace HX := hide (HX.out.below hb (Nat.le_refl _))
  replace HB := hide (bstep HB.out hb HB.out.size); clear hb
  have HP := hide ho.is; clear ho
  go_wp2_with fail
  refine (CPS.out _ HX.out).mono ?_; rintro e w3 ⟨rQ, rfl, ho, hb⟩
  replace HX := hide (HX.out.below hb (Nat.le_refl _))
  replace HP := hide (HP.out.below hb (Nat.le_refl _))
  replace HB := hide (bstep HB.out hb HB.out.size); clear hb
  have HQ := hide ho.is; clear ho
  go_wp2_with fail
  refine (rReaders_is _ _ _ _ HP.out HQ.out).mono ?_; rintro e w4 ⟨rfl, hb⟩
  replace HX := hide (HX.out.below hb (Nat.le_refl _))
  replace HP := hide (HP.out.below hb (Nat.le_refl _))
  replace HQ := hide (HQ.out.below hb (Nat.le_refl _))
  replace HB := hide (bstep HB.out hb HB.out.size); clear hb
  clear HQ CP CPS
  go_upto_block 0 with fail
  go_cut [23] from 122 to 154 (fun t23 wx => Below w.heap.size w wx)
  case first =>
    obtain ⟨AX, cX, rfl, hrX, _, _⟩ := HX.out
    obtain ⟨AP, cP, rfl, hrP, _, _⟩ := HP.out
    have HRX := hide hrX; have HRP := hide hrP; clear hrX hrP HX HP
    cases fine with
    | false =>
      clear HLAW
      go_wp2_with fail
      go_loopw [23] (fun i wr => i = .int .i64 0 ∧ Below w.heap.size w wr) (fun _ _ => 0)
      case atStart => exact ⟨rfl, HB.out⟩
      case round =>
        obtain ⟨rfl, hbel⟩ := hrel
        have HBL := hide hbel; clear hbel HRX HRP HB
        by_cases hz : 0 < xs.length
        · go_wp2_with fail
          go_meet
          exact HBL.out
        · have hz2 : ¬ ((0 : Int) < xs.length) := by omega
          clear hl
          go_wp2_with fail
          go_meet
          exact HBL.out
    | true =>
      obtain ⟨hpl, hgd, hfb, hbb, hsum⟩ := HLAW.out rfl
      obtain ⟨hb0, hb1⟩ := hbb
      have HPL := hide hpl; have HFB := hide hfb; have HSUM := hide hsum; clear HLAW hpl hgd hfb hsum
      generalize hwl : w4 = wl at *
      have hszl : w.heap.size ≤ wl.heap.size := HB.out.size
      clear hwl
      go_wp2_with fail
      go_loopw [23] (fun i wr => ∃ n : Nat, n ≤ xs.length ∧ i = .int .i64 (n : Int) ∧ Below wl.heap.size wl wr) (fun i _ => xs.length - (intOf i).toNat)
      case atStart => exact ⟨0, Nat.zero_le _, rfl, Below.refl _ _⟩
      case round =>
        obtain ⟨n, hn, rfl, hbel⟩ := hrel
        by_cases hlt : n < xs.length
        · obtain ⟨b, off, rfl, hb, c0, c1, c2, c3, c4⟩ := SReader.cells HRX.out hlt hbel
          obtain ⟨b2, off2, rfl, hb2, d0, d1, d2, d3, d4⟩ := SReader.cells HRP.out (i := n) (by rw [HPL.out]; exact hlt) hbel
          have hfb := HFB.out n hlt
          have hsum := HSUM.out n hlt
          rw [SReader.at_lt hlt, SReader.at_lt (show n < pl.length by rw [HPL.out]; exact hlt)] at hfb
          rw [SReader.at_lt hlt, SReader.at_lt (show n < pl.length by rw [HPL.out]; exact hlt)] at hsum
          obtain ⟨⟨f0, f1⟩, f2, f3⟩ := hfb
          have hnp : (n : Int) < pl.length := by rw [HPL.out]; omega
          have hnp2 : n < pl.length := by omega
          generalize xs[n].ident = y0 at *; generalize xs[n].fines = y4 at *; generalize pl[n].fines = z4 at *
          have hlt2 : (n : Int) < xs.length := by omega
          have HLT := hide hlt2
          clear c1 c2 c3 d0 d1 d2 d3
          by_cases he : y0 = id
          · have hs := hsum he
            have h1 : (y0 == id) = true := by simpa using he
            have h2 : (y4 - z4 + back != cents) = false := by simpa using hs
            clear hs he hsum
            go_wp2_with fail
            go_quiet (fail)
            all_goals
              go_wp2_with fail
              go_round
              case measure => (have hq := HLT.out; simp [intOf]; omega)
              case rel => have hq := HLT.out; exact ⟨n + 1, by omega, by go_num, below_drewN hbel _⟩
          · have h1 : (y0 == id) = false := by simpa using he
            clear he hsum
            go_wp2_with fail
            go_quiet (fail)
            all_goals
              go_wp2_with fail
              go_round
              case measure => (have hq := HLT.out; simp [intOf]; omega)
              case rel => have hq := HLT.out; exact ⟨n + 1, by omega, by go_num, below_drewN hbel _⟩
        · have hk : n = xs.length := by omega
          have HK := hide hk; clear hk hl
          go_wp2_with fail
          go_meet
          exact HB.out.trans (hbel.mono hszl)
  case rest =>
    apply_assumption
    exact readers3 A cap code w HCODE.out _ hcut _ _ _ _ _ _ _ _ _ _ _ _ _ _ _ _ _ _ _ _ _ _ _ _ _ _ _ _ _ _ _ _ _ _ _ _ _ _ _ _ _ _ _ _ _ _ _ _ _ _ _ _ _ _ _ _ _ _ _ _ _ _ _ _ _ _ _ _ _ _ _ _ _ _ _ _ _ _ _ _ _ _ _ _ _ _ _ _ _ _ _ _ _ _ _ _ _ _ _ _ _ _ _ _ _ _ _ _ _ _ _ _ _ _ _ _ _ _ _ _ _ _ _ _ _ _ _ _ _ _ _ _ _ _ _ _ _ _ _ _ _ _ _ _ _ _ _ _ _ _ _ _ _ _ _ _ _ _ _ _ _ _ _ _ _ _ _ _ _ _ _ _ _ _ _ _ _ _ _ _ _ _ _ _ _ _ _ _ _ _ _ _ _ _ _ _ _ _ _ _ _ _ _ _ _ _ _ _ _ _ _ _
end Go.Proofs.Ytdbcilinoieabaa
