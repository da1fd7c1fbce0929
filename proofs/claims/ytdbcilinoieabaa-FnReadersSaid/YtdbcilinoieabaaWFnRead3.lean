/- The last part of FnReaders: from region 22 on the law returns true. No condition. (Printed by mkfnreaders.py.) -/
import Derived.Test.YtdbcilinoieabaaL3K
import Derived.Test.YtdbcilinoieabaaLw3
import Derived.Test.YtdbcilinoieabaaD3C
import Derived.Test.YtdbcilinoieabaaSec
namespace Go.Proofs.Ytdbcilinoieabaa
open Go.RowKit
set_option linter.unusedVariables false
noncomputable def tail_readers3 : Go.Code := (Try.f4.body.bind (codeTail 22)).getD .skip
set_option maxRecDepth 1000000 in
set_option maxHeartbeats 8000000 in
theorem readers3 (A : Option Addr) (cap : Nat) (code : List Int) (w : World) (hcode : Code w (.slice A code.length cap) A cap code) (wc : World) (hbel : Below w.heap.size w wc) (u1 u2 u3 u4 u5 u6 u7 u8 u9 u10 u11 u12 u13 u14 u15 u16 u17 u18 u19 u20 u21 u22 u23 u24 u25 u26 u27 u28 u29 u30 u31 u32 u33 u34 u35 u36 u37 u38 u39 u40 u41 u42 u43 u44 u45 u46 u47 u48 u49 u50 u51 u52 u53 u54 u55 u56 u57 u58 u59 u60 u61 u62 u63 u64 u65 u66 u67 u68 u69 u70 u71 u72 u73 u74 u75 u76 u77 u78 u79 u80 u81 u82 u83 u84 u85 u86 u87 u88 u89 u90 u91 u92 u93 u94 u95 u96 u97 u98 u99 u100 u101 u102 u103 u104 u105 u106 u107 u108 u109 u110 u111 u112 u113 u114 u115 u116 u117 u118 u119 u120 u121 u122 u123 u124 u125 u126 u127 u128 u129 u130 u131 u132 u133 u134 u135 u136 u137 u138 u139 u140 u141 u142 u143 u144 u145 u146 u147 u148 u149 u150 u151 u152 u153 u154 u155 u156 u157 u158 u159 u160 u161 u162 u163 u164 u165 u166 u167 u168 u169 u170 u171 u172 u173 u174 u175 u176 u177 u178 u179 u180 u181 u182 u183 u184 u185 u186 u187 u188 u189 u190 u191 u192 u193 u194 u195 u196 u197 u198 u199 u200 u201 u202 u203 u204 u205 u206 u207 u208 u209 u210 u211 u212 : Value) :
    Go.Code.wp Try.prog tail_readers3 (bodyPost Try.prog Try.f4 fun e w' => e = .returned (.bool true) ∧ Below w.heap.size w w') ⟨#[.slice A code.length cap, u1, u2, u3, u4, u5, u6, u7, u8, u9, u10, u11, u12, u13, u14, u15, u16, u17, u18, u19, u20, u21, u22, u23, u24, u25, u26, u27, u28, u29, u30, u31, u32, u33, u34, u35, u36, u37, u38, u39, u40, u41, u42, u43, u44, u45, u46, u47, u48, u49, u50, u51, u52, u53, u54, u55, u56, u57, u58, u59, u60, u61, u62, u63, u64, u65, u66, u67, u68, u69, u70, u71, u72, u73, u74, u75, u76, u77, u78, u79, u80, u81, u82, u83, u84, u85, u86, u87, u88, u89, u90, u91, u92, u93, u94, u95, u96, u97, u98, u99, u100, u101, u102, u103, u104, u105, u106, u107, u108, u109, u110, u111, u112, u113, u114, u115, u116, u117, u118, u119, u120, u121, u122, u123, u124, u125, u126, u127, u128, u129, u130, u131, u132, u133, u134, u135, u136, u137, u138, u139, u140, u141, u142, u143, u144, u145, u146, u147, u148, u149, u150, u151, u152, u153, u154, u155, u156, u157, u158, u159, u160, u161, u162, u163, u164, u165, u166, u167, u168, u169, u170, u171, u172, u173, u174, u175, u176, u177, u178, u179, u180, u181, u182, u183, u184, u185, u186, u187, u188, u189, u190, u191, u192, u193, u194, u195, u196, u197, u198, u199, u200, u201, u202, u203, u204, u205, u206, u207, u208, u209, u210, u211, u212], []⟩ wc := by
  have HCODE := hide hcode; have HB := hide hbel; clear hcode hbel
  conv => arg 2; whnf
  generalize wc = w0 at *
  go_wp2_with fail
  refine (drawRaiseClass_is _ _ A cap code (HCODE.out.below HB.out (Nat.le_refl _))).mono ?_; rintro e w1 ⟨v, xs, y, day, rfl, hfit, hl, hday, ho, hb⟩
  replace HB := hide (bstep HB.out hb HB.out.size); clear hb
  have HX := hide ho.is; clear ho
  have hwf : ∀ z ∈ xs, z.wf := fun z hz => (hfit z hz).wf
  have cP := fun (W : World) (hi : Is 5 SReader.enc W v xs) => RaiseClass_is v xs y day W hi hwf
  have cPS := fun (W : World) (hi : Is 5 SReader.enc W v xs) => l3RaiseClass_is v xs y day W hi hwf hday
  have cR := fun (W : World) (hi : Is 5 SReader.enc W v xs) => RipeReaders_is v xs day W hi hwf
  have cRS := fun (W : World) (hi : Is 5 SReader.enc W v xs) => l3RipeReaders_is v xs day W hi hwf hday
  have hlaw := raise_law xs y day
  generalize (raiseV xs y day).1 = nx at *
  generalize (raiseV xs y day).2 = done at *
  generalize (ripeV xs day).1 = rp at *
  generalize (ripeV xs day).2 = told at *
  have t1 : (done != done) = false := by simp
  have t2 : (told != told) = false := by simp
  have CP := hide cP; have CPS := hide cPS; have CR := hide cR; have CRS := hide cRS; have HLAW := hide hlaw
  clear cP cPS cR cRS hlaw hfit hwf hl hday
  go_wp2_with fail
  refine (CP.out _ HX.out).mono ?_; rintro e w2 ⟨rP, rfl, ho, hb⟩
  replace HX := hide (HX.out.below hb (Nat.le_refl _))
  replace HB := hide (bstep HB.out hb HB.out.size); clear hb
  have HP := hide ho.is; clear ho
  go_wp2_with fail
  refine (CPS.out _ HX.out).mono ?_; rintro e w3 ⟨rQ, rfl, ho, hb⟩
  replace HX := hide (HX.out.below hb (Nat.le_refl _))
  replace HP := hide (HP.out.below hb (Nat.le_refl _))
  replace HB := hide (bstep HB.out hb HB.out.size); clear hb
  have HQ := hide ho.is; clear ho
  go_wp2_with fail
  refine (rReaders_is _ _ _ _ HP.out HQ.out).mono ?_; rintro e w4 ⟨rfl, hb⟩
  replace HX := hide (HX.out.below hb (Nat.le_refl _))
  replace HP := hide (HP.out.below hb (Nat.le_refl _))
  replace HQ := hide (HQ.out.below hb (Nat.le_refl _))
  replace HB := hide (bstep HB.out hb HB.out.size); clear hb
  clear HQ HP CP CPS
  go_wp2_with fail
  refine (CR.out _ HX.out).mono ?_; rintro e w5 ⟨rR, rfl, ho, hb⟩
  replace HX := hide (HX.out.below hb (Nat.le_refl _))
  replace HB := hide (bstep HB.out hb HB.out.size); clear hb
  have HR := hide ho.is; clear ho
  go_wp2_with fail
  refine (CRS.out _ HX.out).mono ?_; rintro e w6 ⟨rQ, rfl, ho, hb⟩
  replace HX := hide (HX.out.below hb (Nat.le_refl _))
  replace HR := hide (HR.out.below hb (Nat.le_refl _))
  replace HB := hide (bstep HB.out hb HB.out.size); clear hb
  have HQ := hide ho.is; clear ho
  go_wp2_with fail
  refine (rInts_is _ _ _ _ HR.out HQ.out).mono ?_; rintro e w7 ⟨rfl, hb⟩
  replace HX := hide (HX.out.below hb (Nat.le_refl _))
  replace HR := hide (HR.out.below hb (Nat.le_refl _))
  replace HQ := hide (HQ.out.below hb (Nat.le_refl _))
  replace HB := hide (bstep HB.out hb HB.out.size); clear hb
  clear HQ HX CR CRS
  have hd : done = (told && decide (y ∈ rp)) := HLAW.out
  have ch := fun W hi => rHas_is rR rp y W hi
  generalize decide (y ∈ rp) = has at *
  have CH := hide ch; have HD := hide hd; clear ch hd HLAW
  cases told with
  | false =>
    have hz : done = false := HD.out
    subst hz
    go_wp2_with fail
    go_ret
    exact ⟨rfl, HB.out⟩
  | true =>
    have hz : done = has := HD.out
    subst hz
    go_wp2_with fail
    refine (CH.out _ HR.out).mono ?_; rintro e w8 ⟨rfl, hb⟩
    replace HR := hide (HR.out.below hb (Nat.le_refl _))
    replace HB := hide (bstep HB.out hb HB.out.size); clear hb
    go_wp2_with fail
    go_ret
    exact ⟨ret_bool (by simp), HB.out⟩
end Go.Proofs.Ytdbcilinoieabaa
