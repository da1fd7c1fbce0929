/- The last part of FnStored: from region 25 on the law returns true. No condition. (Printed by mkfnstored.py.) -/
import Derived.Test.YtdbcilinoieabaaL6E
import Derived.Test.YtdbcilinoieabaaLw5
import Derived.Test.YtdbcilinoieabaaD6A
import Derived.Test.YtdbcilinoieabaaSec
namespace Go.Proofs.Ytdbcilinoieabaa
open Go.RowKit
set_option linter.unusedVariables false
noncomputable def tail_stored2 : Go.Code := (Try.f7.body.bind (codeTail 25)).getD .skip
set_option maxRecDepth 1000000 in
set_option maxHeartbeats 8000000 in
theorem stored2 (A : Option Addr) (cap : Nat) (code : List Int) (w : World) (hcode : Code w (.slice A code.length cap) A cap code) (wc : World) (hbel : Below w.heap.size w wc) (u1 u2 u3 u4 u5 u6 u7 u8 u9 u10 u11 u12 u13 u14 u15 u16 u17 u18 u19 u20 u21 u22 u23 u24 u25 u26 u27 u28 u29 u30 u31 u32 u33 u34 u35 u36 u37 u38 u39 u40 u41 u42 u43 u44 u45 u46 u47 u48 u49 u50 u51 u52 u53 u54 u55 u56 u57 u58 u59 u60 u61 u62 u63 u64 u65 u66 u67 u68 u69 u70 u71 u72 u73 u74 u75 u76 u77 u78 u79 u80 u81 u82 u83 u84 u85 u86 u87 u88 u89 u90 u91 u92 u93 u94 u95 u96 u97 u98 u99 u100 u101 u102 u103 u104 u105 u106 u107 u108 u109 u110 u111 u112 u113 u114 u115 u116 u117 u118 u119 u120 u121 u122 u123 u124 u125 u126 u127 u128 u129 u130 u131 u132 u133 u134 u135 u136 u137 u138 u139 u140 u141 u142 u143 u144 u145 u146 u147 u148 u149 u150 u151 u152 u153 u154 u155 u156 u157 u158 u159 u160 u161 u162 u163 u164 u165 u166 u167 u168 u169 u170 u171 u172 u173 u174 u175 u176 u177 u178 u179 u180 u181 u182 u183 u184 u185 u186 u187 u188 u189 u190 u191 u192 u193 u194 u195 u196 u197 u198 u199 u200 u201 u202 u203 u204 u205 u206 u207 u208 : Value) (fs : List SFlat) (ds : List DrV) (hfit : fitG fs) (hv : Is 4 SFlat.enc wc u3 fs) (hu : IsD wc u4 ds) :
    Go.Code.wp Try.prog tail_stored2 (bodyPost Try.prog Try.f7 fun e w' => e = .returned (.bool true) ∧ Below w.heap.size w w') ⟨#[.slice A code.length cap, u1, u2, u3, u4, u5, u6, u7, u8, u9, u10, u11, u12, u13, u14, u15, u16, u17, u18, u19, u20, u21, u22, u23, u24, u25, u26, u27, u28, u29, u30, u31, u32, u33, u34, u35, u36, u37, u38, u39, u40, u41, u42, u43, u44, u45, u46, u47, u48, u49, u50, u51, u52, u53, u54, u55, u56, u57, u58, u59, u60, u61, u62, u63, u64, u65, u66, u67, u68, u69, u70, u71, u72, u73, u74, u75, u76, u77, u78, u79, u80, u81, u82, u83, u84, u85, u86, u87, u88, u89, u90, u91, u92, u93, u94, u95, u96, u97, u98, u99, u100, u101, u102, u103, u104, u105, u106, u107, u108, u109, u110, u111, u112, u113, u114, u115, u116, u117, u118, u119, u120, u121, u122, u123, u124, u125, u126, u127, u128, u129, u130, u131, u132, u133, u134, u135, u136, u137, u138, u139, u140, u141, u142, u143, u144, u145, u146, u147, u148, u149, u150, u151, u152, u153, u154, u155, u156, u157, u158, u159, u160, u161, u162, u163, u164, u165, u166, u167, u168, u169, u170, u171, u172, u173, u174, u175, u176, u177, u178, u179, u180, u181, u182, u183, u184, u185, u186, u187, u188, u189, u190, u191, u192, u193, u194, u195, u196, u197, u198, u199, u200, u201, u202, u203, u204, u205, u206, u207, u208], []⟩ wc := by
  have HV := hide hv; have HU := hide hu; have HFIT := hide hfit; clear hv hu hfit
  have HCODE := hide hcode; have HB := hide hbel; clear hcode hbel
  conv => arg 2; whnf
  generalize wc = w0 at *
  go_wp2_with fail
  refine (drawTightestFor_is _ _ A cap code (HCODE.out.below HB.out (Nat.le_refl _))).mono ?_; rintro e w1 ⟨v2, u2, fs2, ds2, x2, rfl, hfit2, hl2, hv2, hu2, hb⟩
  replace HV := hide (HV.out.below hb (Nat.le_refl _))
  replace HU := hide (HU.out.below hb (Nat.le_refl _))
  replace HB := hide (bstep HB.out hb HB.out.size); clear hb
  have HV2 := hide hv2; clear hv2
  have HU2 := hide hu2; clear hu2
  have cI := fun W hv hu => TightestFor_is v2 u2 fs2 ds2 x2 W hv hu hfit2
  have cS := fun W hv hu => TightestForS_is v2 u2 fs2 ds2 x2 W hv hu hfit2
  generalize (tiForV fs2 ds2 x2).1 = ti at *
  generalize (tiForV fs2 ds2 x2).2 = tb at *
  have cE := fun W hv hu => EmptyDrawersI_is u3 u4 fs ds W hv hu HFIT.out
  have cES := fun W hv hu => EmptyDrawersS_is u3 u4 fs ds W hv hu HFIT.out
  generalize (emA fs ds).1 = em at *
  generalize (emA fs ds).2 = eb at *
  have t1 : (ti != ti) = false := by simp
  have t2 : (tb != tb) = false := by simp
  have t3 : (eb == eb) = true := by simp
  have CI := hide cI; have CS := hide cS; have CE := hide cE; have CES := hide cES
  clear cI cS cE cES hfit2 hl2
  go_wp2_with fail
  refine (CI.out _ HV2.out HU2.out).mono ?_; rintro e w2 ⟨rfl, hb⟩
  replace HV := hide (HV.out.below hb (Nat.le_refl _))
  replace HU := hide (HU.out.below hb (Nat.le_refl _))
  replace HV2 := hide (HV2.out.below hb (Nat.le_refl _))
  replace HU2 := hide (HU2.out.below hb (Nat.le_refl _))
  replace HB := hide (bstep HB.out hb HB.out.size); clear hb
  go_wp2_with fail
  refine (CS.out _ HV2.out HU2.out).mono ?_; rintro e w3 ⟨rfl, hb⟩
  replace HV := hide (HV.out.below hb (Nat.le_refl _))
  replace HU := hide (HU.out.below hb (Nat.le_refl _))
  replace HV2 := hide (HV2.out.below hb (Nat.le_refl _))
  replace HU2 := hide (HU2.out.below hb (Nat.le_refl _))
  replace HB := hide (bstep HB.out hb HB.out.size); clear hb
  clear HV2 HU2 CI CS
  go_wp2_with fail
  refine (CE.out _ HV.out HU.out).mono ?_; rintro e w4 ⟨rE, rfl, he, hb⟩
  replace HV := hide (HV.out.below hb (Nat.le_refl _))
  replace HU := hide (HU.out.below hb (Nat.le_refl _))
  replace HB := hide (bstep HB.out hb HB.out.size); clear hb
  have HE := hide he; clear he
  go_wp2_with fail
  refine (CES.out _ HV.out HU.out).mono ?_; rintro e w5 ⟨rG, rfl, hgg, hb⟩
  replace HV := hide (HV.out.below hb (Nat.le_refl _))
  replace HU := hide (HU.out.below hb (Nat.le_refl _))
  replace HE := hide (HE.out.below hb (Nat.le_refl _))
  replace HB := hide (bstep HB.out hb HB.out.size); clear hb
  have HG := hide hgg; clear hgg
  go_wp2_with fail
  refine (rInts_is _ _ _ _ HE.out HG.out).mono ?_; rintro e w6 ⟨rfl, hb⟩
  replace HV := hide (HV.out.below hb (Nat.le_refl _))
  replace HU := hide (HU.out.below hb (Nat.le_refl _))
  replace HE := hide (HE.out.below hb (Nat.le_refl _))
  replace HG := hide (HG.out.below hb (Nat.le_refl _))
  replace HB := hide (bstep HB.out hb HB.out.size); clear hb
  go_wp2_with fail
  go_ret
  exact ⟨rfl, HB.out⟩
end Go.Proofs.Ytdbcilinoieabaa
