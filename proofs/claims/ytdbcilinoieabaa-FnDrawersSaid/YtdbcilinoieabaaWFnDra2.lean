/- The last part of FnDrawers: from region 26 on the law returns true. No condition. (Printed by mkfndrawers.py.) -/
import Derived.Test.YtdbcilinoieabaaL5S
import Derived.Test.YtdbcilinoieabaaLw5
import Derived.Test.YtdbcilinoieabaaD5D
import Derived.Test.YtdbcilinoieabaaSec
namespace Go.Proofs.Ytdbcilinoieabaa
open Go.RowKit
set_option linter.unusedVariables false
noncomputable def tail_drawers2 : Go.Code := (Try.f5.body.bind (codeTail 26)).getD .skip
set_option maxRecDepth 1000000 in
set_option maxHeartbeats 8000000 in
theorem drawers2 (A : Option Addr) (cap : Nat) (code : List Int) (w : World) (hcode : Code w (.slice A code.length cap) A cap code) (wc : World) (hbel : Below w.heap.size w wc) (u1 u2 u3 u4 u5 u6 u7 u8 u9 u10 u11 u12 u13 u14 u15 u16 u17 u18 u19 u20 u21 u22 u23 u24 u25 u26 u27 u28 u29 u30 u31 u32 u33 u34 u35 u36 u37 u38 u39 u40 u41 u42 u43 u44 u45 u46 u47 u48 u49 u50 u51 u52 u53 u54 u55 u56 u57 u58 u59 u60 u61 u62 u63 u64 u65 u66 u67 u68 u69 u70 u71 u72 u73 u74 u75 u76 u77 u78 u79 u80 u81 u82 u83 u84 u85 u86 u87 u88 u89 u90 u91 u92 u93 u94 u95 u96 u97 u98 u99 u100 u101 u102 u103 u104 u105 u106 u107 u108 u109 u110 u111 u112 u113 u114 u115 u116 u117 u118 u119 u120 u121 u122 u123 u124 u125 u126 u127 u128 u129 u130 u131 u132 u133 u134 u135 u136 u137 u138 u139 u140 u141 u142 u143 u144 u145 u146 u147 u148 u149 u150 u151 u152 u153 u154 u155 u156 u157 u158 u159 u160 u161 u162 u163 u164 u165 u166 u167 u168 u169 u170 u171 u172 u173 u174 u175 u176 u177 u178 u179 u180 u181 u182 u183 u184 u185 u186 u187 u188 u189 u190 u191 u192 u193 u194 u195 u196 u197 u198 u199 u200 u201 u202 u203 u204 u205 u206 u207 u208 u209 u210 u211 u212 u213 : Value) (fs : List SFlat) (ds : List DrV) (hfit : fitG fs) (hv : Is 4 SFlat.enc wc u3 fs) (hu : IsD wc u4 ds) :
    Go.Code.wp Try.prog tail_drawers2 (bodyPost Try.prog Try.f5 fun e w' => e = .returned (.bool true) ∧ Below w.heap.size w w') ⟨#[.slice A code.length cap, u1, u2, u3, u4, u5, u6, u7, u8, u9, u10, u11, u12, u13, u14, u15, u16, u17, u18, u19, u20, u21, u22, u23, u24, u25, u26, u27, u28, u29, u30, u31, u32, u33, u34, u35, u36, u37, u38, u39, u40, u41, u42, u43, u44, u45, u46, u47, u48, u49, u50, u51, u52, u53, u54, u55, u56, u57, u58, u59, u60, u61, u62, u63, u64, u65, u66, u67, u68, u69, u70, u71, u72, u73, u74, u75, u76, u77, u78, u79, u80, u81, u82, u83, u84, u85, u86, u87, u88, u89, u90, u91, u92, u93, u94, u95, u96, u97, u98, u99, u100, u101, u102, u103, u104, u105, u106, u107, u108, u109, u110, u111, u112, u113, u114, u115, u116, u117, u118, u119, u120, u121, u122, u123, u124, u125, u126, u127, u128, u129, u130, u131, u132, u133, u134, u135, u136, u137, u138, u139, u140, u141, u142, u143, u144, u145, u146, u147, u148, u149, u150, u151, u152, u153, u154, u155, u156, u157, u158, u159, u160, u161, u162, u163, u164, u165, u166, u167, u168, u169, u170, u171, u172, u173, u174, u175, u176, u177, u178, u179, u180, u181, u182, u183, u184, u185, u186, u187, u188, u189, u190, u191, u192, u193, u194, u195, u196, u197, u198, u199, u200, u201, u202, u203, u204, u205, u206, u207, u208, u209, u210, u211, u212, u213], []⟩ wc := by
  have HV := hide hv; have HU := hide hu; have HFIT := hide hfit; clear hv hu hfit
  have HCODE := hide hcode; have HB := hide hbel; clear hcode hbel
  conv => arg 2; whnf
  generalize wc = w0 at *
  go_wp2_with fail
  refine (drawDoesFit_is _ _ A cap code (HCODE.out.below HB.out (Nat.le_refl _))).mono ?_; rintro e w1 ⟨z0, z1, z2, z3, d0, d1, d2, d3, rfl, hb⟩
  replace HV := hide (HV.out.below hb (Nat.le_refl _))
  replace HU := hide (HU.out.below hb (Nat.le_refl _))
  replace HB := hide (bstep HB.out hb HB.out.size); clear hb
  go_upto_region 27 with fail
  have hk1 := (Blk.new w1 68 #[.int .i64 z0, .int .i64 z1, .int .i64 z2, .int .i64 z3]).alloc (.cells #[.int .i64 d0, .int .i64 d1, .int .i64 d2, .int .i64 d3, .slice none 0 0] 70)
  have hk2 := Blk.new (w1.alloc (.cells #[.int .i64 z0, .int .i64 z1, .int .i64 z2, .int .i64 z3] 68)) 70 #[.int .i64 d0, .int .i64 d1, .int .i64 d2, .int .i64 d3, .slice none 0 0]
  rw [World.size_alloc] at hk2
  have hbz := (below_alloc w1 (.cells #[.int .i64 z0, .int .i64 z1, .int .i64 z2, .int .i64 z3] 68)).alloc (by simp) (.cells #[.int .i64 d0, .int .i64 d1, .int .i64 d2, .int .i64 d3, .slice none 0 0] 70)
  replace HV := hide (HV.out.below hbz (Nat.le_refl _)); replace HU := hide (HU.out.below hbz (Nat.le_refl _)); replace HB := hide (bstep HB.out hbz HB.out.size); clear hbz
  have HK1 := hide hk1; have HK2 := hide hk2; clear hk1 hk2
  generalize ((w1.alloc (.cells #[.int .i64 z0, .int .i64 z1, .int .i64 z2, .int .i64 z3] 68)).alloc (.cells #[.int .i64 d0, .int .i64 d1, .int .i64 d2, .int .i64 d3, .slice none 0 0] 70)) = w2 at *
  generalize w1.heap.size = b at *
  have cI := fun W => DoesFitI_is z0 z1 z2 z3 d0 d1 d2 d3 none 0 [] W (.inl rfl) (by simp)
  have cS := fun W => DoesFitS_is z0 z1 z2 z3 d0 d1 d2 d3 none 0 [] W (.inl rfl) (by simp)
  simp only [List.length_nil] at cI cS
  generalize (SFlat.okB ⟨z0, z1, z2, z3⟩ && DrV.okB ⟨d0, d1, d2, d3, []⟩ && fitB z1 z2 d1 d2) = kb at *
  generalize (SFlat.okB ⟨z0, z1, z2, z3⟩ && DrV.okB ⟨d0, d1, d2, d3, []⟩) = kc at *
  have cF := fun W hv => AreFlats_is u3 fs W hv
  have cFS := fun W hv => AreFlatsS_is u3 fs W hv
  have cA := fun W (hv : Is 4 SFlat.enc W u3 fs) hu => AreDrawers_any u3 u4 fs ds W hv hu HFIT.out
  have cAS := fun W (hv : Is 4 SFlat.enc W u3 fs) hu => AreDrawersS_is u3 u4 fs ds W hv hu HFIT.out
  generalize goodF fs = gf at *
  generalize goodDs fs ds = gd at *
  have t1 : (kb == kb) = true := by simp
  have t2 : (kc == kc) = true := by simp
  have t3 : (gf == gf) = true := by simp
  have t4 : (gd == gd) = true := by simp
  have CI := hide cI; have CS := hide cS; have CF := hide cF; have CFS := hide cFS; have CA := hide cA; have CAS := hide cAS
  clear cI cS cF cFS cA cAS
  obtain ⟨f0, f1, f2, f3⟩ := fl4 HK1.out
  obtain ⟨g0, g1, g2, g3, g4⟩ := dr5 HK2.out
  go_wp2_with fail
  refine (CI.out _).mono ?_; rintro e w3 ⟨rfl, hb⟩
  replace HV := hide (HV.out.below hb (Nat.le_refl _))
  replace HU := hide (HU.out.below hb (Nat.le_refl _))
  replace HB := hide (bstep HB.out hb HB.out.size)
  replace HK1 := hide (HK1.out.below hb HK1.out.lt); replace HK2 := hide (HK2.out.below hb HK2.out.lt)
  clear hb
  clear f0 f1 f2 f3 g0 g1 g2 g3 g4
  obtain ⟨f0, f1, f2, f3⟩ := fl4 HK1.out
  obtain ⟨g0, g1, g2, g3, g4⟩ := dr5 HK2.out
  go_wp2_with fail
  refine (CS.out _).mono ?_; rintro e w4 ⟨rfl, hb⟩
  replace HV := hide (HV.out.below hb (Nat.le_refl _))
  replace HU := hide (HU.out.below hb (Nat.le_refl _))
  replace HB := hide (bstep HB.out hb HB.out.size)
  replace HK1 := hide (HK1.out.below hb HK1.out.lt); replace HK2 := hide (HK2.out.below hb HK2.out.lt)
  clear hb
  clear f0 f1 f2 f3 g0 g1 g2 g3 g4
  clear HK1 HK2
  go_wp2_with fail
  refine (CF.out _ HV.out).mono ?_; rintro e w5 ⟨rfl, hb⟩
  replace HV := hide (HV.out.below hb (Nat.le_refl _))
  replace HU := hide (HU.out.below hb (Nat.le_refl _))
  replace HB := hide (bstep HB.out hb HB.out.size)
  clear hb
  go_wp2_with fail
  refine (CFS.out _ HV.out).mono ?_; rintro e w6 ⟨rfl, hb⟩
  replace HV := hide (HV.out.below hb (Nat.le_refl _))
  replace HU := hide (HU.out.below hb (Nat.le_refl _))
  replace HB := hide (bstep HB.out hb HB.out.size)
  clear hb
  go_wp2_with fail
  refine (CA.out _ HV.out HU.out).mono ?_; rintro e w7 ⟨rfl, hb⟩
  replace HV := hide (HV.out.below hb (Nat.le_refl _))
  replace HU := hide (HU.out.below hb (Nat.le_refl _))
  replace HB := hide (bstep HB.out hb HB.out.size)
  clear hb
  go_wp2_with fail
  refine (CAS.out _ HV.out HU.out).mono ?_; rintro e w8 ⟨rfl, hb⟩
  replace HV := hide (HV.out.below hb (Nat.le_refl _))
  replace HU := hide (HU.out.below hb (Nat.le_refl _))
  replace HB := hide (bstep HB.out hb HB.out.size)
  clear hb
  go_wp2_with fail
  go_ret
  exact ⟨rfl, HB.out⟩
end Go.Proofs.Ytdbcilinoieabaa
