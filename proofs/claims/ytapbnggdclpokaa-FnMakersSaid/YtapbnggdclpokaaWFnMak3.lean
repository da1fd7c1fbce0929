/- The last part of FnMakers: from region 29 on the law returns true. No condition. (Printed by mkfnmakers2.py.) -/
import Derived.Test.YtapbnggdclpokaaLw7
import Derived.Test.YtapbnggdclpokaaSec
namespace Go.Proofs.Ytapbnggdclpokaa
open Go.RowKit
set_option linter.unusedVariables false
theorem IsG.slice7 {w : World} {v : Value} {xss : List (List Int)} (h : IsG w v xss) : ∃ A cap, v = .slice A xss.length cap ∧ xss.length ≤ 9223372036854775807 := by
  obtain ⟨rs, hmap, his, _⟩ := h
  have hm := his.len
  obtain ⟨A, cap, rfl, _, _, _⟩ := his
  have hl : rs.length = xss.length := by rw [← hmap]; simp
  rw [hl] at hm ⊢
  exact ⟨A, cap, rfl, by omega⟩
theorem IsG.row7 {w : World} {A : Option Addr} {n cap : Nat} {xss : List (List Int)} (h : IsG w (.slice A n cap) xss) {i : Nat} (hi : i < xss.length) :
    ∃ b off A1 cap1, A = some ⟨b, off, none⟩ ∧ w.cell? ⟨b, off + i, none⟩ = some (.slice A1 xss[i].length cap1) ∧ Is 1 encI w (.slice A1 xss[i].length cap1) xss[i] := by
  obtain ⟨rs, hmap, his, hrs⟩ := h
  have hl : rs.length = xss.length := by rw [← hmap]; simp
  have hx : rs[i].xs = xss[i] := by simp [← hmap]
  obtain ⟨A', cap', he, hr, _, _⟩ := his
  injection he with e1; subst e1
  obtain ⟨b, off, rfl, _, c0⟩ := SRow.cell hr (show i < rs.length by omega) (Below.refl _ _)
  have h2 := (hrs _ (List.getElem_mem (show i < rs.length by omega))).is
  rw [hx] at c0 h2
  exact ⟨b, off, _, _, rfl, c0, h2⟩
def inFam (a b : Int) (g : List Int) : Bool := decide (a ∈ g) && decide (b ∈ g)
theorem inFam_any (a b : Int) (l : List (List Int)) : (l.any fun g => g.contains a && g.contains b) = l.any (inFam a b) := by
  congr 1; funext g; unfold inFam
  rw [show g.contains a = decide (a ∈ g) by rw [Bool.eq_iff_iff, List.contains_iff_mem, decide_eq_true_eq], show g.contains b = decide (b ∈ g) by rw [Bool.eq_iff_iff, List.contains_iff_mem, decide_eq_true_eq]]
noncomputable def tail_run3 : Go.Code := (Try.f12.body.bind (codeTail 29)).getD .skip
set_option maxRecDepth 1000000 in
set_option maxHeartbeats 8000000 in
theorem run3 (A : Option Addr) (cap : Nat) (code : List Int) (w : World) (hcode : Code w (.slice A code.length cap) A cap code) (wc : World) (hbel : Below w.heap.size w wc) (u1 u2 u3 u4 u5 u6 u7 u8 u9 u10 u11 u12 u13 u14 u15 u16 u17 u18 u19 u20 u21 u22 u23 u24 u25 u26 u27 u28 u29 u30 u31 u32 u33 u34 u35 u36 u37 u38 u39 u40 u41 u42 u43 u44 u45 u46 u47 u48 u49 u50 u51 u52 u53 u54 u55 u56 u57 u58 u59 u60 u61 u62 u63 u64 u65 u66 u67 u68 u69 u70 u71 u72 u73 u74 u75 u76 u77 u78 u79 u80 u81 u82 u83 u84 u85 u86 u87 u88 u89 u90 u91 u92 u93 u94 u95 u96 u97 u98 u99 u100 u101 u102 u103 u104 u105 u106 u107 u108 u109 u110 u111 u112 u113 u114 u115 u116 u117 u118 u119 u120 u121 u122 u123 u124 u125 u126 u127 u128 u129 u130 u131 u132 u133 u134 u135 u136 u137 u138 u139 u140 u141 u142 u143 u144 u145 u146 u147 u148 u149 u150 u151 u152 u153 u154 u155 u156 u157 u158 u159 u160 u161 u162 u163 u164 u165 u166 u167 u168 u169 u170 u171 u172 u173 u174 u175 u176 u177 u178 u179 u180 u181 u182 u183 u184 u185 u186 u187 u188 u189 u190 u191 u192 u193 u194 u195 u196 u197 u198 u199 u200 u201 u202 u203 u204 u205 u206 u207 u208 u209 u210 u211 u212 u213 u214 u215 u216 u217 u218 u219 u220 u221 u222 u223 u224 u225 u226 u227 : Value) :
    Go.Code.wp Try.prog tail_run3 (bodyPost Try.prog Try.f12 fun e w' => e = .returned (.bool true) ∧ Below w.heap.size w w') ⟨#[.slice A code.length cap, u1, u2, u3, u4, u5, u6, u7, u8, u9, u10, u11, u12, u13, u14, u15, u16, u17, u18, u19, u20, u21, u22, u23, u24, u25, u26, u27, u28, u29, u30, u31, u32, u33, u34, u35, u36, u37, u38, u39, u40, u41, u42, u43, u44, u45, u46, u47, u48, u49, u50, u51, u52, u53, u54, u55, u56, u57, u58, u59, u60, u61, u62, u63, u64, u65, u66, u67, u68, u69, u70, u71, u72, u73, u74, u75, u76, u77, u78, u79, u80, u81, u82, u83, u84, u85, u86, u87, u88, u89, u90, u91, u92, u93, u94, u95, u96, u97, u98, u99, u100, u101, u102, u103, u104, u105, u106, u107, u108, u109, u110, u111, u112, u113, u114, u115, u116, u117, u118, u119, u120, u121, u122, u123, u124, u125, u126, u127, u128, u129, u130, u131, u132, u133, u134, u135, u136, u137, u138, u139, u140, u141, u142, u143, u144, u145, u146, u147, u148, u149, u150, u151, u152, u153, u154, u155, u156, u157, u158, u159, u160, u161, u162, u163, u164, u165, u166, u167, u168, u169, u170, u171, u172, u173, u174, u175, u176, u177, u178, u179, u180, u181, u182, u183, u184, u185, u186, u187, u188, u189, u190, u191, u192, u193, u194, u195, u196, u197, u198, u199, u200, u201, u202, u203, u204, u205, u206, u207, u208, u209, u210, u211, u212, u213, u214, u215, u216, u217, u218, u219, u220, u221, u222, u223, u224, u225, u226, u227], []⟩ wc := by
  have HCODE := hide hcode; have HB := hide hbel; clear hcode hbel
  conv => arg 2; whnf
  generalize wc = w40 at *
  go_wp2_with fail
  refine (drawKeeperIn_is _ _ A cap code (HCODE.out.below HB.out (Nat.le_refl _))).mono ?_; rintro e w41 ⟨v, xs, c, y, rfl, hwf, hl, ho, hb⟩
  replace HB := hide (bstep HB.out hb HB.out.size); clear hb
  have HX := hide ho.is; clear ho
  have cK := fun (W : World) (hi : Is 5 SMaker.enc W v xs) => implKeeperIn_any v xs c y W hi hwf
  have cKS := fun (W : World) (hi : Is 5 SMaker.enc W v xs) => specKeeperIn_any v xs c y W hi hwf
  have cL := fun (W : World) (hi : Is 5 SMaker.enc W v xs) => implLineOf_any v xs c W hi hwf
  have hk := fun h => let q := @keep_law xs c y h; And.intro (show (lineV xs c).2 = true by rw [line_two]; exact q.1) (List.contains_iff_mem.1 q.2)
  generalize (keepV xs c y).1 = kp at *
  generalize (keepV xs c y).2 = told at *
  generalize (lineV xs c).1 = lc at *
  generalize (lineV xs c).2 = okc at *
  have t1 : (kp != kp) = false := by simp
  have t2 : (told != told) = false := by simp
  have CK := hide cK; have CKS := hide cKS; have CL := hide cL; have HK := hide hk
  clear cK cKS cL hk hwf hl
  go_wp2_with fail
  refine (CK.out _ HX.out).mono ?_; rintro e w42 ⟨rfl, hb⟩
  replace HX := hide (HX.out.below hb (Nat.le_refl _))
  replace HB := hide (bstep HB.out hb HB.out.size); clear hb
  go_wp2_with fail
  refine (CKS.out _ HX.out).mono ?_; rintro e w43 ⟨rfl, hb⟩
  replace HX := hide (HX.out.below hb (Nat.le_refl _))
  replace HB := hide (bstep HB.out hb HB.out.size); clear hb
  go_wp2_with fail
  refine (CL.out _ HX.out).mono ?_; rintro e w44 ⟨rP, rfl, ho, hb⟩
  replace HX := hide (HX.out.below hb (Nat.le_refl _))
  replace HB := hide (bstep HB.out hb HB.out.size); clear hb
  have HP := hide ho.is; clear ho
  cases told with
  | false =>
    go_wp2_with fail
    go_ret
    exact ⟨rfl, HB.out⟩
  | true =>
    obtain ⟨hq1, hq2⟩ := HK.out (by trivial)
    subst hq1
    have d1 := decide_eq_true hq2
    have ch := fun W hi => rHas_is rP lc kp W hi
    simp only [d1] at ch
    have CH := hide ch; clear ch d1 hq2
    go_wp2_with fail
    refine (CH.out _ HP.out).mono ?_; rintro e w45 ⟨rfl, hb⟩
    replace HP := hide (HP.out.below hb (Nat.le_refl _))
    replace HB := hide (bstep HB.out hb HB.out.size); clear hb
    go_wp2_with fail
    go_ret
    exact ⟨rfl, HB.out⟩
end Go.Proofs.Ytapbnggdclpokaa
