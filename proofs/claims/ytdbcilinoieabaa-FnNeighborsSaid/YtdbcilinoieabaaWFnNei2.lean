/- A part of FnNeighbors: from region 14 on the law returns true. No condition. (Printed by mkfnneigh.py.) -/
import Derived.Test.YtdbcilinoieabaaWFnNei3
import Derived.Deep.CutBlock
namespace Go.Proofs.Ytdbcilinoieabaa
open Go.RowKit
set_option linter.unusedVariables false
noncomputable def tail_neigh2 : Go.Code := (Try.f6.body.bind (codeTail 14)).getD .skip
set_option maxRecDepth 1000000 in
set_option maxHeartbeats 8000000 in
theorem neigh2 (A : Option Addr) (cap : Nat) (code : List Int) (w : World) (hcode : Code w (.slice A code.length cap) A cap code) (wc : World) (hbel : Below w.heap.size w wc) (u1 u2 u3 u4 u5 u6 u7 u8 u9 u10 u11 u12 u13 u14 u15 u16 u17 u18 u19 u20 u21 u22 u23 u24 u25 u26 u27 u28 u29 u30 u31 u32 u33 u34 u35 u36 u37 u38 u39 u40 u41 u42 u43 u44 u45 u46 u47 u48 u49 u50 u51 u52 u53 u54 u55 u56 u57 u58 u59 u60 u61 u62 u63 u64 u65 u66 u67 u68 u69 u70 u71 u72 u73 u74 u75 u76 u77 u78 u79 u80 u81 u82 u83 u84 u85 u86 u87 u88 u89 u90 u91 u92 u93 u94 u95 u96 u97 u98 u99 u100 u101 u102 u103 u104 u105 u106 u107 u108 u109 u110 u111 u112 u113 u114 u115 u116 u117 u118 u119 u120 u121 u122 u123 u124 u125 u126 u127 u128 u129 u130 u131 u132 u133 u134 u135 u136 u137 u138 u139 u140 u141 u142 u143 u144 u145 u146 u147 u148 u149 u150 u151 u152 u153 u154 u155 u156 u157 u158 u159 u160 u161 u162 u163 u164 u165 u166 u167 u168 u169 : Value) :
    Go.Code.wp Try.prog tail_neigh2 (bodyPost Try.prog Try.f6 fun e w' => e = .returned (.bool true) ∧ Below w.heap.size w w') ⟨#[.slice A code.length cap, u1, u2, u3, u4, u5, u6, u7, u8, u9, u10, u11, u12, u13, u14, u15, u16, u17, u18, u19, u20, u21, u22, u23, u24, u25, u26, u27, u28, u29, u30, u31, u32, u33, u34, u35, u36, u37, u38, u39, u40, u41, u42, u43, u44, u45, u46, u47, u48, u49, u50, u51, u52, u53, u54, u55, u56, u57, u58, u59, u60, u61, u62, u63, u64, u65, u66, u67, u68, u69, u70, u71, u72, u73, u74, u75, u76, u77, u78, u79, u80, u81, u82, u83, u84, u85, u86, u87, u88, u89, u90, u91, u92, u93, u94, u95, u96, u97, u98, u99, u100, u101, u102, u103, u104, u105, u106, u107, u108, u109, u110, u111, u112, u113, u114, u115, u116, u117, u118, u119, u120, u121, u122, u123, u124, u125, u126, u127, u128, u129, u130, u131, u132, u133, u134, u135, u136, u137, u138, u139, u140, u141, u142, u143, u144, u145, u146, u147, u148, u149, u150, u151, u152, u153, u154, u155, u156, u157, u158, u159, u160, u161, u162, u163, u164, u165, u166, u167, u168, u169], []⟩ wc := by
  have HCODE := hide hcode; have HB := hide hbel; clear hcode hbel
  conv => arg 2; whnf
  generalize wc = w0 at *
  go_wp2_with fail
  refine (drawLongestStrip_is _ _ A cap code (HCODE.out.below HB.out (Nat.le_refl _))).mono ?_; rintro e w1 ⟨v, xs, sc, rfl, hfit, hl, hsc, ho, hb⟩
  replace HB := hide (bstep HB.out hb HB.out.size); clear hb
  have HX := hide ho.is; clear ho
  have cN := fun (W : World) (hi : Is 5 SSheet.enc W v xs) => LongestStrip_is v xs sc W hi (by omega)
  have cNS := fun (W : World) (hi : Is 5 SSheet.enc W v xs) => l2LongestStrip_is v xs sc W hi
  have cY := fun (y : Int) (W : World) (hi : Is 5 SSheet.enc W v xs) => NeighborsOf_is v xs y W hi hfit
  have hlaw := fun (i : Nat) (a b : Int) => @strip_law xs sc i a b
  generalize (stripV xs sc).1 = nl at *
  generalize (stripV xs sc).2 = ok at *
  have t2 : (ok != ok) = false := by simp
  have CN := hide cN; have CNS := hide cNS; have CY := hide cY; have HLAW := hide hlaw
  clear cN cNS cY hlaw hfit
  go_wp2_with fail
  refine (CN.out _ HX.out).mono ?_; rintro e w2 ⟨rP, rfl, ho, hb⟩
  replace HX := hide (HX.out.below hb (Nat.le_refl _))
  replace HB := hide (bstep HB.out hb HB.out.size); clear hb
  have HP := hide ho.is; clear ho
  go_wp2_with fail
  refine (CNS.out _ HX.out).mono ?_; rintro e w3 ⟨rQ, rfl, ho, hb⟩
  replace HX := hide (HX.out.below hb (Nat.le_refl _))
  replace HP := hide (HP.out.below hb (Nat.le_refl _))
  replace HB := hide (bstep HB.out hb HB.out.size); clear hb
  have HQ := hide ho.is; clear ho
  go_wp2_with fail
  refine (vInts_is _ _ _ _ HP.out HQ.out).mono ?_; rintro e w4 ⟨rfl, hb⟩
  replace HX := hide (HX.out.below hb (Nat.le_refl _))
  replace HP := hide (HP.out.below hb (Nat.le_refl _))
  replace HQ := hide (HQ.out.below hb (Nat.le_refl _))
  replace HB := hide (bstep HB.out hb HB.out.size); clear hb
  clear HQ CN CNS
  obtain ⟨AP, cP, rfl, hrP, _, _⟩ := HP.out
  have hml := HP.out.len
  go_upto_block 2 with fail
  go_cut [18, 19, 20] from 112 to 138 (fun t18 t19 t20 wx => Below w.heap.size w wx)
  case first =>
    clear hrP
    generalize hwl : w4 = wl at *
    clear hwl
    go_wp2_with fail
    go_loopw [18] (fun i wr => ∃ n : Nat, i = .int .i64 ((n : Int) + 1) ∧ (n = 0 ∨ n < nl.length) ∧ Is 1 encI wr (.slice AP nl.length cP) nl ∧ Is 5 SSheet.enc wr v xs ∧ Below w.heap.size w wr) (fun i _ => nl.length + 1 - (intOf i).toNat)
    case atStart => exact ⟨0, rfl, .inl rfl, HP.out, HX.out, HB.out⟩
    case round =>
      clear HP HX HB
      obtain ⟨n, rfl, hn, hp, hx, hbel⟩ := hrel
      generalize wr = w20 at *
      have HP := hide hp; have HX := hide hx; have HB := hide hbel; clear hx hbel
      by_cases hlt : n + 1 < nl.length
      · have hlt' : (n : Int) + 1 < nl.length := by omega
        have hlt0 : n < nl.length := by omega
        clear hn
        obtain ⟨A4, c4, he, hr, _, _⟩ := hp
        injection he with e1 e2 e3; subst e1 e3; clear e2
        have hlw := HLAW.out n nl[n] nl[n + 1] (List.getElem?_eq_getElem hlt0) (List.getElem?_eq_getElem hlt)
        obtain ⟨b, off, rfl, hb, c0⟩ := Ints.cells hr hlt0 (Below.refl _ _)
        have hyn := CY.out nl[n]
        generalize hny : nl[n] = y at *
        generalize hnz : nl[n + 1] = z at *
        have HNZ := hide hnz; clear hny hnz
        obtain ⟨h1, h2⟩ := hlw
        have d2 := decide_eq_true h2
        generalize (nbV xs y).1 = bk at *
        rw [h1] at hyn
        have HYN := hide hyn
        clear hr h1 h2 hyn
        go_wp2_with fail
        refine (HYN.out _ HX.out).mono ?_; rintro e w21 ⟨rR, rfl, ho, hb⟩
        replace HP := hide (HP.out.below hb (Nat.le_refl _))
        replace HX := hide (HX.out.below hb (Nat.le_refl _))
        replace HB := hide (bstep HB.out hb HB.out.size); clear hb
        have HR := hide ho.is; clear ho
        clear c0
        have ch := fun W hi => vHas_is rR bk z W hi
        simp only [d2] at ch
        have CH := hide ch
        clear ch d2
        obtain ⟨A6, c6, he6, hr6, _, _⟩ := HP.out
        injection he6 with e1 e2 e3; subst e1 e3; clear e2
        obtain ⟨b6, o6, hA6, _, k0⟩ := Ints.cells hr6 hlt (Below.refl _ _)
        injection hA6 with hA6; injection hA6 with e1 e2; subst e1 e2
        rw [show nl[n + 1] = z from HNZ.out] at k0
        clear hr6
        go_wp2_with fail
        refine (CH.out _ HR.out).mono ?_; rintro e w22 ⟨rfl, hb⟩
        replace HP := hide (HP.out.below hb (Nat.le_refl _))
        replace HX := hide (HX.out.below hb (Nat.le_refl _))
        replace HR := hide (HR.out.below hb (Nat.le_refl _))
        replace HB := hide (bstep HB.out hb HB.out.size); clear hb
        clear k0
        go_wp2_with fail
        go_round
        case measure => (simp [intOf] <;> omega)
        case rel => exact ⟨n + 1, by go_num, .inr hlt, HP.out, HX.out, HB.out⟩
      · have hlt' : ¬ (n : Int) + 1 < nl.length := by omega
        go_wp2_with fail
        go_meet
        exact HB.out
  case rest =>
    apply_assumption
    exact neigh3 A cap code w HCODE.out _ hcut _ _ _ _ _ _ _ _ _ _ _ _ _ _ _ _ _ _ _ _ _ _ _ _ _ _ _ _ _ _ _ _ _ _ _ _ _ _ _ _ _ _ _ _ _ _ _ _ _ _ _ _ _ _ _ _ _ _ _ _ _ _ _ _ _ _ _ _ _ _ _ _ _ _ _ _ _ _ _ _ _ _ _ _ _ _ _ _ _ _ _ _ _ _ _ _ _ _ _ _ _ _ _ _ _ _ _ _ _ _ _ _ _ _ _ _ _ _ _ _ _ _ _ _ _ _ _ _ _ _ _ _ _ _ _ _ _ _ _ _ _ _ _ _ _ _ _ _ _ _ _ _ _ _ _ _ _ _ _ _ _ _ _ _ _ _ _ _ _
end Go.Proofs.Ytdbcilinoieabaa
