/- The walk of FnNeighbors: it returns true whatever the code; old memory stays. No condition. (Printed by mkfnneigh.py.) -/
import Derived.Test.YtdbcilinoieabaaWFnNei2
import Derived.Deep.CutBlock
namespace Go.Proofs.Ytdbcilinoieabaa
open Go.RowKit
set_option linter.unusedVariables false
set_option maxRecDepth 100000 in
set_option maxHeartbeats 8000000 in
theorem law_FnNeighbors (A : Option Addr) (cap : Nat) (code : List Int) (w : World) (hr : Row 1 encU w w.heap.size A code) (hl : code.length ≤ cap) (hc : cap ≤ maxLen) (wz : ∀ z ∈ code, (Lit.int .u8 z).wf = true) :
    Calls Try.prog 6 #[.slice A code.length cap] w fun e w' => e = .returned (.bool true) ∧ Below w.heap.size w w' := by
  have hcode : Code w (.slice A code.length cap) A cap code := ⟨rfl, hr, fun z hz => wf8 (wz z hz), hl, hc⟩
  have hbig := vBig_is A code.length cap w
  by_cases hlen : (65536 : Int) < code.length
  · rw [decide_eq_true hlen] at hbig
    have HBIG := hide hbig; clear hbig hr wz hcode
    go_enter Try.func6, Try.ntmps6
    go_wp2_with fail
    refine HBIG.out.mono ?_; rintro e w' ⟨rfl, rfl⟩
    go_wp2_with fail
    go_ret
    exact ⟨rfl, Below.refl _ _⟩
  rw [decide_eq_false hlen] at hbig
  have HBIG := hide hbig; have HCODE := hide hcode; clear hbig hr wz hcode hlen
  have HB := hide (Below.refl w.heap.size w)
  go_enter Try.func6, Try.ntmps6
  go_wp2_with fail
  refine HBIG.out.mono ?_; rintro e w' ⟨rfl, rfl⟩
  clear HBIG
  go_wp2_with fail
  refine (drawNeighborsOf_is _ _ A cap code (HCODE.out.below HB.out (Nat.le_refl _))).mono ?_; rintro e w1 ⟨v, xs, id, rfl, hfit, hl, hid, ho, hb⟩
  replace HB := hide (bstep HB.out hb HB.out.size); clear hb
  have HX := hide ho.is; clear ho
  have cN := fun (W : World) (hi : Is 5 SSheet.enc W v xs) => NeighborsOf_is v xs id W hi hfit
  have cNS := fun (W : World) (hi : Is 5 SSheet.enc W v xs) => l2NeighborsOf_is v xs id W hi hfit
  have cY := fun (y : Int) (W : World) (hi : Is 5 SSheet.enc W v xs) => NeighborsOf_is v xs y W hi hfit
  have hlaw := fun y => @nb_law xs id y
  generalize (nbV xs id).1 = nl at *
  generalize (nbV xs id).2 = ok at *
  have t2 : (ok != ok) = false := by simp
  have CN := hide cN; have CNS := hide cNS; have CY := hide cY; have HLAW := hide hlaw
  clear cN cNS cY hlaw hfit
  go_wp2_with fail
  refine (CN.out _ HX.out).mono ?_; rintro e w2 ⟨rP, rfl, ho, hb⟩
  replace HX := hide (HX.out.below hb (Nat.le_refl _))
  replace HB := hide (bstep HB.out hb HB.out.size); clear hb
  have HP := hide ho.is; clear ho
  go_wp2_with fail
  refine (CNS.out _ HX.out).mono ?_; rintro e w3 ⟨rQ, rfl, ho, hb⟩
  replace HX := hide (HX.out.below hb (Nat.le_refl _))
  replace HP := hide (HP.out.below hb (Nat.le_refl _))
  replace HB := hide (bstep HB.out hb HB.out.size); clear hb
  have HQ := hide ho.is; clear ho
  go_wp2_with fail
  refine (vInts_is _ _ _ _ HP.out HQ.out).mono ?_; rintro e w4 ⟨rfl, hb⟩
  replace HX := hide (HX.out.below hb (Nat.le_refl _))
  replace HP := hide (HP.out.below hb (Nat.le_refl _))
  replace HQ := hide (HQ.out.below hb (Nat.le_refl _))
  replace HB := hide (bstep HB.out hb HB.out.size); clear hb
  clear HQ CN CNS
  obtain ⟨AP, cP, rfl, hrP, _, _⟩ := HP.out
  have hml := HP.out.len
  go_upto_block 0 with fail
  go_cut [9, 10, 11] from 55 to 85 (fun t9 t10 t11 wx => Below w.heap.size w wx)
  case first =>
    clear hrP
    generalize hwl : w4 = wl at *
    clear hwl
    go_wp2_with fail
    go_loopw [9] (fun i wr => ∃ n : Nat, n ≤ nl.length ∧ i = .int .i64 (n : Int) ∧ Is 1 encI wr (.slice AP nl.length cP) nl ∧ Is 5 SSheet.enc wr v xs ∧ Below w.heap.size w wr) (fun i _ => nl.length - (intOf i).toNat)
    case atStart => exact ⟨0, Nat.zero_le _, rfl, HP.out, HX.out, HB.out⟩
    case round =>
      clear HP HX HB
      obtain ⟨n, hn, rfl, hp, hx, hbel⟩ := hrel
      generalize wr = w20 at *
      have HP := hide hp; have HX := hide hx; have HB := hide hbel; clear hx hbel
      by_cases hlt : n < nl.length
      · have hlt' : (n : Int) < nl.length := by omega
        obtain ⟨A4, c4, he, hr, _, _⟩ := hp
        injection he with e1 e2 e3; subst e1 e3; clear e2
        have HC1 := hide (fun W (hb : Below w20.heap.size w20 W) => Ints.cells hr hlt hb)
        have hlw := HLAW.out nl[n] (List.getElem_mem hlt)
        obtain ⟨b, off, rfl, hb, c0⟩ := Ints.cells hr hlt (Below.refl _ _)
        have hyn := CY.out nl[n]
        generalize hny : nl[n] = y at *
        have HNY := hide hny; clear hny HC1
        obtain ⟨h1, h2, h3⟩ := hlw
        have d2 := decide_eq_true h2
        generalize (nbV xs y).1 = bk at *
        rw [h1] at hyn
        have HYN := hide hyn
        have t3 : (y == id) = false := by simpa using h3
        clear hr h1 h2 h3 hyn
        have HBX := hide (Below.refl w20.heap.size w20)
        go_wp2_with fail
        refine (HYN.out _ HX.out).mono ?_; rintro e w21 ⟨rR, rfl, ho, hb⟩
        replace HP := hide (HP.out.below hb (Nat.le_refl _))
        replace HX := hide (HX.out.below hb (Nat.le_refl _))
        replace HB := hide (bstep HB.out hb HB.out.size); clear hb
        have HR := hide ho.is; clear ho
        clear c0
        skip
        have ch := fun W hi => vHas_is rR bk id W hi
        simp only [d2] at ch
        have CH := hide ch
        clear ch d2
        obtain ⟨A5, c5, he5, hr5, _, _⟩ := HP.out
        injection he5 with e1 e2 e3; subst e1 e3; clear e2
        go_wp2_with fail
        refine (CH.out _ HR.out).mono ?_; rintro e w22 ⟨rfl, hb⟩
        replace HP := hide (HP.out.below hb (Nat.le_refl _))
        replace HX := hide (HX.out.below hb (Nat.le_refl _))
        replace HR := hide (HR.out.below hb (Nat.le_refl _))
        replace HB := hide (bstep HB.out hb HB.out.size); clear hb
        obtain ⟨A6, c6, he6, hr6, _, _⟩ := HP.out
        injection he6 with e1 e2 e3; subst e1 e3; clear e2
        obtain ⟨b6, o6, hA6, _, k0⟩ := Ints.cells hr6 hlt (Below.refl _ _)
        injection hA6 with hA6; injection hA6 with e1 e2; subst e1 e2
        rw [show nl[n] = y from HNY.out] at k0
        clear hr5 hr6
        go_wp2_with fail
        go_round
        case measure => (simp [intOf] <;> omega)
        case rel => exact ⟨n + 1, by omega, by go_num, HP.out, HX.out, HB.out⟩
      · go_wp2_with fail
        go_meet
        exact HB.out
  case rest =>
    apply_assumption
    exact neigh2 A cap code w HCODE.out _ hcut _ _ _ _ _ _ _ _ _ _ _ _ _ _ _ _ _ _ _ _ _ _ _ _ _ _ _ _ _ _ _ _ _ _ _ _ _ _ _ _ _ _ _ _ _ _ _ _ _ _ _ _ _ _ _ _ _ _ _ _ _ _ _ _ _ _ _ _ _ _ _ _ _ _ _ _ _ _ _ _ _ _ _ _ _ _ _ _ _ _ _ _ _ _ _ _ _ _ _ _ _ _ _ _ _ _ _ _ _ _ _ _ _ _ _ _ _ _ _ _ _ _ _ _ _ _ _ _ _ _ _ _ _ _ _ _ _ _ _ _ _ _ _ _ _ _ _ _ _ _ _ _ _ _ _ _ _ _ _ _ _ _ _ _ _ _ _ _ _
end Go.Proofs.Ytdbcilinoieabaa
