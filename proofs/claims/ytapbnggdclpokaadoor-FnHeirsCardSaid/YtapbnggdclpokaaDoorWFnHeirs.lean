/- The walk of FnHeirs: it returns true whatever the code; old memory stays. Condition: the table of powers of ten is laid. (Printed by mkfnheirs.py.) -/
import Derived.Test.YtapbnggdclpokaaDoorWFnHei2
namespace Go.Proofs.YtapbnggdclpokaaDoor
open Go.RowKit
set_option linter.unusedVariables false
set_option maxRecDepth 100000 in
set_option maxHeartbeats 8000000 in
theorem law_FnHeirs (A : Option Addr) (cap : Nat) (code : List Int) (w : World) (hr : Row 1 encU w w.heap.size A code) (hl : code.length ≤ cap) (hc : cap ≤ maxLen) (wz : ∀ z ∈ code, (Lit.int .u8 z).wf = true) (ht : Tab w) :
    Calls Tryd.prog 4 #[.slice A code.length cap] w fun e w' => e = .returned (.bool true) ∧ Below w.heap.size w w' := by
  have hcode : Code w (.slice A code.length cap) A cap code := ⟨rfl, hr, fun z hz => wf8 (wz z hz), hl, hc⟩
  have hbig := rBig_is A code.length cap w
  by_cases hlen : (65536 : Int) < code.length
  · rw [decide_eq_true hlen] at hbig
    have HBIG := hide hbig; clear hbig hr wz hcode
    go_enter Tryd.func4, Tryd.ntmps4
    go_wp2_with fail
    refine HBIG.out.mono ?_; rintro e w' ⟨rfl, rfl⟩
    go_wp2_with fail
    go_ret
    exact ⟨rfl, Below.refl _ _⟩
  rw [decide_eq_false hlen] at hbig
  have HBIG := hide hbig; have HCODE := hide hcode; clear hbig hr wz hcode hlen
  have HB := hide (Below.refl w.heap.size w); have HT := hide ht; clear ht
  go_enter Tryd.func4, Tryd.ntmps4
  go_wp2_with fail
  refine HBIG.out.mono ?_; rintro e w' ⟨rfl, rfl⟩
  clear HBIG
  go_wp2_with fail
  refine (drawEndMaker_is _ _ A cap code (HCODE.out.below HB.out (Nat.le_refl _))).mono ?_; rintro e w1 ⟨v, xs, id, y, hh, rfl, hwf, hid, hy, hh9, hl, ho, hb⟩
  replace HB := hide (bstep HB.out hb HB.out.size); clear hb
  have HX := hide ho.is; clear ho
  have wy := lit64 hy; have wh := lit64 hh9
  have cE := fun (W : World) (hi : Is 5 SMaker.enc W v xs) => implEndMaker_any v xs id y hh W hi hwf wy wh
  have cES := fun (W : World) (hi : Is 5 SMaker.enc W v xs) => specEndMaker_any v xs id y hh W hi hwf wy wh
  have hlaw := fun h => @end_law xs id y hh h hwf wy wh
  have cL := fun (W : World) (v' : Value) (hi : Is 5 SMaker.enc W v' (endV xs id y hh).1) (hok : (endV xs id y hh).2 = true) => implLineOf_any v' (endV xs id y hh).1 id W hi (hlaw hok).1
  replace hlaw := fun h => (hlaw h).2
  generalize (lineV (endV xs id y hh).1 id).1 = la at *
  generalize (lineV (endV xs id y hh).1 id).2 = one at *
  generalize (endV xs id y hh).1 = out at *
  generalize (endV xs id y hh).2 = ok at *
  have t1 : (ok != ok) = false := by simp
  have CE := hide cE; have CES := hide cES; have CL := hide cL; have HLAW := hide hlaw; have HWF := hide hwf
  clear cE cES cL hlaw hwf wy wh hid hy hh9
  go_wp2_with fail
  refine (CE.out _ HX.out).mono ?_; rintro e w2 ⟨rP, rfl, ho, hb⟩
  replace HX := hide (HX.out.below hb (Nat.le_refl _))
  replace HB := hide (bstep HB.out hb HB.out.size); clear hb
  have HP := hide ho.is; clear ho
  go_wp2_with fail
  refine (CES.out _ HX.out).mono ?_; rintro e w3 ⟨rQ, rfl, ho, hb⟩
  replace HX := hide (HX.out.below hb (Nat.le_refl _))
  replace HP := hide (HP.out.below hb (Nat.le_refl _))
  replace HB := hide (bstep HB.out hb HB.out.size); clear hb
  have HQ := hide ho.is; clear ho
  go_wp2_with fail
  refine (rMakers_is _ _ _ _ HP.out HQ.out).mono ?_; rintro e w4 ⟨rfl, hb⟩
  replace HX := hide (HX.out.below hb (Nat.le_refl _))
  replace HP := hide (HP.out.below hb (Nat.le_refl _))
  replace HQ := hide (HQ.out.below hb (Nat.le_refl _))
  replace HB := hide (bstep HB.out hb HB.out.size); clear hb
  clear HQ CE CES
  go_upto_if 77 with fail
  go_cut [11, 12] from 78 to 109 (fun t11 t12 wx => Below w.heap.size w wx ∧ Is 5 SMaker.enc wx v xs)
  case first =>
    cases ok with
    | false =>
      clear HLAW CL
      go_wp2_with fail
      go_meet
      exact ⟨HB.out, HX.out⟩
    | true =>
      obtain ⟨h1, h2⟩ := HLAW.out (by trivial)
      subst h1
      have H2 := hide h2; clear h2 HLAW
      go_wp2_with fail
      refine (CL.out _ _ HP.out (by trivial)).mono ?_; rintro e w5 ⟨rL, rfl, ho, hb⟩
      replace HX := hide (HX.out.below hb (Nat.le_refl _))
      replace HP := hide (HP.out.below hb (Nat.le_refl _))
      replace HB := hide (bstep HB.out hb HB.out.size); clear hb
      have HL := hide ho.is; clear ho
      clear CL HP
      obtain ⟨AL, cpL, rfl, hrL, _, _⟩ := HL.out
      rcases H2.out with ⟨hz, hl2⟩ | ⟨hz, lt, hl2⟩
      · subst hz hl2
        clear hrL HL H2
        go_wp2_with fail
        go_meet
        exact ⟨HB.out, HX.out⟩
      · subst hl2
        obtain ⟨bp, op, rfl, _, hcp⟩ := hrL.get (i := 1) (by simp)
        have e1 := hcp 0 (by omega)
        simp only [encI, List.getElem_cons_succ, List.getElem_cons_zero, Nat.one_mul, Nat.add_zero] at e1
        clear hcp hrL HL H2
        have k1 : (hh == 0) = false := by simpa using hz
        have k2 : (hh != 0) = true := by simpa using hz
        have k3 : (hh != hh) = false := by simp
        have q1 : (((id :: hh :: lt).length : Int) == 1) = false := by simp; omega
        have q2 : ¬ ((id :: hh :: lt).length : Int) < 2 := by simp; omega
        have q3 : (1 : Int) < (id :: hh :: lt).length := by simp; omega
        generalize (id :: hh :: lt).length = ll at *
        go_wp2_with fail
        go_meet
        exact ⟨HB.out, HX.out⟩
  case rest =>
    apply_assumption
    exact heirs2 A cap code w HCODE.out _ hcut.1 _ _ _ _ _ _ _ _ _ _ _ _ _ _ _ _ _ _ _ _ _ _ _ _ _ _ _ _ _ _ _ _ _ _ _ _ _ _ _ _ _ _ _ _ _ _ _ _ _ _ _ _ _ _ _ _ _ _ _ _ _ _ _ _ _ _ _ _ _ _ _ _ _ _ _ _ _ _ _ _ _ _ _ _ _ _ _ _ _ _ _ _ _ _ _ _ _ _ _ _ _ _ _ _ _ _ _ _ _ _ _ _ _ _ _ _ _ _ _ _ _ _ _ _ _ _ _ _ _ _ _ _ _ _ _ _ _ _ _ _ _ _ _ _ _ _ _ _ _ _ _ _ _ _ _ _ _ _ _ _ _ _ _ _ _ _ _ _ _ _ _ _ _ _ _ _ _ _ _ _ _ _ _ _ _ _ _ _ _ _ _ _ _ _ _ _ _ _ _ _ _ _ _ _ _ _ _ _ _ _ _ _ _ _ _ _ _ _ _ _ _ _ _ _ _ _ _ _ _ _ _ _ _ _ _ _ _ _ _ _ _ _ _ _ _ _ _ _ _ _ _ _ _ _ _ _ _ _ _ _ _ _ _ _ _ _ _ _ _ _ _ _ _ _ _ _ _ _ _ _ _ _ _ _ _ _ _ _ xs HWF.out hl hcut.2 HT.out
end Go.Proofs.YtapbnggdclpokaaDoor
