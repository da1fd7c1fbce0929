/- The walk of FnReaders: it returns true whatever the code; old memory stays. No condition. (Printed by mkfnreaders.py.) -/
import Derived.Test.YtdbcilinoieabaaWFnRead2
namespace Go.Proofs.Ytdbcilinoieabaa
open Go.RowKit
set_option linter.unusedVariables false
set_option maxRecDepth 100000 in
set_option maxHeartbeats 8000000 in
theorem law_FnReaders (A : Option Addr) (cap : Nat) (code : List Int) (w : World) (hr : Row 1 encU w w.heap.size A code) (hl : code.length ≤ cap) (hc : cap ≤ maxLen) (wz : ∀ z ∈ code, (Lit.int .u8 z).wf = true) :
    Calls Try.prog 4 #[.slice A code.length cap] w fun e w' => e = .returned (.bool true) ∧ Below w.heap.size w w' := by
  have hcode : Code w (.slice A code.length cap) A cap code := ⟨rfl, hr, fun z hz => wf8 (wz z hz), hl, hc⟩
  have hbig := rBig_is A code.length cap w
  by_cases hlen : (65536 : Int) < code.length
  · rw [decide_eq_true hlen] at hbig
    have HBIG := hide hbig; clear hbig hr wz hcode
    go_enter Try.func4, Try.ntmps4
    go_wp2_with fail
    refine HBIG.out.mono ?_; rintro e w' ⟨rfl, rfl⟩
    go_wp2_with fail
    go_ret
    exact ⟨rfl, Below.refl _ _⟩
  rw [decide_eq_false hlen] at hbig
  have HBIG := hide hbig; have HCODE := hide hcode; clear hbig hr wz hcode hlen
  have HB := hide (Below.refl w.heap.size w)
  go_enter Try.func4, Try.ntmps4
  go_wp2_with fail
  refine HBIG.out.mono ?_; rintro e w' ⟨rfl, rfl⟩
  clear HBIG
  go_wp2_with fail
  refine (drawJoinReader_is _ _ A cap code (HCODE.out.below HB.out (Nat.le_refl _))).mono ?_; rintro e w1 ⟨v, xs, name, day, rfl, hfit, hl, hns, hday, ho, hb⟩
  replace HB := hide (bstep HB.out hb HB.out.size); clear hb
  have HX := hide ho.is; clear ho
  have cJ := fun (W : World) (hi : Is 5 SReader.enc W v xs) => JoinReader_is v xs name day W hi hfit hl hns hday
  have cJS := fun (W : World) (hi : Is 5 SReader.enc W v xs) => l3JoinReader_is v xs name day W hi hfit hl hns hday
  have cM := fun (W : World) (v' : Value) (hi : Is 5 SReader.enc W v' (joinV xs name day).1) (hok : (joinV xs name day).2.2 = true) => MayTake_one v' (joinV xs name day).1 (joinV xs name day).2.1 xs.length (joinId xs) name day W hi (by rw [(join_law hok).2.1]; exact joinL_wf hfit hns hday) (join_law hok).1 (join_law hok).2.2.2.2 (join_law hok).2.2.1 (join_law hok).2.2.2.1
  generalize (joinV xs name day).1 = jl at *
  generalize (joinV xs name day).2.1 = jid at *
  generalize (joinV xs name day).2.2 = ok at *
  have t1 : (jid != jid) = false := by simp
  have t2 : (ok != ok) = false := by simp
  have CJ := hide cJ; have CJS := hide cJS; have CM := hide cM
  clear cJ cJS cM hfit hl hns hday
  go_wp2_with fail
  refine (CJ.out _ HX.out).mono ?_; rintro e w2 ⟨rP, rfl, ho, hb⟩
  replace HX := hide (HX.out.below hb (Nat.le_refl _))
  replace HB := hide (bstep HB.out hb HB.out.size); clear hb
  have HP := hide ho.is; clear ho
  go_wp2_with fail
  refine (CJS.out _ HX.out).mono ?_; rintro e w3 ⟨rQ, rfl, ho, hb⟩
  replace HX := hide (HX.out.below hb (Nat.le_refl _))
  replace HP := hide (HP.out.below hb (Nat.le_refl _))
  replace HB := hide (bstep HB.out hb HB.out.size); clear hb
  have HQ := hide ho.is; clear ho
  go_wp2_with fail
  refine (rReaders_is _ _ _ _ HP.out HQ.out).mono ?_; rintro e w4 ⟨rfl, hb⟩
  replace HX := hide (HX.out.below hb (Nat.le_refl _))
  replace HP := hide (HP.out.below hb (Nat.le_refl _))
  replace HQ := hide (HQ.out.below hb (Nat.le_refl _))
  replace HB := hide (bstep HB.out hb HB.out.size); clear hb
  clear HQ HX CJ CJS
  go_upto_if 73 with fail
  go_cut [12, 13] from 74 to 85 (fun t12 t13 wx => Below w.heap.size w wx)
  case first =>
    cases ok with
    | false =>
      go_wp2_with fail
      go_meet
      exact HB.out
    | true =>
      go_wp2_with fail
      refine (CM.out _ _ HP.out (by trivial)).mono ?_; rintro e w5 ⟨rfl, hb⟩
      replace HP := hide (HP.out.below hb (Nat.le_refl _))
      replace HB := hide (bstep HB.out hb HB.out.size); clear hb
      go_wp2_with fail
      go_meet
      exact HB.out
  case rest =>
    apply_assumption
    exact readers2 A cap code w HCODE.out _ hcut _ _ _ _ _ _ _ _ _ _ _ _ _ _ _ _ _ _ _ _ _ _ _ _ _ _ _ _ _ _ _ _ _ _ _ _ _ _ _ _ _ _ _ _ _ _ _ _ _ _ _ _ _ _ _ _ _ _ _ _ _ _ _ _ _ _ _ _ _ _ _ _ _ _ _ _ _ _ _ _ _ _ _ _ _ _ _ _ _ _ _ _ _ _ _ _ _ _ _ _ _ _ _ _ _ _ _ _ _ _ _ _ _ _ _ _ _ _ _ _ _ _ _ _ _ _ _ _ _ _ _ _ _ _ _ _ _ _ _ _ _ _ _ _ _ _ _ _ _ _ _ _ _ _ _ _ _ _ _ _ _ _ _ _ _ _ _ _ _ _ _ _ _ _ _ _ _ _ _ _ _ _ _ _ _ _ _ _ _ _ _ _ _ _ _ _ _ _ _ _ _ _ _ _ _ _ _ _ _ _ _ _
end Go.Proofs.Ytdbcilinoieabaa
