/- The walk of FnTurns: it returns true whatever the code; old memory stays. No condition. (Printed by mkfnturn.py.) -/
import Derived.Test.YtdbcilinoieabaaWFnTurn1
namespace Go.Proofs.Ytdbcilinoieabaa
open Go.RowKit
set_option linter.unusedVariables false
set_option maxRecDepth 100000 in
set_option maxHeartbeats 8000000 in
theorem law_FnTurns (A : Option Addr) (cap : Nat) (code : List Int) (w : World) (hr : Row 1 encU w w.heap.size A code) (hl : code.length ≤ cap) (hc : cap ≤ maxLen) (wz : ∀ z ∈ code, (Lit.int .u8 z).wf = true) :
    Calls Try.prog 3 #[.slice A code.length cap] w fun e w' => e = .returned (.bool true) ∧ Below w.heap.size w w' := by
  have hcode : Code w (.slice A code.length cap) A cap code := ⟨rfl, hr, fun z hz => wf8 (wz z hz), hl, hc⟩
  have hbig := vBig_is A code.length cap w
  by_cases hlen : (65536 : Int) < code.length
  · rw [decide_eq_true hlen] at hbig
    have HBIG := hide hbig; clear hbig hr wz hcode
    go_enter Try.func3, Try.ntmps3
    go_wp2_with fail
    refine HBIG.out.mono ?_; rintro e w' ⟨rfl, rfl⟩
    go_wp2_with fail
    go_ret
    exact ⟨rfl, Below.refl _ _⟩
  rw [decide_eq_false hlen] at hbig
  have HBIG := hide hbig; have HCODE := hide hcode; clear hbig hr wz hcode hlen
  have HB := hide (Below.refl w.heap.size w)
  go_enter Try.func3, Try.ntmps3
  go_wp2_with fail
  refine HBIG.out.mono ?_; rintro e w' ⟨rfl, rfl⟩
  clear HBIG
  go_wp2_with fail
  refine (drawTurnPlace_is _ _ A cap code (HCODE.out.below HB.out (Nat.le_refl _))).mono ?_; rintro e w1 ⟨v, xs, x, y, rfl, ho, hb⟩
  replace HB := hide (bstep HB.out hb HB.out.size); clear hb
  have HX := hide ho.is; clear ho
  have cT := fun (W : World) (hi : Is 5 STurn.enc W v xs) => implTurnPlace_is v xs x y W hi
  have cTS := fun (W : World) (hi : Is 5 STurn.enc W v xs) => specTurnPlace_is v xs x y W hi
  have hlaw := fun (tx ty td : Int) h1 h2 h3 h4 h5 h6 h7 => @turn_law1 xs x y tx ty td h1 h2 h3 h4 h5 h6 h7
  generalize hto : (tpV xs x y).1 = tq at *
  generalize hok : (tpV xs x y).2 = ok at *
  obtain ⟨tx, ty, td⟩ := tq
  have hlaw2 := hlaw tx ty td rfl
  have cB := fun (W : World) (hi : Is 5 STurn.enc W v xs) => implTurnBack_is v xs tx ty W hi
  clear hlaw
  generalize tbV xs tx ty = tb at *
  have t1 : (ok != ok) = false := by simp
  have hN := fun W => (SSpot.neq_run tx ty td tx ty td W).trans (by rw [sameS_iff.2 ⟨rfl, rfl, rfl⟩]; rfl : _ = Result.ok (Value.bool false) W)
  have HLAW := hide hlaw2; have CT := hide cT; have CTS := hide cTS; have CB := hide cB; have HOK := hide hok
  clear hlaw2 cT cTS cB hto hok
  go_wp2_with fail
  refine (CT.out _ HX.out).mono ?_; rintro e w2 ⟨rfl, hb⟩
  replace HX := hide (HX.out.below hb (Nat.le_refl _))
  replace HB := hide (bstep HB.out hb HB.out.size); clear hb
  go_wp2_with fail
  replace HX := hide (HX.out.below (below_alloc w2 (.cells #[.int .i64 tx, .int .i64 ty, .int .i64 td] 28)) (Nat.le_refl _))
  have HF := hide (Blk.new w2 28 #[.int .i64 tx, .int .i64 ty, .int .i64 td])
  replace HB := hide (HB.out.alloc HB.out.size (.cells #[.int .i64 tx, .int .i64 ty, .int .i64 td] 28))
  generalize w2.alloc (.cells #[.int .i64 tx, .int .i64 ty, .int .i64 td] 28) = w3 at *
  generalize w2.heap.size = bF at *
  refine (CTS.out _ HX.out).mono ?_; rintro e w4 ⟨rfl, hb⟩
  replace HX := hide (HX.out.below hb (Nat.le_refl _))
  replace HF := hide (HF.out.below hb HF.out.lt)
  replace HB := hide (bstep HB.out hb HB.out.size); clear hb
  go_upto_region 6 with fail
  replace HX := hide (HX.out.below (below_alloc w4 (.cells #[.int .i64 tx, .int .i64 ty, .int .i64 td] 28)) (Nat.le_refl _))
  replace HF := hide (HF.out.alloc (.cells #[.int .i64 tx, .int .i64 ty, .int .i64 td] 28))
  have HG := hide (Blk.new w4 28 #[.int .i64 tx, .int .i64 ty, .int .i64 td])
  replace HB := hide (HB.out.alloc HB.out.size (.cells #[.int .i64 tx, .int .i64 ty, .int .i64 td] 28))
  generalize w4.alloc (.cells #[.int .i64 tx, .int .i64 ty, .int .i64 td] 28) = w5 at *
  generalize w4.heap.size = bG at *
  obtain ⟨cfa, cfb, cfc, _⟩ := spot3 HF.out
  obtain ⟨cga, cgb, cgc, _⟩ := spot3 HG.out
  clear CT CTS
  by_cases hc0 : ok = true
  · subst hc0
    by_cases hc1 : td = 1
    · subst hc1
      by_cases hc2 : 0 ≤ tx
      · by_cases hc3 : tx ≤ 99999
        · by_cases hc4 : 0 ≤ ty
          · by_cases hc5 : ty ≤ 99999
            · have hT := HLAW.out (by trivial) (by trivial) hc2 hc3 hc4 hc5
              subst hT
              clear HLAW
              go_upto_if 91 with fail
              go_cut [10, 11] from 92 to 119 (fun t10 t11 wx => Below w.heap.size w wx ∧ Is 5 STurn.enc wx v xs)
              case first =>
                go_wp2_with fail
                refine (CB.out _ HX.out).mono ?_; rintro e w6 ⟨rfl, hb⟩
                replace HX := hide (HX.out.below hb (Nat.le_refl _))
                replace HF := hide (HF.out.below hb HF.out.lt)
                replace HG := hide (HG.out.below hb HG.out.lt)
                replace HB := hide (bstep HB.out hb HB.out.size); clear hb
                have n1 : (x != x) = false := by simp
                have n2 : (y != y) = false := by simp
                go_upto_region 10 with fail
                replace HX := hide (HX.out.below (below_alloc w6 (.cells #[.int .i64 x, .int .i64 y, .int .i64 1] 28)) (Nat.le_refl _))
                replace HF := hide (HF.out.alloc (.cells #[.int .i64 x, .int .i64 y, .int .i64 1] 28))
                replace HG := hide (HG.out.alloc (.cells #[.int .i64 x, .int .i64 y, .int .i64 1] 28))
                have HH := hide (Blk.new w6 28 #[.int .i64 x, .int .i64 y, .int .i64 1])
                replace HB := hide (HB.out.alloc HB.out.size (.cells #[.int .i64 x, .int .i64 y, .int .i64 1] 28))
                generalize w6.alloc (.cells #[.int .i64 x, .int .i64 y, .int .i64 1] 28) = w7 at *
                generalize w6.heap.size = bH at *
                obtain ⟨cha, chb, chc, _⟩ := spot3 HH.out
                go_wp2_with fail
                go_meet
                exact ⟨HB.out, HX.out⟩
              case rest =>
                apply_assumption
                exact run1 A cap code w HCODE.out _ hcut.1 _ _ _ _ _ _ _ _ _ _ _ _ _ _ _ _ _ _ _ _ _ _ _ _ _ _ _ _ _ _ _ _ _ _ _ _ _ _ _ _ _ _ _ _ _ _ _ _ _ _ _ _ _ _ _ _ _ _ _ _ _ _ _ _ _ _ _ _ _ _ _ _ _ _ _ _ _ _ _ _ _ _ _ _ _ _ _ _ _ _ _ _ _ _ _ _ _ _ _ _ _ _ _ _ _ _ _ _ _ _ _ _ _ _ _ _ _ _ _ _ _ _ _ _ _ _ _ _ _ _ _ _ _ _ _ _ _ _ _ _ _ _ _ _ _ _ _ _ _ _ _ _ _ _ _ _ _ _ _ _ _ _ _ _ _ _ _ _ _ _ _ _ _ _ _ _ _ _ _ _ _ _ _ _ _ _ _ _ _ _ _ _ _ _ _ _ _ _ _ _ _ _ _ _ _ _ _ _ _ _ _ _ _ _ _ _ _ _ _ _ _ _ _ _ _ _ _ _ _ _ _ _ _ _ _ _ _ _ _ _ _ _ _ _ _ _ _ _ _ _ _ _ _ _ _ _ _ _ _ _ _ _ _ _ _ _ _ _ _ _ _ _ _ _ _ _ _ _ _ _ _ _ _ _ xs x y hcut.2 rfl rfl (by rw [HOK.out])
            · have hz : ¬ (ty ≤ 99999) := by exact hc5
              go_upto_if 91 with fail
              go_cut [10, 11] from 92 to 119 (fun t10 t11 wx => Below w.heap.size w wx ∧ Is 5 STurn.enc wx v xs)
              case first =>
                go_wp2_with fail
                go_meet
                exact ⟨HB.out, HX.out⟩
              case rest =>
                apply_assumption
                exact run1 A cap code w HCODE.out _ hcut.1 _ _ _ _ _ _ _ _ _ _ _ _ _ _ _ _ _ _ _ _ _ _ _ _ _ _ _ _ _ _ _ _ _ _ _ _ _ _ _ _ _ _ _ _ _ _ _ _ _ _ _ _ _ _ _ _ _ _ _ _ _ _ _ _ _ _ _ _ _ _ _ _ _ _ _ _ _ _ _ _ _ _ _ _ _ _ _ _ _ _ _ _ _ _ _ _ _ _ _ _ _ _ _ _ _ _ _ _ _ _ _ _ _ _ _ _ _ _ _ _ _ _ _ _ _ _ _ _ _ _ _ _ _ _ _ _ _ _ _ _ _ _ _ _ _ _ _ _ _ _ _ _ _ _ _ _ _ _ _ _ _ _ _ _ _ _ _ _ _ _ _ _ _ _ _ _ _ _ _ _ _ _ _ _ _ _ _ _ _ _ _ _ _ _ _ _ _ _ _ _ _ _ _ _ _ _ _ _ _ _ _ _ _ _ _ _ _ _ _ _ _ _ _ _ _ _ _ _ _ _ _ _ _ _ _ _ _ _ _ _ _ _ _ _ _ _ _ _ _ _ _ _ _ _ _ _ _ _ _ _ _ _ _ _ _ _ _ _ _ _ _ _ _ _ _ _ _ _ _ _ _ _ _ _ xs x y hcut.2 rfl rfl (by rw [HOK.out])
          · have hz : ¬ (0 ≤ ty) := by exact hc4
            go_upto_if 91 with fail
            go_cut [10, 11] from 92 to 119 (fun t10 t11 wx => Below w.heap.size w wx ∧ Is 5 STurn.enc wx v xs)
            case first =>
              go_wp2_with fail
              go_meet
              exact ⟨HB.out, HX.out⟩
            case rest =>
              apply_assumption
              exact run1 A cap code w HCODE.out _ hcut.1 _ _ _ _ _ _ _ _ _ _ _ _ _ _ _ _ _ _ _ _ _ _ _ _ _ _ _ _ _ _ _ _ _ _ _ _ _ _ _ _ _ _ _ _ _ _ _ _ _ _ _ _ _ _ _ _ _ _ _ _ _ _ _ _ _ _ _ _ _ _ _ _ _ _ _ _ _ _ _ _ _ _ _ _ _ _ _ _ _ _ _ _ _ _ _ _ _ _ _ _ _ _ _ _ _ _ _ _ _ _ _ _ _ _ _ _ _ _ _ _ _ _ _ _ _ _ _ _ _ _ _ _ _ _ _ _ _ _ _ _ _ _ _ _ _ _ _ _ _ _ _ _ _ _ _ _ _ _ _ _ _ _ _ _ _ _ _ _ _ _ _ _ _ _ _ _ _ _ _ _ _ _ _ _ _ _ _ _ _ _ _ _ _ _ _ _ _ _ _ _ _ _ _ _ _ _ _ _ _ _ _ _ _ _ _ _ _ _ _ _ _ _ _ _ _ _ _ _ _ _ _ _ _ _ _ _ _ _ _ _ _ _ _ _ _ _ _ _ _ _ _ _ _ _ _ _ _ _ _ _ _ _ _ _ _ _ _ _ _ _ _ _ _ _ _ _ _ _ _ _ _ _ _ _ xs x y hcut.2 rfl rfl (by rw [HOK.out])
        · have hz : ¬ (tx ≤ 99999) := by exact hc3
          go_upto_if 91 with fail
          go_cut [10, 11] from 92 to 119 (fun t10 t11 wx => Below w.heap.size w wx ∧ Is 5 STurn.enc wx v xs)
          case first =>
            go_wp2_with fail
            go_meet
            exact ⟨HB.out, HX.out⟩
          case rest =>
            apply_assumption
            exact run1 A cap code w HCODE.out _ hcut.1 _ _ _ _ _ _ _ _ _ _ _ _ _ _ _ _ _ _ _ _ _ _ _ _ _ _ _ _ _ _ _ _ _ _ _ _ _ _ _ _ _ _ _ _ _ _ _ _ _ _ _ _ _ _ _ _ _ _ _ _ _ _ _ _ _ _ _ _ _ _ _ _ _ _ _ _ _ _ _ _ _ _ _ _ _ _ _ _ _ _ _ _ _ _ _ _ _ _ _ _ _ _ _ _ _ _ _ _ _ _ _ _ _ _ _ _ _ _ _ _ _ _ _ _ _ _ _ _ _ _ _ _ _ _ _ _ _ _ _ _ _ _ _ _ _ _ _ _ _ _ _ _ _ _ _ _ _ _ _ _ _ _ _ _ _ _ _ _ _ _ _ _ _ _ _ _ _ _ _ _ _ _ _ _ _ _ _ _ _ _ _ _ _ _ _ _ _ _ _ _ _ _ _ _ _ _ _ _ _ _ _ _ _ _ _ _ _ _ _ _ _ _ _ _ _ _ _ _ _ _ _ _ _ _ _ _ _ _ _ _ _ _ _ _ _ _ _ _ _ _ _ _ _ _ _ _ _ _ _ _ _ _ _ _ _ _ _ _ _ _ _ _ _ _ _ _ _ _ _ _ _ _ _ _ xs x y hcut.2 rfl rfl (by rw [HOK.out])
      · have hz : ¬ (0 ≤ tx) := by exact hc2
        go_upto_if 91 with fail
        go_cut [10, 11] from 92 to 119 (fun t10 t11 wx => Below w.heap.size w wx ∧ Is 5 STurn.enc wx v xs)
        case first =>
          go_wp2_with fail
          go_meet
          exact ⟨HB.out, HX.out⟩
        case rest =>
          apply_assumption
          exact run1 A cap code w HCODE.out _ hcut.1 _ _ _ _ _ _ _ _ _ _ _ _ _ _ _ _ _ _ _ _ _ _ _ _ _ _ _ _ _ _ _ _ _ _ _ _ _ _ _ _ _ _ _ _ _ _ _ _ _ _ _ _ _ _ _ _ _ _ _ _ _ _ _ _ _ _ _ _ _ _ _ _ _ _ _ _ _ _ _ _ _ _ _ _ _ _ _ _ _ _ _ _ _ _ _ _ _ _ _ _ _ _ _ _ _ _ _ _ _ _ _ _ _ _ _ _ _ _ _ _ _ _ _ _ _ _ _ _ _ _ _ _ _ _ _ _ _ _ _ _ _ _ _ _ _ _ _ _ _ _ _ _ _ _ _ _ _ _ _ _ _ _ _ _ _ _ _ _ _ _ _ _ _ _ _ _ _ _ _ _ _ _ _ _ _ _ _ _ _ _ _ _ _ _ _ _ _ _ _ _ _ _ _ _ _ _ _ _ _ _ _ _ _ _ _ _ _ _ _ _ _ _ _ _ _ _ _ _ _ _ _ _ _ _ _ _ _ _ _ _ _ _ _ _ _ _ _ _ _ _ _ _ _ _ _ _ _ _ _ _ _ _ _ _ _ _ _ _ _ _ _ _ _ _ _ _ _ _ _ _ _ _ _ _ xs x y hcut.2 rfl rfl (by rw [HOK.out])
    · have hz : ¬ (td = 1) := by exact hc1
      go_upto_if 91 with fail
      go_cut [10, 11] from 92 to 119 (fun t10 t11 wx => Below w.heap.size w wx ∧ Is 5 STurn.enc wx v xs)
      case first =>
        go_wp2_with fail
        go_meet
        exact ⟨HB.out, HX.out⟩
      case rest =>
        apply_assumption
        exact run1 A cap code w HCODE.out _ hcut.1 _ _ _ _ _ _ _ _ _ _ _ _ _ _ _ _ _ _ _ _ _ _ _ _ _ _ _ _ _ _ _ _ _ _ _ _ _ _ _ _ _ _ _ _ _ _ _ _ _ _ _ _ _ _ _ _ _ _ _ _ _ _ _ _ _ _ _ _ _ _ _ _ _ _ _ _ _ _ _ _ _ _ _ _ _ _ _ _ _ _ _ _ _ _ _ _ _ _ _ _ _ _ _ _ _ _ _ _ _ _ _ _ _ _ _ _ _ _ _ _ _ _ _ _ _ _ _ _ _ _ _ _ _ _ _ _ _ _ _ _ _ _ _ _ _ _ _ _ _ _ _ _ _ _ _ _ _ _ _ _ _ _ _ _ _ _ _ _ _ _ _ _ _ _ _ _ _ _ _ _ _ _ _ _ _ _ _ _ _ _ _ _ _ _ _ _ _ _ _ _ _ _ _ _ _ _ _ _ _ _ _ _ _ _ _ _ _ _ _ _ _ _ _ _ _ _ _ _ _ _ _ _ _ _ _ _ _ _ _ _ _ _ _ _ _ _ _ _ _ _ _ _ _ _ _ _ _ _ _ _ _ _ _ _ _ _ _ _ _ _ _ _ _ _ _ _ _ _ _ _ _ _ _ _ xs x y hcut.2 rfl rfl (by rw [HOK.out])
  · have hz : ok = false := by simpa using hc0
    subst hz
    go_upto_if 91 with fail
    go_cut [10, 11] from 92 to 119 (fun t10 t11 wx => Below w.heap.size w wx ∧ Is 5 STurn.enc wx v xs)
    case first =>
      go_wp2_with fail
      go_meet
      exact ⟨HB.out, HX.out⟩
    case rest =>
      apply_assumption
      exact run1 A cap code w HCODE.out _ hcut.1 _ _ _ _ _ _ _ _ _ _ _ _ _ _ _ _ _ _ _ _ _ _ _ _ _ _ _ _ _ _ _ _ _ _ _ _ _ _ _ _ _ _ _ _ _ _ _ _ _ _ _ _ _ _ _ _ _ _ _ _ _ _ _ _ _ _ _ _ _ _ _ _ _ _ _ _ _ _ _ _ _ _ _ _ _ _ _ _ _ _ _ _ _ _ _ _ _ _ _ _ _ _ _ _ _ _ _ _ _ _ _ _ _ _ _ _ _ _ _ _ _ _ _ _ _ _ _ _ _ _ _ _ _ _ _ _ _ _ _ _ _ _ _ _ _ _ _ _ _ _ _ _ _ _ _ _ _ _ _ _ _ _ _ _ _ _ _ _ _ _ _ _ _ _ _ _ _ _ _ _ _ _ _ _ _ _ _ _ _ _ _ _ _ _ _ _ _ _ _ _ _ _ _ _ _ _ _ _ _ _ _ _ _ _ _ _ _ _ _ _ _ _ _ _ _ _ _ _ _ _ _ _ _ _ _ _ _ _ _ _ _ _ _ _ _ _ _ _ _ _ _ _ _ _ _ _ _ _ _ _ _ _ _ _ _ _ _ _ _ _ _ _ _ _ _ _ _ _ _ _ _ _ _ _ xs x y hcut.2 rfl rfl (by rw [HOK.out])
end Go.Proofs.Ytdbcilinoieabaa
