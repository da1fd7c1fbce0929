/- The walk of FnSpots: it returns true whatever the code; old memory stays. Condition: the table of powers of ten is laid. (Printed by mkfnspots.py.) -/
import Derived.Test.YtplemibckjnbhaaDoorWFnSpo2
import Derived.Test.YtplemibckjnbhaaDoorL4M
import Derived.Deep.CutBlock
namespace Go.Proofs.YtplemibckjnbhaaDoor
open Go.RowKit
set_option linter.unusedVariables false
set_option maxRecDepth 100000 in
set_option maxHeartbeats 8000000 in
theorem law_FnSpots (A : Option Addr) (cap : Nat) (code : List Int) (w : World) (hr : Row 1 encU w w.heap.size A code) (hl : code.length ≤ cap) (hc : cap ≤ maxLen) (wz : ∀ z ∈ code, (Lit.int .u8 z).wf = true) (ht : Tab w) :
    Calls Tryd.prog 4 #[.slice A code.length cap] w fun e w' => e = .returned (.bool true) ∧ Below w.heap.size w w' := by
  have hcode : Code w (.slice A code.length cap) A cap code := ⟨rfl, hr, fun z hz => wf8 (wz z hz), hl, hc⟩
  have hbig := vBig_is A code.length cap w
  by_cases hlen : (65536 : Int) < code.length
  · rw [decide_eq_true hlen] at hbig
    have HBIG := hide hbig; clear hbig hr wz hcode
    go_enter Tryd.func4, Tryd.ntmps4
    go_wp2_with fail
    refine HBIG.out.mono ?_; rintro e w' ⟨rfl, rfl⟩
    go_wp2_with fail
    go_ret
    exact ⟨rfl, Below.refl _ _⟩
  rw [decide_eq_false hlen] at hbig
  have HBIG := hide hbig; have HCODE := hide hcode; clear hbig hr wz hcode hlen
  have HB := hide (Below.refl w.heap.size w); have HT := hide ht; clear ht
  go_enter Tryd.func4, Tryd.ntmps4
  go_wp2_with fail
  refine HBIG.out.mono ?_; rintro e w' ⟨rfl, rfl⟩
  clear HBIG
  go_wp2_with fail
  refine (drawFixedSpot_is _ _ A cap code (HCODE.out.below HB.out (Nat.le_refl _))).mono ?_; rintro e w1 ⟨⟨tq, tm, td, te, tn⟩, rfl, hb⟩
  replace HB := hide (bstep HB.out hb HB.out.size); clear hb
  have hlaw := fun (fx fy fd : Int) h1 h2 h3 h4 h5 h6 h7 => @fixed_law ⟨tq, tm, td, te, tn⟩ fx fy fd h1 h2 h3 h4 h5 h6 h7
  have cI := fun W => FixedSpotI_is tq tm td te tn W
  have cS := fun W => FixedSpotS_is tq tm td te tn W
  have cT := fun W => turnI_is tq tm td te tn W
  have cTS := fun W => turnSS_is tq tm td te tn W
  generalize (fixV ⟨tq, tm, td, te, tn⟩).1 = fr at *
  generalize (fixV ⟨tq, tm, td, te, tn⟩).2 = ok at *
  generalize turnB tq tm td te tn = tb at *
  obtain ⟨fx, fy, fd⟩ := fr
  have hlaw2 := hlaw fx fy fd rfl
  clear hlaw
  have cP := fun (W : World) v (hi : Is 5 STurn.enc W v [⟨tq, tm, td, te, tn⟩]) => implTurnPlace_is v [⟨tq, tm, td, te, tn⟩] fx fy W hi
  generalize tpV [⟨tq, tm, td, te, tn⟩] fx fy = tp at *
  have t1 : (ok != ok) = false := by simp
  have t2 : (tb != tb) = false := by simp
  have hN := fun W => (SSpot.neq_run fx fy fd fx fy fd W).trans (by rw [sameS_iff.2 ⟨rfl, rfl, rfl⟩]; rfl : _ = Result.ok (Value.bool false) W)
  have HLAW := hide hlaw2; have CI := hide cI; have CS := hide cS; have CT := hide cT; have CTS := hide cTS; have CP := hide cP
  clear hlaw2 cI cS cT cTS cP
  go_upto_region 4 with fail
  have HU := hide (Blk.new w1 35 #[.int .i64 tq, .int .i64 tm, .int .i64 td, .int .i64 te, .int .i64 tn])
  replace HB := hide (HB.out.alloc HB.out.size (.cells #[.int .i64 tq, .int .i64 tm, .int .i64 td, .int .i64 te, .int .i64 tn] 35))
  generalize w1.alloc (.cells #[.int .i64 tq, .int .i64 tm, .int .i64 td, .int .i64 te, .int .i64 tn] 35) = w2 at *
  generalize w1.heap.size = bU at *
  obtain ⟨taa, tab, tac, tad, tae⟩ := turn5 HU.out
  go_wp2_with fail
  refine (CI.out _).mono ?_; rintro e w3 ⟨rfl, hb⟩
  replace HU := hide (HU.out.below hb HU.out.lt)
  replace HB := hide (bstep HB.out hb HB.out.size); clear hb
  clear taa tab tac tad tae
  go_upto_region 5 with fail
  replace HU := hide (HU.out.alloc (.cells #[.int .i64 fx, .int .i64 fy, .int .i64 fd] 38))
  have HF := hide (Blk.new w3 38 #[.int .i64 fx, .int .i64 fy, .int .i64 fd])
  replace HB := hide (HB.out.alloc HB.out.size (.cells #[.int .i64 fx, .int .i64 fy, .int .i64 fd] 38))
  generalize w3.alloc (.cells #[.int .i64 fx, .int .i64 fy, .int .i64 fd] 38) = w4 at *
  generalize w3.heap.size = bF at *
  obtain ⟨tba, tbb, tbc, tbd, tbe⟩ := turn5 HU.out
  go_wp2_with fail
  refine (CS.out _).mono ?_; rintro e w5 ⟨rfl, hb⟩
  replace HU := hide (HU.out.below hb HU.out.lt)
  replace HF := hide (HF.out.below hb HF.out.lt)
  replace HB := hide (bstep HB.out hb HB.out.size); clear hb
  clear tba tbb tbc tbd tbe
  go_upto_region 6 with fail
  replace HU := hide (HU.out.alloc (.cells #[.int .i64 fx, .int .i64 fy, .int .i64 fd] 38))
  replace HF := hide (HF.out.alloc (.cells #[.int .i64 fx, .int .i64 fy, .int .i64 fd] 38))
  have HG := hide (Blk.new w5 38 #[.int .i64 fx, .int .i64 fy, .int .i64 fd])
  replace HB := hide (HB.out.alloc HB.out.size (.cells #[.int .i64 fx, .int .i64 fy, .int .i64 fd] 38))
  generalize w5.alloc (.cells #[.int .i64 fx, .int .i64 fy, .int .i64 fd] 38) = w6 at *
  generalize w5.heap.size = bG at *
  obtain ⟨tca, tcb, tcc, tcd, tce⟩ := turn5 HU.out
  obtain ⟨cfa, cfb, cfc, _⟩ := spot3 HF.out
  obtain ⟨cga, cgb, cgc, _⟩ := spot3 HG.out
  have ltca := fun n => later_cell tca n
  have ltcb := fun n => later_cell tcb n
  have ltcc := fun n => later_cell tcc n
  have ltcd := fun n => later_cell tcd n
  have ltce := fun n => later_cell tce n
  have lcfa := fun n => later_cell cfa n
  have lcfb := fun n => later_cell cfb n
  have lcfc := fun n => later_cell cfc n
  have lcga := fun n => later_cell cga n
  have lcgb := fun n => later_cell cgb n
  have lcgc := fun n => later_cell cgc n
  (refine wp_region_later (by kernel_rfl) (by kernel_rfl) ?_; (repeat (go_big_quiet_step ((first | (go_at_call 18; exact later_call (CT.out _)) | (go_at_call 19; exact later_call (CTS.out _)))))); refine wpQuiet_nil ?_; intro _ hw'; obtain ⟨nq, hw''⟩ := hw'; subst hw'')
  replace HU := hide (HU.out.below nq.h HU.out.lt); replace HF := hide (HF.out.below nq.h HF.out.lt)
  replace HB := hide (HB.out.trans (nq.h.mono HB.out.size))
  clear ltca ltcb ltcc ltcd ltce lcfa lcfb lcfc lcga lcgb lcgc tca tcb tcc tcd tce cfa cfb cfc cga cgb cgc CI CS CT CTS HG
  generalize nq.W = w7 at *
  obtain ⟨cfa, cfb, cfc, _⟩ := spot3 HF.out
  obtain ⟨tca, tcb, tcc, tcd, tce⟩ := turn5 HU.out
  by_cases hc0 : ok = true
  · subst hc0
    by_cases hc1 : fd = 1
    · subst hc1
      by_cases hc2 : 0 ≤ fx
      · by_cases hc3 : fx ≤ 99999
        · by_cases hc4 : 0 ≤ fy
          · by_cases hc5 : fy ≤ 99999
            · have hT := HLAW.out (by trivial) (by trivial) hc2 hc3 hc4 hc5
              subst hT
              clear HLAW
              go_upto_if 98 with fail
              go_cut [8, 9] from 99 to 115 (fun t8 t9 wx => Below w.heap.size w wx)
              case first =>
                obtain ⟨cka, ckb, ckc, _⟩ := spot3 (HF.out.alloc (.cells #[.int .i64 tq, .int .i64 tm, .int .i64 td, .int .i64 te, .int .i64 tn] 35))
                clear cfa cfb cfc
                go_wp2_with fail
                replace HU := hide (HU.out.alloc (.cells #[.int .i64 tq, .int .i64 tm, .int .i64 td, .int .i64 te, .int .i64 tn] 35))
                replace HF := hide (HF.out.alloc (.cells #[.int .i64 tq, .int .i64 tm, .int .i64 td, .int .i64 te, .int .i64 tn] 35))
                have HV := hide (Blk.new w7 35 #[.int .i64 tq, .int .i64 tm, .int .i64 td, .int .i64 te, .int .i64 tn])
                have HO := hide (own_oneT w7 (Nat.le_refl _) ⟨tq, tm, td, te, tn⟩).is
                replace HB := hide (HB.out.alloc HB.out.size (.cells #[.int .i64 tq, .int .i64 tm, .int .i64 td, .int .i64 te, .int .i64 tn] 35))
                generalize w7.alloc (.cells #[.int .i64 tq, .int .i64 tm, .int .i64 td, .int .i64 te, .int .i64 tn] 35) = w8 at *
                generalize w7.heap.size = bV at *
                clear tca tcb tcc tcd tce
                refine (CP.out _ _ HO.out).mono ?_; rintro e w9 ⟨rfl, hb⟩
                replace HU := hide (HU.out.below hb HU.out.lt)
                replace HF := hide (HF.out.below hb HF.out.lt)
                replace HV := hide (HV.out.below hb HV.out.lt)
                replace HB := hide (bstep HB.out hb HB.out.size); clear hb
                clear cka ckb ckc
                go_upto_region 10 with fail
                replace HU := hide (HU.out.alloc (.cells #[.int .i64 fx, .int .i64 fy, .int .i64 1] 38))
                replace HF := hide (HF.out.alloc (.cells #[.int .i64 fx, .int .i64 fy, .int .i64 1] 38))
                replace HV := hide (HV.out.alloc (.cells #[.int .i64 fx, .int .i64 fy, .int .i64 1] 38))
                have HH := hide (Blk.new w9 38 #[.int .i64 fx, .int .i64 fy, .int .i64 1])
                replace HB := hide (HB.out.alloc HB.out.size (.cells #[.int .i64 fx, .int .i64 fy, .int .i64 1] 38))
                generalize w9.alloc (.cells #[.int .i64 fx, .int .i64 fy, .int .i64 1] 38) = w10 at *
                generalize w9.heap.size = bH at *
                obtain ⟨cha, chb, chc, _⟩ := spot3 HH.out
                obtain ⟨cfa, cfb, cfc, _⟩ := spot3 HF.out
                go_wp2_with fail
                go_meet
                exact HB.out
              case rest =>
                apply_assumption
                exact spots2 A cap code w HCODE.out _ hcut _ _ _ _ _ _ _ _ _ _ _ _ _ _ _ _ _ _ _ _ _ _ _ _ _ _ _ _ _ _ _ _ _ _ _ _ _ _ _ _ _ _ _ _ _ _ _ _ _ _ _ _ _ _ _ _ _ _ _ _ _ _ _ _ _ _ _ _ _ _ _ _ _ _ _ _ _ _ _ _ _ _ _ _ _ _ _ _ _ _ _ _ _ _ _ _ _ _ _ _ _ _ _ _ _ _ _ _ _ _ _ _ _ _ _ _ _ _ _ _ _ _ _ _ _ _ _ _ _ _ _ _ _ _ _ _ _ _ _ _ _ _ _ _ _ _ _ _ _ _ _ _ _ _ _ _ _ _ _ _ _ _ _ _ _ _ _ _ _ _ _ _ _ _ _ _ _ _ _ _ _ _ _ _ _ _ _ _ _ _ _ _ _ _ _ _ _ _ _ _ _ _ _ _ _ _ _ _ _ _ _ _ _ _ _ _ _ _ _ _ _ _ _ _ _ _ _ _ _ _ _ _ _ _ _ _ _ _ _ _ _ _ _ _ _ _ _ _ _ _ _ _ _ _ _ _ _ _ _ _ _ _ _ _ _ _ _ _ _ _ _ _ _ _ _ _ _ _ _ _ _ _ _ _ _ _ _ _ _ _ _ _ _ _ _ _ _ _ _ _ _ _ _ _ _ _ _ _ _ _ HT.out
            · have hz : ¬ (fy ≤ 99999) := by exact hc5
              go_upto_if 98 with fail
              go_cut [8, 9] from 99 to 115 (fun t8 t9 wx => Below w.heap.size w wx)
              case first =>
                go_wp2_with fail
                go_meet
                exact HB.out
              case rest =>
                apply_assumption
                exact spots2 A cap code w HCODE.out _ hcut _ _ _ _ _ _ _ _ _ _ _ _ _ _ _ _ _ _ _ _ _ _ _ _ _ _ _ _ _ _ _ _ _ _ _ _ _ _ _ _ _ _ _ _ _ _ _ _ _ _ _ _ _ _ _ _ _ _ _ _ _ _ _ _ _ _ _ _ _ _ _ _ _ _ _ _ _ _ _ _ _ _ _ _ _ _ _ _ _ _ _ _ _ _ _ _ _ _ _ _ _ _ _ _ _ _ _ _ _ _ _ _ _ _ _ _ _ _ _ _ _ _ _ _ _ _ _ _ _ _ _ _ _ _ _ _ _ _ _ _ _ _ _ _ _ _ _ _ _ _ _ _ _ _ _ _ _ _ _ _ _ _ _ _ _ _ _ _ _ _ _ _ _ _ _ _ _ _ _ _ _ _ _ _ _ _ _ _ _ _ _ _ _ _ _ _ _ _ _ _ _ _ _ _ _ _ _ _ _ _ _ _ _ _ _ _ _ _ _ _ _ _ _ _ _ _ _ _ _ _ _ _ _ _ _ _ _ _ _ _ _ _ _ _ _ _ _ _ _ _ _ _ _ _ _ _ _ _ _ _ _ _ _ _ _ _ _ _ _ _ _ _ _ _ _ _ _ _ _ _ _ _ _ _ _ _ _ _ _ _ _ _ _ _ _ _ _ _ _ _ _ _ _ _ _ _ _ _ _ _ HT.out
          · have hz : ¬ (0 ≤ fy) := by exact hc4
            go_upto_if 98 with fail
            go_cut [8, 9] from 99 to 115 (fun t8 t9 wx => Below w.heap.size w wx)
            case first =>
              go_wp2_with fail
              go_meet
              exact HB.out
            case rest =>
              apply_assumption
              exact spots2 A cap code w HCODE.out _ hcut _ _ _ _ _ _ _ _ _ _ _ _ _ _ _ _ _ _ _ _ _ _ _ _ _ _ _ _ _ _ _ _ _ _ _ _ _ _ _ _ _ _ _ _ _ _ _ _ _ _ _ _ _ _ _ _ _ _ _ _ _ _ _ _ _ _ _ _ _ _ _ _ _ _ _ _ _ _ _ _ _ _ _ _ _ _ _ _ _ _ _ _ _ _ _ _ _ _ _ _ _ _ _ _ _ _ _ _ _ _ _ _ _ _ _ _ _ _ _ _ _ _ _ _ _ _ _ _ _ _ _ _ _ _ _ _ _ _ _ _ _ _ _ _ _ _ _ _ _ _ _ _ _ _ _ _ _ _ _ _ _ _ _ _ _ _ _ _ _ _ _ _ _ _ _ _ _ _ _ _ _ _ _ _ _ _ _ _ _ _ _ _ _ _ _ _ _ _ _ _ _ _ _ _ _ _ _ _ _ _ _ _ _ _ _ _ _ _ _ _ _ _ _ _ _ _ _ _ _ _ _ _ _ _ _ _ _ _ _ _ _ _ _ _ _ _ _ _ _ _ _ _ _ _ _ _ _ _ _ _ _ _ _ _ _ _ _ _ _ _ _ _ _ _ _ _ _ _ _ _ _ _ _ _ _ _ _ _ _ _ _ _ _ _ _ _ _ _ _ _ _ _ _ _ _ _ _ _ _ _ HT.out
        · have hz : ¬ (fx ≤ 99999) := by exact hc3
          go_upto_if 98 with fail
          go_cut [8, 9] from 99 to 115 (fun t8 t9 wx => Below w.heap.size w wx)
          case first =>
            go_wp2_with fail
            go_meet
            exact HB.out
          case rest =>
            apply_assumption
            exact spots2 A cap code w HCODE.out _ hcut _ _ _ _ _ _ _ _ _ _ _ _ _ _ _ _ _ _ _ _ _ _ _ _ _ _ _ _ _ _ _ _ _ _ _ _ _ _ _ _ _ _ _ _ _ _ _ _ _ _ _ _ _ _ _ _ _ _ _ _ _ _ _ _ _ _ _ _ _ _ _ _ _ _ _ _ _ _ _ _ _ _ _ _ _ _ _ _ _ _ _ _ _ _ _ _ _ _ _ _ _ _ _ _ _ _ _ _ _ _ _ _ _ _ _ _ _ _ _ _ _ _ _ _ _ _ _ _ _ _ _ _ _ _ _ _ _ _ _ _ _ _ _ _ _ _ _ _ _ _ _ _ _ _ _ _ _ _ _ _ _ _ _ _ _ _ _ _ _ _ _ _ _ _ _ _ _ _ _ _ _ _ _ _ _ _ _ _ _ _ _ _ _ _ _ _ _ _ _ _ _ _ _ _ _ _ _ _ _ _ _ _ _ _ _ _ _ _ _ _ _ _ _ _ _ _ _ _ _ _ _ _ _ _ _ _ _ _ _ _ _ _ _ _ _ _ _ _ _ _ _ _ _ _ _ _ _ _ _ _ _ _ _ _ _ _ _ _ _ _ _ _ _ _ _ _ _ _ _ _ _ _ _ _ _ _ _ _ _ _ _ _ _ _ _ _ _ _ _ _ _ _ _ _ _ _ _ _ _ _ HT.out
      · have hz : ¬ (0 ≤ fx) := by exact hc2
        go_upto_if 98 with fail
        go_cut [8, 9] from 99 to 115 (fun t8 t9 wx => Below w.heap.size w wx)
        case first =>
          go_wp2_with fail
          go_meet
          exact HB.out
        case rest =>
          apply_assumption
          exact spots2 A cap code w HCODE.out _ hcut _ _ _ _ _ _ _ _ _ _ _ _ _ _ _ _ _ _ _ _ _ _ _ _ _ _ _ _ _ _ _ _ _ _ _ _ _ _ _ _ _ _ _ _ _ _ _ _ _ _ _ _ _ _ _ _ _ _ _ _ _ _ _ _ _ _ _ _ _ _ _ _ _ _ _ _ _ _ _ _ _ _ _ _ _ _ _ _ _ _ _ _ _ _ _ _ _ _ _ _ _ _ _ _ _ _ _ _ _ _ _ _ _ _ _ _ _ _ _ _ _ _ _ _ _ _ _ _ _ _ _ _ _ _ _ _ _ _ _ _ _ _ _ _ _ _ _ _ _ _ _ _ _ _ _ _ _ _ _ _ _ _ _ _ _ _ _ _ _ _ _ _ _ _ _ _ _ _ _ _ _ _ _ _ _ _ _ _ _ _ _ _ _ _ _ _ _ _ _ _ _ _ _ _ _ _ _ _ _ _ _ _ _ _ _ _ _ _ _ _ _ _ _ _ _ _ _ _ _ _ _ _ _ _ _ _ _ _ _ _ _ _ _ _ _ _ _ _ _ _ _ _ _ _ _ _ _ _ _ _ _ _ _ _ _ _ _ _ _ _ _ _ _ _ _ _ _ _ _ _ _ _ _ _ _ _ _ _ _ _ _ _ _ _ _ _ _ _ _ _ _ _ _ _ _ _ _ _ _ _ HT.out
    · have hz : ¬ (fd = 1) := by exact hc1
      go_upto_if 98 with fail
      go_cut [8, 9] from 99 to 115 (fun t8 t9 wx => Below w.heap.size w wx)
      case first =>
        go_wp2_with fail
        go_meet
        exact HB.out
      case rest =>
        apply_assumption
        exact spots2 A cap code w HCODE.out _ hcut _ _ _ _ _ _ _ _ _ _ _ _ _ _ _ _ _ _ _ _ _ _ _ _ _ _ _ _ _ _ _ _ _ _ _ _ _ _ _ _ _ _ _ _ _ _ _ _ _ _ _ _ _ _ _ _ _ _ _ _ _ _ _ _ _ _ _ _ _ _ _ _ _ _ _ _ _ _ _ _ _ _ _ _ _ _ _ _ _ _ _ _ _ _ _ _ _ _ _ _ _ _ _ _ _ _ _ _ _ _ _ _ _ _ _ _ _ _ _ _ _ _ _ _ _ _ _ _ _ _ _ _ _ _ _ _ _ _ _ _ _ _ _ _ _ _ _ _ _ _ _ _ _ _ _ _ _ _ _ _ _ _ _ _ _ _ _ _ _ _ _ _ _ _ _ _ _ _ _ _ _ _ _ _ _ _ _ _ _ _ _ _ _ _ _ _ _ _ _ _ _ _ _ _ _ _ _ _ _ _ _ _ _ _ _ _ _ _ _ _ _ _ _ _ _ _ _ _ _ _ _ _ _ _ _ _ _ _ _ _ _ _ _ _ _ _ _ _ _ _ _ _ _ _ _ _ _ _ _ _ _ _ _ _ _ _ _ _ _ _ _ _ _ _ _ _ _ _ _ _ _ _ _ _ _ _ _ _ _ _ _ _ _ _ _ _ _ _ _ _ _ _ _ _ _ _ _ _ _ _ HT.out
  · have hz : ok = false := by simpa using hc0
    subst hz
    go_upto_if 98 with fail
    go_cut [8, 9] from 99 to 115 (fun t8 t9 wx => Below w.heap.size w wx)
    case first =>
      go_wp2_with fail
      go_meet
      exact HB.out
    case rest =>
      apply_assumption
      exact spots2 A cap code w HCODE.out _ hcut _ _ _ _ _ _ _ _ _ _ _ _ _ _ _ _ _ _ _ _ _ _ _ _ _ _ _ _ _ _ _ _ _ _ _ _ _ _ _ _ _ _ _ _ _ _ _ _ _ _ _ _ _ _ _ _ _ _ _ _ _ _ _ _ _ _ _ _ _ _ _ _ _ _ _ _ _ _ _ _ _ _ _ _ _ _ _ _ _ _ _ _ _ _ _ _ _ _ _ _ _ _ _ _ _ _ _ _ _ _ _ _ _ _ _ _ _ _ _ _ _ _ _ _ _ _ _ _ _ _ _ _ _ _ _ _ _ _ _ _ _ _ _ _ _ _ _ _ _ _ _ _ _ _ _ _ _ _ _ _ _ _ _ _ _ _ _ _ _ _ _ _ _ _ _ _ _ _ _ _ _ _ _ _ _ _ _ _ _ _ _ _ _ _ _ _ _ _ _ _ _ _ _ _ _ _ _ _ _ _ _ _ _ _ _ _ _ _ _ _ _ _ _ _ _ _ _ _ _ _ _ _ _ _ _ _ _ _ _ _ _ _ _ _ _ _ _ _ _ _ _ _ _ _ _ _ _ _ _ _ _ _ _ _ _ _ _ _ _ _ _ _ _ _ _ _ _ _ _ _ _ _ _ _ _ _ _ _ _ _ _ _ _ _ _ _ _ _ _ _ _ _ _ _ _ _ _ _ _ _ HT.out
end Go.Proofs.YtplemibckjnbhaaDoor
