/- The walk of FnRunoff: it returns true whatever the code; old memory stays. No condition. (Printed by mkfnrun.py.) -/
import Derived.Test.YtomcdkkjknphpaaWFnRun2
namespace Go.Proofs.Ytomcdkkjknphpaa
open Go.RowKit
set_option linter.unusedVariables false
set_option maxRecDepth 100000 in
set_option maxHeartbeats 8000000 in
theorem law_FnRunoff (A : Option Addr) (cap : Nat) (code : List Int) (w : World) (hr : Row 1 encU w w.heap.size A code) (hl : code.length ≤ cap) (hc : cap ≤ maxLen) (wz : ∀ z ∈ code, (Lit.int .u8 z).wf = true) :
    Calls Try.prog 14 #[.slice A code.length cap] w fun e w' => e = .returned (.bool true) ∧ Below w.heap.size w w' := by
  have hcode : Code w (.slice A code.length cap) A cap code := ⟨rfl, hr, fun z hz => wf8 (wz z hz), hl, hc⟩
  have hbig := vBig_is A code.length cap w
  by_cases hlen : (65536 : Int) < code.length
  · rw [decide_eq_true hlen] at hbig
    have HBIG := hide hbig; clear hbig hr wz hcode
    go_enter Try.func14, Try.ntmps14
    go_wp2_with fail
    refine HBIG.out.mono ?_; rintro e w' ⟨rfl, rfl⟩
    go_wp2_with fail
    go_ret
    exact ⟨rfl, Below.refl _ _⟩
  rw [decide_eq_false hlen] at hbig
  have HBIG := hide hbig; have HCODE := hide hcode; clear hbig hr wz hcode hlen
  have HB := hide (Below.refl w.heap.size w)
  go_enter Try.func14, Try.ntmps14
  go_wp2_with fail
  refine HBIG.out.mono ?_; rintro e w' ⟨rfl, rfl⟩
  clear HBIG
  go_wp2_with fail
  refine (drawRunOff_is _ _ A cap code (HCODE.out.below HB.out (Nat.le_refl _))).mono ?_; rintro e w1 ⟨v, xss, r, c, rfl, hg, hb⟩
  replace HB := hide (bstep HB.out hb HB.out.size); clear hb
  have HX := hide hg; clear hg
  have cR := fun (W : World) (hi : IsG W v xss) => implRunOff_any v xss r c W hi
  have cRS := fun (W : World) (hi : IsG W v xss) => specRunOff_any v xss r c W hi
  have cI := fun (W : World) (hi : IsG W v xss) => implIsRelief_any v xss W hi
  have cIS := fun (W : World) (hi : IsG W v xss) => specIsRelief_any v xss W hi
  have hnx := @runV_next xss r c
  have hnd := @runV_nodup xss r c
  generalize (runV xss r c).1 = path at *
  generalize (runV xss r c).2 = ok at *
  generalize reliefB xss = rb at *
  have t1 : (ok != ok) = false := by simp
  have t2 : (rb != rb) = false := by simp
  have HNX := hide hnx; have HND := hide @hnd; have CR := hide cR; have CRS := hide cRS; have CI := hide cI; have CIS := hide cIS
  clear hnx hnd cR cRS cI cIS
  go_wp2_with fail
  refine (CR.out _ HX.out).mono ?_; rintro e w2 ⟨rP, rfl, ho, hb⟩
  replace HX := hide (HX.out.below hb (Nat.le_refl _))
  replace HB := hide (bstep HB.out hb HB.out.size); clear hb
  have HP := hide ho.is; clear ho
  go_wp2_with fail
  refine (CRS.out _ HX.out).mono ?_; rintro e w3 ⟨rQ, rfl, ho, hb⟩
  replace HX := hide (HX.out.below hb (Nat.le_refl _))
  replace HP := hide (HP.out.below hb (Nat.le_refl _))
  replace HB := hide (bstep HB.out hb HB.out.size); clear hb
  have HQ := hide ho.is; clear ho
  go_wp2_with fail
  refine (vPairs_is _ _ _ _ HP.out HQ.out).mono ?_; rintro e w4 ⟨rfl, hb⟩
  replace HX := hide (HX.out.below hb (Nat.le_refl _))
  replace HP := hide (HP.out.below hb (Nat.le_refl _))
  replace HQ := hide (HQ.out.below hb (Nat.le_refl _))
  replace HB := hide (bstep HB.out hb HB.out.size); clear hb
  go_wp2_with fail
  refine (CI.out _ HX.out).mono ?_; rintro e w5 ⟨rfl, hb⟩
  replace HX := hide (HX.out.below hb (Nat.le_refl _))
  replace HP := hide (HP.out.below hb (Nat.le_refl _))
  replace HQ := hide (HQ.out.below hb (Nat.le_refl _))
  replace HB := hide (bstep HB.out hb HB.out.size); clear hb
  go_wp2_with fail
  refine (CIS.out _ HX.out).mono ?_; rintro e w6 ⟨rfl, hb⟩
  replace HX := hide (HX.out.below hb (Nat.le_refl _))
  replace HP := hide (HP.out.below hb (Nat.le_refl _))
  replace HQ := hide (HQ.out.below hb (Nat.le_refl _))
  replace HB := hide (bstep HB.out hb HB.out.size); clear hb
  go_upto_if 86 with fail
  go_cut [10, 11, 12, 13, 14] from 87 to 152 (fun t10 t11 t12 t13 t14 wx => Below w.heap.size w wx ∧ IsG wx v xss)
  case first =>
    cases ok with
    | false =>
      go_wp2_with fail
      go_meet
      exact ⟨HB.out, HX.out⟩
    | true =>
      obtain ⟨AP, cP, rfl, _, _, _⟩ := HP.out
      clear CR CRS CI CIS HQ
      go_wp2_with fail
      go_loopw [10] (fun i wr => ∃ n : Nat, n ≤ path.length ∧ i = .int .i64 (n : Int) ∧ IsG wr v xss ∧ Is 2 SA2.enc wr (.slice AP path.length cP) path ∧ Below w.heap.size w wr) (fun i _ => path.length - (intOf i).toNat)
      case atStart => exact ⟨0, Nat.zero_le _, rfl, HX.out, HP.out, HB.out⟩
      case round =>
        clear HX HP HB
        obtain ⟨n, hn, rfl, hx, hp, hbel⟩ := hrel
        have HX := hide hx; have HP := hide hp; have HB := hide hbel; clear hx hp hbel
        by_cases hlt : n < path.length
        · have hlt' : (n : Int) < path.length := by omega
          have hN := HNX.out trivial n hlt
          have hml := HP.out.len
          have cN := fun (W : World) (hi : IsG W v xss) => implNextSquare_any v xss path[n].x path[n].y W hi
          obtain ⟨A8, c8, he8, hr8, _, _⟩ := HP.out
          injection he8 with e1 e2 e3; subst e1 e3; clear e2
          obtain ⟨b, off, rfl, hbw, c0, c1⟩ := SA2.cells hr8 hlt (Below.refl _ _)
          by_cases hn1 : n + 1 < path.length
          · have hn1' : (n : Int) + 1 < path.length := by omega
            rw [dif_pos hn1] at hN
            rw [hN] at cN
            simp only at cN
            clear hN hr8
            generalize hpx : path[n].x = px at *; generalize hpy : path[n].y = py at *
            clear hpx hpy
            have CN := hide cN; have HXd := hide (HX.out.below (Below.refl wr.heap.size wr).drew (Nat.le_refl _)); clear cN
            go_wp2_with fail
            go_region_with (go_at_call 34; refine (CN.out _ HXd.out).mono ?_; rintro e w2 ⟨rfl, hb⟩; have HX2 := hide (HXd.out.below hb (Nat.le_refl _)); have HP2 := hide ((HP.out.below (Below.refl _ _).drew (Nat.le_refl _)).below hb (Nat.le_refl _)); have HB2 := hide (bstep HB.out.drew hb HB.out.drew.size); clear hb)
            all_goals
              obtain ⟨A8, c8, he8, hr8, _, _⟩ := HP2.out
              injection he8 with e1 e2 e3; subst e1 e3; clear e2
              obtain ⟨b8, off8, hA8, _, d0, d1⟩ := SA2.cells hr8 hn1 (Below.refl _ _)
              injection hA8 with hA8; injection hA8 with hA1 hA2; subst hA1 hA2
              generalize hpx : path[n + 1].x = qx at *; generalize hpy : path[n + 1].y = qy at *
              clear hpx hpy hr8 CN HXd HX HP HB c0 c1
              go_wp2_with fail
              go_loopw [14] (fun j wr => ∃ q : Nat, q ≤ n ∧ j = .int .i64 (q : Int) ∧ IsG wr v xss ∧ Is 2 SA2.enc wr (.slice (some ⟨b, off, none⟩) path.length cP) path ∧ Below w.heap.size w wr) (fun j _ => n - (intOf j).toNat)
              case atStart => exact ⟨0, Nat.zero_le _, rfl, HX2.out, HP2.out, HB2.out⟩
              case round =>
                clear HX2 HP2 HB2
                obtain ⟨q, hq, rfl, hx, hp, hbel⟩ := hrel
                have HX := hide hx; have HP := hide hp; have HB := hide hbel; clear hx hp hbel
                by_cases hlq : q < n
                · have hlq' : (q : Int) < (n : Int) := by omega
                  have hql : q < path.length := by omega
                  have hql' : (q : Int) < (path.length : Int) := by omega
                  obtain ⟨A8, c8, he8, hr8, _, _⟩ := HP.out
                  injection he8 with e1 e2 e3; subst e1 e3; clear e2
                  obtain ⟨b8, off8, hA8, _, d0, d1⟩ := SA2.cells hr8 hql (Below.refl _ _)
                  injection hA8 with hA8; injection hA8 with hA1 hA2; subst hA1 hA2
                  obtain ⟨b8, off8, hA8, _, d2, d3⟩ := SA2.cells hr8 hlt (Below.refl _ _)
                  injection hA8 with hA8; injection hA8 with hA1 hA2; subst hA1 hA2
                  have hne := (HND.out trivial) hlq (List.getElem?_eq_getElem hql) (List.getElem?_eq_getElem hlt)
                  have hnq : neqP path[q].x path[q].y path[n].x path[n].y = true := by
                    unfold neqP
                    rw [Bool.not_eq_true', Bool.and_eq_false_iff, decide_eq_false_iff_not, decide_eq_false_iff_not]
                    by_cases hx0 : path[q].x = path[n].x
                    · right; intro hy0
                      apply hne
                      generalize path[q] = s1 at *; generalize path[n] = s2 at *
                      cases s1; cases s2; simp only at hx0 hy0; subst hx0 hy0; rfl
                    · exact .inl hx0
                  generalize path[q].x = qx at *; generalize path[q].y = qy at *; generalize path[n].x = nx at *; generalize path[n].y = ny at *
                  have heq : ∀ W, (binOp .eql 50 (.agg #[.int .i64 qx, .int .i64 qy]) (.agg #[.int .i64 nx, .int .i64 ny])).run Try.prog W = .ok (.bool false) W := fun W => (SA2.eql_run qx qy nx ny W).trans (by rw [hnq]; rfl)
                  clear hne hnq hr8
                  go_wp2_with fail
                  go_region_held3 (fun w' => w'.cell? ⟨b, off + q * 2, none⟩ = some (.int .i64 qx) ∧ w'.cell? ⟨b, off + q * 2 + 1, none⟩ = some (.int .i64 qy) ∧ w'.cell? ⟨b, off + n * 2, none⟩ = some (.int .i64 nx) ∧ w'.cell? ⟨b, off + n * 2 + 1, none⟩ = some (.int .i64 ny)) (go_keep) (fail)
                  all_goals
                    go_wp2_with fail
                    go_round
                    case measure => (first | (simp [intOf]; done) | (simp [intOf] <;> omega))
                    case rel => exact ⟨q + 1, by omega, by go_num, HX.out.below (Below.refl _ _).drew (Nat.le_refl _), HP.out.below (Below.refl _ _).drew (Nat.le_refl _), HB.out.drew⟩
                · have hql : ¬ (q : Int) < (n : Int) := by omega
                  go_wp2_with fail
                  go_round
                  case measure => (first | (simp [intOf]; done) | (simp [intOf] <;> omega))
                  case rel => exact ⟨n + 1, by omega, by go_num, HX.out, HP.out, HB.out⟩
          · have hn1' : ¬ (n : Int) + 1 < path.length := by omega
            rw [dif_neg hn1] at hN
            rw [hN] at cN
            simp only at cN
            clear hN hr8
            generalize hpx : path[n].x = px at *; generalize hpy : path[n].y = py at *
            clear hpx hpy
            have CN := hide cN; have HXd := hide (HX.out.below (Below.refl wr.heap.size wr).drew (Nat.le_refl _)); clear cN
            go_wp2_with fail
            go_region_with (go_at_call 34; refine (CN.out _ HXd.out).mono ?_; rintro e w2 ⟨rfl, hb⟩; have HX2 := hide (HXd.out.below hb (Nat.le_refl _)); have HP2 := hide ((HP.out.below (Below.refl _ _).drew (Nat.le_refl _)).below hb (Nat.le_refl _)); have HB2 := hide (bstep HB.out.drew hb HB.out.drew.size); clear hb)
            all_goals
              clear CN HXd HX HP HB c0 c1
              go_wp2_with fail
              go_loopw [14] (fun j wr => ∃ q : Nat, q ≤ n ∧ j = .int .i64 (q : Int) ∧ IsG wr v xss ∧ Is 2 SA2.enc wr (.slice (some ⟨b, off, none⟩) path.length cP) path ∧ Below w.heap.size w wr) (fun j _ => n - (intOf j).toNat)
              case atStart => exact ⟨0, Nat.zero_le _, rfl, HX2.out, HP2.out, HB2.out⟩
              case round =>
                clear HX2 HP2 HB2
                obtain ⟨q, hq, rfl, hx, hp, hbel⟩ := hrel
                have HX := hide hx; have HP := hide hp; have HB := hide hbel; clear hx hp hbel
                by_cases hlq : q < n
                · have hlq' : (q : Int) < (n : Int) := by omega
                  have hql : q < path.length := by omega
                  have hql' : (q : Int) < (path.length : Int) := by omega
                  obtain ⟨A8, c8, he8, hr8, _, _⟩ := HP.out
                  injection he8 with e1 e2 e3; subst e1 e3; clear e2
                  obtain ⟨b8, off8, hA8, _, d0, d1⟩ := SA2.cells hr8 hql (Below.refl _ _)
                  injection hA8 with hA8; injection hA8 with hA1 hA2; subst hA1 hA2
                  obtain ⟨b8, off8, hA8, _, d2, d3⟩ := SA2.cells hr8 hlt (Below.refl _ _)
                  injection hA8 with hA8; injection hA8 with hA1 hA2; subst hA1 hA2
                  have hne := (HND.out trivial) hlq (List.getElem?_eq_getElem hql) (List.getElem?_eq_getElem hlt)
                  have hnq : neqP path[q].x path[q].y path[n].x path[n].y = true := by
                    unfold neqP
                    rw [Bool.not_eq_true', Bool.and_eq_false_iff, decide_eq_false_iff_not, decide_eq_false_iff_not]
                    by_cases hx0 : path[q].x = path[n].x
                    · right; intro hy0
                      apply hne
                      generalize path[q] = s1 at *; generalize path[n] = s2 at *
                      cases s1; cases s2; simp only at hx0 hy0; subst hx0 hy0; rfl
                    · exact .inl hx0
                  generalize path[q].x = qx at *; generalize path[q].y = qy at *; generalize path[n].x = nx at *; generalize path[n].y = ny at *
                  have heq : ∀ W, (binOp .eql 50 (.agg #[.int .i64 qx, .int .i64 qy]) (.agg #[.int .i64 nx, .int .i64 ny])).run Try.prog W = .ok (.bool false) W := fun W => (SA2.eql_run qx qy nx ny W).trans (by rw [hnq]; rfl)
                  clear hne hnq hr8
                  go_wp2_with fail
                  go_region_held3 (fun w' => w'.cell? ⟨b, off + q * 2, none⟩ = some (.int .i64 qx) ∧ w'.cell? ⟨b, off + q * 2 + 1, none⟩ = some (.int .i64 qy) ∧ w'.cell? ⟨b, off + n * 2, none⟩ = some (.int .i64 nx) ∧ w'.cell? ⟨b, off + n * 2 + 1, none⟩ = some (.int .i64 ny)) (go_keep) (fail)
                  all_goals
                    go_wp2_with fail
                    go_round
                    case measure => (first | (simp [intOf]; done) | (simp [intOf] <;> omega))
                    case rel => exact ⟨q + 1, by omega, by go_num, HX.out.below (Below.refl _ _).drew (Nat.le_refl _), HP.out.below (Below.refl _ _).drew (Nat.le_refl _), HB.out.drew⟩
                · have hql : ¬ (q : Int) < (n : Int) := by omega
                  go_wp2_with fail
                  go_round
                  case measure => (first | (simp [intOf]; done) | (simp [intOf] <;> omega))
                  case rel => exact ⟨n + 1, by omega, by go_num, HX.out, HP.out, HB.out⟩
        · have hql : ¬ (n : Int) < path.length := by omega
          go_wp2_with fail
          go_meet
          exact ⟨HB.out, HX.out⟩
  case rest =>
    apply_assumption
    exact run2 A cap code w HCODE.out _ hcut.1 _ _ _ _ _ _ _ _ _ _ _ _ _ _ _ _ _ _ _ _ _ _ _ _ _ _ _ _ _ _ _ _ _ _ _ _ _ _ _ _ _ _ _ _ _ _ _ _ _ _ _ _ _ _ _ _ _ _ _ _ _ _ _ _ _ _ _ _ _ _ _ _ _ _ _ _ _ _ _ _ _ _ _ _ _ _ _ _ _ _ _ _ _ _ _ _ _ _ _ _ _ _ _ _ _ _ _ _ _ _ _ _ _ _ _ _ _ _ _ _ _ _ _ _ _ _ _ _ _ _ _ _ _ _ _ _ _ _ _ _ _ _ _ _ _ _ _ _ _ _ _ _ _ _ _ _ _ _ _ _ _ _ _ _ _ _ _ _ _ _ _ _ _ _ _ _ _ _ _ _ _ _ _ _ _ _ _ _ _ _ _ _ _ _ _ _ _ _ _ _ _ _ _ _ _ _ _ _ _ _ _ _ _ _ _ _ _ _ _ _ _ _ _ _ _ _ _ _ _ _ _ _ _ _ _ _ _ _ _ _ _ _ _ _ _ _ _ _ _ _ _ _ _ _ _ _ _ _ _ _ _ _ _ _ _ _ _ _ _ _ _ _ _ _ _ _ _ _ _ _ _ _ _ _ _ _ _ _ _ _ _ _ _ _ _ _ _ _ _ _ _ _ _ _ _ _ _ _ xss hcut.2
end Go.Proofs.Ytomcdkkjknphpaa
