/- The walk of FnCrossings: it returns true whatever the code; old memory stays. No condition. (Printed by mkfncross.py.) -/
import Derived.Test.YtefnmfkndepfgaaL10Z2
import Derived.Test.YtefnmfkndepfgaaLw10
import Derived.Test.YtefnmfkndepfgaaL10U
import Derived.Test.YtefnmfkndepfgaaL10M
import Derived.Test.YtefnmfkndepfgaaL10K
namespace Go.Proofs.Ytefnmfkndepfgaa
open Go.RowKit
set_option linter.unusedVariables false
set_option maxRecDepth 100000 in
set_option maxHeartbeats 8000000 in
theorem law_FnCrossings (A : Option Addr) (cap : Nat) (code : List Int) (w : World) (hr : Row 1 encU w w.heap.size A code) (hl : code.length ≤ cap) (hc : cap ≤ maxLen) (wz : ∀ z ∈ code, (Lit.int .u8 z).wf = true) :
    Calls Try.prog 12 #[.slice A code.length cap] w fun e w' => e = .returned (.bool true) ∧ Below w.heap.size w w' := by
  have hcode : Code w (.slice A code.length cap) A cap code := ⟨rfl, hr, fun z hz => wf8 (wz z hz), hl, hc⟩
  have hbig := vBig_is A code.length cap w
  by_cases hlen : (65536 : Int) < code.length
  · rw [decide_eq_true hlen] at hbig
    have HBIG := hide hbig; clear hbig hr wz hcode
    go_enter Try.func12, Try.ntmps12
    go_wp2_with fail
    refine HBIG.out.mono ?_; rintro e w' ⟨rfl, rfl⟩
    go_wp2_with fail
    go_ret
    exact ⟨rfl, Below.refl _ _⟩
  rw [decide_eq_false hlen] at hbig
  have HBIG := hide hbig; have HCODE := hide hcode; clear hbig hr wz hcode hlen
  have HB := hide (Below.refl w.heap.size w)
  go_enter Try.func12, Try.ntmps12
  go_wp2_with fail
  refine HBIG.out.mono ?_; rintro e w' ⟨rfl, rfl⟩
  clear HBIG
  go_wp2_with fail
  refine (drawCrossingParts_is _ _ A cap code (HCODE.out.below HB.out (Nat.le_refl _))).mono ?_; rintro e w1 ⟨v, v2, xs, ys, rfl, hxl, hyl, ho, ho2, hb⟩
  replace HB := hide (bstep HB.out hb HB.out.size); clear hb
  have HX := hide ho.is; clear ho
  have HY := hide ho2.is; clear ho2
  have hone : ∀ c ∈ (crossV xs ys).1, (⟨c.y, c.x⟩ : SA2) ∈ (crossV ys xs).1 := fun c hc => cross_found hc
  have hlen := cross_len xs ys
  have htwo := cross_two xs ys
  have cC := fun (W : World) (hi : Is 2 SCorner.enc W v xs) (hj : Is 2 SCorner.enc W v2 ys) => implCrossingParts_any v xs v2 ys W hi hj
  have cCS := fun (W : World) (hi : Is 2 SCorner.enc W v xs) (hj : Is 2 SCorner.enc W v2 ys) => specCrossingParts_any v xs v2 ys W hi hj
  have cO := fun (W : World) (hi : Is 2 SCorner.enc W v xs) (hj : Is 2 SCorner.enc W v2 ys) => implCrossingParts_any v2 ys v xs W hj hi
  rw [htwo] at cO
  generalize (crossV xs ys).2 = r at *
  generalize (crossV xs ys).1 = ps at *
  generalize (crossV ys xs).1 = qs at *
  clear htwo
  have t1 : (r != r) = false := by simp
  have HONE := hide hone; have CC := hide cC; have CCS := hide cCS; have CO := hide cO; have HLEN := hide hlen
  clear hone cC cCS cO hlen
  go_wp2_with fail
  refine (CC.out _ HX.out HY.out).mono ?_; rintro e w2 ⟨rP, rfl, ho, hb⟩
  replace HX := hide (HX.out.below hb (Nat.le_refl _))
  replace HY := hide (HY.out.below hb (Nat.le_refl _))
  replace HB := hide (bstep HB.out hb HB.out.size); clear hb
  have HP := hide ho.is; clear ho
  go_wp2_with fail
  refine (CCS.out _ HX.out HY.out).mono ?_; rintro e w3 ⟨rS, rfl, ho, hb⟩
  replace HX := hide (HX.out.below hb (Nat.le_refl _))
  replace HY := hide (HY.out.below hb (Nat.le_refl _))
  replace HP := hide (HP.out.below hb (Nat.le_refl _))
  replace HB := hide (bstep HB.out hb HB.out.size); clear hb
  have HS := hide ho.is; clear ho
  go_wp2_with fail
  refine (vPairs_is _ _ _ _ HP.out HS.out).mono ?_; rintro e w4 ⟨rfl, hb⟩
  replace HX := hide (HX.out.below hb (Nat.le_refl _))
  replace HY := hide (HY.out.below hb (Nat.le_refl _))
  replace HP := hide (HP.out.below hb (Nat.le_refl _))
  replace HS := hide (HS.out.below hb (Nat.le_refl _))
  replace HB := hide (bstep HB.out hb HB.out.size); clear hb
  go_wp2_with fail
  refine (CO.out _ HX.out HY.out).mono ?_; rintro e w5 ⟨rQ, rfl, ho, hb⟩
  replace HX := hide (HX.out.below hb (Nat.le_refl _))
  replace HY := hide (HY.out.below hb (Nat.le_refl _))
  replace HP := hide (HP.out.below hb (Nat.le_refl _))
  replace HS := hide (HS.out.below hb (Nat.le_refl _))
  replace HB := hide (bstep HB.out hb HB.out.size); clear hb
  have HQ := hide ho.is; clear ho
  obtain ⟨AP, cP, rfl, _, _, hcP⟩ := HP.out
  obtain ⟨AQ, cQ, rfl, _, _, hcQ⟩ := HQ.out
  simp only [maxLen] at hcP hcQ
  have hlen := HLEN.out
  have t2 : ((qs.length : Int) != (ps.length : Int)) = false := by rw [hlen]; simp
  clear hlen
  go_upto_region 11 with fail
  go_wp2_with fail
  go_loopw [11] (fun i wr => ∃ q : Nat, q ≤ ps.length ∧ i = .int .i64 (q : Int) ∧ Is 2 SA2.enc wr (.slice AP ps.length cP) ps ∧ Is 2 SA2.enc wr (.slice AQ qs.length cQ) qs ∧ Below w.heap.size w wr) (fun i _ => ps.length - (intOf i).toNat)
  case atStart => exact ⟨0, Nat.zero_le _, rfl, HP.out, HQ.out, HB.out⟩
  case round =>
    clear HB HP HQ HX HY HS
    obtain ⟨q, hq, rfl, hp, hqq, hbel⟩ := hrel
    have HB := hide hbel; have HP := hide hp; have HQ := hide hqq; clear hbel hp hqq
    by_cases hlt : q < ps.length
    · have hlt' : (q : Int) < ps.length := by omega
      have hmem := HONE.out ps[q] (List.getElem_mem hlt)
      obtain ⟨A8, c8, he8, hr8, _, _⟩ := HP.out
      injection he8 with e1 e2 e3; subst e1 e3; clear e2
      obtain ⟨b, off, rfl, hb, c0, c1⟩ := SA2.cells hr8 hlt (Below.refl _ _)
      generalize ps[q].x = px at *; generalize ps[q].y = py at *
      have HM := hide hmem; clear hmem hr8
      go_wp2_with fail
      go_loopw [12, 13] (fun f i wr2 => ∃ (t : Nat) (bb : Bool), t ≤ qs.length ∧ i = .int .i64 (t : Int) ∧ f = .bool bb ∧ (bb = true ∨ ∀ c ∈ qs.take t, ¬ (c.x = py ∧ c.y = px)) ∧ Below wr.heap.size wr wr2) (fun _ i _ => qs.length - (intOf i).toNat)
      case atStart => exact ⟨0, false, Nat.zero_le _, rfl, rfl, .inr (by simp), Below.refl _ _⟩
      case round =>
        obtain ⟨t, bb, ht, rfl, rfl, hno, hbel2⟩ := hrel
        have HNO := hide hno; have HBB := hide hbel2
        by_cases hlt2 : t < qs.length
        · have hlt2' : (t : Int) < qs.length := by omega
          have hq2 := HQ.out.below hbel2 (Nat.le_refl _)
          obtain ⟨A9, c9, he9, hr9, _, _⟩ := hq2
          injection he9 with e1 e2 e3; subst e1 e3; clear e2
          obtain ⟨b2, off2, rfl, hb2, d0, d1⟩ := SA2.cells hr9 hlt2 (Below.refl _ _)
          have c0' := (hbel2.cell (p := ⟨b, off + q * 2, none⟩) hb).trans c0
          have c1' := (hbel2.cell (p := ⟨b, off + q * 2 + 1, none⟩) hb).trans c1
          have hst : ∀ c ∈ qs.take (t + 1), c ∈ qs.take t ∨ c = qs[t] := fun c hc => by
            rw [take_snoc' hlt2] at hc
            rcases List.mem_append.1 hc with h | h
            · exact .inl h
            · exact .inr (List.mem_singleton.1 h)
          have HST := hide hst
          have hqx : qs[t].x = qs[t].x := rfl
          generalize hgx : qs[t].x = qx at *; generalize hgy : qs[t].y = qy at *
          have HGX := hide hgx; have HGY := hide hgy
          clear hst hr9 hno hbel2 hgx hgy hqx c0 c1
          have fin : ∀ b3 : Bool, (b3 = true ∨ (bb = false ∧ ¬ (qx = py ∧ qy = px))) → (b3 = true ∨ ∀ c ∈ qs.take (t + 1), ¬ (c.x = py ∧ c.y = px)) := fun b3 h3 => by
            rcases h3 with h3 | ⟨h3, h4⟩
            · exact .inl h3
            · rcases HNO.out with h5 | h5
              · rw [h3] at h5; exact absurd h5 (by simp)
              · refine .inr fun c hc => ?_
                rcases HST.out c hc with h6 | h6
                · exact h5 c h6
                · rw [h6, HGX.out, HGY.out]; exact h4
          have FIN := hide fin; clear fin
          cases bb with
          | true =>
            go_wp2_with fail
            go_region
            all_goals
              go_wp2_with fail
              go_round
              case measure => (simp [intOf] <;> omega)
              case rel => exact ⟨t + 1, true, by omega, by go_num, rfl, .inl rfl, HBB.out.drew⟩
          | false =>
            by_cases h1 : qx = py
            · have h1b : (qx == py) = true := by simp [h1]
              by_cases h2 : qy = px
              · have h2b : (qy == px) = true := by simp [h2]
                go_wp2_with fail
                go_region
                all_goals
                  go_wp2_with fail
                  go_round
                  case measure => (simp [intOf] <;> omega)
                  case rel => exact ⟨t + 1, true, by omega, by go_num, rfl, .inl rfl, HBB.out.drew⟩
              · have h2b : (qy == px) = false := by simp [h2]
                go_wp2_with fail
                go_region
                all_goals
                  go_wp2_with fail
                  go_round
                  case measure => (simp [intOf] <;> omega)
                  case rel => exact ⟨t + 1, false, by omega, by go_num, rfl, FIN.out false (.inr ⟨by trivial, fun h => h2 h.2⟩), HBB.out.drew⟩
            · have h1b : (qx == py) = false := by simp [h1]
              go_wp2_with fail
              go_region
              all_goals
                go_wp2_with fail
                go_round
                case measure => (simp [intOf] <;> omega)
                case rel => exact ⟨t + 1, false, by omega, by go_num, rfl, FIN.out false (.inr ⟨by trivial, fun h => h1 h.1⟩), HBB.out.drew⟩
        · have hte : t = qs.length := by omega
          have hbt : bb = true := by
            rcases HNO.out with h5 | h5
            · exact h5
            · rw [hte, List.take_length] at h5
              exact absurd ⟨rfl, rfl⟩ (h5 _ HM.out)
          subst hbt
          clear hno hbel2
          have HB2 := hide (bstep HB.out HBB.out HB.out.size)
          have HP2 := hide (HP.out.below HBB.out (Nat.le_refl _)); have HQ2 := hide (HQ.out.below HBB.out (Nat.le_refl _))
          go_wp2_with fail
          go_round
          case measure => (simp [intOf] <;> omega)
          case rel => exact ⟨q + 1, by omega, by go_num, HP2.out, HQ2.out, HB2.out⟩
    · have hql : ¬ (q : Int) < ps.length := by omega
      clear HP HQ
      generalize wr = w30 at *
      go_wp2_with fail
      refine (drawJoinRoads_is _ _ A cap code (HCODE.out.below HB.out (Nat.le_refl _))).mono ?_; rintro e w31 ⟨u, u2, xs, ys, rfl, hxl, hyl, ho, ho2, hb⟩
      replace HB := hide (bstep HB.out hb HB.out.size); clear hb
      have HX := hide ho.is; clear ho
      have HY := hide ho2.is; clear ho2
      have hone := fun h => (⟨@join_parts xs ys h, rl_bd xs, rl_bd ys⟩ : _ ∧ _ ∧ _)
      have cJ := fun (W : World) (hi : Is 2 SCorner.enc W u xs) (hj : Is 2 SCorner.enc W u2 ys) => implJoinRoads_any u xs u2 ys W hi hj
      have cJS := fun (W : World) (hi : Is 2 SCorner.enc W u xs) (hj : Is 2 SCorner.enc W u2 ys) => specJoinRoads_any u xs u2 ys W hi hj
      have cLX := fun (W : World) (hi : Is 2 SCorner.enc W u xs) => implRoadLength_any u xs W hi
      have cLY := fun (W : World) (hi : Is 2 SCorner.enc W u2 ys) => implRoadLength_any u2 ys W hi
      have cLB := fun (r : Value) (W : World) (hi : Is 2 SCorner.enc W r (joinV xs ys).1) => implRoadLength_any r (joinV xs ys).1 W hi
      generalize (joinV xs ys).2 = b at *
      generalize (joinV xs ys).1 = zs at *
      generalize rlV xs = lx at *
      generalize rlV ys = ly at *
      generalize rlV zs = lz at *
      have t1 : (b != b) = false := by simp
      have HONE := hide hone; have CJ := hide cJ; have CJS := hide cJS; have CLX := hide cLX; have CLY := hide cLY; have CLB := hide cLB
      clear hone cJ cJS cLX cLY cLB
      go_wp2_with fail
      refine (CJ.out _ HX.out HY.out).mono ?_; rintro e w32 ⟨rP, rfl, ho, hb⟩
      replace HX := hide (HX.out.below hb (Nat.le_refl _))
      replace HY := hide (HY.out.below hb (Nat.le_refl _))
      replace HB := hide (bstep HB.out hb HB.out.size); clear hb
      have HP := hide ho.is; clear ho
      go_wp2_with fail
      refine (CJS.out _ HX.out HY.out).mono ?_; rintro e w33 ⟨rS, rfl, ho, hb⟩
      replace HX := hide (HX.out.below hb (Nat.le_refl _))
      replace HY := hide (HY.out.below hb (Nat.le_refl _))
      replace HP := hide (HP.out.below hb (Nat.le_refl _))
      replace HB := hide (bstep HB.out hb HB.out.size); clear hb
      have HS := hide ho.is; clear ho
      go_wp2_with fail
      refine (vCorners_is _ _ _ _ HP.out HS.out).mono ?_; rintro e w34 ⟨rfl, hb⟩
      replace HX := hide (HX.out.below hb (Nat.le_refl _))
      replace HY := hide (HY.out.below hb (Nat.le_refl _))
      replace HP := hide (HP.out.below hb (Nat.le_refl _))
      replace HS := hide (HS.out.below hb (Nat.le_refl _))
      replace HB := hide (bstep HB.out hb HB.out.size); clear hb
      go_upto_if 149 with fail
      go_cut [] (fun wx => Below w.heap.size w wx)
      case first =>
        cases b with
        | false =>
          go_wp2_with fail
          go_meet
          exact HB.out
        | true =>
          obtain ⟨lx1, lx2⟩ := lx
          obtain ⟨ly1, ly2⟩ := ly
          obtain ⟨lz1, lz2⟩ := lz
          obtain ⟨⟨rfl, rfl, rfl, rfl⟩, ⟨a1, a2⟩, a3, a4⟩ := HONE.out rfl
          simp only at a1 a2 a3 a4
          go_wp2_with fail
          refine (CLX.out _ HX.out).mono ?_; rintro e w35 ⟨rfl, hb⟩
          replace HX := hide (HX.out.below hb (Nat.le_refl _))
          replace HY := hide (HY.out.below hb (Nat.le_refl _))
          replace HP := hide (HP.out.below hb (Nat.le_refl _))
          replace HS := hide (HS.out.below hb (Nat.le_refl _))
          replace HB := hide (bstep HB.out hb HB.out.size); clear hb
          go_wp2_with fail
          refine (CLY.out _ HY.out).mono ?_; rintro e w36 ⟨rfl, hb⟩
          replace HX := hide (HX.out.below hb (Nat.le_refl _))
          replace HY := hide (HY.out.below hb (Nat.le_refl _))
          replace HP := hide (HP.out.below hb (Nat.le_refl _))
          replace HS := hide (HS.out.below hb (Nat.le_refl _))
          replace HB := hide (bstep HB.out hb HB.out.size); clear hb
          go_wp2_with fail
          refine (CLB.out _ _ HP.out).mono ?_; rintro e w37 ⟨rfl, hb⟩
          replace HX := hide (HX.out.below hb (Nat.le_refl _))
          replace HY := hide (HY.out.below hb (Nat.le_refl _))
          replace HP := hide (HP.out.below hb (Nat.le_refl _))
          replace HS := hide (HS.out.below hb (Nat.le_refl _))
          replace HB := hide (bstep HB.out hb HB.out.size); clear hb
          go_wp2_with fail
          go_meet
          exact HB.out
      case rest =>
        have HB := hide hcut
        generalize wc = w60 at *
        go_wp2_with fail
        refine (drawDetourOf_is _ _ A cap code (HCODE.out.below HB.out (Nat.le_refl _))).mono ?_; rintro e w61 ⟨v, xs, rfl, hxl, ho, hb⟩
        replace HB := hide (bstep HB.out hb HB.out.size); clear hb
        have HX := hide ho.is; clear ho
        have cD := fun (W : World) (hi : Is 2 SCorner.enc W v xs) => implDetourOf_any v xs W hi
        have cDS := fun (W : World) (hi : Is 2 SCorner.enc W v xs) => specDetourOf_any v xs W hi
        generalize detourV xs = dv at *
        have t1 : (dv.2.2 != dv.2.2) = false := by simp
        have CD := hide cD; have CDS := hide cDS; clear cD cDS
        go_wp2_with fail
        refine (CD.out _ HX.out).mono ?_; rintro e w62 ⟨rfl, hb⟩
        replace HX := hide (HX.out.below hb (Nat.le_refl _))
        replace HB := hide (bstep HB.out hb HB.out.size); clear hb
        go_wp2_with fail
        refine (CDS.out _ HX.out).mono ?_; rintro e w63 ⟨rfl, hb⟩
        replace HX := hide (HX.out.below hb (Nat.le_refl _))
        replace HB := hide (bstep HB.out hb HB.out.size); clear hb
        clear HX
        go_wp2_with fail
        refine (drawIsClearRoad_is _ _ A cap code (HCODE.out.below HB.out (Nat.le_refl _))).mono ?_; rintro e w64 ⟨u, ys, rfl, hyl, ho, hb⟩
        replace HB := hide (bstep HB.out hb HB.out.size); clear hb
        have HY := hide ho.is; clear ho
        have cD := fun (W : World) (hi : Is 2 SCorner.enc W u ys) => implIsClearRoad_any u ys W hi
        have cDS := fun (W : World) (hi : Is 2 SCorner.enc W u ys) => specIsClearRoad_any u ys W hi
        generalize clearV ys = cv at *
        have t2 : (cv.1 == cv.1) = true := by simp
        have t3 : (cv.2 == cv.2) = true := by simp
        have CD := hide cD; have CDS := hide cDS; clear cD cDS
        go_wp2_with fail
        refine (CD.out _ HY.out).mono ?_; rintro e w65 ⟨rfl, hb⟩
        replace HY := hide (HY.out.below hb (Nat.le_refl _))
        replace HB := hide (bstep HB.out hb HB.out.size); clear hb
        go_wp2_with fail
        refine (CDS.out _ HY.out).mono ?_; rintro e w66 ⟨rfl, hb⟩
        replace HY := hide (HY.out.below hb (Nat.le_refl _))
        replace HB := hide (bstep HB.out hb HB.out.size); clear hb
        go_wp2_with fail
        go_ret
        exact ⟨rfl, HB.out⟩
end Go.Proofs.Ytefnmfkndepfgaa
