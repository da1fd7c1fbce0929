/- Contract of OweMost in impl: the Lean function oweV. Condition: the readers fit. -/
import Derived.Test.YtplemibckjnbhaaGreatDoorL3F
import Derived.Test.YtplemibckjnbhaaGreatDoorLSr
namespace Go.Proofs.YtplemibckjnbhaaGreatDoor
open Go.RowKit Go.Lib Go.Sort
set_option linter.unusedVariables false
/-- the ids of the first k -/
def oweTo (ys : List SReader) (k : Nat) : List Int := (ys.take k).map (·.ident)
theorem oweTo_succ {ys : List SReader} {k : Nat} (h : k < ys.length) : oweTo ys (k + 1) = oweTo ys k ++ [ys[k].ident] := by
  unfold oweTo; rw [List.take_succ_eq_append_getElem h, List.map_append]; rfl
theorem oweTo_le (ys : List SReader) (k : Nat) : (oweTo ys k).length ≤ ys.length := by simp [oweTo]; omega
theorem oweTo_min (ys : List SReader) (k : Nat) : oweTo ys (min k ys.length) = oweTo ys k := by
  unfold oweTo
  rcases Nat.le_total k ys.length with h | h
  · rw [Nat.min_eq_left h]
  · rw [Nat.min_eq_right h, List.take_of_length_le (Nat.le_refl _), List.take_of_length_le h]
/-- readers, who owes most first -/
def oweS (xs : List SReader) : List SReader := stD (ltOf Go.Proofs.YtplemibckjnbhaaGreatDoor.cfR) xs
def oweV (xs : List SReader) (n : Int) : List Int × Bool := if goodR xs = true ∧ inB n 0 10 = true then (oweTo (oweS xs) n.toNat, true) else ([], false)
set_option maxHeartbeats 4000000 in
set_option maxRecDepth 10000 in
theorem OweMost_is (v : Value) (xs : List SReader) (n : Int) (w : World) (h : Is 5 SReader.enc w v xs) (hw : ∀ z ∈ xs, z.wf) :
    Calls Tryz.prog 19 #[v, .int .i64 n] w fun e w' => ∃ r, e = .returned (.tuple #[r, .bool (oweV xs n).2]) ∧ Own 1 encI 3 w' w.heap.size r (oweV xs n).1 ∧ Below w.heap.size w w' := by
  have HA := hide (AreReaders_is v xs w h hw)
  have HI := hide h
  have hrv : oweV xs n = if goodR xs = true ∧ inB n 0 10 = true then (oweTo (oweS xs) n.toNat, true) else ([], false) := rfl
  generalize oweV xs n = rv at *
  cases hg : goodR xs with
  | false =>
    rw [hg, if_neg (by simp)] at hrv
    subst hrv
    rw [hg] at HA
    clear hg hw h
    go_enter Tryz.func19, Tryz.ntmps19
    go_wp2_with fail
    refine HA.out.mono ?_; rintro e w1 ⟨rfl, hb1⟩
    have B1 := hide hb1; clear hb1
    go_wp2_with fail
    go_ret2
    exact ⟨_, rfl, Own.nil, B1.out⟩
  | true =>
    have HC := hide (fun W => within_any n 0 10 W)
    cases hd : inB n 0 10 with
    | false =>
      rw [hg, hd, if_neg (by simp)] at hrv
      subst hrv
      rw [hg] at HA; rw [hd] at HC
      clear hg hw h hd
      go_enter Tryz.func19, Tryz.ntmps19
      go_wp2_with fail
      refine HA.out.mono ?_; rintro e w1 ⟨rfl, hb1⟩
      have B1 := hide hb1; clear hb1
      go_wp2_with fail
      refine (HC.out _).mono ?_; rintro e w2 ⟨rfl, rfl⟩
      go_wp2_with fail
      go_ret2
      exact ⟨_, rfl, Own.nil, B1.out⟩
    | true =>
      rw [hg, hd, if_pos ⟨rfl, rfl⟩] at hrv
      subst hrv
      obtain ⟨hn0, hn1⟩ := inB_iff.1 hd
      obtain ⟨m, rfl⟩ : ∃ m : Nat, n = (m : Int) := ⟨n.toNat, by omega⟩
      rw [Int.toNat_natCast, ← oweTo_min]
      rw [hg] at HA; rw [hd] at HC
      have hlen := goodR_len hg
      have hsl : (oweS xs).length = xs.length := stD_len _ _
      have HST := hide (fun (W : World) (b : Nat) (r : Value) (ho : Own 5 SReader.enc 25 W b r xs) => sortStableR_is r xs W ho (by omega))
      have hys : stD (ltOf Go.Proofs.YtplemibckjnbhaaGreatDoor.cfR) xs = oweS xs := rfl
      rw [hys] at HST
      have hq1 : min m (oweS xs).length ≤ (oweS xs).length := Nat.min_le_right _ _
      have hq2 : min (m : Int) ((oweS xs).length : Int) = ((min m (oweS xs).length : Nat) : Int) := by omega
      have hl10 : (oweS xs).length ≤ 10 := by omega
      generalize min m (oweS xs).length = q at *
      generalize oweS xs = ys at *
      have HCL := hide (fun W hi => cloneR_any v xs W hi (by omega))
      clear hg hd hys hsl h hw hn0 hn1
      go_enter Tryz.func19, Tryz.ntmps19
      go_wp2_with fail
      refine HA.out.mono ?_; rintro e w1 ⟨rfl, hb1⟩
      have I1 := hide (HI.out.below hb1 (Nat.le_refl _))
      have B1 := hide hb1; clear hb1
      go_wp2_with fail
      refine (HC.out _).mono ?_; rintro e w2 ⟨rfl, rfl⟩
      go_wp2_with fail
      refine (HCL.out _ I1.out).mono ?_; rintro e w2 ⟨r, rfl, ho, hb2⟩
      have hs1 := B1.out.size
      have B2 := hide (bstep B1.out hb2 hs1)
      have HO2 := hide ho; clear ho hb2
      go_wp2_with fail
      refine (HST.out _ _ _ HO2.out).mono ?_; rintro e w3 ⟨rfl, ho3, hg3⟩
      have B3 := hide (HO2.out.belowGrown B2.out hg3 hs1 B2.out.size)
      have HO3 := hide ho3
      have hs3 := B3.out.size
      have hq3 : (q : Int) ≤ ys.length := by omega
      rcases ho3 with ⟨rfl, hnil⟩ | ⟨g, cap, cs, rfl, hgb, hblk, hle, hcm, hcs, hfi⟩
      · have hq0 : q = 0 := by rw [hnil] at hq1; simpa using hq1
        have hys0 : ys.length = 0 := by rw [hnil]; rfl
        subst hq0
        have hmn : min (m : Int) 0 = 0 := by omega
        clear hq1 hq2 hq3 hg3 hl10
        have HNN := hide hnil; clear hnil hys0
        go_wp2_with fail
        refine wp_loop_rounds 1 ?_
        rw [rounds_succ]
        go_wp2_with fail
        go_ret2
        exact ⟨_, rfl, by simp [oweTo]; exact Own.nil, B3.out⟩
      · have HR := hide (hfi.row hblk hblk.lt)
        clear hg3 hblk hcs hfi
        generalize hB : w3.heap.size = B at HR
        have HB := hide hB
        have hqc : q ≤ cap := by omega
        go_wp2_with fail
        go_loopw [7, 29] (fun s i wr => ∃ k : Nat, k ≤ q ∧ i = .int .i64 (k : Int) ∧ Own 1 encI 3 wr B s (oweTo ys k) ∧ Below B w3 wr) (fun _ i _ => q - (intOf i).toNat)
        case atStart => exact ⟨0, Nat.zero_le _, rfl, Own.nil, by rw [← hB]; exact Below.refl _ _⟩
        case round =>
          obtain ⟨k, hk, rfl, hown, hbel⟩ := hrel
          have HOW := hide hown; clear hown
          have hsz : B ≤ wr.heap.size := by have := hbel.size; omega
          by_cases hlt : k < q
          · have hlt' : (k : Int) < q := by omega
            have hky : k < ys.length := by omega
            obtain ⟨b, off, hAA, hb, c0, c1, c2, c3, c4⟩ := SReader.cells HR.out hky hbel
            injection hAA with hAA; injection hAA with hA1 hA2; subst hA1 hA2
            simp only [Nat.zero_add] at c0 c1 c2 c3 c4
            have hst := oweTo_succ hky
            have hdl : (oweTo ys k).length ≤ 16777216 := by have := oweTo_le ys k; omega
            generalize ys[k] = yy at *
            obtain ⟨y0, y1, y2, y3, y4⟩ := yy
            simp only at c0 c1 c2 c3 c4 hst
            have HSTT := hide hst
            have HBK := hide (Blk.new wr 25 #[.int .i64 y0, .string y1, .int .i64 y2, .int .i64 y3, .int .i64 y4])
            have HO1 := hide (HOW.out.below (below_alloc wr (.cells #[.int .i64 y0, .string y1, .int .i64 y2, .int .i64 y3, .int .i64 y4] 25)))
            have BB := hide (hbel.alloc hsz (.cells #[.int .i64 y0, .string y1, .int .i64 y2, .int .i64 y3, .int .i64 y4] 25))
            have hsa : wr.heap.size < (wr.alloc (.cells #[.int .i64 y0, .string y1, .int .i64 y2, .int .i64 y3, .int .i64 y4] 25)).heap.size := by simp
            clear hst HOW hbel
            go_upto_region 9 with fail
            clear c0 c1 c2 c3 c4
            generalize wr.alloc (.cells #[.int .i64 y0, .string y1, .int .i64 y2, .int .i64 y3, .int .i64 y4] 25) = w4 at *
            generalize wr.heap.size = gm at *
            obtain ⟨t0, t1, t2, t3, t4⟩ := cells5 HBK.out
            have hs4 : B ≤ w4.heap.size := by omega
            go_wp2_with ((at_builtin; refine wpList_push1 (k := 1) (enc := encI) _ rfl _ _ 43 rfl 3 (.int .i64 0) 8 Tryz.underlying43 infoI rfl (by omega) (by omega) encI_one (B) _ (oweTo ys k) rfl (HO1.out) (y0) _ rfl rfl (hdl) (hs4) (BB.out) (Nat.le_refl _) rfl ?_; intro v1 w1 ho1 hb1 hg1))
            go_round
            case measure => (simp [intOf] <;> omega)
            case rel => exact ⟨k + 1, by omega, by go_num, by rw [HSTT.out]; exact ho1, hb1⟩
          · have hnn : k = q := by omega
            subst hnn
            have HBB := hide hbel; clear hbel
            go_wp2_with fail
            go_ret2
            exact ⟨_, rfl, HOW.out.mono (by omega), B3.out.trans (HBB.out.mono (by omega))⟩
end Go.Proofs.YtplemibckjnbhaaGreatDoor
