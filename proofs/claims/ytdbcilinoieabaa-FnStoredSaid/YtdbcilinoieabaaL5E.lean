/- Contracts of the test of flats and drawers, in impl and spec: the Lean function goodDs. Conditions: small grams; lengths below 2^63. -/
import Derived.Test.YtdbcilinoieabaaL5D
namespace Go.Proofs.Ytdbcilinoieabaa
open Go.RowKit
set_option linter.unusedVariables false
def DrV.zero : DrV := ⟨0, 0, 0, 0, []⟩
def DrV.at (ds : List DrV) (i : Nat) : DrV := ds.getD i DrV.zero
theorem DrV.at_lt {ds : List DrV} {i : Nat} (h : i < ds.length) : DrV.at ds i = ds[i] := by simp [DrV.at, List.getD_eq_getElem?_getD, h]
theorem DrV.at_map {rs : List SDr} {i : Nat} (h : i < rs.length) : DrV.at (rs.map SDr.pl) i = ⟨rs[i].ident, rs[i].wide, rs[i].high, rs[i].holds, rs[i].xs⟩ := by
  rw [DrV.at_lt (by simpa using h)]; simp [SDr.pl]
def inHere (ds : List DrV) (i : Nat) (l : List Int) : Bool := l.all fun id => decide (whereD ds id = (i : Int))
def okDr (fs : List SFlat) (ds : List DrV) (i : Nat) : Bool := (DrV.at ds i).okB && (rightB fs (DrV.at ds i) && ((decide (i = 0) || decide ((DrV.at ds (i - 1)).ident < (DrV.at ds i).ident)) && inHere ds i (DrV.at ds i).fl))
def goodDs (fs : List SFlat) (ds : List DrV) : Bool := goodF fs && (decide (ds.length ≤ 8) && (List.range ds.length).all (okDr fs ds))
theorem goodDs_no {fs : List SFlat} {ds : List DrV} {i : Nat} (hi : i < ds.length) (h : okDr fs ds i = false) : goodDs fs ds = false := by
  unfold goodDs
  rw [Bool.and_eq_false_iff]; right
  rw [Bool.and_eq_false_iff]; right
  rw [List.all_eq_false]
  exact ⟨i, List.mem_range.2 hi, by rw [h]; simp⟩
theorem inHere_any (ds : List DrV) (i : Nat) (l : List Int) : (l.any fun id => whereD ds id != (i : Int)) = !inHere ds i l := by
  unfold inHere
  rw [← any_not_all, Bool.not_not]
  apply bool_of_iff
  simp only [List.any_eq_true, bne_iff_ne, Bool.not_eq_true', decide_eq_false_iff_not, ne_eq]
theorem AreDrawers1_any (v : Value) (ds : List DrV) (id i : Int) (g0 g1 : Nat) (w : World) (h : IsD w v ds) (h0 : w.cell? ⟨g0, 0, none⟩ = some v) (h1 : w.cell? ⟨g1, 0, none⟩ = some (.int .i64 i)) :
    Calls Try.prog 135 #[.int .i64 id, .pointer (some ⟨g0, 0, none⟩), .pointer (some ⟨g1, 0, none⟩)] w fun e w' => e = .returned (.bool (whereD ds id != i)) ∧ Below w.heap.size w w' := by
  have hc := fun n : Later w => drawerWith_any v ds id n.W (h.below n.h (Nat.le_refl _))
  have m0 := fun n => later_cell h0 n; have m1 := fun n => later_cell h1 n
  have HC := hide hc; clear hc h h0 h1
  generalize whereD ds id = wd at *
  go_enter Try.func135, Try.ntmps135
  go_wp2_with fail
  (refine wp_region_later (by kernel_rfl) (by kernel_rfl) ?_; (repeat (go_big_quiet_step ((go_at_call 119; exact later_call (HC.out _))))); refine wpQuiet_nil ?_; intro _ hw'; obtain ⟨nq, hw''⟩ := hw'; subst hw'')
  go_wp2_with fail
  go_ret
  exact ⟨rfl, nq.h⟩
set_option maxHeartbeats 4000000 in
theorem AreDrawers_any (v u : Value) (fs : List SFlat) (ds : List DrV) (w : World) (hv : Is 4 SFlat.enc w v fs) (hu : IsD w u ds) (hf : fitG fs) :
    Calls Try.prog 48 #[v, u] w fun e w' => e = .returned (.bool (goodDs fs ds)) ∧ Below w.heap.size w w' := by
  have HU := hide hu
  obtain ⟨rs, hmap, his, hok⟩ := hu
  have hm := his.len
  have hln : ds.length = rs.length := by rw [← hmap]; simp
  have hgd : goodDs fs ds = (goodF fs && (decide (rs.length ≤ 8) && (List.range rs.length).all (okDr fs ds))) := by rw [← hln]; rfl
  have hgno := fun i (hi : i < rs.length) h => goodDs_no (fs := fs) (ds := ds) (i := i) (by rw [hln]; exact hi) h
  generalize goodDs fs ds = gd at *
  obtain ⟨A, cap, rfl, hr, _, _⟩ := his
  have B1 := below_alloc w (.cells #[.slice A rs.length cap] 58)
  have hbk := Blk.new w 58 #[.slice A rs.length cap]
  have hlt0 := hbk.lt
  have HBK := hide hbk
  have HB1 := hide B1
  have HV := hide (hv.below B1 (Nat.le_refl _)); have HUD := hide (HU.out.below B1 (Nat.le_refl _))
  have HR := hide (hr.below B1 (Nat.le_refl _) B1.size)
  have HOK := hide (fun r (hr : r ∈ rs) => (hok r hr).below2 B1 (Nat.le_refl _) B1.size)
  have hca := AreFlats_is v fs _ HV.out
  have HGD := hide hgd; have HGNO := hide hgno; have HMAP := hide hmap; have HF := hide hf
  clear B1 hbk hv HU hr hok hgd hgno hmap hf hln
  have hsz0 : w.heap.size < (w.alloc (.cells #[.slice A rs.length cap] 58)).heap.size := by simp
  cases hgf : goodF fs with
  | false =>
    rw [hgf] at hca HGD
    have HC := hide hca; clear hca hgf
    go_enter Try.func48, Try.ntmps48
    go_wp2_with (go_at_call 46; refine HC.out.mono ?_; rintro e w2 ⟨rfl, hb2⟩; have HB2 := hide hb2; clear hb2)
    go_ret
    exact ⟨ret_bool HGD.out.symm, bstep HB1.out HB2.out HB1.out.size⟩
  | true =>
  rw [hgf, Bool.true_and] at HGD
  rw [hgf] at hca
  have HC := hide hca; clear hca hgf
  by_cases h8 : rs.length ≤ 8
  case neg =>
    have h8' : (8 : Int) < rs.length := by omega
    have HN := hide (HGD.out.trans (by rw [decide_eq_false h8]))
    clear h8
    go_enter Try.func48, Try.ntmps48
    go_upto_region 1 with fail
    generalize hwx : w.alloc (.cells #[.slice A rs.length cap] 58) = w1 at *
    generalize hgg : w.heap.size = gg at *
    have HGG := hide hgg; clear hgg hwx
    go_wp2_with (go_at_call 46; refine HC.out.mono ?_; rintro e w2 ⟨rfl, hb2⟩; have t0 := (HBK.out.below hb2 hlt0).cell 0; have HB2 := hide (bstep HB1.out hb2 (Nat.le_of_lt hlt0)); clear hb2; simp only [List.getElem?_toArray, List.getElem?_cons_zero] at t0)
    go_ret
    exact ⟨ret_bool HN.out.symm, (by rw [HGG.out]; exact HB2.out)⟩
  have h8' : ¬ (8 : Int) < rs.length := by omega
  rw [decide_eq_true h8, Bool.true_and] at HGD
  go_enter Try.func48, Try.ntmps48
  go_upto_region 1 with fail
  generalize hwx : w.alloc (.cells #[.slice A rs.length cap] 58) = w1 at *
  generalize hgg : w.heap.size = gg at *
  have HGG := hide hgg
  clear hwx hgg
  go_wp2_with (go_at_call 46; refine HC.out.mono ?_; rintro e w2 ⟨rfl, hb2⟩; have hbk2 := HBK.out.below hb2 hlt0; have t0 := hbk2.cell 0; have HBK2 := hide hbk2; have HB2 := hide (bstep HB1.out hb2 (Nat.le_of_lt hlt0)); have HV2 := hide (HV.out.below hb2 (Nat.le_refl _)); have HUD2 := hide (HUD.out.below hb2 (Nat.le_refl _)); have HR2 := hide (HR.out.below hb2 (Nat.le_refl _) hb2.size); have HOK2 := hide (fun r (hr : r ∈ rs) => (HOK.out r hr).below2 hb2 (Nat.le_refl _) hb2.size); have hlt2 := Nat.lt_of_lt_of_le hlt0 hb2.size; clear hb2 hbk2; simp only [List.getElem?_toArray, List.getElem?_cons_zero] at t0)
  clear t0
  go_loopw [17] (fun i wr => ∃ (k : Nat), k ≤ rs.length ∧ i = .int .i64 k ∧ (List.range k).all (okDr fs ds) = true ∧ Below w2.heap.size w2 wr) (fun i _ => rs.length - (intOf i).toNat)
  case atStart => exact ⟨0, Nat.zero_le _, rfl, rfl, Below.refl _ _⟩
  case round =>
    obtain ⟨i, hi, rfl, hall, hbel⟩ := hrel
    have HALL := hide hall; clear hall
    have hsw := hbel.size
    by_cases hlt : i < rs.length
    · have hlt' : (i : Int) < rs.length := by omega
      obtain ⟨b, off, rfl, hb, c0, c1, c2, c3, c4⟩ := SDr.cells HR2.out hlt hbel
      have hbw : b < wr.heap.size := by omega
      have hat := DrV.at_map hlt
      rw [HMAP.out] at hat
      have hco := HOK2.out _ (List.getElem_mem hlt)
      have hno := HGNO.out i hlt
      generalize rs[i].ident = y0 at *; generalize rs[i].wide = y1 at *; generalize rs[i].high = y2 at *; generalize rs[i].holds = y3 at *
      unfold SDr.ok at hco
      generalize rs[i].A = Ay at *; generalize rs[i].xs = ys at *; generalize rs[i].cap = cy at *
      have hly : ys.length ≤ 9223372036854775807 := by have := hco.2.1; have := hco.2.2; simp only [maxLen] at this; omega
      have hne : okDr fs ds i = (DrV.okB ⟨y0, y1, y2, y3, ys⟩ && (rightB fs ⟨y0, y1, y2, y3, ys⟩ && ((decide (i = 0) || decide ((DrV.at ds (i - 1)).ident < y0)) && inHere ds i ys))) := by unfold okDr; rw [hat]
      clear hat
      have hbx : Below wr.heap.size wr ((wr.alloc (.cells #[.int .i64 (i : Int)] 3)).alloc (.cells #[.int .i64 y0, .int .i64 y1, .int .i64 y2, .int .i64 y3, .slice Ay ys.length cy] 70)) := (below_alloc wr _).alloc (by simp) _
      have hbk3 := (Blk.new wr 3 #[.int .i64 (i : Int)]).alloc (.cells #[.int .i64 y0, .int .i64 y1, .int .i64 y2, .int .i64 y3, .slice Ay ys.length cy] 70)
      have hbd3 := Blk.new (wr.alloc (.cells #[.int .i64 (i : Int)] 3)) 70 #[.int .i64 y0, .int .i64 y1, .int .i64 y2, .int .i64 y3, .slice Ay ys.length cy]
      rw [World.size_alloc] at hbd3
      go_upto_region 6 with fail
      clear c0 c1 c2 c3 c4
      generalize (wr.alloc (.cells #[.int .i64 (i : Int)] 3)).alloc (.cells #[.int .i64 y0, .int .i64 y1, .int .i64 y2, .int .i64 y3, .slice Ay ys.length cy] 70) = w3 at *
      generalize hg3 : wr.heap.size = g3 at *
      have hb3 : Below w2.heap.size w2 w3 := hbel.trans (hbx.mono (by omega))
      have hs3 := hb3.size
      have hkl := hbk3.lt; have hdl := hbd3.lt
      have l0 : w3.cell? ⟨gg, 0, none⟩ = some (.slice (some ⟨b, off, none⟩) rs.length cap) := by rw [(HBK2.out.below hb3 hlt2).cell]; rfl
      have k0 : w3.cell? ⟨g3, 0, none⟩ = some (.int .i64 (i : Int)) := by rw [hbk3.cell]; rfl
      obtain ⟨t0, t1, t2, t3, t4⟩ := dr5 hbd3
      have hR3 := hco.1.below hb3 (Nat.le_refl _) hs3
      have hV3 := HV2.out.below hb3 (Nat.le_refl _)
      have HK3 := hide hbk3; have HD3 := hide hbd3; have HB3 := hide hb3
      clear hbk3 hbd3 hbx hbel hb3 hg3
      have hone := fun n : Later w3 => isDrawer_any y0 y1 y2 y3 Ay cy ys n.W (hR3.below n.h (Nat.le_refl _) n.h.size) hly
      have hsh : DrV.okB ⟨y0, y1, y2, y3, ys⟩ = true → ys.length ≤ 1000 := fun h => by have := (DrV.okB_iff.1 h).2.2.2.2.2.2.2.2.1; omega
      have n0 := fun n => later_cell t0 n; have n1 := fun n => later_cell t1 n; have n2 := fun n => later_cell t2 n; have n3 := fun n => later_cell t3 n; have n4 := fun n => later_cell t4 n
      have nl := fun n => later_cell l0 n; have nk := fun n => later_cell k0 n
      clear t0 t1 t2 t3 t4 l0 k0
      cases hok : DrV.okB ⟨y0, y1, y2, y3, ys⟩ with
      | false =>
        rw [hok] at hone hne
        have HN := hide (hno (by rw [hne]; rfl)); have HO := hide hone
        clear hone hne hok hsh hno
        go_wp2_with fail
        (refine wp_region_later (by kernel_rfl) (by kernel_rfl) ?_; (repeat (go_big_quiet_step ((go_at_call 127; exact later_call (HO.out _))))); refine wpQuiet_nil ?_; intro _ hw'; obtain ⟨nq, hw''⟩ := hw'; subst hw'')
        have B4 := hide (bstep HB3.out nq.h hs3)
        go_wp2_with fail
        go_ret
        exact ⟨ret_bool HN.out.symm, by rw [HGG.out]; exact HB2.out.trans (B4.out.mono (Nat.le_of_lt hlt2))⟩
      | true =>
        rw [hok, Bool.true_and] at hne
        rw [hok] at hone
        have hri := fun n : Later w3 => isRight_any v fs y0 y1 y2 y3 Ay cy ys n.W (hV3.below n.h (Nat.le_refl _)) (hR3.below n.h (Nat.le_refl _) n.h.size) HF.out (hsh hok)
        have HO := hide hone; clear hone hok hsh
        cases hrb : rightB fs ⟨y0, y1, y2, y3, ys⟩ with
        | false =>
          rw [hrb] at hri hne
          have HN := hide (hno (by rw [hne]; rfl)); have HRI := hide hri
          clear hri hne hrb hno
          go_wp2_with fail
          (refine wp_region_later (by kernel_rfl) (by kernel_rfl) ?_; (repeat (go_big_quiet_step ((first | (go_at_call 127; exact later_call (HO.out _)) | (go_at_call 133; exact later_call (HRI.out _)))))); refine wpQuiet_nil ?_; intro _ hw'; obtain ⟨nq, hw''⟩ := hw'; subst hw'')
          have B4 := hide (bstep HB3.out nq.h hs3)
          go_wp2_with fail
          go_ret
          exact ⟨ret_bool HN.out.symm, by rw [HGG.out]; exact HB2.out.trans (B4.out.mono (Nat.le_of_lt hlt2))⟩
        | true =>
          rw [hrb, Bool.true_and] at hne
          rw [hrb] at hri
          have HRI := hide hri; clear hri hrb
          have hcont : okDr fs ds i = true → (List.range (i + 1)).all (okDr fs ds) = true := fun h => by rw [List.range_succ, List.all_append, HALL.out]; simp [h]
          have HCONT := hide hcont; clear hcont
          rcases Nat.eq_zero_or_pos i with hz | hpos
          · have hz3 : ¬ 0 < i := by omega
            have hz4 : decide (0 < i) = false := decide_eq_false hz3
            have hz5 : (i == 0) = true := by simpa using hz
            have hne2 : okDr fs ds i = inHere ds i ys := hne.trans (by rw [decide_eq_true hz]; simp)
            clear hne hz
            go_wp2_with fail
            (refine wp_region_later (by kernel_rfl) (by kernel_rfl) ?_; (repeat (go_big_quiet_step ((first | (go_at_call 127; exact later_call (HO.out _)) | (go_at_call 133; exact later_call (HRI.out _)))))); refine wpQuiet_nil ?_; intro _ hw'; obtain ⟨nq, hw''⟩ := hw'; subst hw'')
            clear n0 n1 n2 n3 n4 nl nk
            have B4 := hide (bstep HB3.out nq.h hs3)
            have hk5 := HK3.out.below nq.h hkl
            have hd5 := HD3.out.below nq.h hdl
            have hb5 := nq.h
            have l5 : nq.W.cell? ⟨gg, 0, none⟩ = some (.slice (some ⟨b, off, none⟩) rs.length cap) := by rw [(HBK2.out.below B4.out hlt2).cell]; rfl
            have k5 : nq.W.cell? ⟨g3, 0, none⟩ = some (.int .i64 (i : Int)) := by rw [hk5.cell]; rfl
            have hR5 := hR3.below hb5 (Nat.le_refl _) hb5.size
            have hU5 := HUD2.out.below B4.out (Nat.le_refl _)
            obtain ⟨t0, t1, t2, t3, t4⟩ := dr5 hd5
            clear hk5 hd5
            have hs4 := B4.out.size
            generalize nq.W = W5 at *
            have hgb := World.block_lt_of_cell? W5 _ l5; have hgk := World.block_lt_of_cell? W5 _ k5
            have hpr : PredI 135 #[.pointer (some ⟨gg, 0, none⟩), .pointer (some ⟨g3, 0, none⟩)] (fun id => whereD ds id != (i : Int)) W5.heap.size W5 := fun W c hbW =>
              (AreDrawers1_any _ ds c (i : Int) gg g3 W (hU5.below hbW (Nat.le_refl _)) ((hbW.cell (p := ⟨gg, 0, none⟩) hgb).trans l5) ((hbW.cell (p := ⟨g3, 0, none⟩) hgk).trans k5)).mono fun e w' ⟨he, hw⟩ => ⟨he, hbW.trans (hw.mono hbW.size)⟩
            have hcf := ContainsFuncI_any 135 #[.pointer (some ⟨gg, 0, none⟩), .pointer (some ⟨g3, 0, none⟩)] _ Ay cy ys W5 hR5 hly (fun _ _ => by kernel_rfl) hpr
            rw [show (ys.any fun id => whereD ds id != (i : Int)) = !inHere ds i ys from inHere_any ds i ys] at hcf
            clear hpr hR5 hU5 l5 k5
            cases hin : inHere ds i ys with
            | false =>
              rw [hin] at hcf hne2
              have HN := hide (hno hne2); have HCF := hide hcf
              clear hcf hne2 hin hno
              go_wp2_with (go_at_call 134; refine HCF.out.mono ?_; rintro e w6 ⟨rfl, hb6⟩; have B6 := hide (bstep B4.out hb6 hs4); clear hb6)
              go_ret
              exact ⟨ret_bool HN.out.symm, by rw [HGG.out]; exact HB2.out.trans (B6.out.mono (Nat.le_of_lt hlt2))⟩
            | true =>
              rw [hin] at hcf hne2
              have HN := hide (HCONT.out hne2); have HCF := hide hcf
              clear hcf hne2 hin hno
              go_wp2_with (go_at_call 134; refine HCF.out.mono ?_; rintro e w6 ⟨rfl, hb6⟩; have B6 := hide (bstep B4.out hb6 hs4); clear hb6)
              go_round
              case measure => (first | (simp [intOf]; done) | (simp [intOf] <;> omega))
              case rel => exact ⟨i + 1, by omega, by go_num, HN.out, B6.out⟩
          · obtain ⟨q, rfl⟩ : ∃ q, i = q + 1 := ⟨i - 1, by omega⟩
            obtain ⟨b', off', hA, hb', p0, _, _, _, _⟩ := SDr.cells HR2.out (i := q) (by omega) HB3.out
            injection hA with hA; injection hA with hA1 hA2; subst hA1 hA2
            have hap := DrV.at_map (show q < rs.length by omega)
            rw [HMAP.out] at hap
            rw [show q + 1 - 1 = q by omega, hap] at hne
            generalize rs[q].ident = pid at *
            clear hap
            have np := fun n => later_cell p0 n
            clear p0
            by_cases hp : pid < y0
            · have hp' : ¬ y0 ≤ pid := by omega
              have hne2 : okDr fs ds (q + 1) = inHere ds (q + 1) ys := hne.trans (by rw [decide_eq_true hp, Bool.or_true, Bool.true_and])
              clear hne
              go_wp2_with fail
              (refine wp_region_later (by kernel_rfl) (by kernel_rfl) ?_; (repeat (go_big_quiet_step ((first | (go_at_call 127; exact later_call (HO.out _)) | (go_at_call 133; exact later_call (HRI.out _)))))); refine wpQuiet_nil ?_; intro _ hw'; obtain ⟨nq, hw''⟩ := hw'; subst hw'')
              clear n0 n1 n2 n3 n4 nl nk np
              have B4 := hide (bstep HB3.out nq.h hs3)
              have hk5 := HK3.out.below nq.h hkl
              have hd5 := HD3.out.below nq.h hdl
              have hb5 := nq.h
              have l5 : nq.W.cell? ⟨gg, 0, none⟩ = some (.slice (some ⟨b, off, none⟩) rs.length cap) := by rw [(HBK2.out.below B4.out hlt2).cell]; rfl
              have k5 : nq.W.cell? ⟨g3, 0, none⟩ = some (.int .i64 ((q + 1 : Nat) : Int)) := by rw [hk5.cell]; rfl
              have hR5 := hR3.below hb5 (Nat.le_refl _) hb5.size
              have hU5 := HUD2.out.below B4.out (Nat.le_refl _)
              obtain ⟨t0, t1, t2, t3, t4⟩ := dr5 hd5
              clear hk5 hd5
              have hs4 := B4.out.size
              generalize nq.W = W5 at *
              have hgb := World.block_lt_of_cell? W5 _ l5; have hgk := World.block_lt_of_cell? W5 _ k5
              have hpr : PredI 135 #[.pointer (some ⟨gg, 0, none⟩), .pointer (some ⟨g3, 0, none⟩)] (fun id => whereD ds id != ((q + 1 : Nat) : Int)) W5.heap.size W5 := fun W c hbW =>
                (AreDrawers1_any _ ds c ((q + 1 : Nat) : Int) gg g3 W (hU5.below hbW (Nat.le_refl _)) ((hbW.cell (p := ⟨gg, 0, none⟩) hgb).trans l5) ((hbW.cell (p := ⟨g3, 0, none⟩) hgk).trans k5)).mono fun e w' ⟨he, hw⟩ => ⟨he, hbW.trans (hw.mono hbW.size)⟩
              have hcf := ContainsFuncI_any 135 #[.pointer (some ⟨gg, 0, none⟩), .pointer (some ⟨g3, 0, none⟩)] _ Ay cy ys W5 hR5 hly (fun _ _ => by kernel_rfl) hpr
              rw [show (ys.any fun id => whereD ds id != ((q + 1 : Nat) : Int)) = !inHere ds (q + 1) ys from inHere_any ds (q + 1) ys] at hcf
              clear hpr hR5 hU5 l5 k5
              cases hin : inHere ds (q + 1) ys with
              | false =>
                rw [hin] at hcf hne2
                have HN := hide (hno hne2); have HCF := hide hcf
                clear hcf hne2 hin hno
                go_wp2_with (go_at_call 134; refine HCF.out.mono ?_; rintro e w6 ⟨rfl, hb6⟩; have B6 := hide (bstep B4.out hb6 hs4); clear hb6)
                go_ret
                exact ⟨ret_bool HN.out.symm, by rw [HGG.out]; exact HB2.out.trans (B6.out.mono (Nat.le_of_lt hlt2))⟩
              | true =>
                rw [hin] at hcf hne2
                have HN := hide (HCONT.out hne2); have HCF := hide hcf
                clear hcf hne2 hin hno
                go_wp2_with (go_at_call 134; refine HCF.out.mono ?_; rintro e w6 ⟨rfl, hb6⟩; have B6 := hide (bstep B4.out hb6 hs4); clear hb6)
                go_round
                case measure => (first | (simp [intOf]; done) | (simp [intOf] <;> omega))
                case rel => exact ⟨(q + 1) + 1, by omega, by go_num, HN.out, B6.out⟩
            · have hge : y0 ≤ pid := by omega
              have hne2 : okDr fs ds (q + 1) = false := by rw [hne, decide_eq_false hp, decide_eq_false (show ¬ q + 1 = 0 by omega)]; rfl
              have HN := hide (hno hne2)
              clear hne hne2 hno
              go_wp2_with fail
              (refine wp_region_later (by kernel_rfl) (by kernel_rfl) ?_; (repeat (go_big_quiet_step ((first | (go_at_call 127; exact later_call (HO.out _)) | (go_at_call 133; exact later_call (HRI.out _)))))); refine wpQuiet_nil ?_; intro _ hw'; obtain ⟨nq, hw''⟩ := hw'; subst hw'')
              have B4 := hide (bstep HB3.out nq.h hs3)
              go_wp2_with fail
              go_ret
              exact ⟨ret_bool HN.out.symm, by rw [HGG.out]; exact HB2.out.trans (B4.out.mono (Nat.le_of_lt hlt2))⟩
    · have hk : i = rs.length := by omega
      have hall := HALL.out
      rw [hk] at hall
      have HA := hide (HGD.out.trans hall); clear hall hk
      go_wp2_with fail
      go_ret
      exact ⟨ret_bool HA.out.symm, by rw [HGG.out]; exact HB2.out.trans (hbel.mono (Nat.le_of_lt hlt2))⟩
end Go.Proofs.Ytdbcilinoieabaa
