/- Contract of l5With in spec: drawers in memory of their own, one of them with other flats. Conditions: at most a thousand drawers, each with at most a thousand flats. -/
import Derived.Test.YtdbcilinoieabaaL5H
namespace Go.Proofs.Ytdbcilinoieabaa
open Go.RowKit
set_option linter.unusedVariables false
theorem row_none {α : Type} {k : Nat} {enc : α → Nat → Value} {w : World} {B : Nat} {xs : List α} (h : Row k enc w B none xs) : xs = [] := by
  rcases h with h | ⟨b, off, h, _⟩
  · exact h
  · cases h
set_option maxHeartbeats 2000000 in
theorem l5With_any (u : Value) (ds : List DrV) (z : Int) (Az : Option Addr) (cz : Nat) (l : List Int) (w : World) (hu : IsD w u ds) (hz : Row 1 encI w w.heap.size Az l) (hzl : l.length ≤ 1000) (hzn : Az = none → l = []) (hl : ds.length ≤ 1000) (hx : ∀ d ∈ ds, d.fl.length ≤ 1000) :
    Calls Try.prog 115 #[u, .int .i64 z, .slice Az l.length cz] w fun e w' => ∃ r, e = .returned r ∧ Below w.heap.size w w' ∧ ∃ rs : List SDr, rs.map SDr.pl = setFl ds z l ∧ OwnDs w' w.heap.size r rs := by
  obtain ⟨rs, hmap, his, hok⟩ := hu
  have hln : ds.length = rs.length := by rw [← hmap]; simp
  rw [hln] at hl
  have hx2 : ∀ r ∈ rs, r.xs.length ≤ 1000 := fun r hr => hx r.pl (by rw [← hmap]; exact List.mem_map.2 ⟨r, hr, rfl⟩)
  obtain ⟨A, cap, rfl, hr, _, _⟩ := his
  have HR := hide hr; have HOK := hide hok; have HX := hide hx2; have HM := hide hmap; have HZ := hide hz; have HZN := hide hzn; clear hr hok hx hx2 hmap hz hzn
  go_enter Try.func115, Try.ntmps115
  go_upto_region 2 with fail
  have h00 : Own 5 SDr.enc 70 (w.alloc (.cells #[] 70)) w.heap.size (.slice (some ⟨w.heap.size, 0, none⟩) 0 0) ([] : List SDr) := Own.made (cs := #[]) rfl (Nat.le_refl _) (Blk.new _ _ _) rfl (Nat.zero_le _) Filled.zero
  have b00 := below_alloc w (.cells #[] 70)
  go_wp2_with fail
  go_loopw [7, 8] (fun o i wr => ∃ (k : Nat) (qs : List SDr), k ≤ rs.length ∧ i = .int .i64 k ∧ qs.map SDr.pl = (setFl ds z l).take k ∧ OwnDs wr w.heap.size o qs ∧ Below w.heap.size w wr) (fun _ i _ => rs.length - (intOf i).toNat)
  case atStart => exact ⟨0, [], Nat.zero_le _, rfl, rfl, ownDs_nil h00, b00⟩
  case round =>
    obtain ⟨i, qs, hi, rfl, hqm, hown, hbel⟩ := hrel
    have hsw := hbel.size
    have hql : qs.length = i := by have := congrArg List.length hqm; simpa [setFl_len, hln, Nat.min_eq_left hi] using this
    have HQM := hide hqm; clear hqm
    by_cases hlt : i < rs.length
    · have hlt' : (i : Int) < rs.length := by omega
      obtain ⟨b, off, rfl, hb, c0, c1, c2, c3, c4⟩ := SDr.cells HR.out hlt hbel
      have hco := HOK.out _ (List.getElem_mem hlt)
      have hlx := HX.out _ (List.getElem_mem hlt)
      have htk := setFl_take (ds := ds) (i := z) (l := l) (k := i) (by omega)
      have hdi : ds[i]'(by omega) = ⟨rs[i].ident, rs[i].wide, rs[i].high, rs[i].holds, rs[i].xs⟩ := by
        have hmm := HM.out
        subst hmm
        simp [SDr.pl]
      rw [hdi] at htk
      have HTK := hide htk; clear htk hdi
      unfold SDr.ok at hco
      generalize rs[i].ident = y0 at *; generalize rs[i].wide = y1 at *; generalize rs[i].high = y2 at *; generalize rs[i].holds = y3 at *
      generalize rs[i].A = Ay at *; generalize rs[i].xs = ys at *; generalize rs[i].cap = cy at *
      have hbx : Below wr.heap.size wr (wr.alloc (.cells #[.int .i64 y0, .int .i64 y1, .int .i64 y2, .int .i64 y3, .slice Ay ys.length cy] 70)) := below_alloc wr _
      have hbd3 := Blk.new wr 70 #[.int .i64 y0, .int .i64 y1, .int .i64 y2, .int .i64 y3, .slice Ay ys.length cy]
      go_upto_region 6 with fail
      clear c0 c1 c2 c3 c4
      have hs3 : wr.heap.size < (wr.alloc (.cells #[.int .i64 y0, .int .i64 y1, .int .i64 y2, .int .i64 y3, .slice Ay ys.length cy] 70)).heap.size := by simp
      generalize wr.alloc (.cells #[.int .i64 y0, .int .i64 y1, .int .i64 y2, .int .i64 y3, .slice Ay ys.length cy] 70) = w3 at *
      generalize hg3 : wr.heap.size = g3 at *
      obtain ⟨t0, t1, t2, t3, t4⟩ := dr5 hbd3
      have hb3 : Below w.heap.size w w3 := hbel.trans (hbx.mono hsw)
      have hca := l1Own_any Ay cy ys w3 (hco.1.below hb3 (Nat.le_refl _) hb3.size) (by omega) (fun h => row_none (h ▸ hco.1))
      have HBEL := hide hbel; have HC := hide hca; have HBX := hide hbx; have HB3 := hide hb3; have HOWN := hide hown; have HD3 := hide hbd3
      clear hca hbx hb3 hown hbd3 hco hbel
      go_upto_region 7 with (go_at_call 186; refine HC.out.mono ?_; rintro e w4 ⟨r1, rfl, ho4, hb4⟩; have hbd4 := HD3.out.below hb4 hs3; have kf := (fun o => hbd4.frozen o); obtain ⟨s0, s1, s2, s3, s4⟩ := dr5 hbd4; obtain ⟨A1, cp1, rfl, hr1, hcm1, hle1⟩ := ho4.row; have HO4 := hide ho4; have HB4 := hide hb4; have HD4 := hide hbd4; clear ho4 hb4 hbd4 hr1)
      have hd5 := HD4.out.set 4 (.slice A1 ys.length cp1)
      have hb5 : Below w3.heap.size w3 w4 := HB4.out
      have hw45 : Below g3 wr (w4.setCell ⟨g3, 4, none⟩ (.slice A1 ys.length cp1)) := (HBX.out.trans (HB4.out.mono (Nat.le_of_lt hs3))).setCell (p := ⟨g3, 4, none⟩) (Nat.le_refl _) _
      have ho5 : Own 1 encI 3 (w4.setCell ⟨g3, 4, none⟩ (.slice A1 ys.length cp1)) w3.heap.size (.slice A1 ys.length cp1) ys := HO4.out.setCell (p := ⟨g3, 4, none⟩) (fun g hg => by have := (HO4.out.lt g hg).1; show g ≠ g3; omega) _
      clear s0 s1 s2 s3 s4 t0 t1 t2 t3 t4 kf
      generalize w4.setCell ⟨g3, 4, none⟩ (.slice A1 ys.length cp1) = w5 at *
      have hd5' : Blk w5 g3 70 #[.int .i64 y0, .int .i64 y1, .int .i64 y2, .int .i64 y3, .slice A1 ys.length cp1] := hd5
      obtain ⟨t0, t1, t2, t3, t4⟩ := dr5 hd5'
      have hown5 := HOWN.out.below (by rw [hg3]; exact hw45)
      have hsw5 : g3 ≤ w5.heap.size := by have := hw45.size; omega
      have hnew := HOWN.out.newRow (ho5.mono (by rw [hg3]; exact Nat.le_of_lt hs3))
      have hb55 : Below w.heap.size w w5 := HBEL.out.trans (hw45.mono hsw)
      have HO5 := hide (hown5.spine); have HOW5 := hide hown5; have HR5 := hide ho5; have HN5 := hide hnew; have HB5 := hide hb55
      have HD5 := hide hd5'; have HW35 := hide hw45
      clear hown5 ho5 hnew hb55 hd5 hd5' hw45 hb5
      by_cases hzi : (i : Int) = z
      · have hzb : ((i : Int) == z) = true := by simpa using hzi
        have HZW := hide (l1Own_any Az cz l w5 (HZ.out.below HB5.out (Nat.le_refl _) HB5.out.size) (by omega) HZN.out)
        have hg5 : g3 < w5.heap.size := HD5.out.lt
        go_upto_region 9 with (go_at_call 186; refine HZW.out.mono ?_; rintro e w6 ⟨r2, rfl, ho6, hb6⟩; have hbd6 := HD5.out.below hb6 hg5; have kf := (fun o => hbd6.frozen o); obtain ⟨s0, s1, s2, s3, s4⟩ := dr5 hbd6; obtain ⟨A2, cp2, rfl, hr2, hcm2, hle2⟩ := ho6.row; have HO6 := hide ho6; have HB6 := hide hb6; have HD6 := hide hbd6; clear ho6 hb6 hbd6 hr2)
        have hd7 : Blk (w6.setCell ⟨g3, 4, none⟩ (.slice A2 l.length cp2)) g3 70 #[.int .i64 y0, .int .i64 y1, .int .i64 y2, .int .i64 y3, .slice A2 l.length cp2] := HD6.out.set 4 (.slice A2 l.length cp2)
        have hw57 : Below g3 w5 (w6.setCell ⟨g3, 4, none⟩ (.slice A2 l.length cp2)) := (HB6.out.mono (Nat.le_of_lt hg5)).setCell (p := ⟨g3, 4, none⟩) (Nat.le_refl _) _
        have ho7 : Own 1 encI 3 (w6.setCell ⟨g3, 4, none⟩ (.slice A2 l.length cp2)) w5.heap.size (.slice A2 l.length cp2) l := HO6.out.setCell (p := ⟨g3, 4, none⟩) (fun g hg => by have := (HO6.out.lt g hg).1; show g ≠ g3; omega) _
        clear s0 s1 s2 s3 s4 t0 t1 t2 t3 t4 kf
        generalize w6.setCell ⟨g3, 4, none⟩ (.slice A2 l.length cp2) = w7 at *
        obtain ⟨t0, t1, t2, t3, t4⟩ := dr5 hd7
        have hown7 := HOWN.out.below (by rw [hg3]; exact HW35.out.trans hw57)
        have hsw7 : g3 ≤ w7.heap.size := by have := hw57.size; omega
        have hnew7 := HOWN.out.newRow (ho7.mono (by rw [hg3]; exact Nat.le_of_lt hg5))
        have hb77 : Below w.heap.size w w7 := HB5.out.trans (hw57.mono hsw)
        have HO5 := hide (hown7.spine); have HOW5 := hide hown7; have HR5 := hide ho7; have HN5 := hide hnew7; have HB5 := hide hb77
        clear hown7 ho7 hnew7 hb77 hd7 hw57
        go_upto_region 4 with (at_builtin; refine wpList_push1 (k := 5) (enc := SDr.enc) _ rfl _ _ 58 rfl 70 (.agg #[.int .i64 0, .int .i64 0, .int .i64 0, .int .i64 0, .slice none 0 0]) 56 Try.underlying58 SDr.info rfl (by omega) (by omega) SDr.one (w.heap.size) _ (qs) rfl (HO5.out) (⟨y0, y1, y2, y3, A2, l, cp2⟩) _ rfl rfl (by omega) (by omega) (HB5.out) (Nat.le_refl _) rfl ?_; intro v1 w1 ho1 hb1 hg1)
        have hp := (HOW5.out.below (below_alloc w7 _)).push (r := ⟨y0, y1, y2, y3, A2, l, cp2⟩) ((HR5.out.mono (by have := HB5.out.size; omega)).alloc _) HN5.out ho1 hg1
        have HP := hide hp; have HB1 := hide hb1; clear hp hb1 ho1 hg1
        go_wp2_with fail
        go_round
        case measure => (simp [intOf] <;> omega)
        case rel => exact ⟨i + 1, _, by omega, by go_num, by rw [HTK.out, List.map_append, HQM.out, if_pos hzi]; rfl, HP.out, HB1.out⟩
      · have hzb : ((i : Int) == z) = false := by simpa using hzi
        go_upto_region 4 with (at_builtin; refine wpList_push1 (k := 5) (enc := SDr.enc) _ rfl _ _ 58 rfl 70 (.agg #[.int .i64 0, .int .i64 0, .int .i64 0, .int .i64 0, .slice none 0 0]) 56 Try.underlying58 SDr.info rfl (by omega) (by omega) SDr.one (w.heap.size) _ (qs) rfl (HO5.out) (⟨y0, y1, y2, y3, A1, ys, cp1⟩) _ rfl rfl (by omega) (by omega) (HB5.out) (Nat.le_refl _) rfl ?_; intro v1 w1 ho1 hb1 hg1)
        have hp := (HOW5.out.below (below_alloc w5 _)).push (r := ⟨y0, y1, y2, y3, A1, ys, cp1⟩) ((HR5.out.mono (by omega)).alloc _) HN5.out ho1 hg1
        have HP := hide hp; have HB1 := hide hb1; clear hp hb1 ho1 hg1
        go_wp2_with fail
        go_round
        case measure => (simp [intOf] <;> omega)
        case rel => exact ⟨i + 1, _, by omega, by go_num, by rw [HTK.out, List.map_append, HQM.out, if_neg hzi]; rfl, HP.out, HB1.out⟩
    · have hk : i = rs.length := by omega
      subst hk
      have HO := hide hown; have HB := hide hbel
      clear hown hbel
      go_wp2_with fail
      go_ret
      exact ⟨_, rfl, HB.out, qs, by rw [HQM.out, List.take_of_length_le (by rw [setFl_len]; omega)], HO.out⟩
end Go.Proofs.Ytdbcilinoieabaa
