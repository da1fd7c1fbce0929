/- Contract of the test of flats and drawers in spec: the Lean function goodDs. Conditions: small grams; lengths below 2^63. -/
import Derived.Test.YtdbcilinoieabaaL5E
namespace Go.Proofs.Ytdbcilinoieabaa
open Go.RowKit
set_option linter.unusedVariables false
theorem row_take {α : Type} {k : Nat} {enc : α → Nat → Value} {w : World} {B : Nat} {A : Option Addr} {xs : List α} (h : Row k enc w B A xs) (n : Nat) : Row k enc w B A (xs.take n) := by
  rcases h with rfl | ⟨b, off, rfl, hb, hc⟩
  · exact .inl (by simp)
  · refine .inr ⟨b, off, rfl, hb, fun i x hx j hj => hc i x ?_ j hj⟩
    rw [List.getElem?_take] at hx
    split at hx
    · exact hx
    · cases hx
/-- no drawer ahead has one of the flats -/
def notAhead (ds : List DrV) (i : Nat) (l : List Int) : Bool := l.all fun id => decide (whereD (ds.take i) id < 0)
def okDs (fs : List SFlat) (ds : List DrV) (i : Nat) : Bool := (DrV.at ds i).okB && ((decide (i = 0) || decide ((DrV.at ds (i - 1)).ident < (DrV.at ds i).ident)) && (inB (gramsV fs (DrV.at ds i).wide (DrV.at ds i).high (DrV.at ds i).fl) 0 (DrV.at ds i).holds && notAhead ds i (DrV.at ds i).fl))
theorem whereD_place (ds : List DrV) (id : Int) : (whereD ds id = -1 ∧ ∀ d ∈ ds, id ∉ d.fl) ∨ ∃ k, ∃ h : k < ds.length, whereD ds id = (k : Int) ∧ id ∈ ds[k].fl ∧ ∀ d ∈ ds.take k, id ∉ d.fl := by
  rcases idxF_place (fun d : DrV => decide (id ∈ d.fl)) ds with ⟨h, h2⟩ | ⟨k, h, h1, h2, h3⟩
  · exact .inl ⟨h, fun d hd => of_decide_eq_false (h2 d hd)⟩
  · exact .inr ⟨k, h, h1, of_decide_eq_true h2, fun d hd => of_decide_eq_false (h3 d hd)⟩
theorem whereD_here {ds : List DrV} {id : Int} {i : Nat} (hi : i < ds.length) (hm : id ∈ ds[i].fl) : whereD ds id = (i : Int) ↔ whereD (ds.take i) id < 0 := by
  constructor
  · intro h
    rcases whereD_place ds id with ⟨h1, _⟩ | ⟨k, hk, h1, _, h3⟩
    · omega
    · obtain rfl : k = i := by omega
      rcases whereD_place (ds.take k) id with ⟨h4, _⟩ | ⟨j, hj, _, h5, _⟩
      · omega
      · exact absurd h5 (h3 _ (List.getElem_mem hj))
  · intro h
    rcases whereD_place (ds.take i) id with ⟨_, h2⟩ | ⟨j, hj, h1, _, _⟩
    · exact idxF_hit hi (by simpa using hm) (fun d hd => decide_eq_false (h2 d hd))
    · omega
theorem goodF_ok {fs : List SFlat} (h : goodF fs = true) {i : Nat} (hi : i < fs.length) : okF fs i = true := by
  unfold goodF at h
  rw [Bool.and_eq_true, List.all_eq_true] at h
  exact h.1 i (List.mem_range.2 hi)
theorem goodF_one {fs : List SFlat} (h : goodF fs = true) {z : SFlat} (hz : z ∈ fs) : SFlat.okB ⟨z.ident, z.wide, z.high, z.grams⟩ = true := by
  obtain ⟨i, hi, rfl⟩ := List.getElem_of_mem hz
  have := goodF_ok h hi
  unfold okF at this
  rw [Bool.and_eq_true, SFlat.at_lt hi] at this
  exact this.1
theorem sumW_pos {fs : List SFlat} (h : goodF fs = true) (l : List Int) : 0 ≤ sumW fs l := by
  have hz : ∀ id, 0 ≤ (gOf fs id).grams := fun id => by
    unfold gOf SFlat.at
    rw [List.getD_eq_getElem?_getD]
    cases hq : fs[(findF fs id).toNat]? with
    | none => exact Int.le_refl _
    | some z =>
      have := goodF_one h (List.mem_of_getElem? hq)
      have := SFlat.okB_iff.1 this
      simp; omega
  unfold sumW
  induction l with
  | nil => simp
  | cons a l ih => simp only [List.map_cons, List.sum_cons]; have := hz a; omega
theorem okDs_eq {fs : List SFlat} {ds : List DrV} {i : Nat} (hg : goodF fs = true) (hi : i < ds.length) : okDs fs ds i = okDr fs ds i := by
  have hat := DrV.at_lt hi
  unfold okDs okDr
  have h1 : inB (gramsV fs (DrV.at ds i).wide (DrV.at ds i).high (DrV.at ds i).fl) 0 (DrV.at ds i).holds = rightB fs (DrV.at ds i) := by
    unfold rightB gramsV
    cases fitsV fs (DrV.at ds i).wide (DrV.at ds i).high (DrV.at ds i).fl with
    | true =>
      have := sumW_pos hg (DrV.at ds i).fl
      simp only [if_true, Bool.true_and]
      apply bool_of_iff
      rw [inB_iff, decide_eq_true_iff]
      omega
    | false => simp [inB]
  have h2 : notAhead ds i (DrV.at ds i).fl = inHere ds i (DrV.at ds i).fl := by
    unfold notAhead inHere
    apply bool_of_iff
    rw [List.all_eq_true, List.all_eq_true]
    rw [hat]
    constructor
    · intro h id hid
      exact decide_eq_true ((whereD_here hi hid).2 (of_decide_eq_true (h id hid)))
    · intro h id hid
      exact decide_eq_true ((whereD_here hi hid).1 (of_decide_eq_true (h id hid)))
  rw [h1, h2]
  cases (DrV.at ds i).okB <;> cases rightB fs (DrV.at ds i) <;> cases (decide (i = 0) || decide ((DrV.at ds (i - 1)).ident < (DrV.at ds i).ident)) <;> rfl
theorem goodDs_no2 {fs : List SFlat} {ds : List DrV} {i : Nat} (hi : i < ds.length) (h : okDs fs ds i = false) : goodDs fs ds = false := by
  cases hg : goodF fs with
  | false => unfold goodDs; rw [hg, Bool.false_and]
  | true => exact goodDs_no hi (by rw [← okDs_eq hg hi]; exact h)
theorem goodDs_all {fs : List SFlat} {ds : List DrV} {n : Nat} (hn : ds.length = n) (h : (List.range n).all (okDs fs ds) = true) : goodDs fs ds = (goodF fs && decide (n ≤ 8)) := by
  subst hn
  unfold goodDs
  cases hg : goodF fs with
  | false => rfl
  | true =>
    have : (List.range ds.length).all (okDr fs ds) = true := by
      rw [List.all_eq_true] at h ⊢
      intro i hi
      rw [← okDs_eq hg (List.mem_range.1 hi)]
      exact h i hi
    rw [this, Bool.and_true]
theorem goodDs_long {fs : List SFlat} {ds : List DrV} {n : Nat} (hn : ds.length = n) (h : 8 < n) : goodDs fs ds = (goodF fs && decide (n ≤ 8)) := by
  subst hn
  unfold goodDs
  rw [decide_eq_false (by omega)]; simp
theorem notAhead_no {ds : List DrV} {i : Nat} {l : List Int} {k : Nat} (hk : k < l.length) (h : decide (whereD (ds.take i) l[k] < 0) = false) : notAhead ds i l = false := by
  unfold notAhead; rw [List.all_eq_false]; exact ⟨_, List.getElem_mem hk, by rw [h]; simp⟩
set_option maxHeartbeats 4000000 in
theorem l5Good_any (v u : Value) (fs : List SFlat) (ds : List DrV) (w : World) (hv : Is 4 SFlat.enc w v fs) (hu : IsD w u ds) (hf : fitG fs) :
    Calls Try.prog 112 #[v, u] w fun e w' => e = .returned (.bool (goodDs fs ds)) ∧ Below w.heap.size w w' := by
  obtain ⟨rs, hmap, his, hok⟩ := hu
  have hm := his.len
  have hln : ds.length = rs.length := by rw [← hmap]; simp
  have hgall := goodDs_all (fs := fs) hln
  have hglong := goodDs_long (fs := fs) hln
  have hgno := fun i (hi : i < rs.length) h => goodDs_no2 (fs := fs) (ds := ds) (i := i) (by rw [hln]; exact hi) h
  generalize goodDs fs ds = gd at *
  obtain ⟨A, cap, rfl, hr, _, _⟩ := his
  have HV := hide hv; have HR := hide hr; have HOK := hide hok
  have HGA := hide hgall; have HGL := hide hglong; have HGNO := hide hgno; have HMAP := hide hmap; have HF := hide hf
  clear hv hr hok hgall hglong hgno hmap hf hln
  go_enter Try.func112, Try.ntmps112
  go_wp2_with fail
  go_loopw [5] (fun i wr => ∃ (k : Nat), k ≤ rs.length ∧ k ≤ 9 ∧ i = .int .i64 k ∧ (List.range k).all (okDs fs ds) = true ∧ Below w.heap.size w wr) (fun i _ => rs.length - (intOf i).toNat)
  case atStart => exact ⟨0, Nat.zero_le _, by omega, rfl, rfl, Below.refl _ _⟩
  case round =>
    obtain ⟨i, hi, hi9, rfl, hall, hbel⟩ := hrel
    have HALL := hide hall; clear hall
    have hsw := hbel.size
    by_cases hlt : i < rs.length
    case neg =>
      have hk : i = rs.length := by omega
      have hall := HALL.out
      rw [hk] at hall
      have HA := hide (HGA.out hall); clear hall hk
      have hca := l5Flats_is v fs wr (HV.out.below hbel (Nat.le_refl _))
      generalize goodF fs = gf at *
      have h8 : decide ((rs.length : Int) ≤ 8) = decide (rs.length ≤ 8) := decide_eq_decide.2 (by omega)
      have H8 := hide h8; clear h8
      have HC := hide hca; clear hca
      cases gf
      all_goals
        go_wp2_with (go_at_call 132; refine HC.out.mono ?_; rintro e w2 ⟨rfl, hb2⟩; have HB2 := hide (bstep hbel hb2 hsw); clear hb2)
        go_ret
        exact ⟨ret_bool (by rw [HA.out]; first | rfl | simp [H8.out]), HB2.out⟩
    have hlt' : (i : Int) < rs.length := by omega
    by_cases hi8 : i ≤ 8
    case neg =>
      have h8' : ¬ (i : Int) ≤ 8 := by omega
      have HA := hide (HGL.out (by omega))
      have hl8 : ¬ (rs.length : Int) ≤ 8 := by omega
      have hn8 : decide (rs.length ≤ 8) = false := decide_eq_false (by omega)
      rw [hn8, Bool.and_false] at HA
      have hca := l5Flats_is v fs wr (HV.out.below hbel (Nat.le_refl _))
      generalize goodF fs = gf at *
      have HC := hide hca; clear hca hn8
      cases gf
      all_goals
        go_wp2_with (go_at_call 132; refine HC.out.mono ?_; rintro e w2 ⟨rfl, hb2⟩; have HB2 := hide (bstep hbel hb2 hsw); clear hb2)
        go_ret
        exact ⟨ret_bool (by simp [HA.out] <;> omega), HB2.out⟩
    have hi8' : (i : Int) ≤ 8 := by omega
    obtain ⟨b, off, rfl, hb, c0, c1, c2, c3, c4⟩ := SDr.cells HR.out hlt hbel
    have hbw : b < wr.heap.size := by omega
    have hat := DrV.at_map hlt
    rw [HMAP.out] at hat
    have hco := HOK.out _ (List.getElem_mem hlt)
    have hno := HGNO.out i hlt
    generalize rs[i].ident = y0 at *; generalize rs[i].wide = y1 at *; generalize rs[i].high = y2 at *; generalize rs[i].holds = y3 at *
    unfold SDr.ok at hco
    generalize rs[i].A = Ay at *; generalize rs[i].xs = ys at *; generalize rs[i].cap = cy at *
    have hly : ys.length ≤ 9223372036854775807 := by have := hco.2.1; have := hco.2.2; simp only [maxLen] at this; omega
    have hne : okDs fs ds i = (DrV.okB ⟨y0, y1, y2, y3, ys⟩ && ((decide (i = 0) || decide ((DrV.at ds (i - 1)).ident < y0)) && (inB (gramsV fs y1 y2 ys) 0 y3 && notAhead ds i ys))) := by unfold okDs; rw [hat]
    clear hat
    have hbx : Below wr.heap.size wr (wr.alloc (.cells #[.int .i64 y0, .int .i64 y1, .int .i64 y2, .int .i64 y3, .slice Ay ys.length cy] 70)) := below_alloc wr _
    have hbd3 := Blk.new wr 70 #[.int .i64 y0, .int .i64 y1, .int .i64 y2, .int .i64 y3, .slice Ay ys.length cy]
    go_upto_region 5 with fail
    clear c0 c1 c2 c3 c4
    generalize wr.alloc (.cells #[.int .i64 y0, .int .i64 y1, .int .i64 y2, .int .i64 y3, .slice Ay ys.length cy] 70) = w3 at *
    generalize hg3 : wr.heap.size = g3 at *
    have hb3 : Below w.heap.size w w3 := hbel.trans (hbx.mono (by omega))
    have hs3 := hb3.size
    have hdl := hbd3.lt
    obtain ⟨t0, t1, t2, t3, t4⟩ := dr5 hbd3
    have hR3 := hco.1.below hb3 (Nat.le_refl _) hs3
    have hV3 := HV.out.below hb3 (Nat.le_refl _)
    have HD3 := hide hbd3; have HB3 := hide hb3
    clear hbd3 hbx hbel hb3 hg3
    have hone := fun n : Later w3 => l5Drawer_any y0 y1 y2 y3 Ay cy ys n.W (hR3.below n.h (Nat.le_refl _) n.h.size) hly
    have hsh : DrV.okB ⟨y0, y1, y2, y3, ys⟩ = true → ys.length ≤ 1000 := fun h => by have := (DrV.okB_iff.1 h).2.2.2.2.2.2.2.2.1; omega
    have n0 := fun n => later_cell t0 n; have n1 := fun n => later_cell t1 n; have n2 := fun n => later_cell t2 n; have n3 := fun n => later_cell t3 n; have n4 := fun n => later_cell t4 n
    clear t0 t1 t2 t3 t4
    cases hok : DrV.okB ⟨y0, y1, y2, y3, ys⟩ with
    | false =>
      rw [hok] at hone hne
      have HN := hide (hno (by rw [hne]; rfl)); have HO := hide hone
      clear hone hne hok hsh hno
      go_wp2_with fail
      (refine wp_region_later (by kernel_rfl) (by kernel_rfl) ?_; (repeat (go_big_quiet_step ((go_at_call 130; exact later_call (HO.out _))))); refine wpQuiet_nil ?_; intro _ hw'; obtain ⟨nq, hw''⟩ := hw'; subst hw'')
      have B4 := hide (bstep HB3.out nq.h hs3)
      go_wp2_with fail
      go_ret
      exact ⟨ret_bool HN.out.symm, B4.out⟩
    | true =>
      rw [hok, Bool.true_and] at hne
      rw [hok] at hone
      have hgr := fun n : Later w3 => l5Grams_any v fs y0 y1 y2 y3 Ay cy ys n.W (hV3.below n.h (Nat.le_refl _)) (hR3.below n.h (Nat.le_refl _) n.h.size) HF.out (hsh hok)
      generalize gramsV fs y1 y2 ys = gv at *
      have hin := fun W => l1In_any gv 0 y3 W
      have HO := hide hone; have HG := hide hgr; clear hone hok hsh hgr
      have hcont : okDs fs ds i = true → (List.range (i + 1)).all (okDs fs ds) = true := fun h => by rw [List.range_succ, List.all_append, HALL.out]; simp [h]
      have HCONT := hide hcont; clear hcont
      rcases Nat.eq_zero_or_pos i with hz | hpos
      · have hz3 : ¬ 0 < i := by omega
        have hz4 : decide (0 < i) = false := decide_eq_false hz3
        have hz5 : (i == 0) = true := by simpa using hz
        have hne2 : okDs fs ds i = (inB gv 0 y3 && notAhead ds i ys) := hne.trans (by rw [decide_eq_true hz]; simp)
        clear hne hz
        cases hib : inB gv 0 y3 with
        | false =>
          rw [hib] at hin hne2
          have HN := hide (hno (by rw [hne2]; rfl)); have HI := hide hin
          clear hin hne2 hib hno
          go_wp2_with fail
          (refine wp_region_later (by kernel_rfl) (by kernel_rfl) ?_; (repeat (go_big_quiet_step ((first | (go_at_call 130; exact later_call (HO.out _)) | (go_at_call 184; exact later_call (HG.out _)) | (go_at_call 81; exact later_same (HI.out _)))))); refine wpQuiet_nil ?_; intro _ hw'; obtain ⟨nq, hw''⟩ := hw'; subst hw'')
          have B4 := hide (bstep HB3.out nq.h hs3)
          go_wp2_with fail
          go_ret
          exact ⟨ret_bool HN.out.symm, B4.out⟩
        | true =>
          rw [hib] at hin hne2
          rw [Bool.true_and] at hne2
          have HI := hide hin; clear hin hib
          go_wp2_with fail
          (refine wp_region_later (by kernel_rfl) (by kernel_rfl) ?_; (repeat (go_big_quiet_step ((first | (go_at_call 130; exact later_call (HO.out _)) | (go_at_call 184; exact later_call (HG.out _)) | (go_at_call 81; exact later_same (HI.out _)))))); refine wpQuiet_nil ?_; intro _ hw'; obtain ⟨nq, hw''⟩ := hw'; subst hw'')
          clear n0 n1 n2 n3 n4
          have B4 := hide (bstep HB3.out nq.h hs3)
          have hd5 := HD3.out.below nq.h hdl
          have hb5 := nq.h
          have hR5 := hR3.below hb5 (Nat.le_refl _) hb5.size
          have hdl5 := hd5.lt
          have HD5 := hide hd5
          clear hd5
          have hs4 := B4.out.size
          have hlen : (rs.take i).length = i := by rw [List.length_take]; omega
          generalize nq.W = W5 at *
          have HR5 := hide hR5
          have hbig : rs.length ≤ 9223372036854775807 := hm
          clear hR3 hV3 hb5 hR5
          go_wp2_with fail
          go_loopw [7] (fun j wr => ∃ (k : Nat), k ≤ ys.length ∧ j = .int .i64 k ∧ (∀ id ∈ ys.take k, decide (whereD (ds.take i) id < 0) = true) ∧ Below W5.heap.size W5 wr) (fun j _ => ys.length - (intOf j).toNat)
          case atStart => exact ⟨0, Nat.zero_le _, rfl, by simp, Below.refl _ _⟩
          case round =>
            obtain ⟨j, hj, rfl, hnoo, hbel⟩ := hrel
            have HNOO := hide hnoo; clear hnoo
            have hswj := hbel.size
            have hd6 := HD5.out.below hbel hdl5
            obtain ⟨t0, t1, t2, t3, t4⟩ := dr5 hd6
            clear hd6
            by_cases hlj : j < ys.length
            · have hlj' : (j : Int) < ys.length := by omega
              obtain ⟨by', offy, rfl, hby, d0⟩ := Ints.cells HR5.out hlj hbel
              have htk := take_snoc' hlj
              have hmis := fun h => notAhead_no (ds := ds) (i := i) hlj h
              have hB6 := B4.out.trans (hbel.mono hs4)
              have hwc := fun n : Later wr => l5Where_any (some ⟨b, off, none⟩) cap (rs.take i) ys[j] n.W (row_take (HR.out.below (bstep hB6 n.h hB6.size) (Nat.le_refl _) (bstep hB6 n.h hB6.size).size) _) (fun r hr => (HOK.out r (List.mem_of_mem_take hr)).below2 (bstep hB6 n.h hB6.size) (Nat.le_refl _) (bstep hB6 n.h hB6.size).size) (by omega)
              simp only [hlen, List.map_take, HMAP.out] at hwc
              generalize ys[j] = y at *
              generalize hwd : whereD (ds.take i) y = wd at *
              have HWD := hide hwd; clear hwd
              have HTK := hide htk; have HMIS := hide hmis; have HW := hide hwc; have HB6 := hide hB6
              clear htk hmis hwc hB6
              have m0 := fun n => later_cell d0 n
              have n4 := fun n => later_cell t4 n
              by_cases hneg : wd < 0
              · have hd : decide (wd < 0) = true := decide_eq_true hneg
                have hg0 : ¬ wd ≥ 0 := by omega
                have hg1 : decide (wd ≥ 0) = false := decide_eq_false hg0
                have HQ := hide hd; clear hd
                go_wp2_with fail
                (refine wp_region_later (by kernel_rfl) (by kernel_rfl) ?_; (repeat (go_big_quiet_step ((go_at_call 114; exact later_same (HW.out _))))); refine wpQuiet_nil ?_; intro _ hw'; obtain ⟨nq, hw''⟩ := hw'; subst hw'')
                have B7 := hide (bstep hbel nq.h hswj)
                generalize nq.W = W7 at B7
                go_wp2_with fail
                go_round
                case measure => (simp [intOf] <;> omega)
                case rel =>
                  refine ⟨j + 1, by omega, by go_num, ?_, B7.out⟩
                  rw [HTK.out]
                  intro c hc
                  rcases List.mem_append.1 hc with h | h
                  · exact HNOO.out c h
                  · rw [List.mem_singleton.1 h, HWD.out]; exact HQ.out
              · have hg0 : 0 ≤ wd := by omega
                have HN := hide (hno (by rw [hne2]; exact HMIS.out (decide_eq_false hneg)))
                go_wp2_with fail
                (refine wp_region_later (by kernel_rfl) (by kernel_rfl) ?_; (repeat (go_big_quiet_step ((go_at_call 114; exact later_same (HW.out _))))); refine wpQuiet_nil ?_; intro _ hw'; obtain ⟨nq, hw''⟩ := hw'; subst hw'')
                have B7 := hide (bstep HB6.out nq.h HB6.out.size)
                go_wp2_with fail
                go_ret
                exact ⟨ret_bool HN.out.symm, B7.out⟩
            · have hk : j = ys.length := by omega
              have hall2 : notAhead ds i ys = true := by
                have := HNOO.out; rw [hk, List.take_length] at this
                exact List.all_eq_true.2 this
              have HN := hide (HCONT.out (hne2.trans hall2))
              have B7 := hide (B4.out.trans (hbel.mono hs4))
              clear hk hall2
              go_wp2_with fail
              go_round
              case measure => (first | (simp [intOf]; done) | (simp [intOf] <;> omega))
              case rel => exact ⟨i + 1, by omega, by omega, by go_num, HN.out, B7.out⟩
      · obtain ⟨q, rfl⟩ : ∃ q, i = q + 1 := ⟨i - 1, by omega⟩
        obtain ⟨b', off', hA, hb', p0, _, _, _, _⟩ := SDr.cells HR.out (i := q) (by omega) HB3.out
        injection hA with hA; injection hA with hA1 hA2; subst hA1 hA2
        have hap := DrV.at_map (show q < rs.length by omega)
        rw [HMAP.out] at hap
        rw [show q + 1 - 1 = q by omega, hap] at hne
        generalize rs[q].ident = pid at *
        clear hap
        have np := fun n => later_cell p0 n
        clear p0
        by_cases hp : pid < y0
        · have hp' : ¬ y0 ≤ pid := by omega
          have hp2 : decide (pid ≥ y0) = false := decide_eq_false hp'
          have hne2 : okDs fs ds (q + 1) = (inB gv 0 y3 && notAhead ds (q + 1) ys) := hne.trans (by rw [decide_eq_true hp, Bool.or_true, Bool.true_and])
          clear hne
          cases hib : inB gv 0 y3 with
          | false =>
            rw [hib] at hin hne2
            have HN := hide (hno (by rw [hne2]; rfl)); have HI := hide hin
            clear hin hne2 hib hno
            go_wp2_with fail
            (refine wp_region_later (by kernel_rfl) (by kernel_rfl) ?_; (repeat (go_big_quiet_step ((first | (go_at_call 130; exact later_call (HO.out _)) | (go_at_call 184; exact later_call (HG.out _)) | (go_at_call 81; exact later_same (HI.out _)))))); refine wpQuiet_nil ?_; intro _ hw'; obtain ⟨nq, hw''⟩ := hw'; subst hw'')
            have B4 := hide (bstep HB3.out nq.h hs3)
            go_wp2_with fail
            go_ret
            exact ⟨ret_bool HN.out.symm, B4.out⟩
          | true =>
            rw [hib] at hin hne2
            rw [Bool.true_and] at hne2
            have HI := hide hin; clear hin hib
            go_wp2_with fail
            (refine wp_region_later (by kernel_rfl) (by kernel_rfl) ?_; (repeat (go_big_quiet_step ((first | (go_at_call 130; exact later_call (HO.out _)) | (go_at_call 184; exact later_call (HG.out _)) | (go_at_call 81; exact later_same (HI.out _)))))); refine wpQuiet_nil ?_; intro _ hw'; obtain ⟨nq, hw''⟩ := hw'; subst hw'')
            clear n0 n1 n2 n3 n4 np
            have B4 := hide (bstep HB3.out nq.h hs3)
            have hd5 := HD3.out.below nq.h hdl
            have hb5 := nq.h
            have hR5 := hR3.below hb5 (Nat.le_refl _) hb5.size
            have hdl5 := hd5.lt
            have HD5 := hide hd5
            clear hd5
            have hs4 := B4.out.size
            have hlen : (rs.take (q + 1)).length = (q + 1) := by rw [List.length_take]; omega
            generalize nq.W = W5 at *
            have HR5 := hide hR5
            have hbig : rs.length ≤ 9223372036854775807 := hm
            clear hR3 hV3 hb5 hR5
            go_wp2_with fail
            go_loopw [7] (fun j wr => ∃ (k : Nat), k ≤ ys.length ∧ j = .int .i64 k ∧ (∀ id ∈ ys.take k, decide (whereD (ds.take (q + 1)) id < 0) = true) ∧ Below W5.heap.size W5 wr) (fun j _ => ys.length - (intOf j).toNat)
            case atStart => exact ⟨0, Nat.zero_le _, rfl, by simp, Below.refl _ _⟩
            case round =>
              obtain ⟨j, hj, rfl, hnoo, hbel⟩ := hrel
              have HNOO := hide hnoo; clear hnoo
              have hswj := hbel.size
              have hd6 := HD5.out.below hbel hdl5
              obtain ⟨t0, t1, t2, t3, t4⟩ := dr5 hd6
              clear hd6
              by_cases hlj : j < ys.length
              · have hlj' : (j : Int) < ys.length := by omega
                obtain ⟨by', offy, rfl, hby, d0⟩ := Ints.cells HR5.out hlj hbel
                have htk := take_snoc' hlj
                have hmis := fun h => notAhead_no (ds := ds) (i := (q + 1)) hlj h
                have hB6 := B4.out.trans (hbel.mono hs4)
                have hwc := fun n : Later wr => l5Where_any (some ⟨b, off, none⟩) cap (rs.take (q + 1)) ys[j] n.W (row_take (HR.out.below (bstep hB6 n.h hB6.size) (Nat.le_refl _) (bstep hB6 n.h hB6.size).size) _) (fun r hr => (HOK.out r (List.mem_of_mem_take hr)).below2 (bstep hB6 n.h hB6.size) (Nat.le_refl _) (bstep hB6 n.h hB6.size).size) (by omega)
                simp only [hlen, List.map_take, HMAP.out] at hwc
                generalize ys[j] = y at *
                generalize hwd : whereD (ds.take (q + 1)) y = wd at *
                have HWD := hide hwd; clear hwd
                have HTK := hide htk; have HMIS := hide hmis; have HW := hide hwc; have HB6 := hide hB6
                clear htk hmis hwc hB6
                have m0 := fun n => later_cell d0 n
                have n4 := fun n => later_cell t4 n
                by_cases hneg : wd < 0
                · have hd : decide (wd < 0) = true := decide_eq_true hneg
                  have hg0 : ¬ wd ≥ 0 := by omega
                  have hg1 : decide (wd ≥ 0) = false := decide_eq_false hg0
                  have HQ := hide hd; clear hd
                  go_wp2_with fail
                  (refine wp_region_later (by kernel_rfl) (by kernel_rfl) ?_; (repeat (go_big_quiet_step ((go_at_call 114; exact later_same (HW.out _))))); refine wpQuiet_nil ?_; intro _ hw'; obtain ⟨nq, hw''⟩ := hw'; subst hw'')
                  have B7 := hide (bstep hbel nq.h hswj)
                  generalize nq.W = W7 at B7
                  go_wp2_with fail
                  go_round
                  case measure => (simp [intOf] <;> omega)
                  case rel =>
                    refine ⟨j + 1, by omega, by go_num, ?_, B7.out⟩
                    rw [HTK.out]
                    intro c hc
                    rcases List.mem_append.1 hc with h | h
                    · exact HNOO.out c h
                    · rw [List.mem_singleton.1 h, HWD.out]; exact HQ.out
                · have hg0 : 0 ≤ wd := by omega
                  have HN := hide (hno (by rw [hne2]; exact HMIS.out (decide_eq_false hneg)))
                  go_wp2_with fail
                  (refine wp_region_later (by kernel_rfl) (by kernel_rfl) ?_; (repeat (go_big_quiet_step ((go_at_call 114; exact later_same (HW.out _))))); refine wpQuiet_nil ?_; intro _ hw'; obtain ⟨nq, hw''⟩ := hw'; subst hw'')
                  have B7 := hide (bstep HB6.out nq.h HB6.out.size)
                  go_wp2_with fail
                  go_ret
                  exact ⟨ret_bool HN.out.symm, B7.out⟩
              · have hk : j = ys.length := by omega
                have hall2 : notAhead ds (q + 1) ys = true := by
                  have := HNOO.out; rw [hk, List.take_length] at this
                  exact List.all_eq_true.2 this
                have HN := hide (HCONT.out (hne2.trans hall2))
                have B7 := hide (B4.out.trans (hbel.mono hs4))
                clear hk hall2
                go_wp2_with fail
                go_round
                case measure => (first | (simp [intOf]; done) | (simp [intOf] <;> omega))
                case rel => exact ⟨(q + 1) + 1, by omega, by omega, by go_num, HN.out, B7.out⟩
        · have hge : y0 ≤ pid := by omega
          have hne2 : okDs fs ds (q + 1) = false := by rw [hne, decide_eq_false hp, decide_eq_false (show ¬ q + 1 = 0 by omega)]; rfl
          have HN := hide (hno hne2)
          clear hne hne2 hno
          go_wp2_with fail
          (refine wp_region_later (by kernel_rfl) (by kernel_rfl) ?_; (repeat (go_big_quiet_step ((first | (go_at_call 130; exact later_call (HO.out _)) | (go_at_call 184; exact later_call (HG.out _)) | (go_at_call 81; exact later_same (HI.out _)))))); refine wpQuiet_nil ?_; intro _ hw'; obtain ⟨nq, hw''⟩ := hw'; subst hw'')
          have B4 := hide (bstep HB3.out nq.h hs3)
          go_wp2_with fail
          go_ret
          exact ⟨ret_bool HN.out.symm, B4.out⟩
end Go.Proofs.Ytdbcilinoieabaa
