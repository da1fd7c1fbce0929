/- Contracts of copyDrawers in impl and of l5With in spec: drawers in memory of their own; in spec's, one of them with other flats. Conditions: at most a thousand drawers, each with at most a thousand flats. -/
import Derived.Test.YtdbcilinoieabaaL5G
namespace Go.Proofs.Ytdbcilinoieabaa
open Go.RowKit
set_option linter.unusedVariables false
theorem ownDs_nil {w : World} {lo : Nat} {v : Value} (h : Own 5 SDr.enc 70 w lo v ([] : List SDr)) : OwnDs w lo v [] :=
  ⟨h, fun i r hr => by simp at hr, fun i r hr => by simp at hr, fun i j r s hr => by simp at hr⟩
theorem OwnDs.push {w w' : World} {lo : Nat} {v v' : Value} {rs : List SDr} {r : SDr} (h : OwnDs w lo v rs) (hrow : Own 1 encI 3 w lo r.fv r.xs) (hnew : ∀ g, r.fv.ownBlock = some g → ∀ (i : Nat) (s : SDr), rs[i]? = some s → s.fv.ownBlock ≠ some g)
    (hsp : Own 5 SDr.enc 70 w' lo v' (rs ++ [r])) (hg : w.grownBy w' v.ownBlock) : OwnDs w' lo v' (rs ++ [r]) := by
  have hcase : ∀ (k : Nat) (s : SDr), (rs ++ [r])[k]? = some s → (k < rs.length ∧ rs[k]? = some s) ∨ (k = rs.length ∧ s = r) := fun k s hk => by
    by_cases hl : k < rs.length
    · rw [List.getElem?_append_left hl] at hk; exact .inl ⟨hl, hk⟩
    · have h1 := (List.getElem?_eq_some_iff.1 hk).1
      have hkl : k = rs.length := by simp at h1; omega
      subst hkl
      simp at hk
      exact .inr ⟨rfl, hk.symm⟩
  have hrows : ∀ (k : Nat) (s : SDr), (rs ++ [r])[k]? = some s → Own 1 encI 3 w' lo s.fv s.xs := fun k s hk => by
    rcases hcase k s hk with ⟨_, h1⟩ | ⟨_, rfl⟩
    · exact (h.rows k s h1).grown hg (own_ne5 (h.rows k s h1) h.spine (by decide))
    · exact hrow.grown hg (own_ne5 hrow h.spine (by decide))
  refine ⟨hsp, hrows, fun k s hk => own_ne5 (hrows k s hk) hsp (by decide), ?_⟩
  intro k l s t hk hl hkl g hg
  rcases hcase k s hk with ⟨h0, h1⟩ | ⟨h0, rfl⟩ <;> rcases hcase l t hl with ⟨h2, h3⟩ | ⟨h2, rfl⟩
  · exact h.sep k l s t h1 h3 hkl g hg
  · intro e; exact hnew g e k s h1 hg
  · exact hnew g hg l t h3
  · omega
theorem OwnDs.newRow {w w' : World} {lo : Nat} {v : Value} {rs : List SDr} {u : Value} {xs : List Int} (h : OwnDs w lo v rs) (ho : Own 1 encI 3 w' w.heap.size u xs) : ∀ g, u.ownBlock = some g → ∀ (i : Nat) (s : SDr), rs[i]? = some s → s.fv.ownBlock ≠ some g := fun g hg i s hs e => by
  have h1 := (ho.lt g hg).1
  have h2 := ((h.rows i s hs).lt g e).2
  omega
/-- one drawer has other flats -/
def setFl (ds : List DrV) (i : Int) (l : List Int) : List DrV := ds.mapIdx fun k d => if (k : Int) = i then ⟨d.ident, d.wide, d.high, d.holds, l⟩ else d
theorem setFl_len (ds : List DrV) (i : Int) (l : List Int) : (setFl ds i l).length = ds.length := by simp [setFl]
theorem setFl_get {ds : List DrV} {i : Int} {l : List Int} {k : Nat} (h : k < ds.length) : (setFl ds i l)[k]'(by rw [setFl_len]; exact h) = if (k : Int) = i then ⟨ds[k].ident, ds[k].wide, ds[k].high, ds[k].holds, l⟩ else ds[k] := by simp [setFl]
theorem setFl_take {ds : List DrV} {i : Int} {l : List Int} {k : Nat} (h : k < ds.length) : (setFl ds i l).take (k + 1) = (setFl ds i l).take k ++ [if (k : Int) = i then ⟨ds[k].ident, ds[k].wide, ds[k].high, ds[k].holds, l⟩ else ds[k]] := by
  rw [take_snoc' (by rw [setFl_len]; exact h), setFl_get h]
theorem setFl_none {ds : List DrV} {i : Int} {l : List Int} (h : i < 0) : setFl ds i l = ds := by
  apply List.ext_getElem (setFl_len _ _ _)
  intro k h1 h2
  rw [setFl_get h2, if_neg (by omega)]
theorem setFl_set {ds : List DrV} {k : Nat} {l : List Int} (h : k < ds.length) : setFl ds (k : Int) l = ds.set k ⟨ds[k].ident, ds[k].wide, ds[k].high, ds[k].holds, l⟩ := by
  apply List.ext_getElem (by rw [setFl_len]; simp)
  intro j h1 h2
  have hj : j < ds.length := by rwa [setFl_len] at h1
  rw [setFl_get hj, List.getElem_set]
  by_cases he : k = j
  · subst he; simp
  · rw [if_neg (by omega), if_neg he]
set_option maxHeartbeats 2000000 in
theorem copyDrawers_any (u : Value) (ds : List DrV) (w : World) (hu : IsD w u ds) (hl : ds.length ≤ 1000) (hx : ∀ d ∈ ds, d.fl.length ≤ 1000) :
    Calls Try.prog 121 #[u] w fun e w' => ∃ r, e = .returned r ∧ Below w.heap.size w w' ∧ ∃ rs : List SDr, rs.map SDr.pl = ds ∧ OwnDs w' w.heap.size r rs := by
  obtain ⟨rs, hmap, his, hok⟩ := hu
  have hln : ds.length = rs.length := by rw [← hmap]; simp
  rw [hln] at hl
  have hx2 : ∀ r ∈ rs, r.xs.length ≤ 1000 := fun r hr => hx r.pl (by rw [← hmap]; exact List.mem_map.2 ⟨r, hr, rfl⟩)
  obtain ⟨A, cap, rfl, hr, _, _⟩ := his
  have HR := hide hr; have HOK := hide hok; have HX := hide hx2; have HM := hide hmap; clear hr hok hx hx2 hmap hln
  go_enter Try.func121, Try.ntmps121
  go_wp2_with fail
  go_loopw [3, 8] (fun o i wr => ∃ (k : Nat) (qs : List SDr), k ≤ rs.length ∧ i = .int .i64 k ∧ qs.map SDr.pl = (rs.take k).map SDr.pl ∧ OwnDs wr w.heap.size o qs ∧ Below w.heap.size w wr) (fun _ i _ => rs.length - (intOf i).toNat)
  case atStart => exact ⟨0, [], Nat.zero_le _, rfl, rfl, ownDs_nil Own.nil, Below.refl _ _⟩
  case round =>
    obtain ⟨i, qs, hi, rfl, hqm, hown, hbel⟩ := hrel
    have hsw := hbel.size
    have hql : qs.length = i := by have := congrArg List.length hqm; simpa [Nat.min_eq_left hi] using this
    have HQM := hide hqm; clear hqm
    by_cases hlt : i < rs.length
    · have hlt' : (i : Int) < rs.length := by omega
      obtain ⟨b, off, rfl, hb, c0, c1, c2, c3, c4⟩ := SDr.cells HR.out hlt hbel
      have hco := HOK.out _ (List.getElem_mem hlt)
      have hlx := HX.out _ (List.getElem_mem hlt)
      have htk := take_snoc' hlt
      have HTK := hide htk; clear htk
      have hre : rs[i] = ⟨rs[i].ident, rs[i].wide, rs[i].high, rs[i].holds, rs[i].A, rs[i].xs, rs[i].cap⟩ := rfl
      unfold SDr.ok at hco
      generalize rs[i].ident = y0 at *; generalize rs[i].wide = y1 at *; generalize rs[i].high = y2 at *; generalize rs[i].holds = y3 at *
      generalize rs[i].A = Ay at *; generalize rs[i].xs = ys at *; generalize rs[i].cap = cy at *
      rw [hre] at HTK
      clear hre
      have hbx : Below wr.heap.size wr (wr.alloc (.cells #[.int .i64 y0, .int .i64 y1, .int .i64 y2, .int .i64 y3, .slice Ay ys.length cy] 70)) := below_alloc wr _
      have hbd3 := Blk.new wr 70 #[.int .i64 y0, .int .i64 y1, .int .i64 y2, .int .i64 y3, .slice Ay ys.length cy]
      go_upto_region 5 with fail
      clear c0 c1 c2 c3 c4
      have hs3 : wr.heap.size < (wr.alloc (.cells #[.int .i64 y0, .int .i64 y1, .int .i64 y2, .int .i64 y3, .slice Ay ys.length cy] 70)).heap.size := by simp
      generalize wr.alloc (.cells #[.int .i64 y0, .int .i64 y1, .int .i64 y2, .int .i64 y3, .slice Ay ys.length cy] 70) = w3 at *
      generalize hg3 : wr.heap.size = g3 at *
      obtain ⟨t0, t1, t2, t3, t4⟩ := dr5 hbd3
      have hb3 : Below w.heap.size w w3 := hbel.trans (hbx.mono hsw)
      have hca := cloneI5_any Ay cy ys w3 (hco.1.below hb3 (Nat.le_refl _) hb3.size) (by omega)
      have HBEL := hide hbel; have HC := hide hca; have HBX := hide hbx; have HB3 := hide hb3; have HOWN := hide hown; have HD3 := hide hbd3
      clear hca hbx hb3 hown hbd3 hco hbel
      go_upto_region 6 with (go_at_call 148; refine HC.out.mono ?_; rintro e w4 ⟨r1, rfl, ho4, hb4⟩; have hbd4 := HD3.out.below hb4 hs3; have kf := (fun o => hbd4.frozen o); obtain ⟨s0, s1, s2, s3, s4⟩ := dr5 hbd4; obtain ⟨A1, cp1, rfl, hr1, hcm1, hle1⟩ := ho4.row; have HO4 := hide ho4; have HB4 := hide hb4; have HD4 := hide hbd4; clear ho4 hb4 hbd4 hr1)
      have hd5 := HD4.out.set 4 (.slice A1 ys.length cp1)
      have hb5 : Below w3.heap.size w3 w4 := HB4.out
      have hw45 : Below g3 wr (w4.setCell ⟨g3, 4, none⟩ (.slice A1 ys.length cp1)) := (HBX.out.trans (HB4.out.mono (Nat.le_of_lt hs3))).setCell (p := ⟨g3, 4, none⟩) (Nat.le_refl _) _
      have ho5 : Own 1 encI 3 (w4.setCell ⟨g3, 4, none⟩ (.slice A1 ys.length cp1)) w3.heap.size (.slice A1 ys.length cp1) ys := HO4.out.setCell (p := ⟨g3, 4, none⟩) (fun g hg => by have := (HO4.out.lt g hg).1; show g ≠ g3; omega) _
      clear s0 s1 s2 s3 s4 t0 t1 t2 t3 t4 kf
      generalize w4.setCell ⟨g3, 4, none⟩ (.slice A1 ys.length cp1) = w5 at *
      have hd5' : Blk w5 g3 70 #[.int .i64 y0, .int .i64 y1, .int .i64 y2, .int .i64 y3, .slice A1 ys.length cp1] := hd5
      obtain ⟨t0, t1, t2, t3, t4⟩ := dr5 hd5'
      have hown5 := HOWN.out.below (by rw [hg3]; exact hw45)
      have hsw5 : g3 ≤ w5.heap.size := by have := hw45.size; omega
      have hnew := HOWN.out.newRow (ho5.mono (by rw [hg3]; exact Nat.le_of_lt hs3))
      have hb55 : Below w.heap.size w w5 := HBEL.out.trans (hw45.mono hsw)
      have HO5 := hide (hown5.spine); have HOW5 := hide hown5; have HR5 := hide ho5; have HN5 := hide hnew; have HB5 := hide hb55
      clear hown5 ho5 hnew hb55 hd5 hd5' hw45 hb5
      go_upto_region 7 with (at_builtin; refine wpList_push1 (k := 5) (enc := SDr.enc) _ rfl _ _ 58 rfl 70 (.agg #[.int .i64 0, .int .i64 0, .int .i64 0, .int .i64 0, .slice none 0 0]) 56 Try.underlying58 SDr.info rfl (by omega) (by omega) SDr.one (w.heap.size) _ (qs) rfl (HO5.out) (⟨y0, y1, y2, y3, A1, ys, cp1⟩) _ rfl rfl (by omega) (by omega) (HB5.out) (Nat.le_refl _) rfl ?_; intro v1 w1 ho1 hb1 hg1)
      have hp := (HOW5.out.below (below_alloc w5 _)).push (r := ⟨y0, y1, y2, y3, A1, ys, cp1⟩) ((HR5.out.mono (by omega)).alloc _) HN5.out ho1 hg1
      have HP := hide hp; have HB1 := hide hb1; clear hp hb1 ho1 hg1
      go_wp2_with fail
      go_round
      case measure => (simp [intOf] <;> omega)
      case rel => exact ⟨i + 1, _, by omega, by go_num, by rw [HTK.out, List.map_append, List.map_append, HQM.out]; rfl, HP.out, HB1.out⟩
    · have hk : i = rs.length := by omega
      subst hk
      have HO := hide hown; have HB := hide hbel
      clear hown hbel
      go_wp2_with fail
      go_ret
      exact ⟨_, rfl, HB.out, qs, by rw [HQM.out, List.take_length, HM.out], HO.out⟩
end Go.Proofs.Ytdbcilinoieabaa
