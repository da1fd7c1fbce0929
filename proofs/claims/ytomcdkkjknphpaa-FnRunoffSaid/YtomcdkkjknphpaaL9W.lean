/- Contract of impl's filled: the grid levF. Condition: a relief. (Printed by mkfill.py.) -/
import Derived.Test.YtomcdkkjknphpaaL9V
namespace Go.Proofs.Ytomcdkkjknphpaa
open Go.RowKit
set_option linter.unusedVariables false
set_option maxRecDepth 100000 in
set_option maxHeartbeats 8000000 in
theorem filled_is (v : Value) (xss : List (List Int)) (w : World) (h : IsG w v xss) (hrel : reliefB xss = true) :
    Calls Try.prog 64 #[v] w fun e w' => ∃ x, e = .returned x ∧ OwnX w' w.heap.size w'.heap.size x (levF xss) ∧ Below w.heap.size w w' := by
  have hdm := relief_dims hrel
  have hsq := fun W (hb : Below w.heap.size w W) => allSquares_is v xss W (h.below hb (Nat.le_refl _)) hrel
  rw [show sqTo (hdLen xss) xss.length = allS xss from rfl] at hsq
  have har := fun (p : SA2) (hp : InS xss p) W (hb : Below w.heap.size w W) => around_is v xss p.x p.y W (h.below hb (Nat.le_refl _)) (by omega) ⟨hp.1.1, by have := hp.1.2; omega⟩ ⟨hp.2.1, by have := hp.2.2; omega⟩
  have hll := allS_len hrel
  have hin := fun (p : SA2) (hp : p ∈ allS xss) => allS_in hp
  have hnin := fun (s n : SA2) (hn : n ∈ nearS xss s.x s.y) => near_in hn
  have hnl := fun (s : SA2) => nearS_len xss s.x s.y
  have hil := initG_len xss 9999
  have hit := fun n (hn : n < xss.length) => initG_take (u := 9999) hn
  have hirl := initRow_len xss 9999
  have hirg := fun n k hk => initRow_get (xss := xss) (u := 9999) (n := n) (k := k) hk
  have hish := initG_shape (xss := xss) 9999
  have hcin := fun (p : SA2) (hp : InS xss p) => cellS_in hrel hp
  have hfin := fun n hf => lev_impl hrel (n := n) hf
  have hreach := fun n => sweeps9_shape (xss := xss) n (initG_shape (xss := xss) 9999)
  have hsum := fun n => (sweeps_ge9 (u := 9999) (relief_inR hrel) n (initG_shape _) (initG_inR hrel (Int.le_refl _))).sum
  obtain ⟨rs, hmap, his, hrs⟩ := h
  obtain ⟨A, cap, rfl, hrow, _, _⟩ := his
  have hxl : xss.length = rs.length := by rw [← hmap]; simp
  have hrll : ∀ i, (hi : i < rs.length) → rs[i].xs.length = hdLen xss := fun i hi => by
    have := relief_row hrel (i := i) (by omega)
    rw [← this]; simp [← hmap]
  have hrok : ∀ i, (hi : i < rs.length) → rs[i].ok w w.heap.size := fun i hi => hrs _ (List.getElem_mem hi)
  have hrx : ∀ i, (hi : i < rs.length) → xss.getD i [] = rs[i].xs := fun i hi => by rw [← hmap]; simp [List.getD_eq_getElem?_getD, hi]
  have hgc := fun (p : SA2) hp => grid_cells hmap hrow hrs hrel (p := p) hp
  have HSQ := hide hsq; have HAR := hide har; have HIN := hide hin; have HNIN := hide hnin; have HNL := hide hnl; have HIL := hide hil; have HIT := hide hit; have HIRL := hide hirl; have HIRG := hide hirg; have HISH := hide hish; have HCIN := hide hcin; have HFIN := hide hfin; have HREACH := hide hreach; have HSUM := hide hsum; have HR := hide hrow; have HRLL := hide hrll; have HROK := hide hrok; have HRX := hide hrx; have HGC := hide hgc; have HXL := hide hxl
  rw [hxl] at hdm
  clear hsq har hin hnin hnl hil hit hirl hirg hish hcin hfin hreach hsum hrow hrll hrok hrx hgc hmap hrs hrel
  generalize hm : hdLen xss = m at *
  have HM := hide hm
  have hpos : (0 : Int) < rs.length := by omega
  obtain ⟨b, off, rfl, hb, c0⟩ := SRow.cell HR.out (show 0 < rs.length by omega) (Below.refl _ _)
  rw [HRLL.out 0 (by omega), Nat.add_zero] at c0
  have m0 := fun n : Later w => later_cell c0 n
  generalize hB : w.heap.size = B at *
  have HB := hide hB
  go_enter Try.func64, Try.ntmps64
  go_wp2_with fail
  (refine wp_region_later (by kernel_rfl) (by kernel_rfl) ?_; (repeat (go_big_quiet_step (fail))); refine wpQuiet_nil ?_; intro _ hw'; obtain ⟨nq, hw''⟩ := hw'; subst hw'')
  have B1 : Below B w nq.W := by have := nq.h; rw [HB.out] at this; exact this
  clear c0 m0
  generalize nq.W = w1 at B1
  clear nq
  go_wp2_with fail
  go_loopw [5, 24] (fun s i wr => ∃ n : Nat, n ≤ rs.length ∧ i = .int .i64 (n : Int) ∧ OwnX wr B wr.heap.size s ((initG xss 9999).take n) ∧ Below B w wr) (fun _ i _ => rs.length - (intOf i).toNat)
  case atStart => exact ⟨0, Nat.zero_le _, rfl, own_nilG _ _ _, B1⟩
  clear B1
  case round =>
    rename World => W0
    obtain ⟨n, hn, rfl, hown, hbel⟩ := hrel
    have hsz : B ≤ W0.heap.size := by have := hbel.size; rw [HB.out] at this; exact this
    have HOWG := hide hown; clear hown
    by_cases hlt : n < rs.length
    · have hlt' : (n : Int) < rs.length := by omega
      obtain ⟨b', off', hA, hb', c0⟩ := SRow.cell HR.out hlt hbel
      injection hA with hA; injection hA with hA1 hA2; subst hA1 hA2
      have hok : Row 1 encI W0 W0.heap.size rs[n].A rs[n].xs := ((HROK.out n hlt).below2 hbel (Nat.le_refl _) hsz).1
      have hrl := HRLL.out n hlt
      have hrx := HRX.out n hlt
      generalize rs[n].A = Ar at *; generalize hys : rs[n].xs = ys at *; generalize rs[n].cap = cr at *
      have hcl := cloneI_any Ar cr ys W0 hok (by omega) (by omega)
      rw [hrl] at hcl
      have HC := hide hcl; have HRX2 := hide hrx; have HYS := hide hys
      clear hcl hrx hok hys
      go_wp2_with fail
      refine HC.out.mono ?_; rintro e w1 ⟨x1, rfl, ho1, hb1⟩
      have B1 := bstep hbel hb1 hsz
      obtain ⟨g1, cap1, cs1, hv1, hg1, _⟩ := own_blk ho1 (by omega)
      rw [hrl] at hv1
      subst hv1
      have hml : (initRow xss 9999 n).length = ys.length := by rw [HIRL.out, hrl]
      have HO1 := hide (show Own 1 encI 3 w1 W0.heap.size (.slice (some ⟨g1, 0, none⟩) m cap1) (mixR (initRow xss 9999 n) ys 0) from ho1)
      clear ho1 c0
      go_wp2_with fail
      go_loopw [33] (fun i wx => ∃ k : Nat, k ≤ m ∧ i = .int .i64 (k : Int) ∧ Own 1 encI 3 wx W0.heap.size (.slice (some ⟨g1, 0, none⟩) m cap1) (mixR (initRow xss 9999 n) ys k) ∧ Below W0.heap.size W0 wx) (fun i _ => m - (intOf i).toNat)
      case atStart => exact ⟨0, Nat.zero_le _, rfl, HO1.out, hb1⟩
      clear HO1 hb1 B1
      case round =>
        obtain ⟨k, hk, rfl, hown, hb1⟩ := hrel
        by_cases hlk : k < m
        · have hlk' : (k : Int) < m := by omega
          have hkr : k < (initRow xss 9999 n).length := by rw [HIRL.out]; exact hlk
          have hky : k < ys.length := by rw [hrl]; exact hlk
          have hget := HIRG.out n k hkr
          rw [HRX2.out] at hget
          have hed : isEdge xss n k = decide (n = 0 ∨ k = 0 ∨ n + 1 = rs.length ∨ k + 1 = m) := by unfold isEdge; rw [HXL.out, HM.out]
          by_cases hq : n = 0 ∨ k = 0 ∨ n + 1 = rs.length ∨ k + 1 = m
          · have hnext := hown
            rw [hed, decide_eq_true hq, if_pos rfl, List.getD_eq_getElem?_getD, List.getElem?_eq_getElem hky, Option.getD_some] at hget
            rw [mixR_same hml hkr hget.symm] at hnext
            have HNX := hide hnext
            clear hown hnext hget hed
            by_cases q1 : (0 : Int) < n
            · by_cases q2 : (n : Int) < rs.length - 1
              · by_cases q3 : (0 : Int) < k
                · have q4 : ¬ (k : Int) < m - 1 := by omega
                  clear hq
                  go_wp2_with fail
                  go_round
                  case measure => (simp [intOf] <;> omega)
                  case rel => exact ⟨k + 1, by omega, by go_num, HNX.out, hb1⟩
                · clear hq
                  go_wp2_with fail
                  go_round
                  case measure => (simp [intOf] <;> omega)
                  case rel => exact ⟨k + 1, by omega, by go_num, HNX.out, hb1⟩
              · clear hq
                go_wp2_with fail
                go_round
                case measure => (simp [intOf] <;> omega)
                case rel => exact ⟨k + 1, by omega, by go_num, HNX.out, hb1⟩
            · clear hq
              go_wp2_with fail
              go_round
              case measure => (simp [intOf] <;> omega)
              case rel => exact ⟨k + 1, by omega, by go_num, HNX.out, hb1⟩
          · have hset := hown
            rw [hed, decide_eq_false hq, if_neg (by simp)] at hget
            have hms := mixR_set hml hkr
            rw [hget] at hms
            have hmk := mixR_len hml (show k ≤ (initRow xss 9999 n).length by omega)
            have hst := hown.setElem (j := k) (by rw [hmk]; exact hkr) (9999 : Int) rfl
            rw [hms] at hst
            obtain ⟨g2, cap2, cs2, hv2, hg2, hbk2, hc2, _, hs2, _⟩ := own_blk hown (by rw [hmk]; omega)
            injection hv2 with hv21 hv22 hv23
            injection hv21 with hv21; injection hv21 with hv21 _
            subst hv21 hv23
            obtain ⟨uold, g0⟩ : ∃ u, wr.cell? ⟨g1, k, none⟩ = some u := ⟨_, hbk2.some (i := k) (by rw [hs2]; omega)⟩
            have hfz := hbk2.frozen
            have q1 : (0 : Int) < n := by omega
            have q2 : (n : Int) < rs.length - 1 := by omega
            have q3 : (0 : Int) < k := by omega
            have q4 : (k : Int) < m - 1 := by omega
            have HST := hide hst
            clear hown hset hget hed hms hmk hst hbk2 hs2 hc2 hv22 hq
            go_wp2_with fail
            go_round
            case measure => (simp [intOf] <;> omega)
            case rel => exact ⟨k + 1, by omega, by go_num, HST.out, hb1.setCell (p := ⟨g1, k, none⟩) hg1 _⟩
        · have hkm : k = m := by omega
          have hfull := hown
          rw [hkm, ← HIRL.out n, mixR_all hml] at hfull
          have hirl := HIRL.out n
          obtain ⟨qs, hqm, hqo⟩ := HOWG.out
          have hql : qs.length = n := by rw [map_len hqm, List.length_take, HIL.out]; omega
          have hspx := hqo.spine.below hb1
          have hbx := bstep hbel hb1 hsz
          have hz1 := hb1.size
          have hit := HIT.out n (by omega)
          rw [hirl] at hfull
          generalize initRow xss 9999 n = R at *
          have HSP := hide hspx; have HQ := hide hqo; have HQM := hide hqm; have HF := hide hfull; have HIT2 := hide hit; have HBX := hide hbx; have HB1 := hide hb1
          clear hown hfull hspx hqo hqm hit HOWG hml
          go_wp2_with (at_builtin; refine wpList_push1s (k := 1) (enc := SRow.enc) _ rfl _ _ 22 rfl 35 (.slice none 0 0) 24 Try.underlying22 SRow.info rfl (by omega) (by omega) SRow.one B _ qs rfl HSP.out (⟨R, some ⟨g1, 0, none⟩, cap1⟩ : SRow) _ _ rfl rfl (by simp [flat, SRow.enc, hirl]) (by omega) (by omega) HBX.out (Nat.le_refl _) rfl ?_; intro v1 w3 ho3 hb3 hg3)
          have hpush := HQ.out.push2 (r := ⟨R, some ⟨g1, 0, none⟩, cap1⟩) (Nat.le_refl _) hsz (HB1.out.alloc (by omega) (.cells #[SRow.v ⟨R, some ⟨g1, 0, none⟩, cap1⟩] 35)) (by
            have := HF.out.alloc (.cells #[SRow.v ⟨R, some ⟨g1, 0, none⟩, cap1⟩] 35)
            simp only [SRow.v, hirl] at this ⊢
            exact this) (by simp only [SRow.v, hirl]; exact hg3) ho3
          have hmp : (qs ++ [(⟨R, some ⟨g1, 0, none⟩, cap1⟩ : SRow)]).map (·.xs) = (initG xss 9999).take (n + 1) := by rw [List.map_append, HQM.out, HIT2.out]; rfl
          have HP := hide (show OwnX w3 B w3.heap.size v1 ((initG xss 9999).take (n + 1)) from ⟨_, hmp, hpush⟩)
          clear hpush hmp ho3 hg3
          go_round
          case measure => (simp [intOf] <;> omega)
          case rel => exact ⟨n + 1, by omega, by go_num, HP.out, hb3⟩
    · have hnn : n = rs.length := by omega
      have hown := HOWG.out
      rw [hnn, ← hxl, ← HIL.out, List.take_length] at hown
      generalize hhi : W0.heap.size = hi at hown
      obtain ⟨A3, cap3, hv3, hc3, hc4⟩ := hown.isG.slice
      rw [HIL.out, hxl] at hv3 hc3
      subst hv3
      have HOWN := hide hown; clear hown HOWG
      clear hnn HIL HIT HIRL HIRG HISH HRLL HROK HRX HR
      go_wp2_with fail
      go_loopg [10] ((sumS xss (initG xss 9999)).toNat + 1) (fun g b wr => ∃ (G : List (List Int)) (ch : Bool), (ch = true → (sumS xss G).toNat < g) ∧ b = .bool ch ∧ (∃ n, G = sweeps9 xss n (initG xss 9999)) ∧ (ch = false → (sweepP xss G).1 = G) ∧ OwnX wr B hi (.slice A3 rs.length cap3) G ∧ Below B w wr ∧ hi ≤ wr.heap.size)
      case atStart => exact ⟨_, true, fun _ => Nat.lt_succ_self _, rfl, ⟨0, rfl⟩, by simp, HOWN.out, hbel, by omega⟩
      case round =>
        clear hhi hsz hbel HOWN
        obtain ⟨G, ch, hgh, rfl, ⟨n, hG⟩, hfix, hown, hbel, hhs⟩ := hrel
        have HGH := hide hgh; clear hgh
        have hsz : B ≤ wr.heap.size := by have := hbel.size; rw [HB.out] at this; exact this
        cases ch with
        | false =>
          have hlev : G = levF xss := by rw [hG]; exact HFIN.out n (by rw [← hG]; exact hfix rfl)
          have hx := hown.mono (Nat.le_refl B) hhs
          rw [hlev] at hx
          have HX := hide hx; clear hown hx hfix hG hlev
          go_wp2_with fail
          go_ret
          exact ⟨_, rfl, HX.out, hbel⟩
        | true =>
          have hsh : Shape xss G := by rw [hG]; exact HREACH.out n
          have HG := hide hG; have HOWX := hide hown; have HSHP := hide hsh
          clear hG hown hfix
          go_wp2_with fail
          refine (HSQ.out _ hbel).mono ?_; rintro e w1 ⟨x1, rfl, ho1, hb1⟩
          have B1 := bstep hbel hb1 hsz
          have hx1 := HOWX.out.below hb1
          obtain ⟨A5, c5, rfl, _, _, _⟩ := ho1.row
          have s1 : hi ≤ w1.heap.size := Nat.le_trans hhs hb1.size
          have HO1 := hide (ho1.mono hhs); have HX1 := hide hx1
          clear ho1 hx1 hb1
          have hfold : sweepP xss G = (allS xss).foldl (sqP xss) (G, false) := rfl
          have HFOLD := hide hfold; clear hfold
          generalize allS xss = l at *
          go_wp2_with fail
          go_loopw [10, 67] (fun b i wx => ∃ k : Nat, k ≤ l.length ∧ i = .int .i64 (k : Int) ∧ b = .bool ((l.take k).foldl (sqP xss) (G, false)).2 ∧ OwnX wx B hi (.slice A3 rs.length cap3) ((l.take k).foldl (sqP xss) (G, false)).1 ∧ Own 2 SA2.enc 50 wx hi (.slice A5 l.length c5) l ∧ Below B w wx ∧ hi ≤ wx.heap.size) (fun _ i _ => l.length - (intOf i).toNat)
          case atStart => exact ⟨0, Nat.zero_le _, rfl, rfl, HX1.out, HO1.out, B1, s1⟩
          case round =>
            clear hbel hhs hsz B1 s1 HO1 HX1 HOWX
            obtain ⟨k, hk, rfl, rfl, hown, hol, hbel, hhs⟩ := hrel
            have hsz : B ≤ wr.heap.size := by have := hbel.size; rw [HB.out] at this; exact this
            by_cases hlt : k < l.length
            · have hlt' : (k : Int) < l.length := by omega
              obtain ⟨A6, c6, he, hrl, _, _⟩ := hol.row
              injection he with he1 he2 he3; subst he1 he3
              obtain ⟨lb, loff, rfl, hlb, d0, d1⟩ := SA2.cells hrl hlt (Below.refl _ _)
              have hpin := HIN.out l[k] (List.getElem_mem hlt)
              have hst : (l.take (k + 1)).foldl (sqP xss) (G, false) = (nearS xss l[k].x l[k].y).foldl (stepP xss l[k]) ((l.take k).foldl (sqP xss) (G, false)) := by rw [take_snoc' hlt, List.foldl_append]; rfl
              have hshF := fold_shape (xss := xss) (l := l.take k) (a := (G, false)) HSHP.out
              have hcall := HAR.out l[k] hpin
              have hnin := HNIN.out l[k]
              have hnl := HNL.out l[k]
              generalize l[k] = p at *
              generalize (l.take k).foldl (sqP xss) (G, false) = F at *
              obtain ⟨px, py⟩ := p
              simp only at d0 d1 hcall hnin hnl hst
              have BX := hbel.alloc hsz (.cells #[.int .i64 px, .int .i64 py] 50)
              have hxx := hown.below (below_alloc wr (.cells #[.int .i64 px, .int .i64 py] 50))
              have hox := hol.alloc (.cells #[.int .i64 px, .int .i64 py] 50)
              have hbx := Blk.new wr 50 (SA2.boxed ⟨px, py⟩)
              have e0 : (wr.alloc (.cells #[.int .i64 px, .int .i64 py] 50)).cell? ⟨wr.heap.size, 0, none⟩ = some (.int .i64 px) := hbx.cell 0
              have e1 : (wr.alloc (.cells #[.int .i64 px, .int .i64 py] 50)).cell? ⟨wr.heap.size, 1, none⟩ = some (.int .i64 py) := hbx.cell 1
              have HC := hide (hcall _ BX); have HBX := hide BX; have HXX := hide hxx; have HOX := hide hox; have HBK := hide hbx; have HST := hide hst; have HSF := hide hshF; have HNI := hide hnin
              clear hcall BX hxx hox hbx hst hshF hown hol hrl hnin
              generalize nearS xss px py = nl at *
              go_wp2_with fail
              refine HC.out.mono ?_; rintro e w5 ⟨x5, rfl, ho5, hb5⟩
              have B5 := bstep HBX.out hb5 (by simp; omega)
              have hx5 := HXX.out.below hb5
              have hl5 := HOX.out.below hb5
              have hk5 := HBK.out.below hb5 (by simp)
              have hs5 : hi ≤ w5.heap.size := by have := hb5.size; simp at this; omega
              obtain ⟨A7, c7, rfl, _, _, _⟩ := ho5.row
              have HN5 := hide (ho5.mono (show hi ≤ _ by simp; omega)); have HX5 := hide hx5; have HL5 := hide hl5; have HK5 := hide hk5
              generalize hg12 : wr.heap.size = g12 at *
              clear ho5 hx5 hl5 hk5 hb5 e0 e1 d0 d1 HC HBX HXX HOX HBK
              go_wp2_with fail
              go_loopw [10, 78] (fun b i wx => ∃ j : Nat, j ≤ nl.length ∧ i = .int .i64 (j : Int) ∧ b = .bool ((nl.take j).foldl (stepP xss ⟨px, py⟩) F).2 ∧ OwnX wx B hi (.slice A3 rs.length cap3) ((nl.take j).foldl (stepP xss ⟨px, py⟩) F).1 ∧ Own 2 SA2.enc 50 wx hi (.slice A7 nl.length c7) nl ∧ Own 2 SA2.enc 50 wx hi (.slice (some ⟨lb, loff, none⟩) l.length c5) l ∧ Blk wx g12 50 (SA2.boxed ⟨px, py⟩) ∧ Below B w wx ∧ hi ≤ wx.heap.size) (fun _ i _ => nl.length - (intOf i).toNat)
              case atStart => exact ⟨0, Nat.zero_le _, rfl, rfl, HX5.out, HN5.out, HL5.out, HK5.out, B5, hs5⟩
              case round =>
                clear hbel hsz B5 hs5 HN5 HX5 HL5 HK5 hg12 hlb
                obtain ⟨j, hj, rfl, rfl, hown, hon, hol, hbk, hbel, hws⟩ := hrel
                have hsz : B ≤ wr.heap.size := by have := hbel.size; rw [HB.out] at this; exact this
                have hg12l := hbk.lt
                by_cases hltj : j < nl.length
                · have hltj' : (j : Int) < nl.length := by omega
                  obtain ⟨A8, c8, he, hrn, _, _⟩ := hon.row
                  injection he with he1 he2 he3; subst he1 he3
                  obtain ⟨nb, noff, rfl, hnb, d0, d1⟩ := SA2.cells hrn hltj (Below.refl _ _)
                  have hqin := HNI.out nl[j] (List.getElem_mem hltj)
                  have hst2 : (nl.take (j + 1)).foldl (stepP xss ⟨px, py⟩) F = stepP xss ⟨px, py⟩ ((nl.take j).foldl (stepP xss ⟨px, py⟩) F) nl[j] := by rw [take_snoc' hltj, List.foldl_append]; rfl
                  have hsh2 : Shape xss ((nl.take j).foldl (stepP xss ⟨px, py⟩) F).1 := fold_gen (P := fun a : List (List Int) × Bool => Shape xss a.1) _ (fun a t _ ha => stepP_shape t ha) _ HSF.out
                  generalize nl[j] = q at *
                  generalize (nl.take j).foldl (stepP xss ⟨px, py⟩) F = E at *
                  obtain ⟨EG, eb⟩ := E
                  obtain ⟨qx, qy⟩ := q
                  obtain ⟨T, hT⟩ : ∃ T, (nl.take (j + 1)).foldl (stepP xss ⟨px, py⟩) F = T := ⟨_, rfl⟩
                  rw [hT] at hst2
                  have HT := hide hT; clear hT
                  unfold stepP at hst2
                  simp only at d0 d1 hst2 hsh2 hown
                  have BX := hbel.alloc hsz (.cells #[.int .i64 qx, .int .i64 qy] 50)
                  have hxx := hown.below (below_alloc wr (.cells #[.int .i64 qx, .int .i64 qy] 50))
                  have hnx := hon.alloc (.cells #[.int .i64 qx, .int .i64 qy] 50)
                  have hlx := hol.alloc (.cells #[.int .i64 qx, .int .i64 qy] 50)
                  have hkx := hbk.alloc (.cells #[.int .i64 qx, .int .i64 qy] 50)
                  have hnew := Blk.new wr 50 (SA2.boxed ⟨qx, qy⟩)
                  obtain ⟨gs, gcap, gq, gcq, hv, _, _, _, hce, _, _⟩ := hxx.cells hsh2 hqin
                  obtain ⟨rb0, roff0, rr, roffr, rcr, hrA, hrg⟩ := HGC.out ⟨px, py⟩ (by have h := hpin; unfold InS at h; rw [HM.out] at h; exact h)
                  injection hrA with hrA; injection hrA with hz1 hz2; subst hz1 hz2
                  injection hv with hv1 hv2 hv3; subst hv1 hv3
                  have hcp := HCIN.out _ hpin
                  rw [HM.out] at hce
                  obtain ⟨⟨qx0, qx1⟩, qy0, qy1⟩ := hqin
                  have hpin' := hpin
                  obtain ⟨⟨px0, px1⟩, py0, py1⟩ := hpin'
                  rw [HXL.out] at qx1 px1
                  rw [HM.out] at qy1 py1
                  simp only at *
                  obtain ⟨c0, c1⟩ := hce
                  obtain ⟨r0, r1⟩ := hrg _ BX
                  have f0 : (wr.alloc (.cells #[.int .i64 qx, .int .i64 qy] 50)).cell? ⟨g12, 0, none⟩ = some (.int .i64 px) := hkx.cell 0
                  have f1 : (wr.alloc (.cells #[.int .i64 qx, .int .i64 qy] 50)).cell? ⟨g12, 1, none⟩ = some (.int .i64 py) := hkx.cell 1
                  have n0 : (wr.alloc (.cells #[.int .i64 qx, .int .i64 qy] 50)).cell? ⟨wr.heap.size, 0, none⟩ = some (.int .i64 qx) := hnew.cell 0
                  have n1 : (wr.alloc (.cells #[.int .i64 qx, .int .i64 qy] 50)).cell? ⟨wr.heap.size, 1, none⟩ = some (.int .i64 qy) := hnew.cell 1
                  have m0 := fun n => later_cell c0 n; have m1 := fun n => later_cell c1 n; have m2 := fun n => later_cell r0 n; have m3 := fun n => later_cell r1 n
                  have m4 := fun n => later_cell f0 n; have m5 := fun n => later_cell f1 n; have m6 := fun n => later_cell n0 n; have m7 := fun n => later_cell n1 n
                  have HST2 := hide hst2; have HXX := hide hxx; have HNX := hide hnx; have HLX := hide hlx; have HKX := hide hkx; have HSH2 := hide hsh2; have HRG := hide hrg; have HBX := hide BX
                  clear hst2 hxx hnx hlx hkx hnew hown hon hol hbk hrn hv2 hsh2 hrg c0 c1 r0 r1 f0 f1 n0 n1 BX
                  generalize cellS xss ⟨px, py⟩ = hp at *
                  generalize cellS EG ⟨qx, qy⟩ = lq at *
                  go_wp2_with fail
                  (refine wp_region_later (by kernel_rfl) (by kernel_rfl) ?_; (repeat (go_big_quiet_step (fail))); refine wpQuiet_nil ?_; intro _ hw'; obtain ⟨nq, hw''⟩ := hw'; subst hw'')
                  have B7 := HBX.out.trans (nq.h.mono (by simp; omega))
                  have hx7 := HXX.out.below nq.h
                  have hn7 := HNX.out.below nq.h
                  have hl7 := HLX.out.below nq.h
                  have hk7 := HKX.out.below nq.h (by simp; omega)
                  have hs7 : hi ≤ nq.W.heap.size := by have := nq.h.size; simp at this; omega
                  generalize nq.W = W7 at B7 hx7 hn7 hl7 hk7 hs7
                  clear nq m0 m1 m2 m3 m4 m5 m6 m7 d0 d1
                  have hg7 := hk7.lt
                  have hszB7 : B ≤ W7.heap.size := by have := B7.size; rw [HB.out] at this; exact this
                  obtain ⟨gs', gcap', gp, gcp, hv, _, _, _, hce, _, _⟩ := hx7.cells HSH2.out hpin
                  injection hv with hv1 hv2 hv3; injection hv1 with hv1; injection hv1 with hv1 _; subst hv1 hv3
                  rw [HM.out] at hce
                  obtain ⟨c0, c1⟩ := hce
                  simp only at c0 c1
                  have f0 : W7.cell? ⟨g12, 0, none⟩ = some (.int .i64 px) := hk7.cell 0
                  have f1 : W7.cell? ⟨g12, 1, none⟩ = some (.int .i64 py) := hk7.cell 1
                  have m0 := fun n => later_cell c0 n; have m1 := fun n => later_cell c1 n; have m4 := fun n => later_cell f0 n; have m5 := fun n => later_cell f1 n
                  have HXX7 := hide hx7; have HNX7 := hide hn7; have HLX7 := hide hl7; have HKX7 := hide hk7
                  generalize hcp2 : cellS EG ⟨px, py⟩ = lp at *
                  clear hx7 hn7 hl7 hk7 c0 c1 f0 f1 hv2 HXX HNX HLX HKX HBX
                  go_wp2_with fail
                  (refine wp_region_later (by kernel_rfl) (by kernel_rfl) ?_; (repeat (go_big_quiet_step (fail))); refine wpQuiet_nil ?_; intro _ hw'; obtain ⟨nq, hw''⟩ := hw'; subst hw'')
                  have B8 := B7.trans (nq.h.mono hszB7)
                  have hx8 := HXX7.out.below nq.h
                  have hn8 := HNX7.out.below nq.h
                  have hl8 := HLX7.out.below nq.h
                  have hk8 := HKX7.out.below nq.h HKX7.out.lt
                  have hs8 : hi ≤ nq.W.heap.size := Nat.le_trans hs7 nq.h.size
                  generalize nq.W = W8 at B8 hx8 hn8 hl8 hk8 hs8
                  clear nq m0 m1 m4 m5 B7 hszB7
                  by_cases hlow : max hp lq < lp
                  · obtain ⟨gs', gcap', gp2, gcp2, hv, hlo8, hhi8, hne8, hce, hfz, hset⟩ := hx8.cells HSH2.out hpin
                    injection hv with hv1 hv2 hv3; injection hv1 with hv1; injection hv1 with hv1 _; subst hv1 hv3
                    rw [HM.out] at hce
                    obtain ⟨c0, c1⟩ := hce
                    simp only at c0 c1 hset
                    rw [hcp2] at c1
                    have f0 : W8.cell? ⟨g12, 0, none⟩ = some (.int .i64 px) := hk8.cell 0
                    have f1 : W8.cell? ⟨g12, 1, none⟩ = some (.int .i64 py) := hk8.cell 1
                    have hst3 := HST2.out
                    rw [if_pos hlow] at hst3
                    have hgne : g12 ≠ gp2 := by omega
                    have hneN : ∀ g, Value.ownBlock (.slice (some ⟨nb, noff, none⟩) nl.length c7) = some g → g ≠ gp2 := fun g hg => by have := (hn8.lt g hg).1; omega
                    have hneL : ∀ g, Value.ownBlock (.slice (some ⟨lb, loff, none⟩) l.length c5) = some g → g ≠ gp2 := fun g hg => by have := (hl8.lt g hg).1; omega
                    have HST3 := hide hst3; have HSET := hide hset; have HN8 := hide hn8; have HL8 := hide hl8; have HK8 := hide hk8; have HNEN := hide hneN; have HNEL := hide hneL
                    clear hst3 hset hn8 hl8 hk8 hneN hneL hx8 hv2 HXX7 HNX7 HLX7 HKX7
                    go_wp2_with fail
                    go_region
                    have B9 : Below B w (W8.setCell ⟨gp2, py.toNat, none⟩ (.int .i64 (max hp lq))).drew := (B8.setCell (p := ⟨gp2, py.toNat, none⟩) hlo8 (.int .i64 (max hp lq))).drew
                    have X9 : OwnX (W8.setCell ⟨gp2, py.toNat, none⟩ (.int .i64 (max hp lq))).drew B hi (.slice (some ⟨gs, 0, none⟩) rs.length cap3) (setS EG ⟨px, py⟩ (max hp lq)) := (HSET.out (max hp lq)).below (Below.refl _ _).drew
                    have N9 : Own 2 SA2.enc 50 (W8.setCell ⟨gp2, py.toNat, none⟩ (.int .i64 (max hp lq))).drew hi (.slice (some ⟨nb, noff, none⟩) nl.length c7) nl := HN8.out.setCell (p := ⟨gp2, py.toNat, none⟩) HNEN.out _
                    have L9 : Own 2 SA2.enc 50 (W8.setCell ⟨gp2, py.toNat, none⟩ (.int .i64 (max hp lq))).drew hi (.slice (some ⟨lb, loff, none⟩) l.length c5) l := HL8.out.setCell (p := ⟨gp2, py.toNat, none⟩) HNEL.out _
                    have K9 : Blk (W8.setCell ⟨gp2, py.toNat, none⟩ (.int .i64 (max hp lq))).drew g12 50 (SA2.boxed ⟨px, py⟩) := HK8.out.far (p := ⟨gp2, py.toNat, none⟩) hgne _
                    have s9 : hi ≤ (W8.setCell ⟨gp2, py.toNat, none⟩ (.int .i64 (max hp lq))).drew.heap.size := by
                      have : (W8.setCell ⟨gp2, py.toNat, none⟩ (.int .i64 (max hp lq))).drew.heap.size = W8.heap.size := by simp [World.drew, World.setCell]
                      omega
                    generalize (W8.setCell ⟨gp2, py.toNat, none⟩ (.int .i64 (max hp lq))).drew = W9 at *
                    have HX9 := hide X9; have HN9 := hide N9; have HL9 := hide L9; have HK9 := hide K9
                    clear X9 N9 L9 K9 c0 c1 f0 f1
                    go_wp2_with fail
                    go_round
                    case measure => (simp [intOf] <;> omega)
                    case rel => exact ⟨j + 1, by omega, by go_num, by rw [HT.out, HST3.out], by rw [HT.out, HST3.out]; exact HX9.out, HN9.out, HL9.out, HK9.out, B9, s9⟩
                  · have hst3 := HST2.out
                    rw [if_neg hlow] at hst3
                    have HST3 := hide hst3; have HX8 := hide hx8; have HN8 := hide hn8; have HL8 := hide hl8; have HK8 := hide hk8
                    clear hst3 hx8 hn8 hl8 hk8 HXX7 HNX7 HLX7 HKX7
                    go_wp2_with fail
                    go_round
                    case measure => (simp [intOf] <;> omega)
                    case rel => exact ⟨j + 1, by omega, by go_num, by rw [HT.out, HST3.out], by rw [HT.out, HST3.out]; exact HX8.out, HN8.out, HL8.out, HK8.out, B8, hs8⟩
                · have hjr : nl.length = j := by omega
                  have hfin : (nl.take j).foldl (stepP xss ⟨px, py⟩) F = (l.take (k + 1)).foldl (sqP xss) (G, false) := by rw [HST.out, ← hjr, List.take_length]
                  rw [hfin] at hown ⊢
                  have HX := hide hown; have HL := hide hol; have HJ := hide hjr
                  clear hown hol hjr hon hbk hfin
                  go_wp2_with fail
                  go_round
                  case measure => (simp [intOf] <;> omega)
                  case rel => exact ⟨k + 1, by omega, by go_num, rfl, HX.out, HL.out, hbel, hws⟩
            · have hkl : l.length = k := by omega
              have hfin : (l.take k).foldl (sqP xss) (G, false) = sweepP xss G := by rw [HFOLD.out, ← hkl, List.take_length]
              rw [hfin] at hown ⊢
              have hG' : (sweepP xss G).1 = sweeps9 xss (n + 1) (initG xss 9999) := by rw [sweeps9_add n 1, ← HG.out]; rfl
              have hflag := sweep_flag HSHP.out
              have hsumn := HSUM.out (n + 1)
              rw [← hG'] at hsumn
              generalize hS : sweepP xss G = S at *
              obtain ⟨G', ch'⟩ := S
              simp only at hown hG' hflag hsumn ⊢
              have HX := hide hown; have HKL := hide hkl; have HG2 := hide hG'; have HFL := hide hflag; have HSN := hide hsumn; have HSS := hide hS
              clear hown hol hkl hfin hG' hflag hsumn hS
              go_wp2_with fail
              go_roundg (gk - 1)
              case measure =>
                have := HGH.out (by first | trivial | rfl)
                omega
              case rel =>
                refine ⟨G', ch', fun hc => ?_, rfl, ⟨n + 1, HG2.out⟩, fun hc => ?_, HX.out, hbel, hhs⟩
                · have h1 := HFL.out.2 hc
                  have h2 := HSN.out
                  have h3 := HGH.out (by first | trivial | rfl)
                  omega
                · have h1 := HFL.out.1 hc
                  subst h1
                  rw [HSS.out]
end Go.Proofs.Ytomcdkkjknphpaa
