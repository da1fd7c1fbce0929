/- Contract of spec's l9Levels: the grid levF. Condition: a relief. (Printed by mkfill2.py.) -/
import Derived.Test.YtomcdkkjknphpaaL9V
namespace Go.Proofs.Ytomcdkkjknphpaa
open Go.RowKit
set_option linter.unusedVariables false
set_option maxRecDepth 100000 in
set_option maxHeartbeats 8000000 in
theorem l9Levels_is (v : Value) (xss : List (List Int)) (w : World) (h : IsG w v xss) (hrel : reliefB xss = true) :
    Calls Try.prog 65 #[v] w fun e w' => ∃ x, e = .returned x ∧ OwnX w' w.heap.size w'.heap.size x (levF xss) ∧ Below w.heap.size w w' := by
  have hdm := relief_dims hrel
  have har := fun (p : SA2) (hp : InS xss p) W (hb : Below w.heap.size w W) => l9Near_is v xss p.x p.y W (h.below hb (Nat.le_refl _)) hp.1 hp.2 hdm.2.1 hdm.2.2.2
  have hnin := fun (s n : SA2) (hn : n ∈ nearS xss s.x s.y) => near_in hn
  have hil := initG_len xss 10000
  have hit := fun n (hn : n < xss.length) => initG_take (u := 10000) hn
  have hirl := initRow_len xss 10000
  have hirg := fun n k hk => initRow_get (xss := xss) (u := 10000) (n := n) (k := k) hk
  have hcin := fun (p : SA2) (hp : InS xss p) => cellS_in hrel hp
  have hfin := fun n hf => lev_spec hrel (n := n) hf
  have hreach := fun n => sweeps9_shape (xss := xss) n (initG_shape (xss := xss) 10000)
  have hsum := fun n => (sweeps_ge9 (u := 10000) (relief_inR hrel) n (initG_shape _) (initG_inR hrel (by omega))).sum
  have hmk := fun W => run_make_n (P := Try.prog) 35 3 _ 1 8 Try.underlying35 infoI (hdLen xss) (by omega) (by omega) W
  obtain ⟨rs, hmap, his, hrs⟩ := h
  obtain ⟨A, cap, rfl, hrow, _, _⟩ := his
  have hxl : xss.length = rs.length := by rw [← hmap]; simp
  have hrll : ∀ i, (hi : i < rs.length) → rs[i].xs.length = hdLen xss := fun i hi => by
    have := relief_row hrel (i := i) (by omega)
    rw [← this]; simp [← hmap]
  have hgc := fun (p : SA2) hp => grid_cells hmap hrow hrs hrel (p := p) hp
  have hcv : ∀ (n k : Nat), cellS xss ⟨(n : Int), (k : Int)⟩ = (xss.getD n []).getD k 0 := fun n k => by unfold cellS; simp
  have HAR := hide har; have HNIN := hide hnin; have HIL := hide hil; have HIT := hide hit; have HIRL := hide hirl; have HIRG := hide hirg; have HCIN := hide hcin; have HFIN := hide hfin; have HREACH := hide hreach; have HSUM := hide hsum; have HR := hide hrow; have HRLL := hide hrll; have HGC := hide hgc; have HXL := hide hxl; have HCV := hide hcv
  rw [hxl] at hdm
  clear har hnin hil hit hirl hirg hcin hfin hreach hsum hrow hrll hgc hmap hrs hrel hcv
  have hsl := sqTo_len (hdLen xss) xss.length
  have HSL := hide hsl; clear hsl
  generalize hm : hdLen xss = m at *
  have HM := hide hm
  have he := own_emptyG w (Nat.le_refl w.heap.size)
  have B0 := below_alloc w (.cells #[] 35)
  have hs0 : (w.alloc (.cells #[] 35)).heap.size = w.heap.size + 1 := by simp
  generalize hB : w.heap.size = B at *
  have HE := hide he; have HB := hide hB; clear he
  go_enter Try.func65, Try.ntmps65
  go_wp2_with fail
  generalize hw0 : w.alloc (.cells #[] 35) = w0 at *
  go_loopw [3, 4] (fun s i wr => ∃ n : Nat, n ≤ rs.length ∧ i = .int .i64 (n : Int) ∧ OwnX wr B wr.heap.size s ((initG xss 10000).take n) ∧ Below B w wr) (fun _ i _ => rs.length - (intOf i).toNat)
  case atStart => exact ⟨0, Nat.zero_le _, rfl, by rw [hs0]; exact HE.out, B0⟩
  clear B0 hs0 hw0 HE
  case round =>
    rename World => W0
    obtain ⟨n, hn, rfl, hown, hbel⟩ := hrel
    have hsz : B ≤ W0.heap.size := by have := hbel.size; rw [HB.out] at this; exact this
    have HOWG := hide hown; clear hown
    by_cases hlt : n < rs.length
    · have hlt' : (n : Int) < rs.length := by omega
      obtain ⟨b, off, rfl, hb, c0⟩ := SRow.cell HR.out hlt hbel
      rw [HRLL.out n hlt] at c0
      have hmk1 := hmk W0
      rw [show (madeCells (Value.cells (.int .i64 0)) (m * 1)) = madeCells #[.int .i64 0] m by rw [Nat.mul_one]; rfl] at hmk1
      have hrow1 := own_zeros W0 (Nat.le_refl _) m (by simp only [maxLen]; omega)
      have hb1 := below_alloc W0 (.cells (madeCells #[.int .i64 0] m) 3)
      have hrl : (List.replicate m (0 : Int)).length = m := by simp
      have hml : (initRow xss 10000 n).length = (List.replicate m (0 : Int)).length := by rw [HIRL.out, hrl]
      have HO1 := hide (show Own 1 encI 3 (W0.alloc (.cells (madeCells #[.int .i64 0] m) 3)) W0.heap.size (.slice (some ⟨W0.heap.size, 0, none⟩) m m) (mixR (initRow xss 10000 n) (List.replicate m 0) 0) from hrow1)
      clear hrow1 hmk
      go_wp2_with fail
      generalize hW1 : W0.alloc (.cells (madeCells #[.int .i64 0] m) 3) = W1 at *
      go_loopw [6] (fun i wx => ∃ k : Nat, k ≤ m ∧ i = .int .i64 (k : Int) ∧ Own 1 encI 3 wx W0.heap.size (.slice (some ⟨W0.heap.size, 0, none⟩) m m) (mixR (initRow xss 10000 n) (List.replicate m 0) k) ∧ Below W0.heap.size W0 wx) (fun i _ => m - (intOf i).toNat)
      case atStart => exact ⟨0, Nat.zero_le _, rfl, HO1.out, hb1⟩
      clear HO1 hb1 hmk1 hW1 c0
      case round =>
        obtain ⟨k, hk, rfl, hown, hb1⟩ := hrel
        by_cases hlk : k < m
        · have hlk' : (k : Int) < m := by omega
          have hkr : k < (initRow xss 10000 n).length := by rw [HIRL.out]; exact hlk
          have hget := HIRG.out n k hkr
          have hed : isEdge xss n k = decide (n = 0 ∨ k = 0 ∨ n + 1 = rs.length ∨ k + 1 = m) := by unfold isEdge; rw [HXL.out, HM.out]
          have hmk := mixR_len hml (show k ≤ (initRow xss 10000 n).length by omega)
          have hms := mixR_set hml hkr
          obtain ⟨g2, cap2, cs2, hv2, hg2, hbk2, hc2, _, hs2, _⟩ := own_blk hown (by rw [hmk]; omega)
          injection hv2 with hv21 hv22 hv23
          injection hv21 with hv21; injection hv21 with hv21 _
          subst hv21 hv23
          obtain ⟨uold, g0⟩ : ∃ u, wr.cell? ⟨W0.heap.size, k, none⟩ = some u := ⟨_, hbk2.some (i := k) (by rw [hs2]; omega)⟩
          have hfz := hbk2.frozen
          have hst1 := hown.setElem (j := k) (by rw [hmk]; exact hkr) (10000 : Int) rfl
          have hB1 := bstep hbel hb1 hsz
          have hW0 : W0.heap.size ≤ wr.heap.size := hb1.size
          by_cases hq : n = 0 ∨ k = 0 ∨ n + 1 = rs.length ∨ k + 1 = m
          · rw [hed, decide_eq_true hq, if_pos rfl, ← HCV.out] at hget
            obtain ⟨rb0, roff0, rr, roffr, rcr, hrA, hrg⟩ := HGC.out ⟨(n : Int), (k : Int)⟩ ⟨⟨by simp, by simp only; rw [HXL.out]; omega⟩, by simp, by simp only; omega⟩
            injection hrA with hrA; injection hrA with hz1 hz2; subst hz1 hz2
            obtain ⟨r0, r1⟩ := hrg _ hB1
            simp only [Int.toNat_natCast] at r0 r1
            have hst2 := hst1.setElem (j := k) (by rw [List.length_set, hmk]; exact hkr) (cellS xss ⟨(n : Int), (k : Int)⟩) rfl
            rw [List.set_set, ← hget, hms] at hst2
            rw [hget] at hst2
            have hrrl : rr < W0.heap.size := by
              have hw := World.block_lt_of_cell? w _ (hrg w (Below.refl _ _)).2
              rw [HB.out] at hw
              exact Nat.lt_of_lt_of_le hw hsz
            have hbl : b < W0.heap.size := Nat.lt_of_lt_of_le hb hsz
            have x0 : ∀ u, (wr.setCell ⟨W0.heap.size, k, none⟩ u).cell? ⟨b, off + n, none⟩ = some (.slice (some ⟨rr, roffr, none⟩) m rcr) := fun u => by
              rw [(Below.setCell (Below.refl W0.heap.size wr) (p := ⟨W0.heap.size, k, none⟩) (Nat.le_refl _) u).cell (p := ⟨b, off + n, none⟩) hbl]; exact r0
            have x1 : ∀ u, (wr.setCell ⟨W0.heap.size, k, none⟩ u).cell? ⟨rr, roffr + k, none⟩ = some (.int .i64 (cellS xss ⟨(n : Int), (k : Int)⟩)) := fun u => by
              rw [(Below.setCell (Below.refl W0.heap.size wr) (p := ⟨W0.heap.size, k, none⟩) (Nat.le_refl _) u).cell (p := ⟨rr, roffr + k, none⟩) hrrl]; exact r1
            have hfr : ∀ u o, (wr.setCell ⟨W0.heap.size, k, none⟩ u).frozen? ⟨W0.heap.size, o, none⟩ = false := fun u o => (hbk2.set k u).frozen o
            have HNX := hide hst2
            clear hown hget hed hmk hms hst1 hst2 hrg hbk2 hs2 hc2 hv22 hml
            generalize cellS xss ⟨(n : Int), (k : Int)⟩ = cv at *
            by_cases q1 : n = 0
            · have p1 : ((n : Int) == 0) = true := beq_iff_eq.2 (by omega)
              clear hq q1
              go_wp2_with fail
              go_round
              case measure => (simp [intOf] <;> omega)
              case rel => exact ⟨k + 1, by omega, by go_num, HNX.out, (hb1.setCell (p := ⟨W0.heap.size, k, none⟩) (Nat.le_refl _) _).setCell (p := ⟨W0.heap.size, k, none⟩) (Nat.le_refl _) _⟩
            · have p1 : ((n : Int) == 0) = false := beq_false_of_ne (by omega)
              by_cases q2 : k = 0
              · have p2 : ((k : Int) == 0) = true := beq_iff_eq.2 (by omega)
                clear hq q2
                go_wp2_with fail
                go_round
                case measure => (simp [intOf] <;> omega)
                case rel => exact ⟨k + 1, by omega, by go_num, HNX.out, (hb1.setCell (p := ⟨W0.heap.size, k, none⟩) (Nat.le_refl _) _).setCell (p := ⟨W0.heap.size, k, none⟩) (Nat.le_refl _) _⟩
              · have p2 : ((k : Int) == 0) = false := beq_false_of_ne (by omega)
                by_cases q3 : n + 1 = rs.length
                · have p3 : ((n : Int) + 1 == (rs.length : Int)) = true := beq_iff_eq.2 (by omega)
                  clear hq q3
                  go_wp2_with fail
                  go_round
                  case measure => (simp [intOf] <;> omega)
                  case rel => exact ⟨k + 1, by omega, by go_num, HNX.out, (hb1.setCell (p := ⟨W0.heap.size, k, none⟩) (Nat.le_refl _) _).setCell (p := ⟨W0.heap.size, k, none⟩) (Nat.le_refl _) _⟩
                · have p3 : ((n : Int) + 1 == (rs.length : Int)) = false := beq_false_of_ne (by omega)
                  have p4 : ((k : Int) + 1 == (m : Int)) = true := beq_iff_eq.2 (by omega)
                  clear hq
                  go_wp2_with fail
                  go_round
                  case measure => (simp [intOf] <;> omega)
                  case rel => exact ⟨k + 1, by omega, by go_num, HNX.out, (hb1.setCell (p := ⟨W0.heap.size, k, none⟩) (Nat.le_refl _) _).setCell (p := ⟨W0.heap.size, k, none⟩) (Nat.le_refl _) _⟩
          · rw [hed, decide_eq_false hq, if_neg (by simp)] at hget
            rw [hget] at hms
            rw [hms] at hst1
            have q1 : ((n : Int) == 0) = false := beq_false_of_ne (by omega)
            have q2 : ((k : Int) == 0) = false := beq_false_of_ne (by omega)
            have q3 : ((n : Int) + 1 == (rs.length : Int)) = false := beq_false_of_ne (by omega)
            have q4 : ((k : Int) + 1 == (m : Int)) = false := beq_false_of_ne (by omega)
            have HST := hide hst1
            clear hown hget hed hmk hms hst1 hbk2 hs2 hc2 hv22 hq hml
            go_wp2_with fail
            go_round
            case measure => (simp [intOf] <;> omega)
            case rel => exact ⟨k + 1, by omega, by go_num, HST.out, hb1.setCell (p := ⟨W0.heap.size, k, none⟩) (Nat.le_refl _) _⟩
        · have hkm : k = m := by omega
          have hfull := hown
          have hirl := HIRL.out n
          have hmx := mixR_all hml
          rw [hirl] at hmx
          rw [hkm, hmx] at hfull
          clear hmx
          obtain ⟨qs, hqm, hqo⟩ := HOWG.out
          have hql : qs.length = n := by rw [map_len hqm, List.length_take, HIL.out]; omega
          have hspx := hqo.spine.below hb1
          have hbx := bstep hbel hb1 hsz
          have hz1 := hb1.size
          have hit := HIT.out n (by omega)
          generalize initRow xss 10000 n = R at *
          have HSP := hide hspx; have HQ := hide hqo; have HQM := hide hqm; have HF := hide hfull; have HIT2 := hide hit; have HBX := hide hbx; have HB1 := hide hb1
          clear hown hfull hspx hqo hqm hit HOWG hml
          go_wp2_with (at_builtin; refine wpList_push1s (k := 1) (enc := SRow.enc) _ rfl _ _ 22 rfl 35 (.slice none 0 0) 24 Try.underlying22 SRow.info rfl (by omega) (by omega) SRow.one B _ qs rfl HSP.out (⟨R, some ⟨W0.heap.size, 0, none⟩, m⟩ : SRow) _ _ rfl rfl (by simp [flat, SRow.enc, hirl]) (by omega) (by omega) HBX.out (Nat.le_refl _) rfl ?_; intro v1 w3 ho3 hb3 hg3)
          have hpush := HQ.out.push2 (r := ⟨R, some ⟨W0.heap.size, 0, none⟩, m⟩) (Nat.le_refl _) hsz (HB1.out.alloc (by omega) (.cells #[SRow.v ⟨R, some ⟨W0.heap.size, 0, none⟩, m⟩] 35)) (by
            have := HF.out.alloc (.cells #[SRow.v ⟨R, some ⟨W0.heap.size, 0, none⟩, m⟩] 35)
            simp only [SRow.v, hirl] at this ⊢
            exact this) (by simp only [SRow.v, hirl]; exact hg3) ho3
          have hmp : (qs ++ [(⟨R, some ⟨W0.heap.size, 0, none⟩, m⟩ : SRow)]).map (·.xs) = (initG xss 10000).take (n + 1) := by rw [List.map_append, HQM.out, HIT2.out]; rfl
          have HP := hide (show OwnX w3 B w3.heap.size v1 ((initG xss 10000).take (n + 1)) from ⟨_, hmp, hpush⟩)
          clear hpush hmp ho3 hg3
          go_round
          case measure => (simp [intOf] <;> omega)
          case rel => exact ⟨n + 1, by omega, by go_num, HP.out, hb3⟩
    · have hnn : n = rs.length := by omega
      have hown := HOWG.out
      rw [hnn, ← hxl, ← HIL.out, List.take_length] at hown
      generalize hhi : W0.heap.size = hi at hown
      obtain ⟨A3, cap3, hv3, hc3, hc4⟩ := hown.isG.slice
      rw [HIL.out, hxl] at hv3 hc3
      subst hv3
      have HOWN := hide hown; clear hown HOWG
      clear hnn HIL HIT HIRL HIRG
      go_wp2_with fail
      go_loopg [7] ((sumS xss (initG xss 10000)).toNat + 1) (fun g b wr => ∃ (G : List (List Int)) (ch : Bool), (ch = true → (sumS xss G).toNat < g) ∧ b = .bool ch ∧ (∃ n, G = sweeps9 xss n (initG xss 10000)) ∧ (ch = false → (sweepP xss G).1 = G) ∧ OwnX wr B hi (.slice A3 rs.length cap3) G ∧ Below B w wr ∧ hi ≤ wr.heap.size)
      case atStart => exact ⟨_, true, fun _ => Nat.lt_succ_self _, rfl, ⟨0, rfl⟩, by simp, HOWN.out, hbel, by omega⟩
      case round =>
        clear hhi hsz hbel HOWN
        obtain ⟨G, ch, hgh, rfl, ⟨n9, hG⟩, hfix, hown, hbel, hhs⟩ := hrel
        have HGH := hide hgh; clear hgh
        have hsz : B ≤ wr.heap.size := by have := hbel.size; rw [HB.out] at this; exact this
        cases ch with
        | false =>
          have hlev : G = levF xss := by rw [hG]; exact HFIN.out n9 (by rw [← hG]; exact hfix rfl)
          have hx := hown.mono (Nat.le_refl B) hhs
          rw [hlev] at hx
          have HX := hide hx; clear hown hx hfix hG hlev
          go_wp2_with fail
          go_ret
          exact ⟨_, rfl, HX.out, hbel⟩
        | true =>
          have hsh : Shape xss G := by rw [hG]; exact HREACH.out n9
          have HG := hide hG; have HOWX := hide hown; have HSHP := hide hsh
          clear hG hown hfix
          have hfold : sweepP xss G = (sqTo (hdLen xss) xss.length).foldl (sqP xss) (G, false) := rfl
          rw [hm, hxl] at hfold
          have HFOLD := hide hfold; clear hfold
          go_wp2_with fail
          go_loopw [7, 8] (fun b i wx => ∃ n : Nat, n ≤ rs.length ∧ i = .int .i64 (n : Int) ∧ b = .bool ((sqTo m n).foldl (sqP xss) (G, false)).2 ∧ OwnX wx B hi (.slice A3 rs.length cap3) ((sqTo m n).foldl (sqP xss) (G, false)).1 ∧ Below B w wx ∧ hi ≤ wx.heap.size) (fun _ i _ => rs.length - (intOf i).toNat)
          case atStart => exact ⟨0, Nat.zero_le _, rfl, rfl, HOWX.out, hbel, hhs⟩
          case round =>
            clear hbel hhs hsz HOWX
            obtain ⟨n, hn, rfl, rfl, hown0, hbel0, hhs0⟩ := hrel
            by_cases hltn : n < rs.length
            · have hltn' : (n : Int) < rs.length := by omega
              have HOW0 := hide hown0; clear hown0
              generalize hF0 : (sqTo m n).foldl (sqP xss) (G, false) = F0 at *
              have HF0 := hide hF0; clear hF0
              go_wp2_with fail
              go_loopw [7, 9] (fun b i wx => ∃ k : Nat, k ≤ m ∧ i = .int .i64 (k : Int) ∧ b = .bool ((sqRow n k).foldl (sqP xss) F0).2 ∧ OwnX wx B hi (.slice A3 rs.length cap3) ((sqRow n k).foldl (sqP xss) F0).1 ∧ Below B w wx ∧ hi ≤ wx.heap.size) (fun _ i _ => m - (intOf i).toNat)
              case atStart => exact ⟨0, Nat.zero_le _, rfl, rfl, HOW0.out, hbel0, hhs0⟩
              case round =>
                clear hbel0 hhs0 HOW0
                obtain ⟨k, hk, rfl, rfl, hown, hbel, hhs⟩ := hrel
                have hsz : B ≤ wr.heap.size := by have := hbel.size; rw [HB.out] at this; exact this
                obtain ⟨rb, roff, rfl, hrb, rc0⟩ := SRow.cell HR.out (show n < rs.length by omega) hbel
                rw [HRLL.out n (by omega)] at rc0
                by_cases hlt : k < m
                · have hlt' : (k : Int) < m := by omega
                  have hpin : InS xss ⟨(n : Int), (k : Int)⟩ := ⟨⟨by simp, by simp only; rw [HXL.out]; omega⟩, by simp, by simp only; rw [HM.out]; omega⟩
                  have hst : (sqRow n (k + 1)).foldl (sqP xss) F0 = (nearS xss (n : Int) (k : Int)).foldl (stepP xss ⟨(n : Int), (k : Int)⟩) ((sqRow n k).foldl (sqP xss) F0) := by rw [sqRow_succ, List.foldl_append]; rfl
                  have hshF : Shape xss ((sqRow n k).foldl (sqP xss) F0).1 := fold_shape (by rw [← HF0.out]; exact fold_shape HSHP.out)
                  have hcall := HAR.out _ hpin _ hbel
                  have hnin := HNIN.out ⟨(n : Int), (k : Int)⟩
                  generalize (sqRow n k).foldl (sqP xss) F0 = F at *
                  have hnl := nearS_len xss (n : Int) (k : Int)
                  simp only at hcall hnin hst hnl
                  have HC := hide hcall; have HST := hide hst; have HSF := hide hshF; have HNI := hide hnin; have HOX := hide hown
                  clear hcall hst hshF hown hnin
                  generalize nearS xss (n : Int) (k : Int) = nl at *
                  go_wp2_with fail
                  refine HC.out.mono ?_; rintro e w5 ⟨x5, rfl, ho5, hb5⟩
                  have B5 := bstep hbel hb5 hsz
                  have hx5 := HOX.out.below hb5
                  have hs5 : hi ≤ w5.heap.size := Nat.le_trans hhs hb5.size
                  obtain ⟨A7, c7, rfl, _, _, _⟩ := ho5.row
                  have HN5 := hide (ho5.mono hhs); have HX5 := hide hx5
                  clear ho5 hx5 hb5 HC HOX rc0
                  go_wp2_with fail
                  go_loopw [7, 11] (fun b i wx => ∃ j : Nat, j ≤ nl.length ∧ i = .int .i64 (j : Int) ∧ b = .bool ((nl.take j).foldl (stepP xss ⟨(n : Int), (k : Int)⟩) F).2 ∧ OwnX wx B hi (.slice A3 rs.length cap3) ((nl.take j).foldl (stepP xss ⟨(n : Int), (k : Int)⟩) F).1 ∧ Own 2 SA2.enc 50 wx hi (.slice A7 nl.length c7) nl ∧ Below B w wx ∧ hi ≤ wx.heap.size) (fun _ i _ => nl.length - (intOf i).toNat)
                  case atStart => exact ⟨0, Nat.zero_le _, rfl, rfl, HX5.out, HN5.out, B5, hs5⟩
                  case round =>
                    clear hbel hsz B5 hs5 HN5 HX5 hhs hrb
                    obtain ⟨j, hj, rfl, rfl, hown, hon, hbel, hws⟩ := hrel
                    have hsz : B ≤ wr.heap.size := by have := hbel.size; rw [HB.out] at this; exact this
                    by_cases hltj : j < nl.length
                    · have hltj' : (j : Int) < nl.length := by omega
                      obtain ⟨A8, c8, he, hrn, _, _⟩ := hon.row
                      injection he with he1 he2 he3; subst he1 he3
                      obtain ⟨nb, noff, rfl, hnb, d0, d1⟩ := SA2.cells hrn hltj (Below.refl _ _)
                      have hqin := HNI.out nl[j] (List.getElem_mem hltj)
                      have hst2 : (nl.take (j + 1)).foldl (stepP xss ⟨(n : Int), (k : Int)⟩) F = stepP xss ⟨(n : Int), (k : Int)⟩ ((nl.take j).foldl (stepP xss ⟨(n : Int), (k : Int)⟩) F) nl[j] := by rw [take_snoc' hltj, List.foldl_append]; rfl
                      have hsh2 : Shape xss ((nl.take j).foldl (stepP xss ⟨(n : Int), (k : Int)⟩) F).1 := fold_gen (P := fun a : List (List Int) × Bool => Shape xss a.1) _ (fun a t _ ha => stepP_shape t ha) _ HSF.out
                      generalize nl[j] = q at *
                      generalize (nl.take j).foldl (stepP xss ⟨(n : Int), (k : Int)⟩) F = E at *
                      obtain ⟨EG, eb⟩ := E
                      obtain ⟨qx, qy⟩ := q
                      obtain ⟨T, hT⟩ : ∃ T, (nl.take (j + 1)).foldl (stepP xss ⟨(n : Int), (k : Int)⟩) F = T := ⟨_, rfl⟩
                      rw [hT] at hst2
                      have HT := hide hT; clear hT
                      unfold stepP at hst2
                      simp only at d0 d1 hst2 hsh2 hown
                      obtain ⟨gs, gcap, gq, gcq, hv, _, _, _, hce, _, _⟩ := hown.cells hsh2 hqin
                      obtain ⟨rb0, roff0, rr, roffr, rcr, hrA, hrg⟩ := HGC.out ⟨(n : Int), (k : Int)⟩ (by have h := hpin; unfold InS at h; rw [HM.out] at h; exact h)
                      injection hrA with hrA; injection hrA with hz1 hz2; subst hz1 hz2
                      injection hv with hv1 hv2 hv3; subst hv1 hv3
                      have hcp := HCIN.out _ hpin
                      rw [HM.out] at hce
                      obtain ⟨⟨qx0, qx1⟩, qy0, qy1⟩ := hqin
                      rw [HXL.out] at qx1
                      rw [HM.out] at qy1
                      obtain ⟨c0, c1⟩ := hce
                      obtain ⟨r0, r1⟩ := hrg _ hbel
                      simp only [Int.toNat_natCast] at r0 r1 c0 c1 qx0 qx1 qy0 qy1
                      have m0 := fun n => later_cell c0 n; have m1 := fun n => later_cell c1 n; have m2 := fun n => later_cell r0 n; have m3 := fun n => later_cell r1 n
                      have m6 := fun n => later_cell d0 n; have m7 := fun n => later_cell d1 n
                      have HST2 := hide hst2; have HXX := hide hown; have HNX := hide hon; have HSH2 := hide hsh2
                      clear hst2 hown hon hrn hv2 hsh2 hrg c0 c1 r0 r1
                      generalize cellS xss ⟨(n : Int), (k : Int)⟩ = hp at *
                      generalize cellS EG ⟨qx, qy⟩ = lq at *
                      have hmost := fun W => l1Most_any hp lq W
                      have HMOST := hide hmost; clear hmost
                      go_wp2_with fail
                      (refine wp_region_later (by kernel_rfl) (by kernel_rfl) ?_; (repeat (go_big_quiet_step ((go_at_call 89; exact later_same (HMOST.out _))))); refine wpQuiet_nil ?_; intro _ hw'; obtain ⟨nq, hw''⟩ := hw'; subst hw'')
                      have B8 := hbel.trans (nq.h.mono hsz)
                      have hx8 := HXX.out.below nq.h
                      have hn8 := HNX.out.below nq.h
                      have hs8 : hi ≤ nq.W.heap.size := Nat.le_trans hws nq.h.size
                      generalize nq.W = W8 at B8 hx8 hn8 hs8
                      clear nq m0 m1 m2 m3 m6 m7 d0 d1 HXX HNX hbel hws hsz
                      obtain ⟨gs', gcap', gp2, gcp2, hv, hlo8, hhi8, hne8, hce, hfz, hset⟩ := hx8.cells HSH2.out hpin
                      injection hv with hv1 hv2 hv3; injection hv1 with hv1; injection hv1 with hv1 _; subst hv1 hv3
                      rw [HM.out] at hce
                      obtain ⟨c0, c1⟩ := hce
                      simp only [Int.toNat_natCast] at c0 c1 hset
                      generalize hcp2 : cellS EG ⟨(n : Int), (k : Int)⟩ = lp at *
                      clear hv2 hcp2
                      by_cases hlow : max hp lq < lp
                      · have hst3 := HST2.out
                        rw [if_pos hlow] at hst3
                        have hneN : ∀ g, Value.ownBlock (.slice (some ⟨nb, noff, none⟩) nl.length c7) = some g → g ≠ gp2 := fun g hg => by have := (hn8.lt g hg).1; omega
                        have HST3 := hide hst3; have HSET := hide hset; have HN8 := hide hn8; have HNEN := hide hneN
                        clear hst3 hset hn8 hneN hx8
                        go_wp2_with fail
                        have B9 : Below B w (W8.setCell ⟨gp2, k, none⟩ (.int .i64 (max hp lq))) := B8.setCell (p := ⟨gp2, k, none⟩) hlo8 (.int .i64 (max hp lq))
                        have s9 : hi ≤ (W8.setCell ⟨gp2, k, none⟩ (.int .i64 (max hp lq))).heap.size := by
                          have : (W8.setCell ⟨gp2, k, none⟩ (.int .i64 (max hp lq))).heap.size = W8.heap.size := by simp [World.setCell]
                          omega
                        go_round
                        case measure => (simp [intOf] <;> omega)
                        case rel => exact ⟨j + 1, by omega, by go_num, by rw [HT.out, HST3.out], by rw [HT.out, HST3.out]; exact HSET.out _, HN8.out.setCell (p := ⟨gp2, k, none⟩) HNEN.out _, B9, s9⟩
                      · have hst3 := HST2.out
                        rw [if_neg hlow] at hst3
                        have HST3 := hide hst3; have HX8 := hide hx8; have HN8 := hide hn8
                        clear hst3 hx8 hn8 hset
                        go_wp2_with fail
                        go_round
                        case measure => (simp [intOf] <;> omega)
                        case rel => exact ⟨j + 1, by omega, by go_num, by rw [HT.out, HST3.out], by rw [HT.out, HST3.out]; exact HX8.out, HN8.out, B8, hs8⟩
                    · have hjr : nl.length = j := by omega
                      have hfin : (nl.take j).foldl (stepP xss ⟨(n : Int), (k : Int)⟩) F = (sqRow n (k + 1)).foldl (sqP xss) F0 := by rw [HST.out, ← hjr, List.take_length]
                      rw [hfin] at hown ⊢
                      have HX := hide hown; have HJ := hide hjr
                      clear hown hjr hon hfin
                      go_wp2_with fail
                      go_round
                      case measure => (simp [intOf] <;> omega)
                      case rel => exact ⟨k + 1, by omega, by go_num, rfl, HX.out, hbel, hws⟩
                · have hkm : k = m := by omega
                  have hfin : (sqRow n k).foldl (sqP xss) F0 = (sqTo m (n + 1)).foldl (sqP xss) (G, false) := by rw [sqTo_succ, List.foldl_append, HF0.out, hkm]
                  rw [hfin] at hown ⊢
                  have HX := hide hown; have HKM := hide hkm
                  clear hown hkm hfin
                  go_wp2_with fail
                  go_round
                  case measure => (simp [intOf] <;> omega)
                  case rel => exact ⟨n + 1, by omega, by go_num, rfl, HX.out, hbel, hhs⟩
            · have hnn : rs.length = n := by omega
              have hfin : (sqTo m n).foldl (sqP xss) (G, false) = sweepP xss G := by rw [HFOLD.out, hnn]
              rw [hfin] at hown0 ⊢
              have hG' : (sweepP xss G).1 = sweeps9 xss (n9 + 1) (initG xss 10000) := by rw [sweeps9_add n9 1, ← HG.out]; rfl
              have hflag := sweep_flag HSHP.out
              have hsumn := HSUM.out (n9 + 1)
              rw [← hG'] at hsumn
              clear hfin
              have HFOLD2 := hide HFOLD; clear HFOLD HFOLD2
              generalize hS : sweepP xss G = S at *
              obtain ⟨G', ch'⟩ := S
              simp only at hown0 hG' hflag hsumn ⊢
              have HX := hide hown0; have HNN := hide hnn; have HG2 := hide hG'; have HFL := hide hflag; have HSN := hide hsumn; have HSS := hide hS
              clear hown0 hnn hG' hflag hsumn hS
              go_wp2_with fail
              go_roundg (gk - 1)
              case measure =>
                have := HGH.out (by first | trivial | rfl)
                omega
              case rel =>
                refine ⟨G', ch', fun hc => ?_, rfl, ⟨n9 + 1, HG2.out⟩, fun hc => ?_, HX.out, hbel0, hhs0⟩
                · have h1 := HFL.out.2 hc
                  have h2 := HSN.out
                  have h3 := HGH.out (by first | trivial | rfl)
                  omega
                · have h1 := HFL.out.1 hc
                  subst h1
                  rw [HSS.out]
end Go.Proofs.Ytomcdkkjknphpaa
