/- Contracts of spec's Catchment and GreatestRiver: the Lean functions catV and riverV. No condition. -/
import Derived.Test.YtomcdkkjknphpaaL9T
namespace Go.Proofs.Ytomcdkkjknphpaa
open Go.RowKit
set_option linter.unusedVariables false
theorem specCatchment_any (v : Value) (xss : List (List Int)) (r c : Int) (w : World) (h : IsG w v xss) :
    Calls Try.prog 36 #[v, .int .i64 r, .int .i64 c] w fun e w' => e = .returned (.tuple #[.int .i64 (catV xss r c).1, .bool (catV xss r c).2]) ∧ Below w.heap.size w w' := by
  have hsq := l9Square_is v xss r c w h
  by_cases hl : listedG xss r c = true
  case neg =>
    rw [Bool.not_eq_true] at hl
    rw [show catV xss r c = (0, false) by unfold catV; rw [hl]; rfl]
    rw [hl] at hsq
    have HS := hide hsq; clear hsq hl h
    go_enter Try.func36, Try.ntmps36
    go_wp2_with fail
    refine HS.out.mono ?_; rintro e w1 ⟨rfl, hb1⟩
    go_wp2_with fail
    go_ret2
    exact ⟨rfl, hb1⟩
  rw [hl] at hsq
  obtain ⟨hrel, hr, hc⟩ := listed_parts hl
  have hin : InS xss ⟨r, c⟩ := ⟨hr, hc⟩
  rw [show catV xss r c = ((catN xss ⟨r, c⟩ : Int), true) by unfold catV; rw [hl]; rfl]
  have hriv := fun W (hb : Below w.heap.size w W) => l9Rivers_is v xss W (h.below hb (Nat.le_refl _)) hrel
  have hcell := rivG_cell hrel hin
  have hsh := rivTo_shape (xss := xss) (allS xss)
  rw [show rivTo xss (allS xss) = rivG xss from rfl] at hsh
  obtain ⟨hr0, hr1⟩ := hr
  obtain ⟨hc0, hc1⟩ := hc
  generalize (catN xss ⟨r, c⟩ : Int) = ct at *
  have HS := hide hsq; have HN := hide hriv; have HCE := hide hcell; have HSH := hide hsh
  clear hsq hriv hcell hsh hl h hrel
  go_enter Try.func36, Try.ntmps36
  go_wp2_with fail
  refine HS.out.mono ?_; rintro e w1 ⟨rfl, hb1⟩
  go_wp2_with fail
  refine (HN.out _ hb1).mono ?_; rintro e w2 ⟨x, rfl, ho, hb2⟩
  have B2 := bstep hb1 hb2 hb1.size
  obtain ⟨gs, cap, gr, cr, rfl, _, _, _, ⟨c0, c1⟩, _, _⟩ := ho.cells HSH.out hin
  rw [HCE.out] at c1
  simp only at c0 c1
  clear ho hb2
  go_wp2_with fail
  go_ret2
  exact ⟨rfl, B2⟩
set_option maxHeartbeats 2000000 in
theorem specGreatestRiver_any (v : Value) (xss : List (List Int)) (w : World) (h : IsG w v xss) :
    Calls Try.prog 38 #[v] w fun e w' => e = .returned (.tuple #[.int .i64 (riverV xss).1.1, .int .i64 (riverV xss).1.2, .bool (riverV xss).2]) ∧ Below w.heap.size w w' := by
  have hgood := l9Good_is v xss w h
  by_cases hrel : reliefB xss = true
  case neg =>
    rw [Bool.not_eq_true] at hrel
    rw [show riverV xss = ((0, 0), false) by unfold riverV; rw [hrel]; rfl]
    rw [hrel] at hgood
    have HG := hide hgood; clear hgood hrel h
    go_enter Try.func38, Try.ntmps38
    go_wp2_with fail
    refine HG.out.mono ?_; rintro e w1 ⟨rfl, hb1⟩
    go_wp2_with fail
    go_ret3
    exact ⟨rfl, hb1⟩
  rw [hrel] at hgood
  have HG := hide hgood
  have hdm := relief_dims hrel
  have hV : riverV xss = (((grTo xss (allS xss) (allS xss).length).1.x, (grTo xss (allS xss) (allS xss).length).1.y), true) := by unfold riverV; rw [hrel]; rfl
  have hriv := fun W (hb : Below w.heap.size w W) => l9Rivers_is v xss W (h.below hb (Nat.le_refl _)) hrel
  have hin := fun (p : SA2) (hp : p ∈ allS xss) => allS_in hp
  have hgi := fun k hk => (grTo_in hrel (l := allS xss) hin k hk).1
  have hsl := sqTo_len (hdLen xss) xss.length
  rw [show sqTo (hdLen xss) xss.length = allS xss from rfl] at hsl
  have hat := fun n k (hn : n < xss.length) (hk : k < hdLen xss) h => sqTo_at (m := hdLen xss) (N := xss.length) (n := n) (k := k) hn hk h
  rw [show sqTo (hdLen xss) xss.length = allS xss from rfl] at hat
  have h0 : ∀ (h : 0 < (allS xss).length), (allS xss)[0] = ⟨0, 0⟩ := fun h => by
    have := hat 0 0 (by omega) (by omega) (by simpa using h)
    simpa using this
  have hgb := fun k (hk : k < (allS xss).length) => grTo_best hrel (l := allS xss) hin hk h0
  have hcell := fun (q : SA2) (hq : InS xss q) => rivG_cell hrel hq
  have hsh := rivTo_shape (xss := xss) (allS xss)
  rw [show rivTo xss (allS xss) = rivG xss from rfl] at hsh
  have hg0 : (grTo xss (allS xss) 0).1 = ⟨0, 0⟩ := rfl
  obtain ⟨rs, hmap, his, hrs⟩ := h
  obtain ⟨A, cap, rfl, hrow, _, _⟩ := his
  have hxl : xss.length = rs.length := by rw [← hmap]; simp
  have hrll : ∀ i, (hi : i < rs.length) → rs[i].xs.length = hdLen xss := fun i hi => by
    have := relief_row hrel (i := i) (by omega)
    rw [← this]; simp [← hmap]
  rw [hxl] at hat hsl
  have HV := hide hV; have HRIV := hide hriv; have HGI := hide hgi; have HAT := hide hat; have HGB := hide hgb; have HCE := hide hcell; have HSH := hide hsh; have HR := hide hrow; have HRLL := hide hrll; have HXL := hide hxl; have HG0 := hide hg0
  clear hgood hV hriv hin hgi hat h0 hgb hcell hsh hrel hrs hrow hmap hrll hg0
  generalize allS xss = l at *
  generalize hm : hdLen xss = m at *
  have HM := hide hm
  generalize hB : w.heap.size = B at *
  have HB := hide hB
  go_enter Try.func38, Try.ntmps38
  go_wp2_with fail
  refine HG.out.mono ?_; rintro e w1 ⟨rfl, hb1⟩
  have s1 : B ≤ w1.heap.size := by have := hb1.size; omega
  go_wp2_with fail
  refine (HRIV.out _ hb1).mono ?_; rintro e w2 ⟨x, rfl, ho, hb2⟩
  have B2 := bstep hb1 hb2 s1
  have s2 : B ≤ w2.heap.size := Nat.le_trans s1 hb2.size
  have B3 := B2.alloc s2 (.cells #[.int .i64 0, .int .i64 0] 50)
  have hx3 := (ho.mono s1 (Nat.le_refl _)).below (below_alloc w2 (.cells #[.int .i64 0, .int .i64 0] 50))
  have hk3 := Blk.new w2 50 (SA2.boxed ⟨0, 0⟩)
  obtain ⟨A3, cap3, hv3, _, _⟩ := ho.isG.slice
  rw [HSH.out.1, HXL.out] at hv3
  subst hv3
  have HX3 := hide hx3; have HK3 := hide hk3
  generalize hG : w2.heap.size = G at *
  clear ho hx3 hk3 hb2 hb1
  go_wp2_with fail
  go_loopw [7] (fun i wr => ∃ n : Nat, n ≤ rs.length ∧ i = .int .i64 (n : Int) ∧ OwnX wr B G (.slice A3 rs.length cap3) (rivG xss) ∧ Blk wr G 50 (grTo xss l (n * m)).1.boxed ∧ Below B w wr) (fun i _ => rs.length - (intOf i).toNat)
  case atStart => exact ⟨0, Nat.zero_le _, rfl, HX3.out, by rw [Nat.zero_mul, HG0.out]; exact HK3.out, B3⟩
  case round =>
    clear hG B3 B2 HX3 HK3 HRIV HG s1
    obtain ⟨n, hn, rfl, hown0, hblk0, hbel0⟩ := hrel
    have HOW0 := hide hown0; clear hown0
    by_cases hltn : n < rs.length
    · have hltn' : (n : Int) < rs.length := by omega
      have HBLK0 := hide hblk0; clear hblk0
      go_wp2_with fail
      go_loopw [8] (fun i wr => ∃ k : Nat, k ≤ m ∧ i = .int .i64 (k : Int) ∧ OwnX wr B G (.slice A3 rs.length cap3) (rivG xss) ∧ Blk wr G 50 (grTo xss l (n * m + k)).1.boxed ∧ Below B w wr) (fun i _ => m - (intOf i).toNat)
      case atStart => exact ⟨0, Nat.zero_le _, rfl, HOW0.out, HBLK0.out, hbel0⟩
      case round =>
        clear hbel0 HBLK0 HOW0
        obtain ⟨k, hk, rfl, hown, hblk, hbel⟩ := hrel
        have hsz : B ≤ wr.heap.size := by have := hblk.lt; omega
        obtain ⟨rb, roff, rfl, hrb, rc0⟩ := SRow.cell HR.out (show n < rs.length by omega) hbel
        rw [HRLL.out n (by omega)] at rc0
        by_cases hlt : k < m
        · have hlt' : (k : Int) < m := by omega
          have hkl : n * m + k < l.length := by rw [hsl]; exact sq_lt hltn hlt
          have hst := HGB.out _ hkl
          rw [HAT.out n k hltn hlt hkl] at hst
          have hin : InS xss ⟨(n : Int), (k : Int)⟩ := ⟨⟨by simp, by simp only; rw [HXL.out]; omega⟩, by simp, by simp only; rw [HM.out]; omega⟩
          have hbin := HGI.out (n * m + k) (by omega)
          generalize (grTo xss l (n * m + k)).1 = bs at *
          obtain ⟨gs, gcap, gr, gcr, hv, _, _, _, hce, _, _⟩ := hown.cells HSH.out hin
          obtain ⟨gs', gcap', gr', gcr', hv', _, _, _, hce', _, _⟩ := hown.cells HSH.out hbin
          injection hv with hv1 hv2 hv3; subst hv1 hv3
          injection hv' with hv1' hv2' hv3'; injection hv1' with hv1'; injection hv1' with hv1' _; subst hv1' hv3'
          rw [HCE.out _ hin, HM.out] at hce
          rw [HCE.out _ hbin, HM.out] at hce'
          obtain ⟨c0, c1⟩ := hce
          obtain ⟨c2, c3⟩ := hce'
          obtain ⟨⟨q0, q1⟩, q2, q3⟩ := hbin
          rw [HXL.out] at q1; rw [HM.out] at q3
          obtain ⟨b0, b1⟩ := boxed2_cell hblk
          have hlow0 : catN xss bs < catN xss ⟨(n : Int), (k : Int)⟩ ↔ (catN xss bs : Int) < (catN xss ⟨(n : Int), (k : Int)⟩ : Int) := by omega
          obtain ⟨bx, by_⟩ := bs
          simp only [Int.toNat_natCast] at *
          have HST := hide hst; have HOW := hide hown; have HBK := hide hblk; have HLW := hide hlow0
          clear hst hown hblk hin hlow0 hv2 hv2' hxl
          generalize catN xss ⟨bx, by_⟩ = cb at *
          generalize catN xss ⟨(n : Int), (k : Int)⟩ = ck at *
          have m0 := fun n => later_cell b0 n; have m1 := fun n => later_cell b1 n; have m2 := fun n => later_cell c0 n; have m3 := fun n => later_cell c1 n; have m4 := fun n => later_cell c2 n; have m5 := fun n => later_cell c3 n
          by_cases hlow : (cb : Int) < (ck : Int)
          · have HS2 := hide (show (grTo xss l (n * m + k + 1)).1 = ⟨(n : Int), (k : Int)⟩ by rw [HST.out, if_pos (by omega)])
            go_wp2_with fail
            (refine wp_region_later (by kernel_rfl) (by kernel_rfl) ?_; (repeat (go_big_quiet_step (fail))); refine wpQuiet_nil ?_; intro _ hw'; obtain ⟨nq, hw''⟩ := hw'; subst hw'')
            have B7 := hbel.trans (nq.h.mono hsz)
            have hx7 := HOW.out.below nq.h
            have hk7 := HBK.out.below nq.h HBK.out.lt
            have hsz7 : wr.heap.size ≤ nq.W.heap.size := nq.h.size
            generalize nq.W = W7 at B7 hx7 hk7 hsz7
            have g0 := hk7.some (i := 0) (show 0 < 2 by omega); have g1 := hk7.some (i := 1) (show 1 < 2 by omega)
            have hfz := hk7.frozen
            have HX7 := hide hx7; have HK7 := hide hk7
            clear nq m0 m1 m2 m3 m4 m5 hx7 hk7 b0 b1 c0 c1 c2 c3
            have hw0 : Within G (G + 1) W7 (W7.setCell ⟨G, 0, none⟩ (.int .i64 (n : Int))) := Within.of_grown (row := some G) (grownBy_setCell (World.grownBy.refl _ _) _ _) (fun g hg => by have := Option.some.inj hg; omega)
            have hw1 : Within G (G + 1) (W7.setCell ⟨G, 0, none⟩ (.int .i64 (n : Int))) ((W7.setCell ⟨G, 0, none⟩ (.int .i64 (n : Int))).setCell ⟨G, 1, none⟩ (.int .i64 (k : Int))) := Within.of_grown (row := some G) (grownBy_setCell (World.grownBy.refl _ _) _ _) (fun g hg => by have := Option.some.inj hg; omega)
            have HW := hide (hw0.trans hw1); clear hw0 hw1
            go_wp2_with fail
            go_round
            case measure => (simp [intOf] <;> omega)
            case rel => exact ⟨k + 1, by omega, by go_num, HX7.out.within HW.out (.inl (Nat.le_refl _)), by rw [← Nat.add_assoc, HS2.out]; exact (HK7.out.set 0 _).set 1 _, (B7.setCell (p := ⟨G, 0, none⟩) s2 _).setCell (p := ⟨G, 1, none⟩) s2 _⟩
          · have HS2 := hide (show (grTo xss l (n * m + k + 1)).1 = ⟨bx, by_⟩ by rw [HST.out, if_neg (by omega)])
            go_wp2_with fail
            (refine wp_region_later (by kernel_rfl) (by kernel_rfl) ?_; (repeat (go_big_quiet_step (fail))); refine wpQuiet_nil ?_; intro _ hw'; obtain ⟨nq, hw''⟩ := hw'; subst hw'')
            have B7 := hbel.trans (nq.h.mono hsz)
            have hx7 := HOW.out.below nq.h
            have hk7 := HBK.out.below nq.h HBK.out.lt
            generalize nq.W = W7 at B7 hx7 hk7
            have HX7 := hide hx7; have HK7 := hide hk7
            clear nq m0 m1 m2 m3 m4 m5 hx7 hk7 b0 b1 c0 c1 c2 c3
            go_wp2_with fail
            go_round
            case measure => (simp [intOf] <;> omega)
            case rel => exact ⟨k + 1, by omega, by go_num, HX7.out, by rw [← Nat.add_assoc, HS2.out]; exact HK7.out, B7⟩
        · have hkm : m = k := by omega
          have he : n * m + k = (n + 1) * m := by rw [Nat.add_mul, Nat.one_mul, ← hkm]
          rw [he] at hblk
          have HBK := hide hblk; have HKM := hide hkm; have HOW := hide hown; clear hblk he hkm hown
          go_wp2_with fail
          go_round
          case measure => (simp [intOf] <;> omega)
          case rel => exact ⟨n + 1, by omega, by go_num, HOW.out, HBK.out, hbel⟩
    · have hnn : rs.length = n := by omega
      have hv := HV.out
      rw [hsl, hnn] at hv
      generalize (grTo xss l (n * m)).1 = bs at *
      obtain ⟨bx, by_⟩ := bs
      simp only at *
      obtain ⟨e0, e1⟩ := boxed2_cell hblk0
      have hsz : B ≤ wr.heap.size := by have := hblk0.lt; omega
      have HKL := hide hnn; have HVV := hide hv; clear hnn hblk0 hv
      have m0 := fun n => later_cell e0 n; have m1 := fun n => later_cell e1 n
      go_wp2_with fail
      (refine wp_region_later (by kernel_rfl) (by kernel_rfl) ?_; (repeat (go_big_quiet_step (fail))); refine wpQuiet_nil ?_; intro _ hw'; obtain ⟨nq, hw''⟩ := hw'; subst hw'')
      have B7 := hbel0.trans (nq.h.mono hsz)
      go_wp2_with fail
      go_ret3
      rw [HVV.out]
      exact ⟨rfl, B7⟩
end Go.Proofs.Ytomcdkkjknphpaa
