/- Contract of impl's SteepestSquare: the Lean function steepV. No condition. -/
import Derived.Test.YtomcdkkjknphpaaL9H
namespace Go.Proofs.Ytomcdkkjknphpaa
open Go.RowKit
set_option linter.unusedVariables false
set_option maxHeartbeats 2000000 in
theorem implSteepestSquare_any (v : Value) (xss : List (List Int)) (w : World) (h : IsG w v xss) :
    Calls Try.prog 32 #[v] w fun e w' => e = .returned (.tuple #[.int .i64 (steepV xss).1.1, .int .i64 (steepV xss).1.2.1, .int .i64 (steepV xss).1.2.2, .bool (steepV xss).2]) ∧ Below w.heap.size w w' := by
  have hgood := implIsRelief_any v xss w h
  by_cases hrel : reliefB xss = true
  case neg =>
    rw [Bool.not_eq_true] at hrel
    rw [show steepV xss = ((0, 0, 0), false) by unfold steepV; rw [hrel]; rfl]
    rw [hrel] at hgood
    have HG := hide hgood; clear hgood hrel h
    go_enter Try.func32, Try.ntmps32
    go_wp2_with fail
    refine HG.out.mono ?_; rintro e w1 ⟨rfl, hb1⟩
    go_wp2_with fail
    (try simp only [Exit.inBlock, Exit.then]); refine bodyPost_ret (results_tmp4 rfl _ _ _) rfl ?_
    exact ⟨rfl, hb1⟩
  rw [hrel] at hgood
  have HG := hide hgood; have HREL := hide hrel; have HI := hide h
  have hmem := fun p (hp : p ∈ sqTo (hdLen xss) xss.length) => sqTo_mem hp
  have hV : steepV xss = if (stTo xss (sqTo (hdLen xss) xss.length) (sqTo (hdLen xss) xss.length).length).2 = 0 then ((0, 0, 0), false) else (((stTo xss (sqTo (hdLen xss) xss.length) (sqTo (hdLen xss) xss.length).length).1.x, (stTo xss (sqTo (hdLen xss) xss.length) (sqTo (hdLen xss) xss.length).length).1.y, (stTo xss (sqTo (hdLen xss) xss.length) (sqTo (hdLen xss) xss.length).length).2), true) := by
    unfold steepV; rw [hrel, Bool.true_and]
    by_cases hz : (stTo xss (sqTo (hdLen xss) xss.length) (sqTo (hdLen xss) xss.length).length).2 = 0 <;> simp [hz]
  have hall := fun W (hb : Below w.heap.size w W) => allSquares_is v xss W (h.below hb (Nat.le_refl _)) hrel
  have hll : (sqTo (hdLen xss) xss.length).length ≤ 64 := by
    have hdm := relief_dims hrel
    rw [sqTo_len]
    have : xss.length * hdLen xss ≤ 8 * 8 := Nat.mul_le_mul (by omega) (by omega)
    omega
  have hsi := stTo_in hrel hmem
  have HV := hide hV; have HALL := hide hall; have HSI := hide hsi
  have hnx := fun (p : SA2) (hp : (0 ≤ p.x ∧ p.x < xss.length) ∧ (0 ≤ p.y ∧ p.y < hdLen xss)) W (hb : Below w.heap.size w W) => next_is v xss p.x p.y W (h.below hb (Nat.le_refl _)) hrel hp.1 hp.2
  have hbn := fun (p : SA2) (hp : (0 ≤ p.x ∧ p.x < xss.length) ∧ (0 ≤ p.y ∧ p.y < hdLen xss)) => bestN_in hp
  have hcs := fun (p : SA2) (hp : (0 ≤ p.x ∧ p.x < xss.length) ∧ (0 ≤ p.y ∧ p.y < hdLen xss)) => cellS_in hrel hp
  obtain ⟨rs, hmap, his, hrs⟩ := h
  obtain ⟨A, cap, rfl, hrow, _, _⟩ := his
  have hxl : xss.length = rs.length := by rw [← hmap]; simp
  have hgc := fun (p : SA2) hp => grid_cells hmap hrow hrs hrel (p := p) hp
  have hmem2 : ∀ p ∈ sqTo (hdLen xss) xss.length, (0 ≤ p.x ∧ p.x < rs.length) ∧ (0 ≤ p.y ∧ p.y < hdLen xss) := fun p hp => by have := sqTo_mem hp; rw [hxl] at this; exact this
  rw [hxl] at hnx hbn hcs hgc
  have HM2 := hide hmem2; clear hmem2
  have HNX := hide hnx; have HBN := hide hbn; have HCS := hide hcs; have HGC := hide hgc
  clear hgood hrel hmem hV hall hsi hnx hbn hcs hgc hmap hrow hrs
  generalize sqTo (hdLen xss) xss.length = l at *
  go_enter Try.func32, Try.ntmps32
  go_wp2_with fail
  refine HG.out.mono ?_; rintro e w1 ⟨rfl, hb1⟩
  have B1a := hb1.alloc hb1.size (.cells #[.int .i64 0, .int .i64 0] 50)
  have hbx0 := Blk.new w1 50 #[.int .i64 0, .int .i64 0]
  have HBX0 := hide hbx0; clear hbx0
  go_wp2_with fail
  refine (HALL.out _ B1a).mono ?_; rintro e w2 ⟨x, rfl, ho, hb2⟩
  have B2 := bstep B1a hb2 B1a.size
  have hq0 := HBX0.out.below hb2 (by simp)
  have hlo : w1.heap.size < (w1.alloc (.cells #[.int .i64 0, .int .i64 0] 50)).heap.size := by simp
  have hxo : ∀ g, x.ownBlock = some g → g ≠ w1.heap.size := fun g hg => by have := (ho.lt g hg).1; omega
  obtain ⟨A', cap', rfl, _, _, _⟩ := ho.row
  have hGB : w.heap.size ≤ w1.heap.size := hb1.size
  have ho2 := ho.mono (show w1.heap.size + 1 ≤ _ by simp)
  have HO := hide ho2; have HQ := hide hq0; have HXO := hide hxo; clear ho ho2 hq0 hxo hb2 B1a hb1
  generalize hG : w1.heap.size = G at *
  generalize hB : w.heap.size = B at *
  go_wp2_with fail
  go_loopw [7, 20] (fun t i wr => ∃ k : Nat, k ≤ l.length ∧ i = .int .i64 (k : Int) ∧ t = .int .i64 (stTo xss l k).2 ∧ Own 2 SA2.enc 50 wr (G + 1) (.slice A' l.length cap') l ∧ Blk wr G 50 (stTo xss l k).1.boxed ∧ Below B w wr) (fun _ i _ => l.length - (intOf i).toNat)
  case atStart => exact ⟨0, Nat.zero_le _, rfl, rfl, HO.out, HQ.out, B2⟩
  case round =>
    obtain ⟨k, hk, rfl, rfl, hown, hblk, hbel⟩ := hrel
    have hgl := hblk.lt
    have hsz : B ≤ wr.heap.size := by omega
    by_cases hlt : k < l.length
    · have hlt' : (k : Int) < l.length := by omega
      obtain ⟨A2, c2, he, hrl, _, _⟩ := hown.row
      injection he with he1 he2 he3; subst he1 he3
      obtain ⟨b, off, rfl, hb, d0, d1⟩ := SA2.cells hrl hlt (Below.refl _ _)
      have hst := stTo_next xss l hlt
      have hin := HM2.out l[k] (List.getElem_mem hlt)
      have hsti := HSI.out k hk
      generalize l[k] = p at *
      generalize hso : stTo xss l k = so at *
      obtain ⟨bs, ms⟩ := so
      have hqin := HBN.out p hin
      have hcp := HCS.out p hin
      have hcq := HCS.out _ hqin
      have hcall := HNX.out p hin
      obtain ⟨gb, goff, gr, groff, gcr, hgA, hg1⟩ := HGC.out p hin
      obtain ⟨gb', goff', gr', groff', gcr', hgA', hg2⟩ := HGC.out _ hqin
      subst hgA
      injection hgA' with hgA'; injection hgA' with hz1 hz2; subst hz1 hz2
      generalize bestN xss p.x p.y = q at *
      generalize runN xss p.x p.y = rn at *
      obtain ⟨px, py⟩ := p
      obtain ⟨qx, qy⟩ := q
      simp only at *
      obtain ⟨⟨px0, px1⟩, ⟨py0, py1⟩⟩ := hin
      obtain ⟨⟨qx0, qx1⟩, ⟨qy0, qy1⟩⟩ := hqin
      obtain ⟨hs0, hs1⟩ := hsti
      obtain ⟨hp0, hp1⟩ := hcp
      obtain ⟨hq0, hq1⟩ := hcq
      have BX := hbel.alloc hsz (.cells #[.int .i64 px, .int .i64 py] 50)
      have hox := hown.alloc (.cells #[.int .i64 px, .int .i64 py] 50)
      have hkx := hblk.alloc (.cells #[.int .i64 px, .int .i64 py] 50)
      have hnew := Blk.new wr 50 #[.int .i64 px, .int .i64 py]
      have HC := hide (hcall _ BX)
      have HBX := hide BX; have HOX := hide hox; have HKX := hide hkx; have HNEW := hide hnew; have HST := hide hst; have HG1 := hide hg1; have HG2 := hide hg2; have HSO := hide hso
      clear BX hox hkx hnew hcall hst hg1 hg2 hso hown hblk hrl
      generalize cellS xss ⟨px, py⟩ = hp at *
      generalize cellS xss ⟨qx, qy⟩ = hq at *
      go_wp2_with fail
      refine HC.out.mono ?_; rintro e w5 ⟨rfl, hb5⟩
      have B5 := bstep HBX.out hb5 (by simp; omega)
      have ho5 := HOX.out.below hb5
      have hk5 := HKX.out.below hb5 (by simp; omega)
      have hn5 := HNEW.out.below hb5 (by simp)
      have hs5 : B ≤ w5.heap.size := by have := B5.size; omega
      have B6 := B5.alloc hs5 (.cells #[.int .i64 qx, .int .i64 qy] 50)
      have ho6 := ho5.alloc (.cells #[.int .i64 qx, .int .i64 qy] 50)
      have hk6 := hk5.alloc (.cells #[.int .i64 qx, .int .i64 qy] 50)
      have hn6 := hn5.alloc (.cells #[.int .i64 qx, .int .i64 qy] 50)
      have hm6 := Blk.new w5 50 #[.int .i64 qx, .int .i64 qy]
      have hl5 : wr.heap.size < w5.heap.size := by have := hb5.size; simp at this; omega
      have hgl5 : G < w5.heap.size := by omega
      have m0 := fun n : Later (w5.alloc (.cells #[.int .i64 qx, .int .i64 qy] 50)) => (((hn6.below n.h (by simp; omega)).cell 0) : n.W.cell? ⟨wr.heap.size, 0, none⟩ = some (.int .i64 px))
      have m1 := fun n : Later (w5.alloc (.cells #[.int .i64 qx, .int .i64 qy] 50)) => (((hn6.below n.h (by simp; omega)).cell 1) : n.W.cell? ⟨wr.heap.size, 1, none⟩ = some (.int .i64 py))
      have m2 := fun n : Later (w5.alloc (.cells #[.int .i64 qx, .int .i64 qy] 50)) => (((hm6.below n.h (by simp)).cell 0) : n.W.cell? ⟨w5.heap.size, 0, none⟩ = some (.int .i64 qx))
      have m3 := fun n : Later (w5.alloc (.cells #[.int .i64 qx, .int .i64 qy] 50)) => (((hm6.below n.h (by simp)).cell 1) : n.W.cell? ⟨w5.heap.size, 1, none⟩ = some (.int .i64 qy))
      have m4 := fun n : Later (w5.alloc (.cells #[.int .i64 qx, .int .i64 qy] 50)) => (HG1.out n.W (B6.trans (n.h.mono (by simp; omega)))).1
      have m5 := fun n : Later (w5.alloc (.cells #[.int .i64 qx, .int .i64 qy] 50)) => (HG1.out n.W (B6.trans (n.h.mono (by simp; omega)))).2
      have m6 := fun n : Later (w5.alloc (.cells #[.int .i64 qx, .int .i64 qy] 50)) => (HG2.out n.W (B6.trans (n.h.mono (by simp; omega)))).1
      have m7 := fun n : Later (w5.alloc (.cells #[.int .i64 qx, .int .i64 qy] 50)) => (HG2.out n.W (B6.trans (n.h.mono (by simp; omega)))).2
      have HB6 := hide B6; have HO6 := hide ho6; have HK6 := hide hk6; have HN6 := hide hn6
      clear B6 ho6 hk6 hn6 hm6 ho5 hk5 hn5 hb5 d0 d1
      go_wp2_with fail
      (refine wp_region_later (by kernel_rfl) (by kernel_rfl) ?_; (repeat (go_big_quiet_step (fail))); refine wpQuiet_nil ?_; intro _ hw'; obtain ⟨nq, hw''⟩ := hw'; subst hw'')
      have B7 := HB6.out.trans (nq.h.mono (by simp; omega))
      have ho7 := HO6.out.below nq.h
      have hk7 := HK6.out.below nq.h (by simp; omega)
      have hn7 := HN6.out.below nq.h (by simp; omega)
      have e0 := m0 nq; have e1 := m1 nq
      generalize nq.W = W7 at B7 ho7 hk7 hn7 e0 e1
      clear nq m0 m1 m2 m3 m4 m5 m6 m7
      have g0 := hk7.some (i := 0) (show 0 < 2 by omega); have g1 := hk7.some (i := 1) (show 1 < 2 by omega)
      have hfz := hk7.frozen
      have hne : ∀ g, Value.ownBlock (.slice (some ⟨b, off, none⟩) l.length cap') = some g → g ≠ G := fun g hg => by have := (ho7.lt g hg).1; omega
      have HO7 := hide ho7; have HK7 := hide hk7; have HNE := hide hne; clear ho7 hk7 hn7 hne
      by_cases hlow : ms < hp - hq
      · have hst2 := HST.out
        rw [if_pos hlow] at hst2
        have HS2 := hide hst2; clear hst2
        go_wp2_with fail
        go_round
        case measure => (simp [intOf] <;> omega)
        case rel => exact ⟨k + 1, by omega, by go_num, by rw [HS2.out], (HO7.out.setCell (p := ⟨G, 0, none⟩) HNE.out _).setCell (p := ⟨G, 1, none⟩) HNE.out _, by rw [HS2.out]; exact (HK7.out.set 0 _).set 1 _, (B7.setCell (p := ⟨G, 0, none⟩) hGB _).setCell (p := ⟨G, 1, none⟩) hGB _⟩
      · have hst2 := HST.out
        rw [if_neg hlow] at hst2
        have HS2 := hide hst2; clear hst2
        go_wp2_with fail
        go_round
        case measure => (simp [intOf] <;> omega)
        case rel => exact ⟨k + 1, by omega, by go_num, by rw [HS2.out], HO7.out, by rw [HS2.out]; exact HK7.out, B7⟩
    · have hkl : l.length = k := by omega
      have hv := HV.out
      rw [hkl] at hv
      generalize stTo xss l k = so at *
      obtain ⟨bs, ms⟩ := so
      obtain ⟨bx, by_⟩ := bs
      simp only at *
      obtain ⟨e0, e1⟩ := boxed2_cell hblk
      have HKL := hide hkl; clear hkl hown hblk
      by_cases hz : ms = 0
      · rw [if_pos hz] at hv
        have HVV := hide hv; clear hv
        subst hz
        go_wp2_with fail
        (try simp only [Exit.inBlock, Exit.then]); refine bodyPost_ret (results_tmp4 rfl _ _ _) rfl ?_
        rw [HVV.out]
        exact ⟨rfl, hbel⟩
      · rw [if_neg hz] at hv
        have hz2 : (ms == 0) = false := beq_false_of_ne hz
        have HVV := hide hv; clear hv hz
        have m0 := fun n => later_cell e0 n; have m1 := fun n => later_cell e1 n
        go_wp2_with fail
        (refine wp_region_later (by kernel_rfl) (by kernel_rfl) ?_; (repeat (go_big_quiet_step (fail))); refine wpQuiet_nil ?_; intro _ hw'; obtain ⟨nq, hw''⟩ := hw'; subst hw'')
        have B7 := hbel.trans (nq.h.mono hsz)
        go_wp2_with fail
        (try simp only [Exit.inBlock, Exit.then]); refine bodyPost_ret (results_tmp4 rfl _ _ _) rfl ?_
        rw [HVV.out]
        exact ⟨rfl, by rw [hB]; exact B7⟩
end Go.Proofs.Ytomcdkkjknphpaa
