/- Contract of spec's SteepestSquare: the Lean function steepV. No condition. -/
import Derived.Test.YtomcdkkjknphpaaL9I
namespace Go.Proofs.Ytomcdkkjknphpaa
open Go.RowKit
set_option linter.unusedVariables false
theorem sqTo_at {m N n k : Nat} (hn : n < N) (hk : k < m) (h : n * m + k < (sqTo m N).length) : (sqTo m N)[n * m + k] = ⟨(n : Int), (k : Int)⟩ := by
  induction N with
  | zero => omega
  | succ N ih =>
    have hs := sqTo_succ m N
    have hl := sqTo_len m N
    by_cases hlt : n < N
    · have hb : n * m + k < (sqTo m N).length := by
        rw [hl]
        have : (n + 1) * m ≤ N * m := Nat.mul_le_mul_right m (by omega)
        rw [Nat.add_mul] at this; omega
      simp only [hs]
      rw [List.getElem_append_left hb]
      exact ih hlt hb
    · have hnn : n = N := by omega
      subst hnn
      simp only [hs]
      rw [List.getElem_append_right (by rw [hl]; omega)]
      simp [sqRow, hl]
theorem sq_lt {m N n k : Nat} (hn : n < N) (hk : k < m) : n * m + k < N * m := by
  have : (n + 1) * m ≤ N * m := Nat.mul_le_mul_right m (by omega)
  rw [Nat.add_mul] at this; omega
set_option maxHeartbeats 2000000 in
theorem specSteepestSquare_any (v : Value) (xss : List (List Int)) (w : World) (h : IsG w v xss) :
    Calls Try.prog 33 #[v] w fun e w' => e = .returned (.tuple #[.int .i64 (steepV xss).1.1, .int .i64 (steepV xss).1.2.1, .int .i64 (steepV xss).1.2.2, .bool (steepV xss).2]) ∧ Below w.heap.size w w' := by
  have hgood := l9Good_is v xss w h
  by_cases hrel : reliefB xss = true
  case neg =>
    rw [Bool.not_eq_true] at hrel
    rw [show steepV xss = ((0, 0, 0), false) by unfold steepV; rw [hrel]; rfl]
    rw [hrel] at hgood
    have HG := hide hgood; clear hgood hrel h
    go_enter Try.func33, Try.ntmps33
    go_wp2_with fail
    refine HG.out.mono ?_; rintro e w1 ⟨rfl, hb1⟩
    go_wp2_with fail
    (try simp only [Exit.inBlock, Exit.then]); refine bodyPost_ret (results_tmp4 rfl _ _ _) rfl ?_
    exact ⟨rfl, hb1⟩
  rw [hrel] at hgood
  have HG := hide hgood; have HREL := hide hrel; have HI := hide h
  have hdm := relief_dims hrel
  have hmem := fun p (hp : p ∈ sqTo (hdLen xss) xss.length) => sqTo_mem hp
  have hV : steepV xss = if (stTo xss (sqTo (hdLen xss) xss.length) (sqTo (hdLen xss) xss.length).length).2 = 0 then ((0, 0, 0), false) else (((stTo xss (sqTo (hdLen xss) xss.length) (sqTo (hdLen xss) xss.length).length).1.x, (stTo xss (sqTo (hdLen xss) xss.length) (sqTo (hdLen xss) xss.length).length).1.y, (stTo xss (sqTo (hdLen xss) xss.length) (sqTo (hdLen xss) xss.length).length).2), true) := by
    unfold steepV; rw [hrel, Bool.true_and]
    by_cases hz : (stTo xss (sqTo (hdLen xss) xss.length) (sqTo (hdLen xss) xss.length).length).2 = 0 <;> simp [hz]
  have hsi := stTo_in hrel hmem
  have hnx := fun (p : SA2) (hp : (0 ≤ p.x ∧ p.x < xss.length) ∧ (0 ≤ p.y ∧ p.y < hdLen xss)) W (hb : Below w.heap.size w W) => l9Next_is v xss p.x p.y W (h.below hb (Nat.le_refl _)) hrel hp.1 hp.2
  have hbn := fun (p : SA2) (hp : (0 ≤ p.x ∧ p.x < xss.length) ∧ (0 ≤ p.y ∧ p.y < hdLen xss)) => bestN_in hp
  have hcs := fun (p : SA2) (hp : (0 ≤ p.x ∧ p.x < xss.length) ∧ (0 ≤ p.y ∧ p.y < hdLen xss)) => cellS_in hrel hp
  have hat := fun n k (hn : n < xss.length) (hk : k < hdLen xss) h => sqTo_at (m := hdLen xss) (N := xss.length) (n := n) (k := k) hn hk h
  have hsl := sqTo_len (hdLen xss) xss.length
  obtain ⟨rs, hmap, his, hrs⟩ := h
  obtain ⟨A, cap, rfl, hrow, _, _⟩ := his
  have hxl : xss.length = rs.length := by rw [← hmap]; simp
  have hrl : ∀ i, (hi : i < rs.length) → rs[i].xs.length = hdLen xss := fun i hi => by
    have := relief_row hrel (i := i) (by omega)
    rw [← this]; simp [← hmap]
  have hgc := fun (p : SA2) hp => grid_cells hmap hrow hrs hrel (p := p) hp
  rw [hxl] at hnx hbn hcs hgc hdm hsl hat hV hsi
  have HNX := hide hnx; have HBN := hide hbn; have HCS := hide hcs; have HGC := hide hgc; have HR := hide hrow; have HRL := hide hrl; have HAT := hide hat; have HV := hide hV; have HSI := hide hsi
  clear hgood hrel hmem hV hsi hnx hbn hcs hgc hmap hrow hrs hrl hat
  generalize sqTo (hdLen xss) rs.length = l at *
  generalize hdLen xss = m at *
  go_enter Try.func33, Try.ntmps33
  go_wp2_with fail
  refine HG.out.mono ?_; rintro e w1 ⟨rfl, hb1⟩
  have B1a := hb1.alloc hb1.size (.cells #[.int .i64 0, .int .i64 0] 50)
  have hbx0 := Blk.new w1 50 #[.int .i64 0, .int .i64 0]
  have HBX0 := hide hbx0; clear hbx0
  have hGB : w.heap.size ≤ w1.heap.size := hb1.size
  clear hb1
  generalize hG : w1.heap.size = G at *
  generalize hB : w.heap.size = B at *
  go_wp2_with fail
  go_loopw [7, 8] (fun t i wr => ∃ n : Nat, n ≤ rs.length ∧ i = .int .i64 (n : Int) ∧ t = .int .i64 (stTo xss l (n * m)).2 ∧ Blk wr G 50 (stTo xss l (n * m)).1.boxed ∧ Below B w wr) (fun _ i _ => rs.length - (intOf i).toNat)
  case atStart => exact ⟨0, Nat.zero_le _, rfl, by rw [Nat.zero_mul]; rfl, by rw [Nat.zero_mul]; exact HBX0.out, B1a⟩
  case round =>
    obtain ⟨n, hn, rfl, rfl, hblk0, hbel0⟩ := hrel
    by_cases hltn : n < rs.length
    · have hltn' : (n : Int) < rs.length := by omega
      have HBLK0 := hide hblk0; clear hblk0
      go_wp2_with fail
      go_loopw [7, 9] (fun t i wr => ∃ k : Nat, k ≤ m ∧ i = .int .i64 (k : Int) ∧ t = .int .i64 (stTo xss l (n * m + k)).2 ∧ Blk wr G 50 (stTo xss l (n * m + k)).1.boxed ∧ Below B w wr) (fun _ i _ => m - (intOf i).toNat)
      case atStart => exact ⟨0, Nat.zero_le _, rfl, rfl, HBLK0.out, hbel0⟩
      case round =>
        obtain ⟨k, hk, rfl, rfl, hblk, hbel⟩ := hrel
        have hgl := hblk.lt
        have hsz : B ≤ wr.heap.size := by omega
        obtain ⟨rb, roff, rfl, hrb, rc0⟩ := SRow.cell HR.out (show n < rs.length by omega) hbel
        rw [HRL.out n (by omega)] at rc0
        by_cases hlt : k < m
        · have hlt' : (k : Int) < m := by omega
          have hkl : n * m + k < l.length := by rw [hsl]; exact sq_lt hltn hlt
          have hst := stTo_next xss l hkl
          rw [HAT.out n k hltn hlt hkl] at hst
          have hin : (0 ≤ (⟨(n : Int), (k : Int)⟩ : SA2).x ∧ (⟨(n : Int), (k : Int)⟩ : SA2).x < (rs.length : Int)) ∧ (0 ≤ (⟨(n : Int), (k : Int)⟩ : SA2).y ∧ (⟨(n : Int), (k : Int)⟩ : SA2).y < (m : Int)) := by simp only; omega
          have hsti := HSI.out (n * m + k) (by omega)
          generalize hso : stTo xss l (n * m + k) = so at *
          obtain ⟨bs, ms⟩ := so
          have hqin := HBN.out _ hin
          have hcp := HCS.out _ hin
          have hcq := HCS.out _ hqin
          have hcall := HNX.out _ hin
          obtain ⟨gb, goff, gr, groff, gcr, hgA, hg1⟩ := HGC.out _ hin
          obtain ⟨gb', goff', gr', groff', gcr', hgA', hg2⟩ := HGC.out _ hqin
          injection hgA with hgA; injection hgA with hz1 hz2; subst hz1 hz2
          injection hgA' with hgA'; injection hgA' with hz1 hz2; subst hz1 hz2
          simp only at hcall hst hcq hqin hg2
          simp only [Int.toNat_natCast] at hg1
          generalize bestN xss (n : Int) (k : Int) = q at *
          generalize runN xss (n : Int) (k : Int) = rn at *
          obtain ⟨qx, qy⟩ := q
          simp only at *
          obtain ⟨⟨qx0, qx1⟩, ⟨qy0, qy1⟩⟩ := hqin
          obtain ⟨hs0, hs1⟩ := hsti
          obtain ⟨hp0, hp1⟩ := hcp
          obtain ⟨hq0, hq1⟩ := hcq
          have BX := hbel.alloc hsz (.cells #[.int .i64 (n : Int), .int .i64 (k : Int)] 50)
          have hkx := hblk.alloc (.cells #[.int .i64 (n : Int), .int .i64 (k : Int)] 50)
          have hnew := Blk.new wr 50 #[.int .i64 (n : Int), .int .i64 (k : Int)]
          have HC := hide (hcall _ BX)
          have HBX := hide BX; have HKX := hide hkx; have HNEW := hide hnew; have HST := hide hst; have HG1 := hide hg1; have HG2 := hide hg2; have HSO := hide hso
          clear BX hkx hnew hcall hst hg1 hg2 hso hblk
          generalize cellS xss ⟨(n : Int), (k : Int)⟩ = hp at *
          generalize cellS xss ⟨qx, qy⟩ = hq at *
          have x0 : (wr.alloc (.cells #[.int .i64 (n : Int), .int .i64 (k : Int)] 50)).cell? ⟨wr.heap.size, 0, none⟩ = some (.int .i64 (n : Int)) := HNEW.out.cell 0
          have x1 : (wr.alloc (.cells #[.int .i64 (n : Int), .int .i64 (k : Int)] 50)).cell? ⟨wr.heap.size, 1, none⟩ = some (.int .i64 (k : Int)) := HNEW.out.cell 1
          go_wp2_with fail
          refine HC.out.mono ?_; rintro e w5 ⟨rfl, hb5⟩
          clear x0 x1
          have B5 := bstep HBX.out hb5 (by simp; omega)
          have hk5 := HKX.out.below hb5 (by simp; omega)
          have hn5 := HNEW.out.below hb5 (by simp)
          have hs5 : B ≤ w5.heap.size := by have := B5.size; omega
          have B6 := B5.alloc hs5 (.cells #[.int .i64 qx, .int .i64 qy] 50)
          have hk6 := hk5.alloc (.cells #[.int .i64 qx, .int .i64 qy] 50)
          have hn6 := hn5.alloc (.cells #[.int .i64 qx, .int .i64 qy] 50)
          have hm6 := Blk.new w5 50 #[.int .i64 qx, .int .i64 qy]
          have hl5 : wr.heap.size < w5.heap.size := by have := hb5.size; simp at this; omega
          have hgl5 : G < w5.heap.size := by omega
          have m2 := fun n : Later (w5.alloc (.cells #[.int .i64 qx, .int .i64 qy] 50)) => (((hm6.below n.h (by simp)).cell 0) : n.W.cell? ⟨w5.heap.size, 0, none⟩ = some (.int .i64 qx))
          have m3 := fun n : Later (w5.alloc (.cells #[.int .i64 qx, .int .i64 qy] 50)) => (((hm6.below n.h (by simp)).cell 1) : n.W.cell? ⟨w5.heap.size, 1, none⟩ = some (.int .i64 qy))
          have m4 := fun n : Later (w5.alloc (.cells #[.int .i64 qx, .int .i64 qy] 50)) => (HG1.out n.W (B6.trans (n.h.mono (by simp; omega)))).1
          have m5 := fun n : Later (w5.alloc (.cells #[.int .i64 qx, .int .i64 qy] 50)) => (HG1.out n.W (B6.trans (n.h.mono (by simp; omega)))).2
          have m6 := fun n : Later (w5.alloc (.cells #[.int .i64 qx, .int .i64 qy] 50)) => (HG2.out n.W (B6.trans (n.h.mono (by simp; omega)))).1
          have m7 := fun n : Later (w5.alloc (.cells #[.int .i64 qx, .int .i64 qy] 50)) => (HG2.out n.W (B6.trans (n.h.mono (by simp; omega)))).2
          have HB6 := hide B6; have HK6 := hide hk6; have HN6 := hide hn6
          clear B6 hk6 hn6 hm6 hk5 hn5 hb5 rc0
          go_wp2_with fail
          (refine wp_region_later (by kernel_rfl) (by kernel_rfl) ?_; (repeat (go_big_quiet_step (fail))); refine wpQuiet_nil ?_; intro _ hw'; obtain ⟨nq, hw''⟩ := hw'; subst hw'')
          have B7 := HB6.out.trans (nq.h.mono (by simp; omega))
          have hk7 := HK6.out.below nq.h (by simp; omega)
          have hn7 := HN6.out.below nq.h (by simp; omega)
          generalize nq.W = W7 at B7 hk7 hn7
          clear nq m2 m3 m4 m5 m6 m7
          have e0 : W7.cell? ⟨wr.heap.size, 0, none⟩ = some (.int .i64 (n : Int)) := hn7.cell 0
          have e1 : W7.cell? ⟨wr.heap.size, 1, none⟩ = some (.int .i64 (k : Int)) := hn7.cell 1
          have g0 := hk7.some (i := 0) (show 0 < 2 by omega); have g1 := hk7.some (i := 1) (show 1 < 2 by omega)
          have hfz := hk7.frozen
          have HK7 := hide hk7; clear hk7 hn7
          by_cases hlow : ms < hp - hq
          · have hst2 := HST.out
            rw [if_pos hlow] at hst2
            have HS2 := hide hst2; clear hst2
            go_wp2_with fail
            go_round
            case measure => (simp [intOf] <;> omega)
            case rel => exact ⟨k + 1, by omega, by go_num, by rw [← Nat.add_assoc, HS2.out], by rw [← Nat.add_assoc, HS2.out]; exact (HK7.out.set 0 _).set 1 _, (B7.setCell (p := ⟨G, 0, none⟩) hGB _).setCell (p := ⟨G, 1, none⟩) hGB _⟩
          · have hst2 := HST.out
            rw [if_neg hlow] at hst2
            have HS2 := hide hst2; clear hst2
            go_wp2_with fail
            go_round
            case measure => (simp [intOf] <;> omega)
            case rel => exact ⟨k + 1, by omega, by go_num, by rw [← Nat.add_assoc, HS2.out], by rw [← Nat.add_assoc, HS2.out]; exact HK7.out, B7⟩
        · have hkm : m = k := by omega
          have he : n * m + k = (n + 1) * m := by rw [Nat.add_mul, Nat.one_mul, ← hkm]
          rw [he] at hblk
          have HBK := hide hblk; have HE := hide he; have HKM := hide hkm; clear hblk he hkm
          generalize hso : stTo xss l (n * m + k) = so at *
          have HSO := hide hso; clear hso
          go_wp2_with fail
          go_round
          case measure => (simp [intOf] <;> omega)
          case rel => exact ⟨n + 1, by omega, by go_num, by rw [← HE.out, HSO.out], HBK.out, hbel⟩
    · have hnn : rs.length = n := by omega
      have hv := HV.out
      rw [hsl, hnn] at hv
      generalize stTo xss l (n * m) = so at *
      obtain ⟨bs, ms⟩ := so
      obtain ⟨bx, by_⟩ := bs
      simp only at *
      obtain ⟨e0, e1⟩ := boxed2_cell hblk0
      have hsz : B ≤ wr.heap.size := by have := hblk0.lt; omega
      have HKL := hide hnn; clear hnn hblk0
      by_cases hz : ms = 0
      · rw [if_pos hz] at hv
        have HVV := hide hv; clear hv
        subst hz
        go_wp2_with fail
        (try simp only [Exit.inBlock, Exit.then]); refine bodyPost_ret (results_tmp4 rfl _ _ _) rfl ?_
        rw [HVV.out]
        exact ⟨rfl, hbel0⟩
      · rw [if_neg hz] at hv
        have hz2 : (ms == 0) = false := beq_false_of_ne hz
        have HVV := hide hv; clear hv hz
        have m0 := fun n => later_cell e0 n; have m1 := fun n => later_cell e1 n
        go_wp2_with fail
        (refine wp_region_later (by kernel_rfl) (by kernel_rfl) ?_; (repeat (go_big_quiet_step (fail))); refine wpQuiet_nil ?_; intro _ hw'; obtain ⟨nq, hw''⟩ := hw'; subst hw'')
        have B7 := hbel0.trans (nq.h.mono hsz)
        go_wp2_with fail
        (try simp only [Exit.inBlock, Exit.then]); refine bodyPost_ret (results_tmp4 rfl _ _ _) rfl ?_
        rw [HVV.out]
        exact ⟨rfl, by rw [hB]; exact B7⟩
end Go.Proofs.Ytomcdkkjknphpaa
