/- Contract of ShowsOverview in impl: the Lean function ovV. Condition: small numbers. -/
import Derived.Test.YtdbcilinoieabaaL2D
namespace Go.Proofs.Ytdbcilinoieabaa
open Go.RowKit
set_option linter.unusedVariables false
theorem ovB_iff {b a : SSheet} : ovB b a = true ↔ (b.scale < a.scale ∧ 0 ≤ b.row * b.scale - a.row * a.scale ∧ b.row * b.scale - a.row * a.scale ≤ a.scale - 1 ∧ 0 ≤ b.col * b.scale - a.col * a.scale ∧ b.col * b.scale - a.col * a.scale ≤ a.scale - 1) := decide_eq_true_iff
theorem mul_bd {a b : Int} (h0 : 0 ≤ a) (h1 : a ≤ 99) (h2 : 10 ≤ b) (h3 : b ≤ 500) : 0 ≤ a * b ∧ a * b ≤ 49500 :=
  ⟨Int.mul_nonneg h0 (by omega), Int.le_trans (Int.mul_le_mul_of_nonneg_right h1 (by omega)) (by omega)⟩
set_option maxHeartbeats 1000000 in
theorem ov1_any (c : SSheet) (A : Option Addr) (cap : Nat) (xs : List SSheet) (k b1 b2 b3 b4 B : Nat) (w : World) (hr : Row 5 SSheet.enc w B A xs) (hB : B ≤ w.heap.size) (hk : k < xs.length) (R C : Int) (hR : R = (SSheet.at xs k).row * (SSheet.at xs k).scale) (hC : C = (SSheet.at xs k).col * (SSheet.at xs k).scale)
    (h1 : w.cell? ⟨b1, 0, none⟩ = some (.slice A xs.length cap)) (h2 : w.cell? ⟨b2, 0, none⟩ = some (.int .i64 (k : Int))) (h3 : w.cell? ⟨b3, 0, none⟩ = some (.int .i64 R)) (h4 : w.cell? ⟨b4, 0, none⟩ = some (.int .i64 C)) (hc : c.okB = true) (hx : (SSheet.at xs k).okB = true) :
    Calls Try.prog 151 #[.agg #[.int .i64 c.id, .int .i64 c.row, .int .i64 c.col, .int .i64 c.scale, .int .i64 c.year], .pointer (some ⟨b1, 0, none⟩), .pointer (some ⟨b2, 0, none⟩), .pointer (some ⟨b3, 0, none⟩), .pointer (some ⟨b4, 0, none⟩)] w fun e w' => e = .returned (.bool (ovB (SSheet.at xs k) c)) ∧ Below w.heap.size w w' := by
  have hk' : (k : Int) < xs.length := by omega
  obtain ⟨b, off, rfl, hb, c0, c1, c2, c3, c4⟩ := SSheet.cells hr hk (Below.refl _ _)
  rw [SSheet.at_lt hk] at hx hR hC ⊢
  obtain ⟨y0, y1, y2, y3, y4⟩ := c
  generalize xs[k] = yy at *
  obtain ⟨z0, z1, z2, z3, z4⟩ := yy
  simp only at c0 c1 c2 c3 c4 hR hC ⊢
  have hio := @ovB_iff ⟨z0, z1, z2, z3, z4⟩ ⟨y0, y1, y2, y3, y4⟩
  simp only at hio
  rw [← hR, ← hC] at hio
  have HIO := hide hio; clear hio
  obtain ⟨_, _, p0, p1, p2, p3, p4, p5, _, _⟩ := SSheet.okB_iff.1 hc
  obtain ⟨_, _, q0, q1, q2, q3, q4, q5, _, _⟩ := SSheet.okB_iff.1 hx
  obtain ⟨m0, m1⟩ := mul_bd p0 p1 p4 p5
  obtain ⟨m2, m3⟩ := mul_bd p2 p3 p4 p5
  obtain ⟨r0, r1⟩ := mul_bd q0 q1 q4 q5
  obtain ⟨r2, r3⟩ := mul_bd q2 q3 q4 q5
  rw [← hR] at r0 r1; rw [← hC] at r2 r3
  clear hR hC hc hx
  have B1 := below_alloc w (.cells #[.int .i64 y0, .int .i64 y1, .int .i64 y2, .int .i64 y3, .int .i64 y4] 142)
  have up : ∀ (bb o : Nat) (u : Value), w.cell? ⟨bb, o, none⟩ = some u → (w.alloc (.cells #[.int .i64 y0, .int .i64 y1, .int .i64 y2, .int .i64 y3, .int .i64 y4] 142)).cell? ⟨bb, o, none⟩ = some u := fun bb o u hu => ((bcell B1).1 bb o (World.block_lt_of_cell? w _ hu)).trans hu
  have k1 := up _ _ _ h1; have k2 := up _ _ _ h2; have k3 := up _ _ _ h3; have k4 := up _ _ _ h4; have d0 := up _ _ _ c0; have d1 := up _ _ _ c1; have d2 := up _ _ _ c2; have d3 := up _ _ _ c3; have d4 := up _ _ _ c4
  obtain ⟨t0, t1, t2, t3, t4⟩ := mk5S (Blk.new w 142 #[.int .i64 y0, .int .i64 y1, .int .i64 y2, .int .i64 y3, .int .i64 y4])
  have HB1 := hide B1
  clear B1 up hr h1 h2 h3 h4 c0 c1 c2 c3 c4
  go_enter Try.func151, Try.ntmps151
  go_upto_region 1 with fail
  generalize hgm : w.heap.size = gm at *
  generalize w.alloc (.cells #[.int .i64 y0, .int .i64 y1, .int .i64 y2, .int .i64 y3, .int .i64 y4] 142) = w1 at *
  have n1 := fun n => later_cell k1 n; have n2 := fun n => later_cell k2 n; have n3 := fun n => later_cell k3 n; have n4 := fun n => later_cell k4 n
  have e0 := fun n => later_cell d0 n; have e1 := fun n => later_cell d1 n; have e2 := fun n => later_cell d2 n; have e3 := fun n => later_cell d3 n; have e4 := fun n => later_cell d4 n
  have f0 := fun n => later_cell t0 n; have f1 := fun n => later_cell t1 n; have f2 := fun n => later_cell t2 n; have f3 := fun n => later_cell t3 n; have f4 := fun n => later_cell t4 n
  by_cases g1 : z3 < y3
  · cases g2 : inB (R - y1 * y3) 0 (y3 - 1) with
    | false =>
      (refine wp_region_later (by kernel_rfl) (by kernel_rfl) ?_; (repeat (go_big_quiet_step ((go_at_call 91; exact later_same (within_any _ _ _ _))))); refine wpQuiet_nil ?_; intro _ hw'; obtain ⟨nq, hw''⟩ := hw'; subst hw'')
      have B3 := HB1.out.trans (nq.h.mono (by have := HB1.out.size; omega))
      generalize nq.W = W5 at B3
      have hno := inB_no.1 g2
      have HNO := hide (show ovB ⟨z0, z1, z2, z3, z4⟩ ⟨y0, y1, y2, y3, y4⟩ = false by rw [Bool.eq_false_iff]; intro h; have := HIO.out.1 h; exact hno ⟨by omega, by omega⟩)
      clear hno
      go_wp2_with fail
      go_ret
      exact ⟨ret_bool HNO.out.symm, by first | exact B3 | (rw [hgm]; exact B3)⟩
    | true =>
      (refine wp_region_later (by kernel_rfl) (by kernel_rfl) ?_; (repeat (go_big_quiet_step ((go_at_call 91; exact later_same (within_any _ _ _ _))))); refine wpQuiet_nil ?_; intro _ hw'; obtain ⟨nq, hw''⟩ := hw'; subst hw'')
      have B3 := HB1.out.trans (nq.h.mono (by have := HB1.out.size; omega))
      generalize nq.W = W5 at B3
      have hyes := inB_iff.1 g2
      have HNO := hide (show ovB ⟨z0, z1, z2, z3, z4⟩ ⟨y0, y1, y2, y3, y4⟩ = inB (C - y2 * y3) 0 (y3 - 1) by rw [Bool.eq_iff_iff, HIO.out, inB_iff]; constructor <;> intro h <;> omega)
      clear hyes
      go_wp2_with fail
      go_ret
      exact ⟨ret_bool (by rw [HNO.out]), by first | exact B3 | (rw [hgm]; exact B3)⟩
  · have g3 : decide (z3 < y3) = false := decide_eq_false g1
    have HNO := hide (show ovB ⟨z0, z1, z2, z3, z4⟩ ⟨y0, y1, y2, y3, y4⟩ = false by rw [Bool.eq_false_iff]; intro h; exact g1 (HIO.out.1 h).1)
    (refine wp_region_later (by kernel_rfl) (by kernel_rfl) ?_; (repeat (go_big_quiet_step (fail))); refine wpQuiet_nil ?_; intro _ hw'; obtain ⟨nq, hw''⟩ := hw'; subst hw'')
    have B3 := HB1.out.trans (nq.h.mono (by have := HB1.out.size; omega))
    generalize nq.W = W5 at B3
    go_wp2_with fail
    go_ret
    exact ⟨ret_bool HNO.out.symm, by first | exact B3 | (rw [hgm]; exact B3)⟩
theorem ovV_no {xs : List SSheet} {id : Int} (h : ¬ (goodS xs = true ∧ 0 ≤ findS xs id)) : ovV xs id = ([], false) := if_neg h
theorem ovV_yes {xs : List SSheet} {id : Int} (h1 : goodS xs = true) {k : Nat} (hk : findS xs id = (k : Int)) : ovV xs id = (filtTo (fun c => ovB (SSheet.at xs k) c) xs xs.length, true) := by
  unfold ovV; rw [if_pos ⟨h1, by omega⟩, hk, Int.toNat_natCast]
set_option maxHeartbeats 2000000 in
theorem ShowsOverview_is (v : Value) (xs : List SSheet) (id : Int) (w : World) (h : Is 5 SSheet.enc w v xs) (hf : ∀ z ∈ xs, z.Fit) :
    Calls Try.prog 59 #[v, .int .i64 id] w fun e w' => ∃ r, e = .returned (.tuple #[r, .bool (ovV xs id).2]) ∧ Own 1 encI 3 w' w.heap.size r (ovV xs id).1 ∧ Below w.heap.size w w' := by
  obtain ⟨nv, hnv⟩ : ∃ nv, nv = ovV xs id := ⟨_, rfl⟩
  rw [← hnv]
  have HNV := hide hnv; clear hnv
  have B1 := below_alloc w (.cells #[v] 76)
  have HI := hide (h.below B1 (Nat.le_refl _))
  have HV := hide (Blk.new w 76 #[v])
  have HB1 := hide B1
  have hlt1 : w.heap.size < (w.alloc (.cells #[v] 76)).heap.size := by simp
  have hgc := fun W hi => AreSheets_is v xs W hi
  have hat := fun W hi => sheetAt_any v xs id W hi
  have HSP := hide (findS_cases xs id)
  have HFI := hide hf
  obtain ⟨A, cap, rfl, hr, _, _⟩ := h
  clear B1 hf hr
  go_enter Try.func59, Try.ntmps59
  go_upto_region 1 with fail
  generalize hgm : w.heap.size = gm at *
  generalize w.alloc (.cells #[.slice A xs.length cap] 76) = w1 at *
  have c1 : w1.cell? ⟨gm, 0, none⟩ = some (.slice A xs.length cap) := HV.out.cell 0
  generalize hkk : findS xs id = kk at *
  have HAT := hide hat; clear hat
  have HKK := hide hkk; clear hkk
  go_wp2_with fail
  refine (HAT.out _ HI.out).mono ?_; rintro e w2 ⟨rfl, hb2⟩
  have HV2 := hide (HV.out.below hb2 hlt1)
  have HI2 := hide (HI.out.below hb2 (Nat.le_refl _))
  have hsz2 : gm ≤ w2.heap.size := by have := hb2.size; omega
  have B2 := hide (HB1.out.trans (hb2.mono (by omega)))
  clear hb2 c1
  have HV3 := hide (HV2.out.alloc (.cells #[.int .i64 kk] 3))
  have HK3 := hide (Blk.new w2 3 #[.int .i64 kk])
  have HI3 := hide (HI2.out.below (below_alloc w2 (.cells #[.int .i64 kk] 3)) (Nat.le_refl _))
  have B3 := hide (B2.out.alloc hsz2 (.cells #[.int .i64 kk] 3))
  have hsz3 : gm ≤ (w2.alloc (.cells #[.int .i64 kk] 3)).heap.size := by simp; omega
  go_upto_region 2 with fail
  generalize hgk : w2.heap.size = gk at *
  generalize w2.alloc (.cells #[.int .i64 kk] 3) = w3 at *
  have hlt3 : gk < w3.heap.size := HK3.out.lt
  have c1 : w3.cell? ⟨gm, 0, none⟩ = some (.slice A xs.length cap) := HV3.out.cell 0
  have c2 : w3.cell? ⟨gk, 0, none⟩ = some (.int .i64 kk) := HK3.out.cell 0
  have HG := hide (hgc w3 HI3.out)
  clear hgc
  cases hg : goodS xs with
  | false =>
    have hnv := HNV.out
    rw [ovV_no (by rw [hg]; simp)] at hnv
    subst hnv
    rw [hg] at HG
    clear hg
    go_wp2_with fail
    refine HG.out.mono ?_; rintro e w4 ⟨rfl, hb4⟩
    have B4 := hide (B3.out.trans (hb4.mono hsz3)); clear hb4
    go_wp2_with fail
    go_ret2
    exact ⟨_, rfl, Own.nil, by first | exact B4.out | (rw [hgm]; exact B4.out)⟩
  | true =>
    by_cases hk0 : kk < 0
    · have hnv := HNV.out
      rw [ovV_no (by rw [HKK.out]; omega)] at hnv
      subst hnv
      rw [hg] at HG
      clear hg
      go_wp2_with fail
      refine HG.out.mono ?_; rintro e w4 ⟨rfl, hb4⟩
      have B4 := hide (B3.out.trans (hb4.mono hsz3))
      have c2' := ((bcell hb4).1 gk 0 hlt3).trans c2
      clear hb4 c2 c1
      go_wp2_with fail
      go_ret2
      exact ⟨_, rfl, Own.nil, by first | exact B4.out | (rw [hgm]; exact B4.out)⟩
    · obtain ⟨k, hk, hke, hkid⟩ : ∃ k, k < xs.length ∧ kk = (k : Int) ∧ (SSheet.at xs k).id = id := by
        rcases HSP.out with ⟨h1, _⟩ | h1
        · omega
        · exact h1
      have hlen := goodS_len hg
      have HOK := hide (fun i (hi : i < xs.length) => (goodS_ok hg hi).1)
      have hnv := HNV.out
      subst hke
      rw [ovV_yes hg HKK.out] at hnv
      subst hnv
      rw [hg] at HG
      clear hg hkid HKK HSP
      go_wp2_with fail
      refine HG.out.mono ?_; rintro e w4 ⟨rfl, hb4⟩
      have B4 := hide (B3.out.trans (hb4.mono hsz3))
      have d2 := ((bcell hb4).1 gk 0 hlt3).trans c2
      have d1 := ((bcell hb4).1 gm 0 (by omega)).trans c1
      have HI4 := hide (HI3.out.below hb4 (Nat.le_refl _))
      have hsz4 : gm ≤ w4.heap.size := by have := hb4.size; omega
      clear hb4 c2 c1
      clear HI3 HV3 HK3 HV2 HI2 HV HI B2 B3 HB1 HG
      obtain ⟨A', cap', he, hr, _, _⟩ := HI4.out
      injection he with e1 e2 e3; subst e1 e3; clear e2
      obtain ⟨b, off, rfl, hb, c0, c1, c2, c3, c4⟩ := SSheet.cells hr hk (Below.refl _ _)
      have hok := HOK.out k hk
      have hR : (SSheet.at xs k).row * (SSheet.at xs k).scale = xs[k].row * xs[k].scale := by rw [SSheet.at_lt hk]
      have hC : (SSheet.at xs k).col * (SSheet.at xs k).scale = xs[k].col * xs[k].scale := by rw [SSheet.at_lt hk]
      rw [SSheet.at_lt hk] at hok
      obtain ⟨_, _, q0, q1, q2, q3, q4, q5, _, _⟩ := SSheet.okB_iff.1 (show SSheet.okB ⟨xs[k].id, xs[k].row, xs[k].col, xs[k].scale, xs[k].year⟩ = true from hok)
      obtain ⟨r0, r1⟩ := mul_bd q0 q1 q4 q5
      obtain ⟨r2, r3⟩ := mul_bd q2 q3 q4 q5
      have HR := hide hr; have HRR := hide hR; have HCC := hide hC
      have hk' : (k : Int) < xs.length := by omega
      clear hok hr hR hC c0 c4
      generalize xs[k].row = z1 at *; generalize xs[k].col = z2 at *; generalize xs[k].scale = z3 at *
      have hw1 : IntKind.i64.wrap (z1 * z3) = z1 * z3 := IntWalk.i64_in _ (by omega)
      have hw2 : IntKind.i64.wrap (z2 * z3) = z2 * z3 := IntWalk.i64_in _ (by omega)
      go_wp2_with fail
      go_region_held3 (fun w' => w'.cell? ⟨gm, 0, none⟩ = some (.slice (some ⟨b, off, none⟩) xs.length cap) ∧ w'.cell? ⟨gk, 0, none⟩ = some (.int .i64 (k : Int)) ∧ w'.cell? ⟨b, off + k * 5 + 1, none⟩ = some (.int .i64 z1) ∧ w'.cell? ⟨b, off + k * 5 + 2, none⟩ = some (.int .i64 z2) ∧ w'.cell? ⟨b, off + k * 5 + 3, none⟩ = some (.int .i64 z3)) (go_keep) (fail)
      · try simp only [hw1, hw2]
        have K1 := (Blk.new w4 3 #[.int .i64 (z1 * z3)]).alloc (.cells #[.int .i64 (z2 * z3)] 3)
        have K2 := Blk.new (w4.alloc (.cells #[.int .i64 (z1 * z3)] 3)) 3 #[.int .i64 (z2 * z3)]
        have hbz := ((below_alloc w4 (.cells #[.int .i64 (z1 * z3)] 3)).alloc (by simp) (.cells #[.int .i64 (z2 * z3)] 3)).drew
        have k1 : (((w4.alloc (.cells #[.int .i64 (z1 * z3)] 3)).alloc (.cells #[.int .i64 (z2 * z3)] 3)).drew).cell? ⟨w4.heap.size, 0, none⟩ = some (.int .i64 (z1 * z3)) := K1.cell 0
        have k2 : (((w4.alloc (.cells #[.int .i64 (z1 * z3)] 3)).alloc (.cells #[.int .i64 (z2 * z3)] 3)).drew).cell? ⟨w4.heap.size + 1, 0, none⟩ = some (.int .i64 (z2 * z3)) := by simp
        have c1 := ((bcell hbz).1 gm 0 (World.block_lt_of_cell? w4 _ d1)).trans d1
        have c2 := ((bcell hbz).1 gk 0 (World.block_lt_of_cell? w4 _ d2)).trans d2
        have HI5 := hide (HI4.out.below hbz (Nat.le_refl _))
        have B5 := hide (B4.out.trans (hbz.mono hsz4))
        have hsz5 : gm ≤ (((w4.alloc (.cells #[.int .i64 (z1 * z3)] 3)).alloc (.cells #[.int .i64 (z2 * z3)] 3)).drew).heap.size := Nat.le_trans hsz4 hbz.size
        clear K1 K2 hbz hw1 hw2
        generalize ((w4.alloc (.cells #[.int .i64 (z1 * z3)] 3)).alloc (.cells #[.int .i64 (z2 * z3)] 3)).drew = w5 at *
        generalize hC8 : w4.heap.size + 1 = b8 at *
        generalize hR7 : w4.heap.size = b7 at *
        have hp : PredIn 151 #[.pointer (some ⟨gm, 0, none⟩), .pointer (some ⟨gk, 0, none⟩), .pointer (some ⟨b7, 0, none⟩), .pointer (some ⟨b8, 0, none⟩)] (fun c => ovB (SSheet.at xs k) c) xs w5.heap.size w5 := fun W c hm hb => by
          obtain ⟨A', cap', he, hr, _, _⟩ := HI5.out
          injection he with e1 e2 e3; subst e1 e3; clear e2
          obtain ⟨j, hj, hjc⟩ := List.mem_iff_getElem.1 hm
          have hcj : c.okB = true := by rw [← hjc, ← SSheet.at_lt hj]; exact HOK.out j hj
          exact ov1_any c _ cap xs k gm gk b7 b8 w5.heap.size W (hr.below hb (Nat.le_refl _) (Nat.le_refl _)) hb.size hk (z1 * z3) (z2 * z3) HRR.out.symm HCC.out.symm (((bcell hb).1 _ _ (World.block_lt_of_cell? w5 _ c1)).trans c1) (((bcell hb).1 _ _ (World.block_lt_of_cell? w5 _ c2)).trans c2) (((bcell hb).1 _ _ (World.block_lt_of_cell? w5 _ k1)).trans k1) (((bcell hb).1 _ _ (World.block_lt_of_cell? w5 _ k2)).trans k2) hcj (HOK.out k hk)
        have HC := hide (idsOf_is _ _ _ _ xs w5 HI5.out (by omega) (fun _ _ => by kernel_rfl) hp)
        clear hp
        go_wp2_with fail
        refine HC.out.mono ?_; rintro e w6 ⟨r, rfl, ho, hb6⟩
        have HO := hide (ho.mono hsz5); have B6 := hide (B5.out.trans (hb6.mono hsz5)); clear ho hb6
        go_wp2_with fail
        go_ret2
        exact ⟨_, rfl, by first | exact HO.out | (rw [hgm]; exact HO.out), by first | exact B6.out | (rw [hgm]; exact B6.out)⟩
      · try simp only [hw1, hw2]
        have K1 := (Blk.new w4 3 #[.int .i64 (z2 * z3)]).alloc (.cells #[.int .i64 (z1 * z3)] 3)
        have K2 := Blk.new (w4.alloc (.cells #[.int .i64 (z2 * z3)] 3)) 3 #[.int .i64 (z1 * z3)]
        have hbz := ((below_alloc w4 (.cells #[.int .i64 (z2 * z3)] 3)).alloc (by simp) (.cells #[.int .i64 (z1 * z3)] 3)).drew
        have k1 : (((w4.alloc (.cells #[.int .i64 (z2 * z3)] 3)).alloc (.cells #[.int .i64 (z1 * z3)] 3)).drew).cell? ⟨w4.heap.size, 0, none⟩ = some (.int .i64 (z2 * z3)) := K1.cell 0
        have k2 : (((w4.alloc (.cells #[.int .i64 (z2 * z3)] 3)).alloc (.cells #[.int .i64 (z1 * z3)] 3)).drew).cell? ⟨w4.heap.size + 1, 0, none⟩ = some (.int .i64 (z1 * z3)) := by simp
        have c1 := ((bcell hbz).1 gm 0 (World.block_lt_of_cell? w4 _ d1)).trans d1
        have c2 := ((bcell hbz).1 gk 0 (World.block_lt_of_cell? w4 _ d2)).trans d2
        have HI5 := hide (HI4.out.below hbz (Nat.le_refl _))
        have B5 := hide (B4.out.trans (hbz.mono hsz4))
        have hsz5 : gm ≤ (((w4.alloc (.cells #[.int .i64 (z2 * z3)] 3)).alloc (.cells #[.int .i64 (z1 * z3)] 3)).drew).heap.size := Nat.le_trans hsz4 hbz.size
        clear K1 K2 hbz hw1 hw2
        generalize ((w4.alloc (.cells #[.int .i64 (z2 * z3)] 3)).alloc (.cells #[.int .i64 (z1 * z3)] 3)).drew = w5 at *
        generalize hR7 : w4.heap.size + 1 = b7 at *
        generalize hC8 : w4.heap.size = b8 at *
        have hp : PredIn 151 #[.pointer (some ⟨gm, 0, none⟩), .pointer (some ⟨gk, 0, none⟩), .pointer (some ⟨b7, 0, none⟩), .pointer (some ⟨b8, 0, none⟩)] (fun c => ovB (SSheet.at xs k) c) xs w5.heap.size w5 := fun W c hm hb => by
          obtain ⟨A', cap', he, hr, _, _⟩ := HI5.out
          injection he with e1 e2 e3; subst e1 e3; clear e2
          obtain ⟨j, hj, hjc⟩ := List.mem_iff_getElem.1 hm
          have hcj : c.okB = true := by rw [← hjc, ← SSheet.at_lt hj]; exact HOK.out j hj
          exact ov1_any c _ cap xs k gm gk b7 b8 w5.heap.size W (hr.below hb (Nat.le_refl _) (Nat.le_refl _)) hb.size hk (z1 * z3) (z2 * z3) HRR.out.symm HCC.out.symm (((bcell hb).1 _ _ (World.block_lt_of_cell? w5 _ c1)).trans c1) (((bcell hb).1 _ _ (World.block_lt_of_cell? w5 _ c2)).trans c2) (((bcell hb).1 _ _ (World.block_lt_of_cell? w5 _ k2)).trans k2) (((bcell hb).1 _ _ (World.block_lt_of_cell? w5 _ k1)).trans k1) hcj (HOK.out k hk)
        have HC := hide (idsOf_is _ _ _ _ xs w5 HI5.out (by omega) (fun _ _ => by kernel_rfl) hp)
        clear hp
        go_wp2_with fail
        refine HC.out.mono ?_; rintro e w6 ⟨r, rfl, ho, hb6⟩
        have HO := hide (ho.mono hsz5); have B6 := hide (B5.out.trans (hb6.mono hsz5)); clear ho hb6
        go_wp2_with fail
        go_ret2
        exact ⟨_, rfl, by first | exact HO.out | (rw [hgm]; exact HO.out), by first | exact B6.out | (rw [hgm]; exact B6.out)⟩
end Go.Proofs.Ytdbcilinoieabaa
