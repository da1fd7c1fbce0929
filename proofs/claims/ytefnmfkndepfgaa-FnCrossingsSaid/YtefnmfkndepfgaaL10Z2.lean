/- The drawing of roads over a cursor, part 3. (Printed by mkroad.py.) -/
import Derived.Test.YtefnmfkndepfgaaL10Z
namespace Go.Proofs.Ytefnmfkndepfgaa
open Go.RowKit
set_option linter.unusedVariables false
/-- what a drawing of one road gives -/
def DrawnR (w w' : World) (e : Ending) : Prop := ∃ (v : Value) (xs : List SCorner), e = .returned v ∧ (1 ≤ xs.length ∧ xs.length ≤ 40) ∧ Own 2 SCorner.enc 58 w' w.heap.size v xs ∧ Below w.heap.size w w'
set_option maxRecDepth 100000 in
set_option maxHeartbeats 4000000 in
theorem drawIsRoadLine_is (w : World) (v : Value) (A : Option Addr) (cap : Nat) (code : List Int) (h : Code w v A cap code) :
    Calls Try.prog 75 #[v] w fun e w' => DrawnR w w' e := by
  have hD := DS.new h
  obtain rfl := h.eq
  have HD := hide hD; clear hD h
  have hgw : w.heap.size < (w.alloc (.cells #[.slice A code.length cap, .int .i64 0, .int .u64 0] 81)).heap.size := by simp
  go_enter Try.func75, Try.ntmps75
  go_wp2_with fail
  generalize hgs : w.heap.size = g at *
  generalize hw0 : w.alloc (.cells #[.slice A code.length cap, .int .i64 0, .int .u64 0] 81) = w0 at *
  have HB0 := hide (Nat.le_of_lt hgw)
  have HGS := hide HD.out.gr.size
  refine (road10_is w0 _ g g _ A cap code HD.out (by omega)).mono ?_; rintro e w1 ⟨v1, xs1, rfl, l1, u1, ho, hD, hg⟩
  replace HD := hide hD; clear hD hg
  have HX := hide (ownLow ho HGS.out); clear ho HGS
  go_wp2_with fail
  go_ret
  subst hw0 hgs
  exact ⟨_, _, rfl, ⟨l1, by omega⟩, ownLow HX.out HB0.out, HD.out.end⟩
theorem drawReverseRoad_is (w : World) (v : Value) (A : Option Addr) (cap : Nat) (code : List Int) (h : Code w v A cap code) :
    Calls Try.prog 50 #[v] w fun e w' => DrawnR w w' e := by
  have hd := drawIsRoadLine_is w v A cap code h
  have HD := hide hd; clear hd h
  go_enter Try.func50, Try.ntmps50
  go_wp2_with fail
  refine HD.out.mono ?_; rintro e w' ⟨v', xs, rfl, hl, ho, hb⟩
  have HO := hide ho; have HB := hide hb; clear ho hb
  go_wp2_with fail
  go_ret
  exact ⟨_, _, rfl, hl, HO.out, HB.out⟩
theorem drawPlainRoad_is (w : World) (v : Value) (A : Option Addr) (cap : Nat) (code : List Int) (h : Code w v A cap code) :
    Calls Try.prog 51 #[v] w fun e w' => DrawnR w w' e := by
  have hd := drawIsRoadLine_is w v A cap code h
  have HD := hide hd; clear hd h
  go_enter Try.func51, Try.ntmps51
  go_wp2_with fail
  refine HD.out.mono ?_; rintro e w' ⟨v', xs, rfl, hl, ho, hb⟩
  have HO := hide ho; have HB := hide hb; clear ho hb
  go_wp2_with fail
  go_ret
  exact ⟨_, _, rfl, hl, HO.out, HB.out⟩
theorem drawIsClearRoad_is (w : World) (v : Value) (A : Option Addr) (cap : Nat) (code : List Int) (h : Code w v A cap code) :
    Calls Try.prog 47 #[v] w fun e w' => DrawnR w w' e := by
  have hd := drawIsRoadLine_is w v A cap code h
  have HD := hide hd; clear hd h
  go_enter Try.func47, Try.ntmps47
  go_wp2_with fail
  refine HD.out.mono ?_; rintro e w' ⟨v', xs, rfl, hl, ho, hb⟩
  have HO := hide ho; have HB := hide hb; clear ho hb
  go_wp2_with fail
  go_ret
  exact ⟨_, _, rfl, hl, HO.out, HB.out⟩
set_option maxRecDepth 100000 in
set_option maxHeartbeats 4000000 in
theorem drawCrossingParts_is (w : World) (v : Value) (A : Option Addr) (cap : Nat) (code : List Int) (h : Code w v A cap code) :
    Calls Try.prog 42 #[v] w fun e w' => ∃ (v1 v2 : Value) (xs ys : List SCorner), e = .returned (.tuple #[v1, v2]) ∧ (1 ≤ xs.length ∧ xs.length ≤ 40) ∧ (1 ≤ ys.length ∧ ys.length ≤ 40) ∧ Own 2 SCorner.enc 58 w' w.heap.size v1 xs ∧ Own 2 SCorner.enc 58 w' w.heap.size v2 ys ∧ Below w.heap.size w w' := by
  have hD := DS.new h
  obtain rfl := h.eq
  have HD := hide hD; clear hD h
  have hgw : w.heap.size < (w.alloc (.cells #[.slice A code.length cap, .int .i64 0, .int .u64 0] 81)).heap.size := by simp
  go_enter Try.func42, Try.ntmps42
  go_wp2_with fail
  generalize hgs : w.heap.size = g at *
  generalize hw0 : w.alloc (.cells #[.slice A code.length cap, .int .i64 0, .int .u64 0] 81) = w0 at *
  have HB0 := hide (Nat.le_of_lt hgw)
  have HGS := hide HD.out.gr.size
  refine (road10_is w0 _ g g _ A cap code HD.out (by omega)).mono ?_; rintro e w1 ⟨v1, xs1, rfl, l1, u1, ho, hD, hg⟩
  replace HD := hide hD; clear hD hg
  have HX := hide (ownLow ho HGS.out); clear ho HGS
  have HGS := hide HD.out.gr.size
  go_wp2_with fail
  refine (road10_is w0 _ g g _ A cap code HD.out (by omega)).mono ?_; rintro e w2 ⟨v2, xs2, rfl, l2, u2, ho, hD, hg⟩
  replace HX := hide (HD.out.own HX.out hg (by decide))
  replace HD := hide hD; clear hD hg
  have HY := hide (ownLow ho HGS.out); clear ho HGS
  go_wp2_with fail
  go_ret2
  subst hw0 hgs
  exact ⟨_, _, _, _, rfl, ⟨l1, by omega⟩, ⟨l2, by omega⟩, ownLow HX.out HB0.out, ownLow HY.out HB0.out, HD.out.end⟩
set_option maxRecDepth 100000 in
set_option maxHeartbeats 4000000 in
theorem drawJoinRoads_is (w : World) (v : Value) (A : Option Addr) (cap : Nat) (code : List Int) (h : Code w v A cap code) :
    Calls Try.prog 44 #[v] w fun e w' => ∃ (v1 v2 : Value) (xs ys : List SCorner), e = .returned (.tuple #[v1, v2]) ∧ (1 ≤ xs.length ∧ xs.length ≤ 40) ∧ (1 ≤ ys.length ∧ ys.length ≤ 40) ∧ Own 2 SCorner.enc 58 w' w.heap.size v1 xs ∧ Own 2 SCorner.enc 58 w' w.heap.size v2 ys ∧ Below w.heap.size w w' := by
  have hD := DS.new h
  obtain rfl := h.eq
  have HD := hide hD; clear hD h
  have hgw : w.heap.size < (w.alloc (.cells #[.slice A code.length cap, .int .i64 0, .int .u64 0] 81)).heap.size := by simp
  go_enter Try.func44, Try.ntmps44
  go_wp2_with fail
  generalize hgs : w.heap.size = g at *
  generalize hw0 : w.alloc (.cells #[.slice A code.length cap, .int .i64 0, .int .u64 0] 81) = w0 at *
  have HB0 := hide (Nat.le_of_lt hgw)
  have HGS := hide HD.out.gr.size
  refine (road10_is w0 _ g g _ A cap code HD.out (by omega)).mono ?_; rintro e w1 ⟨v1, xs1, rfl, l1, u1, ho, hD, hg⟩
  replace HD := hide hD; clear hD hg
  have HX := hide (ownLow ho HGS.out); clear ho HGS
  have HGS := hide HD.out.gr.size
  go_wp2_with fail
  refine (road10_is w0 _ g g _ A cap code HD.out (by omega)).mono ?_; rintro e w2 ⟨v2, xs2, rfl, l2, u2, ho, hD, hg⟩
  replace HX := hide (HD.out.own HX.out hg (by decide))
  replace HD := hide hD; clear hD hg
  have HY := hide (ownLow ho HGS.out); clear ho HGS
  go_wp2_with fail
  refine (oneD 4 HD.out (by omega)).mono ?_; rintro e w3 ⟨x3, rfl, hD, hg⟩
  replace HX := hide (HD.out.own HX.out hg (by decide))
  replace HY := hide (HD.out.own HY.out hg (by decide))
  replace HD := hide hD; clear hD hg
  cases x3 with
  | true =>
    go_wp2_with fail
    go_ret2
    subst hw0 hgs
    exact ⟨_, _, _, _, rfl, ⟨l1, by omega⟩, ⟨l2, by omega⟩, ownLow HX.out HB0.out, ownLow HY.out HB0.out, HD.out.end⟩
  | false =>
    obtain ⟨b, off, cp, m, lx, ly, rfl, hidx, hm, ⟨hbB, hbw⟩, m0, m1⟩ := own_lastC HX.out l1
    obtain ⟨AY, cY, rfl, hrY, hYc, hYm⟩ := HY.out.is
    obtain ⟨bY, oY, rfl, hbY, _⟩ := hrY.get (show 0 < xs2.length by omega)
    have hw3 : w0.heap.size ≤ w3.heap.size := HD.out.gr.size
    have HN := hide (own_oneC w3 hw3 lx ly)
    have HSRC := hide (src_row (hrY.below (below_alloc w3 (.cells #[.int .i64 lx, .int .i64 ly] 58)) (Nat.le_refl _) (Nat.le_refl _)) (by omega : 0 < 2))
    clear hrY
    go_wp2_with (at_builtin; refine wpList_push (k := 2) (enc := SCorner.enc) _ rfl _ _ 25 rfl 58 (.agg #[.int .i64 0, .int .i64 0]) 16 Try.underlying25 SCorner.info rfl (by omega) SCorner.one w0.heap.size _ [(⟨lx, ly⟩ : SCorner)] rfl HN.out ⟨bY, oY, none⟩ cY xs2 rfl HSRC.out (by simp; omega) (by simp; omega) (by simp; omega) ?_; intro v4 w4 ho1 hg1 _)
    have HX4 := hide ((HX.out.alloc (.cells #[.int .i64 lx, .int .i64 ly] 58)).grown hg1 (fun g' hg' h => by have e1 : b = g' := Option.some.inj hg'; have e2 : w3.heap.size = g' := Option.some.inj h; omega))
    have HD4 := hide ((HD.out.alloc (.cells #[.int .i64 lx, .int .i64 ly] 58)).grown hg1 (fun b' hb' => by have e1 : w3.heap.size = b' := Option.some.inj hb'; omega))
    have HO4 := hide ho1; clear ho1 hg1
    go_wp2_with fail
    go_ret2
    subst hw0 hgs
    exact ⟨_, _, _, _, rfl, ⟨l1, by omega⟩, ⟨by simp, by simp; omega⟩, ownLow HX4.out HB0.out, ownLow HO4.out HB0.out, HD4.out.end⟩
set_option maxRecDepth 100000 in
set_option maxHeartbeats 4000000 in
theorem drawDetourOf_is (w : World) (v : Value) (A : Option Addr) (cap : Nat) (code : List Int) (h : Code w v A cap code) :
    Calls Try.prog 46 #[v] w fun e w' => DrawnR w w' e := by
  have hD := DS.new h
  obtain rfl := h.eq
  have HD := hide hD; clear hD h
  have hgw : w.heap.size < (w.alloc (.cells #[.slice A code.length cap, .int .i64 0, .int .u64 0] 81)).heap.size := by simp
  go_enter Try.func46, Try.ntmps46
  go_wp2_with fail
  generalize hgs : w.heap.size = g at *
  generalize hw0 : w.alloc (.cells #[.slice A code.length cap, .int .i64 0, .int .u64 0] 81) = w0 at *
  have HB0 := hide (Nat.le_of_lt hgw)
  have HGS := hide HD.out.gr.size
  refine (road10_is w0 _ g g _ A cap code HD.out (by omega)).mono ?_; rintro e w1 ⟨v1, xs1, rfl, l1, u1, ho, hD, hg⟩
  replace HD := hide hD; clear hD hg
  have HX := hide (ownLow ho HGS.out); clear ho HGS
  go_wp2_with fail
  refine (oneD 8 HD.out (by omega)).mono ?_; rintro e w2 ⟨x2, rfl, hD, hg⟩
  replace HX := hide (HD.out.own HX.out hg (by decide))
  replace HD := hide hD; clear hD hg
  cases x2 with
  | false =>
    go_wp2_with fail
    go_ret
    subst hw0 hgs
    exact ⟨_, _, rfl, ⟨l1, by omega⟩, ownLow HX.out HB0.out, HD.out.end⟩
  | true =>
    obtain ⟨A8, cp, rfl, hr8, _, _⟩ := HX.out.is
    obtain ⟨b, off, rfl, hb, c0, c1⟩ := SCorner.cells hr8 (i := 0) (by omega) (Below.refl _ _)
    rw [Nat.zero_mul, Nat.add_zero] at c0 c1
    have hlt := HX.out.lt b rfl
    generalize xs1[0].x = x0 at *; generalize xs1[0].y = y0 at *
    clear hr8
    go_wp2_with (at_builtin; refine wpList_push1 (k := 2) (enc := SCorner.enc) _ rfl _ _ 25 rfl 58 (.agg #[.int .i64 0, .int .i64 0]) 16 Try.underlying25 SCorner.info rfl (by omega) (by omega) SCorner.one w0.heap.size _ xs1 rfl HX.out ⟨_, _⟩ _ rfl rfl (by omega) HD.out.gr.size (Below.refl w0.heap.size w2) (Nat.le_refl _) rfl ?_; intro v4 w4 ho1 hb1 hg1)
    have HD4 := hide ((HD.out.alloc _).grown hg1 (fun b' hb' => by have e1 : b = b' := Option.some.inj hb'; omega))
    have HO4 := hide ho1; clear ho1 hb1 hg1
    go_wp2_with fail
    go_ret
    subst hw0 hgs
    exact ⟨_, _, rfl, ⟨by simp, by simp; omega⟩, ownLow HO4.out HB0.out, HD4.out.end⟩
set_option maxRecDepth 100000 in
set_option maxHeartbeats 4000000 in
theorem drawAlongRoad_is (w : World) (v : Value) (A : Option Addr) (cap : Nat) (code : List Int) (h : Code w v A cap code) :
    Calls Try.prog 52 #[v] w fun e w' => ∃ (v : Value) (n : Int) (xs : List SCorner), e = .returned (.tuple #[v, .int .i64 n]) ∧ (1 ≤ xs.length ∧ xs.length ≤ 40) ∧ Own 2 SCorner.enc 58 w' w.heap.size v xs ∧ Below w.heap.size w w' := by
  have hD := DS.new h
  obtain rfl := h.eq
  have HD := hide hD; clear hD h
  have hgw : w.heap.size < (w.alloc (.cells #[.slice A code.length cap, .int .i64 0, .int .u64 0] 81)).heap.size := by simp
  go_enter Try.func52, Try.ntmps52
  go_wp2_with fail
  generalize hgs : w.heap.size = g at *
  generalize hw0 : w.alloc (.cells #[.slice A code.length cap, .int .i64 0, .int .u64 0] 81) = w0 at *
  have HB0 := hide (Nat.le_of_lt hgw)
  have HGS := hide HD.out.gr.size
  refine (road10_is w0 _ g g _ A cap code HD.out (by omega)).mono ?_; rintro e w1 ⟨v1, xs1, rfl, l1, u1, ho, hD, hg⟩
  replace HD := hide hD; clear hD hg
  have HX := hide (ownLow ho HGS.out); clear ho HGS
  have hgood := l10Good_is v1 xs1 _ HX.out.is
  by_cases hok : roadB xs1 = true
  · rw [hok] at hgood
    have HG := hide hgood; clear hgood
    go_wp2_with fail
    refine (HG.out).mono ?_; rintro e w2 ⟨rfl, hb⟩
    replace HX := hide (HX.out.below hb)
    replace HD := hide (HD.out.below hb); clear hb
    obtain ⟨r1, r2⟩ := road_len hok
    obtain ⟨A8, cp, rfl, hr8, _, _⟩ := HX.out.is
    obtain ⟨b, off, rfl, hbw, c0, c1⟩ := SCorner.cells hr8 (i := 0) (by omega) (Below.refl _ _)
    obtain ⟨b', off', he8, _, d0, d1⟩ := SCorner.cells hr8 (i := 1) (by omega) (Below.refl _ _)
    injection he8 with he8; injection he8 with e1 e2; subst e1 e2
    rw [Nat.zero_mul, Nat.add_zero] at c0 c1
    rw [Nat.one_mul] at d0 d1
    have i0 := road_corn hok (i := 0) (by omega)
    have i1 := road_corn hok (i := 1) (by omega)
    generalize xs1[0].x = x0 at *; generalize xs1[0].y = y0 at *; generalize xs1[1].x = z0 at *; generalize xs1[1].y = z1 at *
    have I0 := hide i0; have I1 := hide i1; have HOK := hide hok
    clear hr8 i0 i1 hok
    have hdr := (Below.refl w2.heap.size w2).drew
    have HDd := hide (HD.out.below hdr); have HXd := hide (HX.out.below hdr); clear hdr
    go_wp2_with fail
    generalize hN : xs1.length = N at HXd HX HD l1 u1 r1 r2 ⊢
    have HN := hide hN; clear hN
    have zz0 : 0 < N := by omega
    have zz1 : (1 : Int) ≤ (N : Int) := by omega
    have z2 : 1 ≤ N := by omega
    have z3 : (0 : Int) ≤ 0 := by omega
    have z4 : ¬ (N : Int) ≤ 0 := by omega
    have z5 : ¬ N = 0 := by omega
    have yy0 : (0 : Int) < (N : Int) := by omega
    have yy1 : (1 : Int) < (N : Int) := by omega
    have yy2 : 1 < N := by omega
    have yy3 : ¬ N ≤ 1 := by omega
    have yy4 : ¬ (N : Int) ≤ 1 := by omega
    go_region_held3 (fun W => W.cell? ⟨b, off, none⟩ = some (.int .i64 x0) ∧ W.cell? ⟨b, off + 1, none⟩ = some (.int .i64 y0) ∧ W.cell? ⟨b, off + 2, none⟩ = some (.int .i64 z0) ∧ W.cell? ⟨b, off + 2 + 1, none⟩ = some (.int .i64 z1)) (go_keep)
      (first
        | (go_at_call 62; refine (l10Length_any _ _ _ HXd.out.is HOK.out).mono ?_; rintro e w3 ⟨rfl, hb⟩; have c0 := (hb.cell (p := ⟨b, off, none⟩) hbw).trans c0; have c1 := (hb.cell (p := ⟨b, off + 1, none⟩) hbw).trans c1; have d0 := (hb.cell (p := ⟨b, off + 2, none⟩) hbw).trans d0; have d1 := (hb.cell (p := ⟨b, off + 2 + 1, none⟩) hbw).trans d1; have hbw3 := Nat.lt_of_lt_of_le hbw hb.size; have HX3 := hide (HXd.out.below hb); have HD3 := hide (HDd.out.below hb); clear hb)
        | (go_at_call 62; refine (l10Length_any _ _ _ HX3.out.is HOK.out).mono ?_; rintro e w4 ⟨rfl, hb⟩; have c0 := (hb.cell (p := ⟨b, off, none⟩) hbw3).trans c0; have c1 := (hb.cell (p := ⟨b, off + 1, none⟩) hbw3).trans c1; have d0 := (hb.cell (p := ⟨b, off + 2, none⟩) hbw3).trans d0; have d1 := (hb.cell (p := ⟨b, off + 2 + 1, none⟩) hbw3).trans d1; have hbw4 := Nat.lt_of_lt_of_le hbw3 hb.size; have HX4 := hide (HX3.out.below hb); have HD4 := hide (HD3.out.below hb); clear hb)
        | (go_at_call 66; refine (l10Part_any _ _ _ _ _ I0.out I1.out).mono ?_; rintro e w5 ⟨rfl, hb⟩; have c0 := (hb.cell (p := ⟨b, off, none⟩) hbw4).trans c0; have c1 := (hb.cell (p := ⟨b, off + 1, none⟩) hbw4).trans c1; have d0 := (hb.cell (p := ⟨b, off + 2, none⟩) hbw4).trans d0; have d1 := (hb.cell (p := ⟨b, off + 2 + 1, none⟩) hbw4).trans d1; have hbw5 := Nat.lt_of_lt_of_le hbw4 hb.size; have HX5 := hide (HX4.out.below hb); have HD5 := hide (HD4.out.below hb); clear hb)
        | (go_at_call 62; refine (l10Length_any _ _ _ HX5.out.is HOK.out).mono ?_; rintro e w6 ⟨rfl, hb⟩; have c0 := (hb.cell (p := ⟨b, off, none⟩) hbw5).trans c0; have c1 := (hb.cell (p := ⟨b, off + 1, none⟩) hbw5).trans c1; have d0 := (hb.cell (p := ⟨b, off + 2, none⟩) hbw5).trans d0; have d1 := (hb.cell (p := ⟨b, off + 2 + 1, none⟩) hbw5).trans d1; have HX6 := hide (HX5.out.below hb); have HD6 := hide (HD5.out.below hb); clear hb)
        | (go_at_call 77; refine (amongD [_, _, _, _] HD6.out (by rfl) (by rfl) (by rfl) (by simp) (by simp) (by omega)).mono ?_; rintro e w7 ⟨x7, rfl, _, hD, hg⟩; have HX7 := hide (HD6.out.own HX6.out hg (by decide)); have HD7 := hide hD; have c0 := hg.cell (a := ⟨b, off, none⟩) c0 (Ne.symm (cur_ne HD6.out.cur HX6.out (by decide) b rfl)); have c1 := hg.cell (a := ⟨b, off + 1, none⟩) c1 (Ne.symm (cur_ne HD6.out.cur HX6.out (by decide) b rfl)); have d0 := hg.cell (a := ⟨b, off + 2, none⟩) d0 (Ne.symm (cur_ne HD6.out.cur HX6.out (by decide) b rfl)); have d1 := hg.cell (a := ⟨b, off + 2 + 1, none⟩) d1 (Ne.symm (cur_ne HD6.out.cur HX6.out (by decide) b rfl)); clear hD hg))
    replace HX := hide HX7.out; replace HD := hide HD7.out
    clear c0 c1 d0 d1
    all_goals
      have hNN := HN.out
      go_wp2_with fail
      refine (amongD [0, 1, x7, x7, x7, -1] HD.out (by rfl) (by rfl) (by rfl) (by simp) (by simp) (by omega)).mono ?_; rintro e w8 ⟨x8, rfl, hm, hD, hg⟩
      replace HX := hide (HD.out.own HX.out hg (by decide))
      replace HD := hide hD; clear hD hg
      clear hm
      go_wp2_with fail
      go_ret2
      subst hw0 hgs
      exact ⟨_, _, _, rfl, ⟨by omega, by omega⟩, ownLow HX.out HB0.out, HD.out.end⟩
  · rw [Bool.not_eq_true] at hok
    rw [hok] at hgood
    have HG := hide hgood; clear hgood
    go_wp2_with fail
    refine (HG.out).mono ?_; rintro e w2 ⟨rfl, hb⟩
    replace HX := hide (HX.out.below hb)
    replace HD := hide (HD.out.below hb); clear hb
    go_wp2_with fail
    refine (amongD [0, 1, 0, 0, 0, -1] HD.out (by rfl) (by rfl) (by rfl) (by simp) (by simp) (by omega)).mono ?_; rintro e w3 ⟨x3, rfl, hm, hD, hg⟩
    replace HX := hide (HD.out.own HX.out hg (by decide))
    replace HD := hide hD; clear hD hg
    clear hm
    go_wp2_with fail
    go_ret2
    subst hw0 hgs
    exact ⟨_, _, _, rfl, ⟨by omega, by omega⟩, ownLow HX.out HB0.out, HD.out.end⟩
end Go.Proofs.Ytefnmfkndepfgaa
