/- The drawing functions of FnSpots. No condition. (Printed by mkspotd.py.) -/
import Derived.Test.YtplemibckjnbhaaDoorD4B
import Derived.Test.YtplemibckjnbhaaDoorD2C
import Derived.Test.YtplemibckjnbhaaDoorL4R
import Derived.Deep.RegionHeld3
namespace Go.Proofs.YtplemibckjnbhaaDoor
open Go.RowKit
set_option linter.unusedVariables false
set_option maxRecDepth 100000 in
theorem place4b_is (w0 w : World) (base g k : Nat) (A : Option Addr) (cap : Nat) (code : List Int) (hD : DS w0 base g A cap code k w) (hk : k + 10 < 2305843009213693952) :
    Calls Tryd.prog 68 #[.pointer (some ⟨g, 0, none⟩)] w fun e w' => ∃ x y : Int, e = .returned (.tuple #[.int .i64 x, .int .i64 y]) ∧ ((-1 ≤ x ∧ x ≤ 100000) ∧ (-1 ≤ y ∧ y ≤ 100000)) ∧ DS w0 base g A cap code (k + 10) w' ∧ w.grownBy w' (some g) := by
  have hgw := hD.lt
  have HD0 := hide hD
  have HD := hide (DS.start hD.cur hD.sz); clear hD
  go_enter Tryd.func68, Tryd.ntmps68
  go_wp2_with fail
  refine (oneD 40 HD.out (by omega)).mono ?_; rintro e w1 ⟨x1, rfl, hD, hg⟩
  replace HD := hide hD; clear hD hg
  cases x1 with
  | true =>
    go_wp2_with fail
    refine (amongD [-1, 100000] HD.out (by rfl) (by rfl) (by rfl) (by simp) (by simp) (by omega)).mono ?_; rintro e w2 ⟨x2, rfl, hm, hD, hg⟩
    replace HD := hide hD; clear hD hg
    have b2 := (by decide : ∀ x ∈ ([-1, 100000] : List Int), -1 ≤ x ∧ x ≤ 100000) _ hm; clear hm; obtain ⟨b2a, b2b⟩ := b2
    go_wp2_with fail
    go_ret2
    exact ⟨_, _, rfl, ⟨⟨by omega, by omega⟩, by omega, by omega⟩, ⟨(HD.out.le (by omega)).cur, grownTrans HD0.out.gr HD.out.gr, HD0.out.hb⟩, HD.out.gr⟩
  | false =>
    go_wp2_with fail
    refine (amongD [0, 1, 499, 500, 750, 1000, 99999] HD.out (by rfl) (by rfl) (by rfl) (by simp) (by simp) (by omega)).mono ?_; rintro e w2 ⟨x2, rfl, hm, hD, hg⟩
    replace HD := hide hD; clear hD hg
    have b2 := (by decide : ∀ x ∈ ([0, 1, 499, 500, 750, 1000, 99999] : List Int), -1 ≤ x ∧ x ≤ 100000) _ hm; clear hm; obtain ⟨b2a, b2b⟩ := b2
    go_wp2_with fail
    refine (amongD [0, 2, 499, 500, 1000, 1250, 99999] HD.out (by rfl) (by rfl) (by rfl) (by simp) (by simp) (by omega)).mono ?_; rintro e w3 ⟨x3, rfl, hm, hD, hg⟩
    replace HD := hide hD; clear hD hg
    have b3 := (by decide : ∀ x ∈ ([0, 2, 499, 500, 1000, 1250, 99999] : List Int), -1 ≤ x ∧ x ≤ 100000) _ hm; clear hm; obtain ⟨b3a, b3b⟩ := b3
    go_wp2_with fail
    go_ret2
    exact ⟨_, _, rfl, ⟨⟨by omega, by omega⟩, by omega, by omega⟩, ⟨(HD.out.le (by omega)).cur, grownTrans HD0.out.gr HD.out.gr, HD0.out.hb⟩, HD.out.gr⟩
set_option maxRecDepth 100000 in
set_option maxHeartbeats 4000000 in
theorem drawIsGridTurn_is (w : World) (v : Value) (A : Option Addr) (cap : Nat) (code : List Int) (h : Code w v A cap code) :
    Calls Tryd.prog 56 #[v] w fun e w' => ∃ t : STurn, e = .returned (.agg #[.int .i64 t.q, .int .i64 t.num, .int .i64 t.den, .int .i64 t.e, .int .i64 t.n]) ∧ Below w.heap.size w w' := by
  have hk := Blk.new w 35 #[.int .i64 0, .int .i64 0, .int .i64 0, .int .i64 0, .int .i64 0]
  have hbz := below_alloc w (.cells #[.int .i64 0, .int .i64 0, .int .i64 0, .int .i64 0, .int .i64 0] 35)
  have hcz := h.below hbz (Nat.le_refl _)
  have hgz : w.heap.size < (w.alloc (.cells #[.int .i64 0, .int .i64 0, .int .i64 0, .int .i64 0, .int .i64 0] 35)).heap.size := by simp
  generalize hwz : w.alloc (.cells #[.int .i64 0, .int .i64 0, .int .i64 0, .int .i64 0, .int .i64 0] 35) = wz at *
  obtain rfl := h.eq
  have HCZ := hide hcz; have HK := hide hk; have HZ := hide hbz; clear h hcz hk hbz
  go_enter Tryd.func56, Tryd.ntmps56
  go_upto_region 1 with fail
  (try simp only [hwz])
  clear hwz
  have HD := hide (DS.new HCZ.out)
  have hgw : wz.heap.size < (wz.alloc (.cells #[.slice A code.length cap, .int .i64 0, .int .u64 0] 71)).heap.size := by simp
  go_upto_region 2 with fail
  generalize hb0 : w.heap.size = b0 at *
  have HEQ := hide hb0
  generalize hgs : wz.heap.size = g at *
  generalize hw0 : wz.alloc (.cells #[.slice A code.length cap, .int .i64 0, .int .u64 0] 71) = w0 at *
  have HB0 := hide (Nat.le_of_lt hgw)
  go_wp2_with fail
  refine (gridTurn_is w0 _ g g _ A cap code HD.out (by omega)).mono ?_; rintro e w1 ⟨⟨tq, tm, td, te, tn⟩, rfl, hD, hg⟩
  replace HD := hide hD; clear hD hg
  have hend : Below g wz w1 := by subst hw0 hgs; exact HD.out.end
  have K1 := HK.out.below hend hgz
  have HBF := hide (HZ.out.trans (hend.mono (by omega))); clear hend
  obtain ⟨c0, c1, c2, c3, c4⟩ := turn5 K1
  have cf := fun o => K1.frozen o
  have HK1 := hide K1; clear K1
  go_wp2_with fail
  have hF := ((((HK1.out.set 0 (.int .i64 tq)).set 1 (.int .i64 tm)).set 2 (.int .i64 td)).set 3 (.int .i64 te)).set 4 (.int .i64 tn)
  have f0 := hF.cell 0; have f1 := hF.cell 1; have f2 := hF.cell 2; have f3 := hF.cell 3; have f4 := hF.cell 4
  simp at f0 f1 f2 f3 f4
  exact bodyPost_ret (v := .agg #[.int .i64 tq, .int .i64 tm, .int .i64 td, .int .i64 te, .int .i64 tn]) (by simp [results, Tryd.results56, go_sem, f0, f1, f2, f3, f4]) rfl ⟨⟨tq, tm, td, te, tn⟩, rfl, by rw [HEQ.out]; exact below5S HBF.out (Nat.le_refl _) _ _ _ _ _⟩
set_option maxRecDepth 100000 in
set_option maxHeartbeats 4000000 in
theorem drawFixedSpot_is (w : World) (v : Value) (A : Option Addr) (cap : Nat) (code : List Int) (h : Code w v A cap code) :
    Calls Tryd.prog 15 #[v] w fun e w' => ∃ t : STurn, e = .returned (.agg #[.int .i64 t.q, .int .i64 t.num, .int .i64 t.den, .int .i64 t.e, .int .i64 t.n]) ∧ Below w.heap.size w w' := by
  have hk := Blk.new w 35 #[.int .i64 0, .int .i64 0, .int .i64 0, .int .i64 0, .int .i64 0]
  have hbz := below_alloc w (.cells #[.int .i64 0, .int .i64 0, .int .i64 0, .int .i64 0, .int .i64 0] 35)
  have hcz := h.below hbz (Nat.le_refl _)
  have hgz : w.heap.size < (w.alloc (.cells #[.int .i64 0, .int .i64 0, .int .i64 0, .int .i64 0, .int .i64 0] 35)).heap.size := by simp
  generalize hwz : w.alloc (.cells #[.int .i64 0, .int .i64 0, .int .i64 0, .int .i64 0, .int .i64 0] 35) = wz at *
  obtain rfl := h.eq
  have HCZ := hide hcz; have HK := hide hk; have HZ := hide hbz; clear h hcz hk hbz
  go_enter Tryd.func15, Tryd.ntmps15
  go_upto_region 1 with fail
  (try simp only [hwz])
  clear hwz
  generalize hb0 : w.heap.size = b0 at *
  have HEQ := hide hb0
  go_wp2_with fail
  refine (drawIsGridTurn_is wz _ A cap code HCZ.out).mono ?_; rintro e w1 ⟨⟨tq, tm, td, te, tn⟩, rfl, hend⟩
  have K1 := HK.out.below hend hgz
  have HBF := hide (HZ.out.trans (hend.mono (by omega))); clear hend
  obtain ⟨c0, c1, c2, c3, c4⟩ := turn5 K1
  have cf := fun o => K1.frozen o
  have HK1 := hide K1; clear K1
  go_wp2_with fail
  have hF := ((((HK1.out.set 0 (.int .i64 tq)).set 1 (.int .i64 tm)).set 2 (.int .i64 td)).set 3 (.int .i64 te)).set 4 (.int .i64 tn)
  have f0 := hF.cell 0; have f1 := hF.cell 1; have f2 := hF.cell 2; have f3 := hF.cell 3; have f4 := hF.cell 4
  simp at f0 f1 f2 f3 f4
  exact bodyPost_ret (v := .agg #[.int .i64 tq, .int .i64 tm, .int .i64 td, .int .i64 te, .int .i64 tn]) (by simp [results, Tryd.results15, go_sem, f0, f1, f2, f3, f4]) rfl ⟨⟨tq, tm, td, te, tn⟩, rfl, by rw [HEQ.out]; exact below5S HBF.out (Nat.le_refl _) _ _ _ _ _⟩
set_option maxRecDepth 100000 in
set_option maxHeartbeats 4000000 in
theorem drawPlacesApart_is (w : World) (v : Value) (A : Option Addr) (cap : Nat) (code : List Int) (h : Code w v A cap code) :
    Calls Tryd.prog 28 #[v] w fun e w' => ∃ x y u v : Int, e = .returned (.tuple #[.int .i64 x, .int .i64 y, .int .i64 u, .int .i64 v]) ∧ ((-1 ≤ x ∧ x ≤ 100000) ∧ (-1 ≤ y ∧ y ≤ 100000)) ∧ ((-1 ≤ u ∧ u ≤ 100000) ∧ (-1 ≤ v ∧ v ≤ 100000)) ∧ Below w.heap.size w w' := by
  have hD := DS.new h
  obtain rfl := h.eq
  have HD := hide hD; clear hD h
  have hgw : w.heap.size < (w.alloc (.cells #[.slice A code.length cap, .int .i64 0, .int .u64 0] 71)).heap.size := by simp
  go_enter Tryd.func28, Tryd.ntmps28
  go_wp2_with fail
  generalize hgs : w.heap.size = g at *
  generalize hw0 : w.alloc (.cells #[.slice A code.length cap, .int .i64 0, .int .u64 0] 71) = w0 at *
  have HB0 := hide (Nat.le_of_lt hgw)
  refine (place4b_is w0 _ g g _ A cap code HD.out (by omega)).mono ?_; rintro e w1 ⟨x, y, rfl, hp, hD, hg⟩
  replace HD := hide hD; have HP := hide hp; clear hD hg hp
  go_wp2_with fail
  refine (place4b_is w0 _ g g _ A cap code HD.out (by omega)).mono ?_; rintro e w2 ⟨u, v, rfl, hp, hD, hg⟩
  replace HD := hide hD; have HQ := hide hp; clear hD hg hp
  go_wp2_with fail
  (try simp only [Exit.inBlock, Exit.then]); refine bodyPost_ret (results_tmp4_d rfl _ _ _) rfl ?_
  subst hw0 hgs
  exact ⟨x, y, u, v, rfl, HP.out, HQ.out, HD.out.end⟩
set_option maxRecDepth 100000 in
set_option maxHeartbeats 4000000 in
theorem drawStretchOf_is (w : World) (v : Value) (A : Option Addr) (cap : Nat) (code : List Int) (h : Code w v A cap code) :
    Calls Tryd.prog 31 #[v] w fun e w' => ∃ (v : Value) (xs : List STurn), e = .returned v ∧ Own 5 STurn.enc 35 w' w.heap.size v xs ∧ Below w.heap.size w w' := by
  have hD := DS.new h
  obtain rfl := h.eq
  have HD := hide hD; clear hD h
  have hgw : w.heap.size < (w.alloc (.cells #[.slice A code.length cap, .int .i64 0, .int .u64 0] 71)).heap.size := by simp
  go_enter Tryd.func31, Tryd.ntmps31
  go_wp2_with fail
  generalize hgs : w.heap.size = g at *
  generalize hw0 : w.alloc (.cells #[.slice A code.length cap, .int .i64 0, .int .u64 0] 71) = w0 at *
  have HB0 := hide (Nat.le_of_lt hgw)
  have HGS := hide HD.out.gr.size
  refine (chain_is w0 _ g g _ A cap code HD.out (by omega)).mono ?_; rintro e w2 ⟨v2, xs2, rfl, l2, a2, ho, hD, hg⟩
  replace HD := hide hD; clear hD hg
  have HX := hide (ownLow ho HGS.out); clear ho HGS
  go_wp2_with fail
  go_ret
  subst hw0 hgs
  exact ⟨_, _, rfl, ownLow HX.out HB0.out, HD.out.end⟩
set_option maxRecDepth 100000 in
set_option maxHeartbeats 4000000 in
theorem drawSpotText_is (w : World) (v : Value) (A : Option Addr) (cap : Nat) (code : List Int) (h : Code w v A cap code) :
    Calls Tryd.prog 34 #[v] w fun e w' => ∃ s : SSpot, e = .returned (.agg #[.int .i64 s.x, .int .i64 s.y, .int .i64 s.den]) ∧ Below w.heap.size w w' := by
  have hk := Blk.new w 38 #[.int .i64 0, .int .i64 0, .int .i64 0]
  have hbz := below_alloc w (.cells #[.int .i64 0, .int .i64 0, .int .i64 0] 38)
  have hcz := h.below hbz (Nat.le_refl _)
  have hgz : w.heap.size < (w.alloc (.cells #[.int .i64 0, .int .i64 0, .int .i64 0] 38)).heap.size := by simp
  generalize hwz : w.alloc (.cells #[.int .i64 0, .int .i64 0, .int .i64 0] 38) = wz at *
  obtain rfl := h.eq
  have HCZ := hide hcz; have HK := hide hk; have HZ := hide hbz; clear h hcz hk hbz
  go_enter Tryd.func34, Tryd.ntmps34
  go_upto_region 1 with fail
  (try simp only [hwz])
  clear hwz
  have HD := hide (DS.new HCZ.out)
  have hgw : wz.heap.size < (wz.alloc (.cells #[.slice A code.length cap, .int .i64 0, .int .u64 0] 71)).heap.size := by simp
  go_upto_region 2 with fail
  generalize hb0 : w.heap.size = b0 at *
  have HEQ := hide hb0
  generalize hgs : wz.heap.size = g at *
  generalize hw0 : wz.alloc (.cells #[.slice A code.length cap, .int .i64 0, .int .u64 0] 71) = w0 at *
  have HB0 := hide (Nat.le_of_lt hgw)
  go_wp2_with fail
  refine (place4b_is w0 _ g g _ A cap code HD.out (by omega)).mono ?_; rintro e w1 ⟨x, y, rfl, hp, hD, hg⟩
  replace HD := hide hD; clear hD hg hp
  go_wp2_with fail
  refine (chain_is w0 _ g g _ A cap code HD.out (by omega)).mono ?_; rintro e w2 ⟨v2, xs2, rfl, l2, a2, ho, hD, hg⟩
  replace HD := hide hD; clear hD hg a2
  have HX := hide ho; clear ho
  have ct := fun W hi => specTurnPlace_is v2 xs2 x y W hi
  generalize (tpV xs2 x y).1 = sp at *; generalize (tpV xs2 x y).2 = ok at *
  obtain ⟨sx, sy, sd⟩ := sp
  simp only at ct
  have CT := hide ct; clear ct
  go_wp2_with fail
  refine (CT.out _ HX.out.is).mono ?_; rintro e w3 ⟨rfl, hb3⟩
  replace HD := hide (HD.out.below hb3); clear hb3 HX
  have HS := hide (Blk.new w3 38 #[.int .i64 sx, .int .i64 sy, .int .i64 sd])
  replace HD := hide (HD.out.alloc (.cells #[.int .i64 sx, .int .i64 sy, .int .i64 sd] 38))
  go_upto_region 4 with fail
  generalize w3.alloc (.cells #[.int .i64 sx, .int .i64 sy, .int .i64 sd] 38) = w4 at *
  generalize w3.heap.size = b6 at *
  cases ok with
  | false =>
    clear HS
    go_wp2_with fail
    refine (amongD [0, 2, 2000000000001] HD.out (by rfl) (by rfl) (by rfl) (by simp) (by simp) (by omega)).mono ?_; rintro e w5 ⟨x5, rfl, hm, hD, hg⟩
    replace HD := hide hD; clear hD hg hm
    go_wp2_with fail
    refine (amongD [0, 4] HD.out (by rfl) (by rfl) (by rfl) (by simp) (by simp) (by omega)).mono ?_; rintro e w6 ⟨x6, rfl, hm, hD, hg⟩
    replace HD := hide hD; clear hD hg hm
    go_wp2_with fail
    refine (amongD [0, 1, 2, 160001] HD.out (by rfl) (by rfl) (by rfl) (by simp) (by simp) (by omega)).mono ?_; rintro e w7 ⟨x7, rfl, hm, hD, hg⟩
    replace HD := hide hD; clear hD hg hm
    have hend : Below g wz w7 := by subst hw0 hgs; exact HD.out.end
    have K1 := HK.out.below hend hgz
    have HBF := hide (HZ.out.trans (hend.mono (by omega))); clear hend
    obtain ⟨c0, c1, c2, cf⟩ := spot3 K1
    have HK1 := hide K1; clear K1
    go_wp2_with fail
    have hF := ((HK1.out.set 0 (.int .i64 x5)).set 1 (.int .i64 x6)).set 2 (.int .i64 x7)
    have f0 := hF.cell 0; have f1 := hF.cell 1; have f2 := hF.cell 2
    simp at f0 f1 f2
    exact bodyPost_ret (v := .agg #[.int .i64 x5, .int .i64 x6, .int .i64 x7]) (by simp [results, Tryd.results34, go_sem, f0, f1, f2]) rfl ⟨⟨x5, x6, x7⟩, rfl, by rw [HEQ.out]; exact below3 HBF.out (Nat.le_refl _) _ _ _⟩
  | true =>
    go_wp2_with fail
    refine (oneD 10 HD.out (by omega)).mono ?_; rintro e w5 ⟨x5, rfl, hD, hg⟩
    replace HS := hide (HD.out.blk HS.out hg (by decide))
    replace HD := hide hD; clear hD hg
    cases x5 with
    | true =>
      clear HS
      go_wp2_with fail
      refine (amongD [0, 2, 2000000000001] HD.out (by rfl) (by rfl) (by rfl) (by simp) (by simp) (by omega)).mono ?_; rintro e w6 ⟨x6, rfl, hm, hD, hg⟩
      replace HD := hide hD; clear hD hg hm
      go_wp2_with fail
      refine (amongD [0, 4] HD.out (by rfl) (by rfl) (by rfl) (by simp) (by simp) (by omega)).mono ?_; rintro e w7 ⟨x7, rfl, hm, hD, hg⟩
      replace HD := hide hD; clear hD hg hm
      go_wp2_with fail
      refine (amongD [0, 1, 2, 160001] HD.out (by rfl) (by rfl) (by rfl) (by simp) (by simp) (by omega)).mono ?_; rintro e w8 ⟨x8, rfl, hm, hD, hg⟩
      replace HD := hide hD; clear hD hg hm
      have hend : Below g wz w8 := by subst hw0 hgs; exact HD.out.end
      have K1 := HK.out.below hend hgz
      have HBF := hide (HZ.out.trans (hend.mono (by omega))); clear hend
      obtain ⟨c0, c1, c2, cf⟩ := spot3 K1
      have HK1 := hide K1; clear K1
      go_wp2_with fail
      have hF := ((HK1.out.set 0 (.int .i64 x6)).set 1 (.int .i64 x7)).set 2 (.int .i64 x8)
      have f0 := hF.cell 0; have f1 := hF.cell 1; have f2 := hF.cell 2
      simp at f0 f1 f2
      exact bodyPost_ret (v := .agg #[.int .i64 x6, .int .i64 x7, .int .i64 x8]) (by simp [results, Tryd.results34, go_sem, f0, f1, f2]) rfl ⟨⟨x6, x7, x8⟩, rfl, by rw [HEQ.out]; exact below3 HBF.out (Nat.le_refl _) _ _ _⟩
    | false =>
      obtain ⟨e0, e1, e2, ef⟩ := spot3 HS.out
      have hend : Below g wz w5 := by subst hw0 hgs; exact HD.out.end
      have K1 := HK.out.below hend hgz
      have HBF := hide (HZ.out.trans (hend.mono (by omega))); clear hend
      obtain ⟨c0, c1, c2, cf⟩ := spot3 K1
      have HK1 := hide K1; clear K1
      go_wp2_with fail
      have hF := ((HK1.out.set 0 (.int .i64 sx)).set 1 (.int .i64 sy)).set 2 (.int .i64 sd)
      have f0 := hF.cell 0; have f1 := hF.cell 1; have f2 := hF.cell 2
      simp at f0 f1 f2
      exact bodyPost_ret (v := .agg #[.int .i64 sx, .int .i64 sy, .int .i64 sd]) (by simp [results, Tryd.results34, go_sem, f0, f1, f2]) rfl ⟨⟨sx, sy, sd⟩, rfl, by rw [HEQ.out]; exact below3 HBF.out (Nat.le_refl _) _ _ _⟩
end Go.Proofs.YtplemibckjnbhaaDoor
