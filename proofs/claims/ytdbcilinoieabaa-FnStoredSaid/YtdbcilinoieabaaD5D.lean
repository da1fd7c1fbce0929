/- The drawing of a flat's and of a drawer's id, and the drawing functions of FnDrawers. Condition: a cursor that has stepped less than 2^60 times. (Printed by mkids5.py.) -/
import Derived.Test.YtdbcilinoieabaaD5C
namespace Go.Proofs.Ytdbcilinoieabaa
open Go.RowKit
set_option linter.unusedVariables false
set_option maxHeartbeats 2000000 in
theorem flatId_is (w0 w : World) (base g k : Nat) (A : Option Addr) (cap : Nat) (code : List Int) (hD : DS w0 base g A cap code k w) (b : Nat) (v : Value) (xs : List SFlat) (hO : Own 4 SFlat.enc 68 w b v xs) (hl : xs.length ≤ 1000) (hk : k + 10 < 2305843009213693952) :
    Calls Try.prog 106 #[.pointer (some ⟨g, 0, none⟩), v] w fun e w' => ∃ x : Int, e = .returned (.int .i64 x) ∧ DS w0 base g A cap code (k + 10) w' ∧ w.grownBy w' (some g) := by
  have hgw := hD.lt
  have HD0 := hide hD
  have HD := hide (DS.start hD.cur hD.sz); clear hD
  obtain ⟨A7, c7, rfl, _, _, _⟩ := hO.is
  have HO := hide hO; clear hO
  go_enter Try.func106, Try.ntmps106
  by_cases hz : xs.length = 0
  · have hz1 : (xs.length : Int) = 0 := by omega
    rw [hz]
    clear hz hz1 HO
    go_wp2_with fail
    refine (amongD [0, 1, 500] HD.out (by rfl) (by rfl) (by rfl) (by simp) (by simp) (by omega)).mono ?_; rintro e w1 ⟨x1, rfl, hm, hD, hg⟩
    replace HD := hide hD; clear hD hg
    clear hm
    go_wp2_with fail
    go_ret
    exact ⟨_, rfl, ⟨(HD.out.le (by omega)).cur, grownTrans HD0.out.gr HD.out.gr, HD0.out.hb⟩, HD.out.gr⟩
  · have hz1 : ¬ (xs.length : Int) = 0 := by omega
    have hz2 : ((xs.length : Int) == 0) = false := by simpa using hz1
    go_wp2_with fail
    refine (oneD 10 HD.out (by omega)).mono ?_; rintro e w1 ⟨x1, rfl, hD, hg⟩
    replace HO := hide (HD.out.own HO.out hg (by decide))
    replace HD := hide hD; clear hD hg
    cases x1 with
    | true =>
      clear HO
      go_wp2_with fail
      refine (amongD [0, 1, 500] HD.out (by rfl) (by rfl) (by rfl) (by simp) (by simp) (by omega)).mono ?_; rintro e w2 ⟨x2, rfl, hm, hD, hg⟩
      replace HD := hide hD; clear hD hg
      clear hm
      go_wp2_with fail
      go_ret
      exact ⟨_, rfl, ⟨(HD.out.le (by omega)).cur, grownTrans HD0.out.gr HD.out.gr, HD0.out.hb⟩, HD.out.gr⟩
    | false =>
      go_wp2_with fail
      refine (pickD (xs.length : Int) HD.out (by omega)).mono ?_; rintro e w2 ⟨x2, rfl, p2, q2, hD, hg⟩
      replace HO := hide (HD.out.own HO.out hg (by decide))
      replace HD := hide hD; clear hD hg
      obtain ⟨q, rfl⟩ : ∃ q : Nat, x2 = (q : Int) := ⟨x2.toNat, by omega⟩
      have hq : q < xs.length := by omega
      have hq' : (q : Int) < xs.length := by omega
      obtain ⟨A8, c8, he8, hr8, _, _⟩ := HO.out.is
      injection he8 with e1 e2 e3; subst e1 e3; clear e2
      obtain ⟨b8, off8, rfl, _, f0, _⟩ := SFlat.cells hr8 hq (Below.refl _ _)
      clear hr8
      generalize xs[q].ident = y0 at *
      go_wp2_with fail
      go_ret
      exact ⟨_, rfl, ⟨(HD.out.le (by omega)).cur, grownTrans HD0.out.gr HD.out.gr, HD0.out.hb⟩, HD.out.gr⟩
set_option maxHeartbeats 2000000 in
theorem drawerId_is (w0 w : World) (base g k : Nat) (A : Option Addr) (cap : Nat) (code : List Int) (hD : DS w0 base g A cap code k w) (b : Nat) (v : Value) (xs : List SDr) (hO : OwnDs w b v xs) (hl : xs.length ≤ 1000) (hk : k + 10 < 2305843009213693952) :
    Calls Try.prog 107 #[.pointer (some ⟨g, 0, none⟩), v] w fun e w' => ∃ x : Int, e = .returned (.int .i64 x) ∧ DS w0 base g A cap code (k + 10) w' ∧ w.grownBy w' (some g) := by
  have hgw := hD.lt
  have HD0 := hide hD
  have HD := hide (DS.start hD.cur hD.sz); clear hD
  obtain ⟨A7, c7, rfl, _, _, _⟩ := hO.spine.is
  have HO := hide hO; clear hO
  go_enter Try.func107, Try.ntmps107
  by_cases hz : xs.length = 0
  · have hz1 : (xs.length : Int) = 0 := by omega
    rw [hz]
    clear hz hz1 HO
    go_wp2_with fail
    refine (amongD [0, 1, 50] HD.out (by rfl) (by rfl) (by rfl) (by simp) (by simp) (by omega)).mono ?_; rintro e w1 ⟨x1, rfl, hm, hD, hg⟩
    replace HD := hide hD; clear hD hg
    clear hm
    go_wp2_with fail
    go_ret
    exact ⟨_, rfl, ⟨(HD.out.le (by omega)).cur, grownTrans HD0.out.gr HD.out.gr, HD0.out.hb⟩, HD.out.gr⟩
  · have hz1 : ¬ (xs.length : Int) = 0 := by omega
    have hz2 : ((xs.length : Int) == 0) = false := by simpa using hz1
    go_wp2_with fail
    refine (oneD 10 HD.out (by omega)).mono ?_; rintro e w1 ⟨x1, rfl, hD, hg⟩
    replace HO := hide (HD.out.ownDs HO.out hg)
    replace HD := hide hD; clear hD hg
    cases x1 with
    | true =>
      clear HO
      go_wp2_with fail
      refine (amongD [0, 1, 50] HD.out (by rfl) (by rfl) (by rfl) (by simp) (by simp) (by omega)).mono ?_; rintro e w2 ⟨x2, rfl, hm, hD, hg⟩
      replace HD := hide hD; clear hD hg
      clear hm
      go_wp2_with fail
      go_ret
      exact ⟨_, rfl, ⟨(HD.out.le (by omega)).cur, grownTrans HD0.out.gr HD.out.gr, HD0.out.hb⟩, HD.out.gr⟩
    | false =>
      go_wp2_with fail
      refine (pickD (xs.length : Int) HD.out (by omega)).mono ?_; rintro e w2 ⟨x2, rfl, p2, q2, hD, hg⟩
      replace HO := hide (HD.out.ownDs HO.out hg)
      replace HD := hide hD; clear hD hg
      obtain ⟨q, rfl⟩ : ∃ q : Nat, x2 = (q : Int) := ⟨x2.toNat, by omega⟩
      have hq : q < xs.length := by omega
      have hq' : (q : Int) < xs.length := by omega
      obtain ⟨A8, c8, he8, hr8, _, _⟩ := HO.out.spine.is
      injection he8 with e1 e2 e3; subst e1 e3; clear e2
      obtain ⟨b8, off8, rfl, _, f0, _⟩ := SDr.cells hr8 hq (Below.refl _ _)
      clear hr8
      generalize xs[q].ident = y0 at *
      go_wp2_with fail
      go_ret
      exact ⟨_, rfl, ⟨(HD.out.le (by omega)).cur, grownTrans HD0.out.gr HD.out.gr, HD0.out.hb⟩, HD.out.gr⟩
set_option maxRecDepth 100000 in
set_option maxHeartbeats 4000000 in
theorem drawPutFlat_is (w : World) (v : Value) (A : Option Addr) (cap : Nat) (code : List Int) (h : Code w v A cap code) :
    Calls Try.prog 34 #[v] w fun e w' => ∃ (v u : Value) (fs : List SFlat) (ds : List DrV) (x y : Int), e = .returned (.tuple #[v, u, .int .i64 x, .int .i64 y]) ∧ fitG fs ∧ fs.length ≤ 21 ∧ Is 4 SFlat.enc w' v fs ∧ IsD w' u ds ∧ Below w.heap.size w w' := by
  have hD := DS.new h
  obtain rfl := h.eq
  have HD := hide hD; clear hD h
  have hgw : w.heap.size < (w.alloc (.cells #[.slice A code.length cap, .int .i64 0, .int .u64 0] 90)).heap.size := by simp
  go_enter Try.func34, Try.ntmps34
  go_wp2_with fail
  generalize hgs : w.heap.size = g at *
  generalize hw0 : w.alloc (.cells #[.slice A code.length cap, .int .i64 0, .int .u64 0] 90) = w0 at *
  refine (flats_is w0 _ g g _ A cap code HD.out (by omega)).mono ?_; rintro e w1 ⟨v1, fs, rfl, hfit, hl, ho, hD, hg⟩
  replace HD := hide hD; clear hD hg
  have HX := hide ho; clear ho
  have hfg : fitG fs := hfit
  have HWF := hide hfg; clear hfit hfg
  go_wp2_with fail
  refine (drawers_is w0 _ g g _ A cap code HD.out _ v1 fs HX.out hl HWF.out (by omega)).mono ?_; rintro e w2 ⟨v2, qs, rfl, hql, ho, hD, hg⟩
  replace HX := hide (HD.out.own HX.out hg (by decide))
  replace HD := hide hD; clear hD hg
  have HO := hide ho; clear ho
  go_wp2_with fail
  refine (flatId_is w0 _ g g _ A cap code HD.out _ _ _ HX.out (by omega) (by omega)).mono ?_; rintro e w3 ⟨px, rfl, hD, hg⟩
  replace HX := hide (HD.out.own HX.out hg (by decide)); replace HO := hide (HD.out.ownDs HO.out hg)
  replace HD := hide hD; clear hD hg
  go_wp2_with fail
  refine (drawerId_is w0 _ g g _ A cap code HD.out _ _ _ HO.out (by omega) (by omega)).mono ?_; rintro e w4 ⟨py, rfl, hD, hg⟩
  replace HX := hide (HD.out.own HX.out hg (by decide)); replace HO := hide (HD.out.ownDs HO.out hg)
  replace HD := hide hD; clear hD hg
  go_wp2_with fail
  (try simp only [Exit.inBlock, Exit.then]); refine bodyPost_ret (results_tmp4_d rfl _ _ _) rfl ?_
  subst hw0 hgs
  exact ⟨_, _, _, _, _, _, rfl, HWF.out, hl, HX.out.is, HO.out.isD, HD.out.end⟩
set_option maxRecDepth 100000 in
set_option maxHeartbeats 4000000 in
theorem drawDoesFit_is (w : World) (v : Value) (A : Option Addr) (cap : Nat) (code : List Int) (h : Code w v A cap code) :
    Calls Try.prog 43 #[v] w fun e w' => ∃ (z0 z1 z2 z3 d0 d1 d2 d3 : Int), e = .returned (.tuple #[.agg #[.int .i64 z0, .int .i64 z1, .int .i64 z2, .int .i64 z3], .agg #[.int .i64 d0, .int .i64 d1, .int .i64 d2, .int .i64 d3, .slice none 0 0]]) ∧ Below w.heap.size w w' := by
  have hk1 := (Blk.new w 68 #[.int .i64 0, .int .i64 0, .int .i64 0, .int .i64 0]).alloc (.cells #[.int .i64 0, .int .i64 0, .int .i64 0, .int .i64 0, .slice none 0 0] 70)
  have hk2 := Blk.new (w.alloc (.cells #[.int .i64 0, .int .i64 0, .int .i64 0, .int .i64 0] 68)) 70 #[.int .i64 0, .int .i64 0, .int .i64 0, .int .i64 0, .slice none 0 0]
  rw [World.size_alloc] at hk2
  have hbz := (below_alloc w (.cells #[.int .i64 0, .int .i64 0, .int .i64 0, .int .i64 0] 68)).alloc (by simp) (.cells #[.int .i64 0, .int .i64 0, .int .i64 0, .int .i64 0, .slice none 0 0] 70)
  have hcz := h.below hbz (Nat.le_refl _)
  have hgz : w.heap.size + 1 < ((w.alloc (.cells #[.int .i64 0, .int .i64 0, .int .i64 0, .int .i64 0] 68)).alloc (.cells #[.int .i64 0, .int .i64 0, .int .i64 0, .int .i64 0, .slice none 0 0] 70)).heap.size := by simp
  generalize hwz : (w.alloc (.cells #[.int .i64 0, .int .i64 0, .int .i64 0, .int .i64 0] 68)).alloc (.cells #[.int .i64 0, .int .i64 0, .int .i64 0, .int .i64 0, .slice none 0 0] 70) = wz at *
  obtain rfl := h.eq
  have HCZ := hide hcz; have HK1 := hide hk1; have HK2 := hide hk2; have HZ := hide hbz; clear h hcz hk1 hk2 hbz
  go_enter Try.func43, Try.ntmps43
  go_upto_region 1 with fail
  (try simp only [hwz])
  clear hwz
  have HD := hide (DS.new HCZ.out)
  have hgw : wz.heap.size < (wz.alloc (.cells #[.slice A code.length cap, .int .i64 0, .int .u64 0] 90)).heap.size := by simp
  go_upto_region 2 with fail
  generalize hb0 : w.heap.size = b0 at *
  have HEQ := hide hb0
  generalize hgs : wz.heap.size = g at *
  generalize hw0 : wz.alloc (.cells #[.slice A code.length cap, .int .i64 0, .int .u64 0] 90) = w0 at *
  go_wp2_with fail
  refine (flat5_is w0 _ g g _ A cap code HD.out 1 (by omega)).mono ?_; rintro e w1 ⟨⟨z0, z1, z2, z3⟩, rfl, hf, hD, hg⟩
  replace HD := hide hD; clear hD hg hf
  go_wp2_with fail
  refine (drawer5_is w0 _ g g _ A cap code HD.out 1 (by omega)).mono ?_; rintro e w2 ⟨d0, d1, d2, d3, rfl, hD, hg⟩
  replace HD := hide hD; clear hD hg
  have hend : Below g wz w2 := by subst hw0 hgs; exact HD.out.end
  have K1 := HK1.out.below hend (by omega)
  have K2 := HK2.out.below hend (by omega)
  have HBF := hide (HZ.out.trans (hend.mono (by omega))); clear hend
  obtain ⟨c0, c1, c2, c3⟩ := fl4 K1
  obtain ⟨e0, e1, e2, e3, e4⟩ := dr5 K2
  have cf := fun o => K1.frozen o
  have ef := fun o => K2.frozen o
  have HK1 := hide K1; have HK2 := hide K2; clear K1 K2
  have nb : ¬ b0 = b0 + 1 := by omega
  have nb2 : ¬ b0 + 1 = b0 := by omega
  go_wp2_with fail
  have hF := (((((((((HK1.out.set 0 (.int .i64 z0)).set 1 (.int .i64 z1)).set 2 (.int .i64 z2)).set 3 (.int .i64 z3)).far (p := ⟨b0 + 1, 0, none⟩) (by simp only; omega) (.int .i64 d0)).far (p := ⟨b0 + 1, 1, none⟩) (by simp only; omega) (.int .i64 d1)).far (p := ⟨b0 + 1, 2, none⟩) (by simp only; omega) (.int .i64 d2)).far (p := ⟨b0 + 1, 3, none⟩) (by simp only; omega) (.int .i64 d3)).far (p := ⟨b0 + 1, 4, none⟩) (by simp only; omega) (.slice none 0 0))
  have hG := (((((((((HK2.out.far (p := ⟨b0, 0, none⟩) (by simp only; omega) (.int .i64 z0)).far (p := ⟨b0, 1, none⟩) (by simp only; omega) (.int .i64 z1)).far (p := ⟨b0, 2, none⟩) (by simp only; omega) (.int .i64 z2)).far (p := ⟨b0, 3, none⟩) (by simp only; omega) (.int .i64 z3)).set 0 (.int .i64 d0)).set 1 (.int .i64 d1)).set 2 (.int .i64 d2)).set 3 (.int .i64 d3)).set 4 (.slice none 0 0))
  have f0 := hF.cell 0; have f1 := hF.cell 1; have f2 := hF.cell 2; have f3 := hF.cell 3
  simp at f0 f1 f2 f3
  have g0 := hG.cell 0; have g1 := hG.cell 1; have g2 := hG.cell 2; have g3 := hG.cell 3; have g4 := hG.cell 4
  simp at g0 g1 g2 g3 g4
  exact bodyPost_ret (v := .tuple #[.agg #[.int .i64 z0, .int .i64 z1, .int .i64 z2, .int .i64 z3], .agg #[.int .i64 d0, .int .i64 d1, .int .i64 d2, .int .i64 d3, .slice none 0 0]]) (by simp [results, Try.results43, go_sem, f0, f1, f2, f3, g0, g1, g2, g3, g4]) rfl ⟨_, _, _, _, _, _, _, _, rfl, by rw [HEQ.out]; exact (((((((((HBF.out.setCell (p := ⟨b0, 0, none⟩) (by simp only; omega) (.int .i64 z0)).setCell (p := ⟨b0, 1, none⟩) (by simp only; omega) (.int .i64 z1)).setCell (p := ⟨b0, 2, none⟩) (by simp only; omega) (.int .i64 z2)).setCell (p := ⟨b0, 3, none⟩) (by simp only; omega) (.int .i64 z3)).setCell (p := ⟨b0 + 1, 0, none⟩) (by simp only; omega) (.int .i64 d0)).setCell (p := ⟨b0 + 1, 1, none⟩) (by simp only; omega) (.int .i64 d1)).setCell (p := ⟨b0 + 1, 2, none⟩) (by simp only; omega) (.int .i64 d2)).setCell (p := ⟨b0 + 1, 3, none⟩) (by simp only; omega) (.int .i64 d3)).setCell (p := ⟨b0 + 1, 4, none⟩) (by simp only; omega) (.slice none 0 0))⟩
end Go.Proofs.Ytdbcilinoieabaa
