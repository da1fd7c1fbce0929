/- Contracts of led and back in impl. Conditions: valid turns, bounds of the numbers (Bd k for k up to 3). -/
import Derived.Test.YtplemibckjnbhaaDoorL4C
namespace Go.Proofs.YtplemibckjnbhaaDoor
open Go.RowKit
set_option linter.unusedVariables false
theorem bX_le : ∀ k, k ≤ 3 → bX k ≤ 3300000000 ∧ (20 : Int) ^ k ≤ 8000 := fun k hk => by
  have : k = 0 ∨ k = 1 ∨ k = 2 ∨ k = 3 := by omega
  rcases this with rfl | rfl | rfl | rfl <;> simp [bX]
theorem bX_le4 : ∀ k, k ≤ 4 → bX k ≤ 80000000000 ∧ (20 : Int) ^ k ≤ 160000 := fun k hk => by
  have : k = 0 ∨ k = 1 ∨ k = 2 ∨ k = 3 ∨ k = 4 := by omega
  rcases this with rfl | rfl | rfl | rfl | rfl <;> simp [bX]
theorem bd_le {k : Nat} {s : SSpot} (hk : k ≤ 3) (h : Bd k s) : 1 ≤ s.den ∧ s.den ≤ 8000 ∧ (-3300000000 ≤ s.x ∧ s.x ≤ 3300000000) ∧ (-3300000000 ≤ s.y ∧ s.y ≤ 3300000000) := by
  have := bX_le k hk
  obtain ⟨h1, h2, h3, h4⟩ := h
  refine ⟨h1, by omega, ⟨by omega, by omega⟩, ⟨by omega, by omega⟩⟩
theorem bd_le4 {k : Nat} {s : SSpot} (hk : k ≤ 4) (h : Bd k s) : 1 ≤ s.den ∧ s.den ≤ 160000 ∧ (-80000000000 ≤ s.x ∧ s.x ≤ 80000000000) ∧ (-80000000000 ≤ s.y ∧ s.y ≤ 80000000000) := by
  have := bX_le4 k hk
  obtain ⟨h1, h2, h3, h4⟩ := h
  refine ⟨h1, by omega, ⟨by omega, by omega⟩, ⟨by omega, by omega⟩⟩
/-- three blocks laid one after the other -/
theorem three_blks (w : World) (t0 t1 t2 : TypeId) (c0 c1 c2 : Array Value) {B : Nat} (hB : w.heap.size = B) :
    Blk (((w.alloc (.cells c0 t0)).alloc (.cells c1 t1)).alloc (.cells c2 t2)) B t0 c0 ∧ Blk (((w.alloc (.cells c0 t0)).alloc (.cells c1 t1)).alloc (.cells c2 t2)) (B + 1) t1 c1 ∧ Blk (((w.alloc (.cells c0 t0)).alloc (.cells c1 t1)).alloc (.cells c2 t2)) (B + 2) t2 c2 ∧
    Below B w (((w.alloc (.cells c0 t0)).alloc (.cells c1 t1)).alloc (.cells c2 t2)) ∧ (((w.alloc (.cells c0 t0)).alloc (.cells c1 t1)).alloc (.cells c2 t2)).heap.size = B + 3 := by
  subst hB
  refine ⟨((Blk.new w _ _).alloc _).alloc _, ?_, ?_, ((below_alloc w _).alloc (by simp) _).alloc (by simp; omega) _, by simp⟩
  · simpa using (Blk.new (w.alloc (.cells c0 t0)) t1 c1).alloc (.cells c2 t2)
  · simpa using Blk.new ((w.alloc (.cells c0 t0)).alloc (.cells c1 t1)) t2 c2
theorem set3 {w : World} {g : Nat} {t : TypeId} {a b c : Value} (h : Blk w g t #[a, b, c]) (x y z : Value) : Blk (((w.setCell ⟨g, 0, none⟩ x).setCell ⟨g, 1, none⟩ y).setCell ⟨g, 2, none⟩ z) g t #[x, y, z] := ((h.set 0 x).set 1 y).set 2 z
theorem far3 {w : World} {g k : Nat} {t : TypeId} {cs : Array Value} (h : Blk w k t cs) (hne : k ≠ g) (x y z : Value) : Blk (((w.setCell ⟨g, 0, none⟩ x).setCell ⟨g, 1, none⟩ y).setCell ⟨g, 2, none⟩ z) k t cs := ((h.far (p := ⟨g, 0, none⟩) hne x).far (p := ⟨g, 1, none⟩) hne y).far (p := ⟨g, 2, none⟩) hne z
theorem below3 {w w' : World} {B g : Nat} (h : Below B w w') (hg : B ≤ g) (x y z : Value) : Below B w (((w'.setCell ⟨g, 0, none⟩ x).setCell ⟨g, 1, none⟩ y).setCell ⟨g, 2, none⟩ z) := ((h.setCell (p := ⟨g, 0, none⟩) hg x).setCell (p := ⟨g, 1, none⟩) hg y).setCell (p := ⟨g, 2, none⟩) hg z
theorem turn5 {w : World} {g : Nat} {t : TypeId} {a b c d e : Value} (h : Blk w g t #[a, b, c, d, e]) : w.cell? ⟨g, 0, none⟩ = some a ∧ w.cell? ⟨g, 1, none⟩ = some b ∧ w.cell? ⟨g, 2, none⟩ = some c ∧ w.cell? ⟨g, 3, none⟩ = some d ∧ w.cell? ⟨g, 4, none⟩ = some e :=
  ⟨by rw [h.cell]; rfl, by rw [h.cell]; rfl, by rw [h.cell]; rfl, by rw [h.cell]; rfl, by rw [h.cell]; rfl⟩
set_option maxHeartbeats 400000 in
theorem led_any (k : Nat) (s : SSpot) (t : STurn) (w : World) (hk : k ≤ 3) (h : Bd k s) (ht : t.ok) :
    Calls Tryd.prog 101 #[.agg #[.int .i64 s.x, .int .i64 s.y, .int .i64 s.den], .agg #[.int .i64 t.q, .int .i64 t.num, .int .i64 t.den, .int .i64 t.e, .int .i64 t.n]] w fun r w' => r = .returned (.agg #[.int .i64 (led t s).x, .int .i64 (led t s).y, .int .i64 (led t s).den]) ∧ Below w.heap.size w w' := by
  have hr := ledR_bound ht h
  have hb := bd_le hk h
  have hrb := bd_le4 (show k + 1 ≤ 4 by omega) hr
  have hrot := rot_bound t.q.toNat hb.2.2.1 hb.2.2.2
  have clow := fun W => lowest_any (ledR t s) W hrb.1 (by omega) (by omega) (by omega)
  have hq : ((t.q.toNat : Nat) : Int) = t.q := by have := ht.1; omega
  have crot := fun W => turned_any s t.q.toNat 3300000000 W (by have := ht.2.1; omega) (by omega) hb.2.2.1 hb.2.2.2
  rw [hq] at crot
  have hu : ledR t s = ⟨(rot t.q.toNat s).x * t.num + t.e * (s.den * t.den), (rot t.q.toNat s).y * t.num + t.n * (s.den * t.den), s.den * t.den⟩ := by simp only [ledR, rot_den]
  have hlow := low_bound hrb.1 hrb.2.1 hrb.2.2.1 hrb.2.2.2
  unfold led
  generalize low (ledR t s) = v at *
  rw [hu] at clow hrb
  simp only at clow hrb
  clear hu hr h hq
  generalize rot t.q.toNat s = p at *
  obtain ⟨q0, q1, n0, n1, d0, d1, e0, e1, f0, f1⟩ := ht
  obtain ⟨s0, s1, sx, sy⟩ := hb
  have m1 := mul_bound hrot.1 (m := t.num) ⟨by omega, n1⟩
  have m2 := mul_bound hrot.2 (m := t.num) ⟨by omega, n1⟩
  have m3 := hrb.1; have m4 := hrb.2.1
  have m5 := mul_bound' (x := t.e) (m := s.den * t.den) (c := 160000) ⟨e0, e1⟩ ⟨by omega, by omega⟩
  have m6 := mul_bound' (x := t.n) (m := s.den * t.den) (c := 160000) ⟨f0, f1⟩ ⟨by omega, by omega⟩
  clear hrb
  obtain ⟨x, y, den⟩ := s
  obtain ⟨vx, vy, vd⟩ := v
  obtain ⟨px, py, pd⟩ := p
  obtain ⟨tq, tnum, tden, te, tn⟩ := t
  simp only at *
  obtain ⟨m11, m12⟩ : -66000000000 ≤ px * tnum ∧ px * tnum ≤ 66000000000 := by omega
  obtain ⟨m21, m22⟩ : -66000000000 ≤ py * tnum ∧ py * tnum ≤ 66000000000 := by omega
  obtain ⟨m51, m52⟩ : -16000000000 ≤ te * (den * tden) ∧ te * (den * tden) ≤ 16000000000 := by omega
  obtain ⟨m61, m62⟩ : -16000000000 ≤ tn * (den * tden) ∧ tn * (den * tden) ≤ 16000000000 := by omega
  clear m1 m2 m5 m6
  obtain ⟨⟨px0, px1⟩, ⟨py0, py1⟩⟩ := hrot
  obtain ⟨v0, v1, ⟨v2, v3⟩, ⟨v4, v5⟩⟩ := hlow
  obtain ⟨sx0, sx1⟩ := sx; obtain ⟨sy0, sy1⟩ := sy
  have w0 : IntKind.i64.wrap vx = vx := IntWalk.i64_in _ (by omega)
  have w1 : IntKind.i64.wrap vy = vy := IntWalk.i64_in _ (by omega)
  have w2 : IntKind.i64.wrap vd = vd := IntWalk.i64_in _ (by omega)
  have HWV := hide (And.intro w0 (And.intro w1 w2)); clear w0 w1 w2 v0 v1 v2 v3 v4 v5
  have CR := hide crot; have CL := hide clow; clear crot clow
  generalize hB : w.heap.size = B
  obtain ⟨hk0, hk1, hk2, hbe, hsz⟩ := three_blks w 38 35 38 #[.int .i64 x, .int .i64 y, .int .i64 den] #[.int .i64 tq, .int .i64 tnum, .int .i64 tden, .int .i64 te, .int .i64 tn] #[.int .i64 0, .int .i64 0, .int .i64 0] hB
  have HK0 := hide hk0; have HK1 := hide hk1; have HK2 := hide hk2; have HBE := hide hbe; have HB := hide hB; have HSZ := hide hsz
  clear hk0 hk1 hk2 hbe hsz
  go_enter Tryd.func101, Tryd.ntmps101
  go_wp2_with fail
  refine (CR.out _).mono ?_; rintro e w3 ⟨rfl, hb3⟩
  have K0 := HK0.out.below hb3 (by rw [HSZ.out]; omega)
  have K1 := HK1.out.below hb3 (by rw [HSZ.out]; omega)
  have K2 := HK2.out.below hb3 (by rw [HSZ.out]; omega)
  have B3 := bstep HBE.out hb3 (by rw [HSZ.out]; omega)
  have hs3 := hb3.size
  rw [HSZ.out] at hs3
  obtain ⟨c0, c1, c2, hf⟩ := spot3 K0
  clear hb3 HK1 HBE HK0 HK2
  go_upto_region 2 with fail
  obtain ⟨W5, h5⟩ : ∃ W5, W5 = (((w3.setCell ⟨B, 0, none⟩ (.int .i64 px)).setCell ⟨B, 1, none⟩ (.int .i64 py)).setCell ⟨B, 2, none⟩ (.int .i64 den)) := ⟨_, rfl⟩
  have hs5 : W5.heap.size = w3.heap.size := by rw [h5]; simp
  have J0 := set3 K0 (.int .i64 px) (.int .i64 py) (.int .i64 den)
  have J1 := far3 K1 (show B + 1 ≠ B by omega) (.int .i64 px) (.int .i64 py) (.int .i64 den)
  have J2 := far3 K2 (show B + 2 ≠ B by omega) (.int .i64 px) (.int .i64 py) (.int .i64 den)
  have B5 := below3 B3 (Nat.le_refl B) (.int .i64 px) (.int .i64 py) (.int .i64 den)
  rw [← h5] at J0 J1 J2 B5 ⊢
  clear h5 K0 K1 K2 B3 c0 c1 c2 hf
  obtain ⟨c0, c1, c2, hf⟩ := spot3 J0
  obtain ⟨g0, g1, g2, g3, g4⟩ := turn5 J1
  have HJ0 := hide J0; have HJ1 := hide J1; have HJ2 := hide J2; have HB5 := hide B5; clear J0 J1 J2 B5
  go_upto_region 3 with fail
  obtain ⟨W6, h6⟩ : ∃ W6, W6 = (((W5.setCell ⟨B, 0, none⟩ (.int .i64 (px * tnum))).setCell ⟨B, 1, none⟩ (.int .i64 (py * tnum))).setCell ⟨B, 2, none⟩ (.int .i64 (den * tden))) := ⟨_, rfl⟩
  have hs6 : W6.heap.size = W5.heap.size := by rw [h6]; simp
  have J0 := set3 HJ0.out (.int .i64 (px * tnum)) (.int .i64 (py * tnum)) (.int .i64 (den * tden))
  have J1 := far3 HJ1.out (show B + 1 ≠ B by omega) (.int .i64 (px * tnum)) (.int .i64 (py * tnum)) (.int .i64 (den * tden))
  have J2 := far3 HJ2.out (show B + 2 ≠ B by omega) (.int .i64 (px * tnum)) (.int .i64 (py * tnum)) (.int .i64 (den * tden))
  have B6 := below3 HB5.out (Nat.le_refl B) (.int .i64 (px * tnum)) (.int .i64 (py * tnum)) (.int .i64 (den * tden))
  rw [← h6] at J0 J1 J2 B6 ⊢
  clear h6 HJ0 HJ1 HJ2 HB5 c0 c1 c2 g0 g1 g2 g3 g4 hf
  obtain ⟨c0, c1, c2, hf⟩ := spot3 J0
  obtain ⟨g0, g1, g2, g3, g4⟩ := turn5 J1
  have HJ2 := hide J2; have HB6 := hide B6; clear J0 J1 J2 B6
  go_wp2_with fail
  refine (CL.out _).mono ?_; rintro e w4 ⟨rfl, hb4⟩
  have K2 := ((HJ2.out.far (p := ⟨B, 0, none⟩) (show B + 2 ≠ B by omega) (.int .i64 (px * tnum + te * (den * tden)))).far (p := ⟨B, 1, none⟩) (show B + 2 ≠ B by omega) (.int .i64 (py * tnum + tn * (den * tden)))).below hb4 (by simp; omega)
  have B7 := bstep ((HB6.out.setCell (p := ⟨B, 0, none⟩) (Nat.le_refl B) _).setCell (p := ⟨B, 1, none⟩) (Nat.le_refl B) _) hb4 (by simp; omega)
  obtain ⟨r0, r1, r2, rf⟩ := spot3 K2
  clear c0 c1 c2 hf g0 g1 g2 g3 g4
  have HB7 := hide B7; have HK2 := hide K2; clear B7 K2 hb4
  obtain ⟨u0, u1, u2⟩ := HWV.out
  go_wp2_with fail
  exact bodyPost_ret (v := .agg #[.int .i64 vx, .int .i64 vy, .int .i64 vd]) (by simp [results, Tryd.results101, go_sem, u0, u1, u2, r0, r1, r2]) rfl ⟨rfl, below3 HB7.out (by omega) _ _ _⟩
end Go.Proofs.YtplemibckjnbhaaDoor
