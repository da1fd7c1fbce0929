/- Contracts of one turn and one turn back in spec. Conditions: valid turns, bounds of the numbers (Bd k for k up to 3). -/
import Derived.Test.YtdbcilinoieabaaL4F
namespace Go.Proofs.Ytdbcilinoieabaa
open Go.RowKit
set_option linter.unusedVariables false
theorem rot_mod4 {t : STurn} (ht : t.ok) {s : SSpot} : rot ((4 - t.q) % 4).toNat s = rot (4 - t.q).toNat s := by
  obtain ⟨q0, q1, _⟩ := ht
  by_cases h : t.q = 0
  · rw [h]; exact (rot_four s).symm
  · rw [Int.emod_eq_of_lt (by omega) (by omega)]
set_option maxHeartbeats 400000 in
theorem l4On_any (k : Nat) (s : SSpot) (t : STurn) (w : World) (hk : k ≤ 3) (h : Bd k s) (ht : t.ok) :
    Calls Try.prog 166 #[.agg #[.int .i64 t.q, .int .i64 t.num, .int .i64 t.den, .int .i64 t.e, .int .i64 t.n], .agg #[.int .i64 s.x, .int .i64 s.y, .int .i64 s.den]] w fun r w' => r = .returned (.agg #[.int .i64 (led t s).x, .int .i64 (led t s).y, .int .i64 (led t s).den]) ∧ Below w.heap.size w w' := by
  have hr := ledR_bound ht h
  have hb := bd_le hk h
  have hrb := bd_le4 (show k + 1 ≤ 4 by omega) hr
  have hrot := rot_bound t.q.toNat hb.2.2.1 hb.2.2.2
  have clow := fun W => l4Lowest_any (ledR t s) W hrb.1 (by omega) (by omega) (by omega)
  have hq : ((t.q.toNat : Nat) : Int) = t.q := by have := ht.1; omega
  have crot := fun W => l4Rotate_any s t.q.toNat 3300000000 W (by have := ht.2.1; omega) (by omega) hb.2.2.1 hb.2.2.2
  rw [hq] at crot
  have hu : ledR t s = ⟨(rot t.q.toNat s).x * t.num + t.e * (s.den * t.den), (rot t.q.toNat s).y * t.num + t.n * (s.den * t.den), s.den * t.den⟩ := by simp only [ledR, rot_den]
  have hlow := low_bound hrb.1 hrb.2.1 hrb.2.2.1 hrb.2.2.2
  unfold led
  generalize low (ledR t s) = v at *
  rw [hu] at clow hrb
  simp only at clow hrb
  clear hu hr h hq
  generalize rot t.q.toNat s = p at *
  obtain ⟨q0, q1, n0, n1, d0, d1, e0, e1, f0, f1⟩ := ht
  obtain ⟨s0, s1, sx, sy⟩ := hb
  have m1 := mul_bound hrot.1 (m := t.num) ⟨by omega, n1⟩
  have m2 := mul_bound hrot.2 (m := t.num) ⟨by omega, n1⟩
  have m3 := hrb.1; have m4 := hrb.2.1
  have m5 := mul_bound' (x := t.e) (m := s.den * t.den) (c := 160000) ⟨e0, e1⟩ ⟨by omega, by omega⟩
  have m6 := mul_bound' (x := t.n) (m := s.den * t.den) (c := 160000) ⟨f0, f1⟩ ⟨by omega, by omega⟩
  clear hrb
  obtain ⟨x, y, den⟩ := s
  obtain ⟨vx, vy, vd⟩ := v
  obtain ⟨px, py, pd⟩ := p
  obtain ⟨tq, tnum, tden, te, tn⟩ := t
  simp only at *
  obtain ⟨m11, m12⟩ : -66000000000 ≤ px * tnum ∧ px * tnum ≤ 66000000000 := by omega
  obtain ⟨m21, m22⟩ : -66000000000 ≤ py * tnum ∧ py * tnum ≤ 66000000000 := by omega
  obtain ⟨m51, m52⟩ : -16000000000 ≤ te * (den * tden) ∧ te * (den * tden) ≤ 16000000000 := by omega
  obtain ⟨m61, m62⟩ : -16000000000 ≤ tn * (den * tden) ∧ tn * (den * tden) ≤ 16000000000 := by omega
  clear m1 m2 m5 m6
  obtain ⟨⟨px0, px1⟩, ⟨py0, py1⟩⟩ := hrot
  obtain ⟨v0, v1, ⟨v2, v3⟩, ⟨v4, v5⟩⟩ := hlow
  obtain ⟨sx0, sx1⟩ := sx; obtain ⟨sy0, sy1⟩ := sy
  have w0 : IntKind.i64.wrap vx = vx := IntWalk.i64_in _ (by omega)
  have w1 : IntKind.i64.wrap vy = vy := IntWalk.i64_in _ (by omega)
  have w2 : IntKind.i64.wrap vd = vd := IntWalk.i64_in _ (by omega)
  have HWV := hide (And.intro w0 (And.intro w1 w2)); clear w0 w1 w2 v0 v1 v2 v3 v4 v5
  have CR := hide crot; have CL := hide clow; clear crot clow
  generalize hB : w.heap.size = B
  obtain ⟨hk0, hk1, hk2, hbe, hsz⟩ := three_blks w 99 28 28 #[.int .i64 tq, .int .i64 tnum, .int .i64 tden, .int .i64 te, .int .i64 tn] #[.int .i64 x, .int .i64 y, .int .i64 den] #[.int .i64 0, .int .i64 0, .int .i64 0] hB
  have HB := hide hB
  go_enter Try.func166, Try.ntmps166
  go_upto_region 1 with fail
  generalize ((w.alloc (.cells #[.int .i64 tq, .int .i64 tnum, .int .i64 tden, .int .i64 te, .int .i64 tn] 99)).alloc (.cells #[.int .i64 x, .int .i64 y, .int .i64 den] 28)).alloc (.cells #[.int .i64 0, .int .i64 0, .int .i64 0] 28) = W0 at *
  obtain ⟨g0, g1, g2, g3, g4⟩ := turn5 hk0
  obtain ⟨c0, c1, c2, hf⟩ := spot3 hk1
  have HK0 := hide hk0; have HK1 := hide hk1; have HK2 := hide hk2; have HBE := hide hbe; have HSZ := hide hsz
  clear hk0 hk1 hk2 hbe hsz
  go_wp2_with fail
  refine (CR.out _).mono ?_; rintro e w3 ⟨rfl, hb3⟩
  have hs3 := hb3.size
  rw [HSZ.out] at hs3
  have K0 := HK0.out.below hb3 (by rw [HSZ.out]; omega)
  have K2 := HK2.out.below hb3 (by rw [HSZ.out]; omega)
  have B3 := bstep HBE.out hb3 (by rw [HSZ.out]; omega)
  clear c0 c1 c2 hf g0 g1 g2 g3 g4 HK0 HK1 HK2 HBE hb3
  have J0 := K0.alloc (.cells #[.int .i64 px, .int .i64 py, .int .i64 den] 28)
  have J2 := K2.alloc (.cells #[.int .i64 px, .int .i64 py, .int .i64 den] 28)
  have B5 := B3.alloc (show B ≤ w3.heap.size by omega) (.cells #[.int .i64 px, .int .i64 py, .int .i64 den] 28)
  have J3 := Blk.new w3 28 #[.int .i64 px, .int .i64 py, .int .i64 den]
  clear K0 K2 B3
  have hs5 : (w3.alloc (.cells #[.int .i64 px, .int .i64 py, .int .i64 den] 28)).heap.size = w3.heap.size + 1 := by simp
  go_upto_region 2 with fail
  generalize w3.alloc (.cells #[.int .i64 px, .int .i64 py, .int .i64 den] 28) = W5 at *
  generalize w3.heap.size = G at *
  obtain ⟨g0, g1, g2, g3, g4⟩ := turn5 J0
  obtain ⟨c0, c1, c2, hf⟩ := spot3 J3
  have HJ2 := hide J2; have HB5 := hide B5; clear J0 J2 J3 B5
  go_wp2_with fail
  refine (CL.out _).mono ?_; rintro e w4 ⟨rfl, hb4⟩
  have K2 := HJ2.out.below hb4 (by omega)
  have B7 := bstep HB5.out hb4 (by omega)
  obtain ⟨r0, r1, r2, rf⟩ := spot3 K2
  clear c0 c1 c2 hf g0 g1 g2 g3 g4
  have HB7 := hide B7; have HK2 := hide K2; clear B7 K2 hb4
  obtain ⟨u0, u1, u2⟩ := HWV.out
  go_wp2_with fail
  exact bodyPost_ret (v := .agg #[.int .i64 vx, .int .i64 vy, .int .i64 vd]) (by simp [results, Try.results166, go_sem, u0, u1, u2, r0, r1, r2]) rfl ⟨rfl, below3 HB7.out (by omega) _ _ _⟩
set_option maxHeartbeats 400000 in
theorem l4Back_any (k : Nat) (s : SSpot) (t : STurn) (w : World) (hk : k ≤ 3) (h : Bd k s) (ht : t.ok) :
    Calls Try.prog 79 #[.agg #[.int .i64 t.q, .int .i64 t.num, .int .i64 t.den, .int .i64 t.e, .int .i64 t.n], .agg #[.int .i64 s.x, .int .i64 s.y, .int .i64 s.den]] w fun r w' => r = .returned (.agg #[.int .i64 (back t s).x, .int .i64 (back t s).y, .int .i64 (back t s).den]) ∧ Below w.heap.size w w' := by
  have hwb := backW_bound ht h
  have hr := backR_bound ht h
  have hb := bd_le hk h
  have hrb := bd_le4 (show k + 1 ≤ 4 by omega) hr
  have hwb4 := bd_le4 (show k + 1 ≤ 4 by omega) hwb
  have clow := fun W => l4Lowest_any (backR t s) W hrb.1 (by omega) (by omega) (by omega)
  have hq : ((((4 - t.q) % 4).toNat : Nat) : Int) = (4 - t.q) % 4 := by omega
  have crot := fun W => l4Rotate_any (backW t s) ((4 - t.q) % 4).toNat 80000000000 W (by omega) (by omega) hwb4.2.2.1 hwb4.2.2.2
  rw [hq, rot_mod4 ht, show (4 - t.q) % 4 = -t.q % 4 by omega] at crot
  have hu : backR t s = ⟨(rot (4 - t.q).toNat (backW t s)).x, (rot (4 - t.q).toNat (backW t s)).y, (backW t s).den⟩ := by unfold backR; apply SSpot.ext' <;> simp only [rot_den]
  have hlow := low_bound hrb.1 hrb.2.1 hrb.2.2.1 hrb.2.2.2
  unfold back
  generalize low (backR t s) = v at *
  rw [hu] at clow
  simp only at clow
  clear hu hr h hq hrb hwb
  generalize rot (4 - t.q).toNat (backW t s) = p at *
  obtain ⟨q0, q1, n0, n1, d0, d1, e0, e1, f0, f1⟩ := ht
  obtain ⟨s0, s1, sx, sy⟩ := hb
  simp only [backW] at crot clow hwb4
  have m3 := hwb4.1; have m4 := hwb4.2.1; have m1 := hwb4.2.2.1; have m2 := hwb4.2.2.2
  have m5 := mul_bound' (x := t.e) (m := s.den) (c := 8000) ⟨e0, e1⟩ ⟨by omega, by omega⟩
  have m6 := mul_bound' (x := t.n) (m := s.den) (c := 8000) ⟨f0, f1⟩ ⟨by omega, by omega⟩
  clear hwb4
  obtain ⟨x, y, den⟩ := s
  obtain ⟨vx, vy, vd⟩ := v
  obtain ⟨px, py, pd⟩ := p
  obtain ⟨tq, tnum, tden, te, tn⟩ := t
  simp only at *
  obtain ⟨m11, m12⟩ := m1; obtain ⟨m21, m22⟩ := m2
  obtain ⟨m51, m52⟩ : -800000000 ≤ te * den ∧ te * den ≤ 800000000 := by omega
  obtain ⟨m61, m62⟩ : -800000000 ≤ tn * den ∧ tn * den ≤ 800000000 := by omega
  clear m5 m6
  obtain ⟨v0, v1, ⟨v2, v3⟩, ⟨v4, v5⟩⟩ := hlow
  obtain ⟨sx0, sx1⟩ := sx; obtain ⟨sy0, sy1⟩ := sy
  have w0 : IntKind.i64.wrap vx = vx := IntWalk.i64_in _ (by omega)
  have w1 : IntKind.i64.wrap vy = vy := IntWalk.i64_in _ (by omega)
  have w2 : IntKind.i64.wrap vd = vd := IntWalk.i64_in _ (by omega)
  have HWV := hide (And.intro w0 (And.intro w1 w2)); clear w0 w1 w2 v0 v1 v2 v3 v4 v5
  have CR := hide crot; have CL := hide clow; clear crot clow
  generalize hB : w.heap.size = B
  obtain ⟨hk0, hk1, hk2, hbe, hsz⟩ := three_blks w 99 28 28 #[.int .i64 tq, .int .i64 tnum, .int .i64 tden, .int .i64 te, .int .i64 tn] #[.int .i64 x, .int .i64 y, .int .i64 den] #[.int .i64 0, .int .i64 0, .int .i64 0] hB
  have HB := hide hB
  go_enter Try.func79, Try.ntmps79
  go_upto_region 1 with fail
  generalize ((w.alloc (.cells #[.int .i64 tq, .int .i64 tnum, .int .i64 tden, .int .i64 te, .int .i64 tn] 99)).alloc (.cells #[.int .i64 x, .int .i64 y, .int .i64 den] 28)).alloc (.cells #[.int .i64 0, .int .i64 0, .int .i64 0] 28) = W0 at *
  obtain ⟨g0, g1, g2, g3, g4⟩ := turn5 hk0
  obtain ⟨c0, c1, c2, hf⟩ := spot3 hk1
  have HK0 := hide hk0; have HK1 := hide hk1; have HK2 := hide hk2; have HBE := hide hbe; have HSZ := hide hsz
  clear hk0 hk1 hk2 hbe hsz
  have A1 := HK0.out.alloc (.cells #[.int .i64 ((x - te * den) * tden), .int .i64 ((y - tn * den) * tden), .int .i64 (den * tnum)] 28)
  have A2 := HK2.out.alloc (.cells #[.int .i64 ((x - te * den) * tden), .int .i64 ((y - tn * den) * tden), .int .i64 (den * tnum)] 28)
  have A3 := Blk.new W0 28 #[.int .i64 ((x - te * den) * tden), .int .i64 ((y - tn * den) * tden), .int .i64 (den * tnum)]
  have A4 := HBE.out.alloc (show B ≤ W0.heap.size by rw [HSZ.out]; omega) (.cells #[.int .i64 ((x - te * den) * tden), .int .i64 ((y - tn * den) * tden), .int .i64 (den * tnum)] 28)
  have HA1 := hide A1; have HA2 := hide A2; have HA3 := hide A3; have HA4 := hide A4
  clear A1 A2 A3 A4
  go_upto_region 2 with fail
  have hs5 : (W0.alloc (.cells #[.int .i64 ((x - te * den) * tden), .int .i64 ((y - tn * den) * tden), .int .i64 (den * tnum)] 28)).heap.size = B + 4 := by simp [HSZ.out]
  have A1 := HA1.out; have A2 := HA2.out; have A3 := HA3.out; have A4 := HA4.out
  clear HA1 HA2 HA3 HA4 HK0 HK1 HK2 HBE c0 c1 c2 hf g0 g1 g2 g3 g4
  rw [HSZ.out] at A3
  generalize W0.alloc (.cells #[.int .i64 ((x - te * den) * tden), .int .i64 ((y - tn * den) * tden), .int .i64 (den * tnum)] 28) = W5 at *
  have hs0 := HSZ.out
  generalize W0.heap.size = G at *
  subst hs0
  obtain ⟨g0, g1, g2, g3, g4⟩ := turn5 A1
  obtain ⟨c0, c1, c2, hf⟩ := spot3 A3
  have HA2 := hide A2; have HA3 := hide A3; have HA4 := hide A4; clear A1 A2 A3 A4
  go_wp2_with fail
  refine (CR.out _).mono ?_; rintro e w3 ⟨rfl, hb3⟩
  have hs3 := hb3.size
  have K0 := HA3.out.below hb3 (by omega)
  have K2 := HA2.out.below hb3 (by omega)
  have B3 := bstep HA4.out hb3 (by omega)
  clear c0 c1 c2 hf g0 g1 g2 g3 g4 HA2 HA3 HA4 hb3
  obtain ⟨c0, c1, c2, hf⟩ := spot3 K0
  go_upto_region 3 with fail
  obtain ⟨W6, h6⟩ : ∃ W6, W6 = (((w3.setCell ⟨B + 3, 0, none⟩ (.int .i64 px)).setCell ⟨B + 3, 1, none⟩ (.int .i64 py)).setCell ⟨B + 3, 2, none⟩ (.int .i64 (den * tnum))) := ⟨_, rfl⟩
  have hs6 : W6.heap.size = w3.heap.size := by rw [h6]; simp
  have J0 := set3 K0 (.int .i64 px) (.int .i64 py) (.int .i64 (den * tnum))
  have J2 := far3 K2 (show B + 2 ≠ B + 3 by omega) (.int .i64 px) (.int .i64 py) (.int .i64 (den * tnum))
  have B6 := below3 B3 (show B ≤ B + 3 by omega) (.int .i64 px) (.int .i64 py) (.int .i64 (den * tnum))
  rw [← h6] at J0 J2 B6 ⊢
  clear h6 K0 K2 B3 c0 c1 c2 hf
  obtain ⟨c0, c1, c2, hf⟩ := spot3 J0
  have HJ2 := hide J2; have HB6 := hide B6; clear J0 J2 B6
  go_wp2_with fail
  refine (CL.out _).mono ?_; rintro e w4 ⟨rfl, hb4⟩
  have K2 := HJ2.out.below hb4 (by omega)
  have B7 := bstep HB6.out hb4 (by omega)
  obtain ⟨r0, r1, r2, rf⟩ := spot3 K2
  clear c0 c1 c2 hf
  have HB7 := hide B7; have HK2 := hide K2; clear B7 K2 hb4
  obtain ⟨u0, u1, u2⟩ := HWV.out
  go_wp2_with fail
  exact bodyPost_ret (v := .agg #[.int .i64 vx, .int .i64 vy, .int .i64 vd]) (by simp [results, Try.results79, go_sem, u0, u1, u2, r0, r1, r2]) rfl ⟨rfl, below3 HB7.out (by omega) _ _ _⟩
end Go.Proofs.Ytdbcilinoieabaa
