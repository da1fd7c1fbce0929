/- Contract of back in impl. Conditions: valid turns, bounds of the numbers (Bd k for k up to 3). -/
import Derived.Test.YtdbcilinoieabaaL4D
namespace Go.Proofs.Ytdbcilinoieabaa
open Go.RowKit
set_option linter.unusedVariables false
set_option maxHeartbeats 400000 in
theorem back_any (k : Nat) (s : SSpot) (t : STurn) (w : World) (hk : k ≤ 3) (h : Bd k s) (ht : t.ok) :
    Calls Try.prog 78 #[.agg #[.int .i64 s.x, .int .i64 s.y, .int .i64 s.den], .agg #[.int .i64 t.q, .int .i64 t.num, .int .i64 t.den, .int .i64 t.e, .int .i64 t.n]] w fun r w' => r = .returned (.agg #[.int .i64 (back t s).x, .int .i64 (back t s).y, .int .i64 (back t s).den]) ∧ Below w.heap.size w w' := by
  have hwb := backW_bound ht h
  have hr := backR_bound ht h
  have hb := bd_le hk h
  have hrb := bd_le4 (show k + 1 ≤ 4 by omega) hr
  have hwb4 := bd_le4 (show k + 1 ≤ 4 by omega) hwb
  have clow := fun W => lowest_any (backR t s) W hrb.1 (by omega) (by omega) (by omega)
  have hq : (((4 - t.q).toNat : Nat) : Int) = 4 - t.q := by have := ht.2.1; omega
  have crot := fun W => turned_any (backW t s) (4 - t.q).toNat 80000000000 W (by have := ht.1; omega) (by omega) hwb4.2.2.1 hwb4.2.2.2
  rw [hq] at crot
  have hu : backR t s = ⟨(rot (4 - t.q).toNat (backW t s)).x, (rot (4 - t.q).toNat (backW t s)).y, (backW t s).den⟩ := by unfold backR; apply SSpot.ext' <;> simp only [rot_den]
  have hlow := low_bound hrb.1 hrb.2.1 hrb.2.2.1 hrb.2.2.2
  unfold back
  generalize low (backR t s) = v at *
  rw [hu] at clow
  simp only at clow
  clear hu hr h hq hrb hwb
  generalize rot (4 - t.q).toNat (backW t s) = p at *
  obtain ⟨q0, q1, n0, n1, d0, d1, e0, e1, f0, f1⟩ := ht
  obtain ⟨s0, s1, sx, sy⟩ := hb
  simp only [backW] at crot clow hwb4
  have m3 := hwb4.1; have m4 := hwb4.2.1; have m1 := hwb4.2.2.1; have m2 := hwb4.2.2.2
  have m5 := mul_bound' (x := t.e) (m := s.den) (c := 8000) ⟨e0, e1⟩ ⟨by omega, by omega⟩
  have m6 := mul_bound' (x := t.n) (m := s.den) (c := 8000) ⟨f0, f1⟩ ⟨by omega, by omega⟩
  clear hwb4
  obtain ⟨x, y, den⟩ := s
  obtain ⟨vx, vy, vd⟩ := v
  obtain ⟨px, py, pd⟩ := p
  obtain ⟨tq, tnum, tden, te, tn⟩ := t
  simp only at *
  obtain ⟨m11, m12⟩ := m1; obtain ⟨m21, m22⟩ := m2
  obtain ⟨m51, m52⟩ : -800000000 ≤ te * den ∧ te * den ≤ 800000000 := by omega
  obtain ⟨m61, m62⟩ : -800000000 ≤ tn * den ∧ tn * den ≤ 800000000 := by omega
  clear m5 m6
  obtain ⟨v0, v1, ⟨v2, v3⟩, ⟨v4, v5⟩⟩ := hlow
  obtain ⟨sx0, sx1⟩ := sx; obtain ⟨sy0, sy1⟩ := sy
  have w0 : IntKind.i64.wrap vx = vx := IntWalk.i64_in _ (by omega)
  have w1 : IntKind.i64.wrap vy = vy := IntWalk.i64_in _ (by omega)
  have w2 : IntKind.i64.wrap vd = vd := IntWalk.i64_in _ (by omega)
  have HWV := hide (And.intro w0 (And.intro w1 w2)); clear w0 w1 w2 v0 v1 v2 v3 v4 v5
  have CR := hide crot; have CL := hide clow; clear crot clow
  generalize hB : w.heap.size = B
  obtain ⟨hk0, hk1, hk2, hbe, hsz⟩ := three_blks w 28 99 28 #[.int .i64 x, .int .i64 y, .int .i64 den] #[.int .i64 tq, .int .i64 tnum, .int .i64 tden, .int .i64 te, .int .i64 tn] #[.int .i64 0, .int .i64 0, .int .i64 0] hB
  have HB := hide hB
  go_enter Try.func78, Try.ntmps78
  go_upto_region 1 with fail
  generalize ((w.alloc (.cells #[.int .i64 x, .int .i64 y, .int .i64 den] 28)).alloc (.cells #[.int .i64 tq, .int .i64 tnum, .int .i64 tden, .int .i64 te, .int .i64 tn] 99)).alloc (.cells #[.int .i64 0, .int .i64 0, .int .i64 0] 28) = W0 at *
  obtain ⟨c0, c1, c2, hf⟩ := spot3 hk0
  obtain ⟨g0, g1, g2, g3, g4⟩ := turn5 hk1
  have HK0 := hide hk0; have HK1 := hide hk1; have HK2 := hide hk2; have HBE := hide hbe; have HSZ := hide hsz
  clear hk0 hk1 hk2 hbe hsz
  go_upto_region 3 with fail
  obtain ⟨W5, h5⟩ : ∃ W5, W5 = ((W0.setCell ⟨B, 0, none⟩ (.int .i64 (x - te * den))).setCell ⟨B, 1, none⟩ (.int .i64 (y - tn * den))) := ⟨_, rfl⟩
  have hs5 : W5.heap.size = B + 3 := by rw [h5]; simp [HSZ.out]
  have J0 := (HK0.out.set 0 (.int .i64 (x - te * den))).set 1 (.int .i64 (y - tn * den))
  have J1 := (HK1.out.far (p := ⟨B, 0, none⟩) (show B + 1 ≠ B by omega) (.int .i64 (x - te * den))).far (p := ⟨B, 1, none⟩) (show B + 1 ≠ B by omega) (.int .i64 (y - tn * den))
  have J2 := (HK2.out.far (p := ⟨B, 0, none⟩) (show B + 2 ≠ B by omega) (.int .i64 (x - te * den))).far (p := ⟨B, 1, none⟩) (show B + 2 ≠ B by omega) (.int .i64 (y - tn * den))
  have B5 := (HBE.out.setCell (p := ⟨B, 0, none⟩) (Nat.le_refl B) (.int .i64 (x - te * den))).setCell (p := ⟨B, 1, none⟩) (Nat.le_refl B) (.int .i64 (y - tn * den))
  rw [← h5] at J0 J1 J2 B5 ⊢
  clear h5 HK0 HK1 HK2 HBE c0 c1 c2 hf g0 g1 g2 g3 g4
  change Blk W5 B 28 #[.int .i64 (x - te * den), .int .i64 (y - tn * den), .int .i64 den] at J0
  obtain ⟨c0, c1, c2, hf⟩ := spot3 J0
  obtain ⟨g0, g1, g2, g3, g4⟩ := turn5 J1
  have HJ0 := hide J0; have HJ1 := hide J1; have HJ2 := hide J2; have HB5 := hide B5; clear J0 J1 J2 B5
  go_upto_region 4 with fail
  obtain ⟨W6, h6⟩ : ∃ W6, W6 = (((W5.setCell ⟨B, 0, none⟩ (.int .i64 ((x - te * den) * tden))).setCell ⟨B, 1, none⟩ (.int .i64 ((y - tn * den) * tden))).setCell ⟨B, 2, none⟩ (.int .i64 (den * tnum))) := ⟨_, rfl⟩
  have hs6 : W6.heap.size = B + 3 := by rw [h6]; simp [hs5]
  have J0 := set3 HJ0.out (.int .i64 ((x - te * den) * tden)) (.int .i64 ((y - tn * den) * tden)) (.int .i64 (den * tnum))
  have J1 := far3 HJ1.out (show B + 1 ≠ B by omega) (.int .i64 ((x - te * den) * tden)) (.int .i64 ((y - tn * den) * tden)) (.int .i64 (den * tnum))
  have J2 := far3 HJ2.out (show B + 2 ≠ B by omega) (.int .i64 ((x - te * den) * tden)) (.int .i64 ((y - tn * den) * tden)) (.int .i64 (den * tnum))
  have B6 := below3 HB5.out (Nat.le_refl B) (.int .i64 ((x - te * den) * tden)) (.int .i64 ((y - tn * den) * tden)) (.int .i64 (den * tnum))
  rw [← h6] at J0 J1 J2 B6 ⊢
  clear h6 HJ0 HJ1 HJ2 HB5 c0 c1 c2 g0 g1 g2 g3 g4 hf
  obtain ⟨c0, c1, c2, hf⟩ := spot3 J0
  obtain ⟨g0, g1, g2, g3, g4⟩ := turn5 J1
  have HJ2 := hide J2; have HB6 := hide B6; clear J0 J1 J2 B6
  go_wp2_with fail
  refine (CR.out _).mono ?_; rintro e w3 ⟨rfl, hb3⟩
  go_wp2_with fail
  refine (CL.out _).mono ?_; rintro e w4 ⟨rfl, hb4⟩
  have hs3 := hb3.size
  have K2 := (HJ2.out.below hb3 (by omega)).below hb4 (by omega)
  have B7 := bstep (bstep HB6.out hb3 (by omega)) hb4 (by omega)
  obtain ⟨r0, r1, r2, rf⟩ := spot3 K2
  clear c0 c1 c2 hf g0 g1 g2 g3 g4
  have HB7 := hide B7; have HK2 := hide K2; clear B7 K2 hb4
  obtain ⟨u0, u1, u2⟩ := HWV.out
  go_wp2_with fail
  exact bodyPost_ret (v := .agg #[.int .i64 vx, .int .i64 vy, .int .i64 vd]) (by simp [results, Try.results78, go_sem, u0, u1, u2, r0, r1, r2]) rfl ⟨rfl, below3 HB7.out (by omega) _ _ _⟩
end Go.Proofs.Ytdbcilinoieabaa
