/- Contracts of one turn and one turn back in spec. Conditions: valid turns, bounds of the numbers (Bd k for k up to 3). -/
import Derived.Test.YtplemibckjnbhaaDoorL4F
namespace Go.Proofs.YtplemibckjnbhaaDoor
open Go.RowKit
set_option linter.unusedVariables false
theorem rot_mod4 {t : STurn} (ht : t.ok) {s : SSpot} : rot ((4 - t.q) % 4).toNat s = rot (4 - t.q).toNat s := by
  obtain ⟨q0, q1, _⟩ := ht
  by_cases h : t.q = 0
  · rw [h]; exact (rot_four s).symm
  · rw [Int.emod_eq_of_lt (by omega) (by omega)]
set_option maxHeartbeats 400000 in
theorem l4On_any (k : Nat) (s : SSpot) (t : STurn) (w : World) (hk : k ≤ 3) (h : Bd k s) (ht : t.ok) :
    Calls Tryd.prog 126 #[.agg #[.int .i64 t.q, .int .i64 t.num, .int .i64 t.den, .int .i64 t.e, .int .i64 t.n], .agg #[.int .i64 s.x, .int .i64 s.y, .int .i64 s.den]] w fun r w' => r = .returned (.agg #[.int .i64 (led t s).x, .int .i64 (led t s).y, .int .i64 (led t s).den]) ∧ Below w.heap.size w w' := by
  have hr := ledR_bound ht h
  have hb := bd_le hk h
  have hrb := bd_le4 (show k + 1 ≤ 4 by omega) hr
  have hrot := rot_bound t.q.toNat hb.2.2.1 hb.2.2.2
  have clow := fun W => l4Lowest_any (ledR t s) W hrb.1 (by omega) (by omega) (by omega)
  have hq : ((t.q.toNat : Nat) : Int) = t.q := by have := ht.1; omega
  have crot := fun W => l4Rotate_any s t.q.toNat 3300000000 W (by have := ht.2.1; omega) (by omega) hb.2.2.1 hb.2.2.2
  rw [hq] at crot
  have hu : ledR t s = ⟨(rot t.q.toNat s).x * t.num + t.e * (s.den * t.den), (rot t.q.toNat s).y * t.num + t.n * (s.den * t.den), s.den * t.den⟩ := by simp only [ledR, rot_den]
  have hlow := low_bound hrb.1 hrb.2.1 hrb.2.2.1 hrb.2.2.2
  unfold led
  generalize low (ledR t s) = v at *
  rw [hu] at clow hrb
  simp only at clow hrb
  clear hu hr h hq
  generalize rot t.q.toNat s = p at *
  obtain ⟨q0, q1, n0, n1, d0, d1, e0, e1, f0, f1⟩ := ht
  obtain ⟨s0, s1, sx, sy⟩ := hb
  have m1 := mul_bound hrot.1 (m := t.num) ⟨by omega, n1⟩
  have m2 := mul_bound hrot.2 (m := t.num) ⟨by omega, n1⟩
  have m3 := hrb.1; have m4 := hrb.2.1
  have m5 := mul_bound' (x := t.e) (m := s.den * t.den) (c := 160000) ⟨e0, e1⟩ ⟨by omega, by omega⟩
  have m6 := mul_bound' (x := t.n) (m := s.den * t.den) (c := 160000) ⟨f0, f1⟩ ⟨by omega, by omega⟩
  clear hrb
  obtain ⟨x, y, den⟩ := s
  obtain ⟨vx, vy, vd⟩ := v
  obtain ⟨px, py, pd⟩ := p
  obtain ⟨tq, tnum, tden, te, tn⟩ := t
  simp only at *
  obtain ⟨m11, m12⟩ : -66000000000 ≤ px * tnum ∧ px * tnum ≤ 66000000000 := by omega
  obtain ⟨m21, m22⟩ : -66000000000 ≤ py * tnum ∧ py * tnum ≤ 66000000000 := by omega
  obtain ⟨m51, m52⟩ : -16000000000 ≤ te * (den * tden) ∧ te * (den * tden) ≤ 16000000000 := by omega
  obtain ⟨m61, m62⟩ : -16000000000 ≤ tn * (den * tden) ∧ tn * (den * tden) ≤ 16000000000 := by omega
  clear m1 m2 m5 m6
  obtain ⟨⟨px0, px1⟩, ⟨py0, py1⟩⟩ := hrot
  obtain ⟨v0, v1, ⟨v2, v3⟩, ⟨v4, v5⟩⟩ := hlow
  obtain ⟨sx0, sx1⟩ := sx; obtain ⟨sy0, sy1⟩ := sy
  have w0 : IntKind.i64.wrap vx = vx := IntWalk.i64_in _ (by omega)
  have w1 : IntKind.i64.wrap vy = vy := IntWalk.i64_in _ (by omega)
  have w2 : IntKind.i64.wrap vd = vd := IntWalk.i64_in _ (by omega)
  have HWV := hide (And.intro w0 (And.intro w1 w2)); clear w0 w1 w2 v0 v1 v2 v3 v4 v5
  have CR := hide crot; have CL := hide clow; clear crot clow
  generalize hB : w.heap.size = B
  obtain ⟨hk0, hk1, hk2, hbe, hsz⟩ := three_blks w 35 38 38 #[.int .i64 tq, .int .i64 tnum, .int .i64 tden, .int .i64 te, .int .i64 tn] #[.int .i64 x, .int .i64 y, .int .i64 den] #[.int .i64 0, .int .i64 0, .int .i64 0] hB
  have HB := hide hB
  go_enter Tryd.func126, Tryd.ntmps126
  go_upto_region 1 with fail
  generalize ((w.alloc (.cells #[.int .i64 tq, .int .i64 tnum, .int .i64 tden, .int .i64 te, .int .i64 tn] 35)).alloc (.cells #[.int .i64 x, .int .i64 y, .int .i64 den] 38)).alloc (.cells #[.int .i64 0, .int .i64 0, .int .i64 0] 38) = W0 at *
  obtain ⟨g0, g1, g2, g3, g4⟩ := turn5 hk0
  obtain ⟨c0, c1, c2, hf⟩ := spot3 hk1
  have HK0 := hide hk0; have HK1 := hide hk1; have HK2 := hide hk2; have HBE := hide hbe; have HSZ := hide hsz
  clear hk0 hk1 hk2 hbe hsz
  go_wp2_with fail
  refine (CR.out _).mono ?_; rintro e w3 ⟨rfl, hb3⟩
  have hs3 := hb3.size
  rw [HSZ.out] at hs3
  have K0 := HK0.out.below hb3 (by rw [HSZ.out]; omega)
  have K2 := HK2.out.below hb3 (by rw [HSZ.out]; omega)
  have B3 := bstep HBE.out hb3 (by rw [HSZ.out]; omega)
  clear c0 c1 c2 hf g0 g1 g2 g3 g4 HK0 HK1 HK2 HBE hb3
  have J0 := K0.alloc (.cells #[.int .i64 px, .int .i64 py, .int .i64 den] 38)
  have J2 := K2.alloc (.cells #[.int .i64 px, .int .i64 py, .int .i64 den] 38)
  have B5 := B3.alloc (show B ≤ w3.heap.size by omega) (.cells #[.int .i64 px, .int .i64 py, .int .i64 den] 38)
  have J3 := Blk.new w3 38 #[.int .i64 px, .int .i64 py, .int .i64 den]
  clear K0 K2 B3
  have hs5 : (w3.alloc (.cells #[.int .i64 px, .int .i64 py, .int .i64 den] 38)).heap.size = w3.heap.size + 1 := by simp
  go_upto_region 2 with fail
  generalize w3.alloc (.cells #[.int .i64 px, .int .i64 py, .int .i64 den] 38) = W5 at *
  generalize w3.heap.size = G at *
  obtain ⟨g0, g1, g2, g3, g4⟩ := turn5 J0
  obtain ⟨c0, c1, c2, hf⟩ := spot3 J3
  have HJ2 := hide J2; have HB5 := hide B5; clear J0 J2 J3 B5
  go_wp2_with fail
  refine (CL.out _).mono ?_; rintro e w4 ⟨rfl, hb4⟩
  have K2 := HJ2.out.below hb4 (by omega)
  have B7 := bstep HB5.out hb4 (by omega)
  obtain ⟨r0, r1, r2, rf⟩ := spot3 K2
  clear c0 c1 c2 hf g0 g1 g2 g3 g4
  have HB7 := hide B7; have HK2 := hide K2; clear B7 K2 hb4
  obtain ⟨u0, u1, u2⟩ := HWV.out
  go_wp2_with fail
  exact bodyPost_ret (v := .agg #[.int .i64 vx, .int .i64 vy, .int .i64 vd]) (by simp [results, Tryd.results126, go_sem, u0, u1, u2, r0, r1, r2]) rfl ⟨rfl, below3 HB7.out (by omega) _ _ _⟩
end Go.Proofs.YtplemibckjnbhaaDoor
