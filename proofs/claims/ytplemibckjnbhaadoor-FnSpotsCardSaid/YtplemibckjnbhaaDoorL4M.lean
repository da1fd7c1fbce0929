/- Contracts of lowest at a negative denominator, and of FixedSpot, in impl and spec: the Lean function fixV. Conditions: bounds of the numbers, for lowest. -/
import Derived.Test.YtplemibckjnbhaaDoorL4L
import Derived.IntWalk
namespace Go.Proofs.YtplemibckjnbhaaDoor
open Go.RowKit
set_option linter.unusedVariables false
theorem tdiv_lowN {x d e : Int} (h : d ∣ x) (he : e = d) : x.tdiv (-d) = (-x) / e := by
  subst he
  rw [Int.tdiv_neg, tdiv_low h, ← Int.neg_ediv_of_dvd h]
theorem lowest_neg (s : SSpot) (w : World) (h1 : s.den ≤ -1) (hd : -2199023255552 ≤ s.den) (hx : -2199023255552 ≤ s.x ∧ s.x ≤ 2199023255552) (hy : -2199023255552 ≤ s.y ∧ s.y ≤ 2199023255552) :
    Calls Tryd.prog 57 #[.agg #[.int .i64 s.x, .int .i64 s.y, .int .i64 s.den]] w fun e w' => e = .returned (.agg #[.int .i64 (low (negS s)).x, .int .i64 (low (negS s)).y, .int .i64 (low (negS s)).den]) ∧ Below w.heap.size w w' := by
  have hlow := low_bound (s := negS s) (c := 2199023255552) (e := 2199023255552) (by show 1 ≤ -s.den; omega) (by show -s.den ≤ _; omega) (by show _ ≤ -s.x ∧ -s.x ≤ _; omega) (by show _ ≤ -s.y ∧ -s.y ≤ _; omega)
  have t1 : s.x.tdiv (-lowD s) = (low (negS s)).x := tdiv_lowN (lowD_x s) (lowD_neg s)
  have t2 : s.y.tdiv (-lowD s) = (low (negS s)).y := tdiv_lowN (lowD_y s) (lowD_neg s)
  have t3 : s.den.tdiv (-lowD s) = (low (negS s)).den := tdiv_lowN (lowD_den s) (lowD_neg s)
  have hg := lowD_gcdI (s := negS s) (by show 1 ≤ -s.den; omega)
  have hp := lowD_pos (s := negS s) (by show 0 < -s.den; omega)
  have hpu := Int.le_of_dvd (show 0 < -s.den by omega) (show lowD (negS s) ∣ -s.den from lowD_den (negS s))
  rw [lowD_neg] at hg hp hpu
  generalize low (negS s) = v at *
  generalize lowD s = d at *
  obtain ⟨x, y, den⟩ := s
  obtain ⟨vx, vy, vd⟩ := v
  simp only at *
  simp only [negS, Int.neg_neg] at hg
  rw [Int.max_comm (-x) x, Int.max_comm (-y) y, Int.max_comm (-den) den] at hg
  obtain ⟨hx0, hx1⟩ := hx
  obtain ⟨hy0, hy1⟩ := hy
  obtain ⟨v0, v1, ⟨v2, v3⟩, ⟨v4, v5⟩⟩ := hlow
  have ca := fun W => absI_any x W hx0 hx1
  have cb := fun W => absI_any y W hy0 hy1
  have cc := fun W => absI_any den W hd (by omega)
  have b1 := gcdI_le (a := max x (-x)) (b := max y (-y)) (M := 2199023255552) (by omega) (by omega) (by omega) (by omega)
  have cg := fun W => gcd_any (max x (-x)) (max y (-y)) W (by omega) (by omega) (by omega) (by omega)
  generalize gcdI (max x (-x)) (max y (-y)) = g1 at *
  have cg2 := fun W => gcd_any g1 (max den (-den)) W (by omega) (by omega) (by omega) (by omega)
  rw [hg] at cg2
  clear hg b1
  generalize max x (-x) = ax at *; generalize max y (-y) = ay at *; generalize max den (-den) = ad at *
  have CA := hide ca; have CB := hide cb; have CC := hide cc; have CG := hide cg; have CG2 := hide cg2; clear ca cb cc cg cg2
  have hdn : ¬ d = 0 := by omega
  have hneg : den < 0 := by omega
  have hdm : ¬ -d = 0 := by omega
  generalize hB : w.heap.size = B
  have hk0 : Blk ((w.alloc (.cells #[.int .i64 x, .int .i64 y, .int .i64 den] 38)).alloc (.cells #[.int .i64 0, .int .i64 0, .int .i64 0] 38)) B 38 #[.int .i64 x, .int .i64 y, .int .i64 den] := by subst hB; exact (Blk.new w _ _).alloc _
  have hk1 : Blk ((w.alloc (.cells #[.int .i64 x, .int .i64 y, .int .i64 den] 38)).alloc (.cells #[.int .i64 0, .int .i64 0, .int .i64 0] 38)) (B + 1) 38 #[.int .i64 0, .int .i64 0, .int .i64 0] := by subst hB; simpa using Blk.new (w.alloc (.cells #[.int .i64 x, .int .i64 y, .int .i64 den] 38)) 38 #[.int .i64 0, .int .i64 0, .int .i64 0]
  have hbe : Below B w ((w.alloc (.cells #[.int .i64 x, .int .i64 y, .int .i64 den] 38)).alloc (.cells #[.int .i64 0, .int .i64 0, .int .i64 0] 38)) := by subst hB; exact (below_alloc w _).alloc (by simp) _
  have hsz : ((w.alloc (.cells #[.int .i64 x, .int .i64 y, .int .i64 den] 38)).alloc (.cells #[.int .i64 0, .int .i64 0, .int .i64 0] 38)).heap.size = B + 2 := by subst hB; simp
  have HK0 := hide hk0; have HK1 := hide hk1; have HBE := hide hbe; have HB := hide hB; have HSZ := hide hsz
  obtain ⟨c0, c1, c2, _⟩ := spot3 hk0
  have m0 := fun n => later_cell c0 n; have m1 := fun n => later_cell c1 n; have m2 := fun n => later_cell c2 n
  clear hk0 hk1 hbe hsz
  go_enter Tryd.func57, Tryd.ntmps57
  go_wp2_with fail
  (refine wp_region_later (by kernel_rfl) (by kernel_rfl) ?_; (repeat (go_big_quiet_step ((first | (go_at_call 100; (with_reducible exact later_same (CA.out _))) | (go_at_call 100; (with_reducible exact later_same (CB.out _))) | (go_at_call 100; (with_reducible exact later_same (CC.out _))) | (go_at_call 99; (with_reducible exact later_call (CG.out _))) | (go_at_call 99; (with_reducible exact later_call (CG2.out _))))))); refine wpQuiet_nil ?_; intro _ hw'; obtain ⟨nq, hw''⟩ := hw'; subst hw'')
  have e0 := m0 nq; have e1 := m1 nq; have e2 := m2 nq
  have B3 := bstep HBE.out nq.h (by rw [HSZ.out]; omega)
  have K1 := HK1.out.below nq.h (by rw [HSZ.out]; omega)
  generalize nq.W = W2 at *
  have f := spot3 K1
  obtain ⟨f0, f1, f2, ff⟩ := f
  have HK := hide K1; have HB3 := hide B3; clear K1 B3 m0 m1 m2 c0 c1 c2
  go_wp2_with fail
  go_region_held3 (fun w' => w'.cell? ⟨B, 0, none⟩ = some (.int .i64 x) ∧ w'.cell? ⟨B, 1, none⟩ = some (.int .i64 y) ∧ w'.cell? ⟨B, 2, none⟩ = some (.int .i64 den)) (go_keep) (fail)
  all_goals
    go_wp2_with fail
    have w0 : IntKind.i64.wrap vx = vx := IntWalk.i64_in _ (by omega)
    have w1 : IntKind.i64.wrap vy = vy := IntWalk.i64_in _ (by omega)
    have w2 : IntKind.i64.wrap vd = vd := IntWalk.i64_in _ (by omega)
    exact bodyPost_ret (v := .agg #[.int .i64 vx, .int .i64 vy, .int .i64 vd]) (by simp [results, Tryd.results57, go_sem, w0, w1, w2, f0, f1, f2]) rfl ⟨rfl, (((HB3.out.setCell (p := ⟨B + 1, 0, none⟩) (by simp) _).setCell (p := ⟨B + 1, 1, none⟩) (by simp) _).setCell (p := ⟨B + 1, 2, none⟩) (by simp) _).drew⟩
/-- the bounds of the products in FixedSpot -/
theorem fix_bd {p d e n : Int} (p0 : 1 ≤ p) (p1 : p ≤ 20) (d0 : 1 ≤ d) (d1 : d ≤ 20) (e0 : -99999 ≤ e) (e1 : e ≤ 99999) (n0 : -99999 ≤ n) (n1 : n ≤ 99999) :
    (((-1999980 ≤ e * d ∧ e * d ≤ 1999980) ∧ (-1999980 ≤ n * d ∧ n * d ≤ 1999980)) ∧ ((-1999980 ≤ e * p ∧ e * p ≤ 1999980) ∧ (-1999980 ≤ n * p ∧ n * p ≤ 1999980))) ∧
    (((-39999600 ≤ e * d * d ∧ e * d * d ≤ 39999600) ∧ (-39999600 ≤ n * d * d ∧ n * d * d ≤ 39999600)) ∧ ((-39999600 ≤ e * p * d ∧ e * p * d ≤ 39999600) ∧ (-39999600 ≤ n * p * d ∧ n * p * d ≤ 39999600))) ∧
    ((1 ≤ d * d ∧ d * d ≤ 400) ∧ (1 ≤ p * p ∧ p * p ≤ 400)) := by
  have a1 := mul_bound' (x := e) (m := d) (c := 20) ⟨e0, e1⟩ ⟨by omega, d1⟩
  have a2 := mul_bound' (x := n) (m := d) (c := 20) ⟨n0, n1⟩ ⟨by omega, d1⟩
  have a3 := mul_bound' (x := e) (m := p) (c := 20) ⟨e0, e1⟩ ⟨by omega, p1⟩
  have a4 := mul_bound' (x := n) (m := p) (c := 20) ⟨n0, n1⟩ ⟨by omega, p1⟩
  have b1 := mul_bound (x := e * d) (m := d) (c := 1999980) ⟨by omega, by omega⟩ ⟨by omega, d1⟩
  have b2 := mul_bound (x := n * d) (m := d) (c := 1999980) ⟨by omega, by omega⟩ ⟨by omega, d1⟩
  have b3 := mul_bound (x := e * p) (m := d) (c := 1999980) ⟨by omega, by omega⟩ ⟨by omega, d1⟩
  have b4 := mul_bound (x := n * p) (m := d) (c := 1999980) ⟨by omega, by omega⟩ ⟨by omega, d1⟩
  have c1 := mul_bound (x := d) (m := d) (c := 20) ⟨by omega, by omega⟩ ⟨by omega, d1⟩
  have c2 := mul_bound (x := p) (m := p) (c := 20) ⟨by omega, by omega⟩ ⟨by omega, p1⟩
  have c3 : 0 < d * d := Int.mul_pos (by omega) (by omega)
  have c4 : 0 < p * p := Int.mul_pos (by omega) (by omega)
  omega
/-- what impl asks lowest of, for each number of quarters -/
def fixI (q p d e n : Int) : SSpot :=
  if q = 0 then ⟨e * d, n * d, d - p⟩ else if q = 1 then ⟨e * d * d - n * p * d, n * d * d + e * p * d, d * d + p * p⟩ else if q = 2 then ⟨e * d, n * d, d + p⟩ else ⟨e * d * d + n * p * d, n * d * d - e * p * d, d * d + p * p⟩
theorem fixI_eq {q p d e n : Int} (h : ¬ q = 0) : fixI q p d e n = fixR ⟨q, p, d, e, n⟩ := by
  unfold fixI fixR
  simp only [if_neg h]
  split
  · apply SSpot.ext' <;> simp only <;> grind
  · split
    · rfl
    · apply SSpot.ext' <;> simp only <;> grind
theorem fixI_zero {p d e n : Int} : (0 < d - p → fixI 0 p d e n = fixR ⟨0, p, d, e, n⟩) ∧ (¬ 0 < d - p → negS (fixI 0 p d e n) = fixR ⟨0, p, d, e, n⟩) := by
  refine ⟨fun h => ?_, fun h => ?_⟩
  · unfold fixI fixR; simp only [if_true]; rw [if_pos h]
  · unfold fixI fixR negS; simp only [if_true]; rw [if_neg h]; apply SSpot.ext' <;> simp only <;> grind
theorem fixR_bd (q p d e n : Int) (ht : (⟨q, p, d, e, n⟩ : STurn).ok) (hn : ¬ (q = 0 ∧ p = d)) :
    1 ≤ (fixR ⟨q, p, d, e, n⟩).den ∧ (fixR ⟨q, p, d, e, n⟩).den ≤ 1000 ∧ (-100000000 ≤ (fixR ⟨q, p, d, e, n⟩).x ∧ (fixR ⟨q, p, d, e, n⟩).x ≤ 100000000) ∧ (-100000000 ≤ (fixR ⟨q, p, d, e, n⟩).y ∧ (fixR ⟨q, p, d, e, n⟩).y ≤ 100000000) := by
  have hd := fixR_den (t := ⟨q, p, d, e, n⟩) ht hn
  obtain ⟨q0, q1, p0, p1, d0, d1, e0, e1, n0, n1⟩ := ht
  simp only at q0 q1 p0 p1 d0 d1 e0 e1 n0 n1
  obtain ⟨⟨⟨b1, b2⟩, b3, b4⟩, ⟨⟨b5, b6⟩, b7, b8⟩, b9, b10⟩ := fix_bd p0 p1 d0 d1 e0 e1 n0 n1
  by_cases h0 : q = 0
  · subst h0
    by_cases hlt : 0 < d - p
    · rw [← fixI_zero.1 hlt] at hd ⊢
      unfold fixI at hd ⊢; simp only [if_true] at hd ⊢; omega
    · rw [← fixI_zero.2 hlt] at hd ⊢
      unfold fixI negS at hd ⊢; simp only [if_true] at hd ⊢; omega
  · rw [← fixI_eq h0] at hd ⊢
    unfold fixI at hd ⊢
    by_cases h1 : q = 1
    · subst h1; simp only [if_neg h0, if_true] at hd ⊢; omega
    · by_cases h2 : q = 2
      · subst h2; simp only [if_neg h0, if_neg h1, if_true] at hd ⊢; omega
      · simp only [if_neg h0, if_neg h1, if_neg h2] at hd ⊢; omega
theorem lowI_is (q p d e n : Int) (w : World) (ht : (⟨q, p, d, e, n⟩ : STurn).ok) (hn : ¬ (q = 0 ∧ p = d)) :
    Calls Tryd.prog 57 #[.agg #[.int .i64 (fixI q p d e n).x, .int .i64 (fixI q p d e n).y, .int .i64 (fixI q p d e n).den]] w fun r w' => r = .returned (.agg #[.int .i64 (low (fixR ⟨q, p, d, e, n⟩)).x, .int .i64 (low (fixR ⟨q, p, d, e, n⟩)).y, .int .i64 (low (fixR ⟨q, p, d, e, n⟩)).den]) ∧ Below w.heap.size w w' := by
  have hd := fixR_den (t := ⟨q, p, d, e, n⟩) ht hn
  obtain ⟨q0, q1, p0, p1, d0, d1, e0, e1, n0, n1⟩ := ht
  simp only at q0 q1 p0 p1 d0 d1 e0 e1 n0 n1
  obtain ⟨⟨⟨b1, b2⟩, b3, b4⟩, ⟨⟨b5, b6⟩, b7, b8⟩, b9, b10⟩ := fix_bd p0 p1 d0 d1 e0 e1 n0 n1
  by_cases h0 : q = 0
  · subst h0
    by_cases hlt : 0 < d - p
    · rw [← fixI_zero.1 hlt]
      refine lowest_any _ w ?_ ?_ ?_ ?_ <;> (unfold fixI; simp only [if_true]; omega)
    · rw [← fixI_zero.2 hlt]
      have : ¬ p = d := fun h => hn ⟨rfl, h⟩
      refine lowest_neg _ w ?_ ?_ ?_ ?_ <;> (unfold fixI; simp only [if_true]; omega)
  · rw [← fixI_eq h0]
    by_cases h1 : q = 1
    · subst h1
      refine lowest_any _ w ?_ ?_ ?_ ?_ <;> (unfold fixI; simp only [if_neg h0, if_true]; omega)
    · by_cases h2 : q = 2
      · subst h2
        refine lowest_any _ w ?_ ?_ ?_ ?_ <;> (unfold fixI; simp only [if_neg h0, if_neg h1, if_true]; omega)
      · refine lowest_any _ w ?_ ?_ ?_ ?_ <;> (unfold fixI; simp only [if_neg h0, if_neg h1, if_neg h2]; omega)
theorem turnI_is (q p d e n : Int) (w : World) : Calls Tryd.prog 18 #[.agg #[.int .i64 q, .int .i64 p, .int .i64 d, .int .i64 e, .int .i64 n]] w fun r w' => r = .returned (.bool (turnB q p d e n)) ∧ Below w.heap.size w w' :=
  (IsGridTurn_any q p d e n w).mono fun r w' h => ⟨h.1, by rw [← h.2]; exact below_alloc w _⟩
theorem turnS_is (q p d e n : Int) (w : World) : Calls Tryd.prog 58 #[.agg #[.int .i64 q, .int .i64 p, .int .i64 d, .int .i64 e, .int .i64 n]] w fun r w' => r = .returned (.bool (turnB q p d e n)) ∧ Below w.heap.size w w' :=
  (l4Turn_any q p d e n w).mono fun r w' h => ⟨h.1, by rw [← h.2]; exact below_alloc w _⟩
theorem turnSS_is (q p d e n : Int) (w : World) : Calls Tryd.prog 19 #[.agg #[.int .i64 q, .int .i64 p, .int .i64 d, .int .i64 e, .int .i64 n]] w fun r w' => r = .returned (.bool (turnB q p d e n)) ∧ Below w.heap.size w w' := by
  have HB := hide (below_alloc w (.cells #[.int .i64 q, .int .i64 p, .int .i64 d, .int .i64 e, .int .i64 n] 35))
  go_enter Tryd.func19, Tryd.ntmps19
  go_wp2_with (go_at_call 58; refine (turnS_is _ _ _ _ _ _).mono ?_; rintro e w' ⟨rfl, hb⟩)
  go_ret
  exact ⟨rfl, HB.out.trans (hb.mono (by simp))⟩
set_option maxHeartbeats 4000000 in
theorem FixedSpotI_is (q p d e n : Int) (w : World) :
    Calls Tryd.prog 16 #[.agg #[.int .i64 q, .int .i64 p, .int .i64 d, .int .i64 e, .int .i64 n]] w fun r w' => r = .returned (.tuple #[.agg #[.int .i64 (fixV ⟨q, p, d, e, n⟩).1.x, .int .i64 (fixV ⟨q, p, d, e, n⟩).1.y, .int .i64 (fixV ⟨q, p, d, e, n⟩).1.den], .bool (fixV ⟨q, p, d, e, n⟩).2]) ∧ Below w.heap.size w w' := by
  have hT := fun W => turnI_is q p d e n W
  have hok : STurn.okB ⟨q, p, d, e, n⟩ = turnB q p d e n := rfl
  generalize hB : w.heap.size = B
  obtain ⟨hk0, hk1, hbe, hsz⟩ := two_blks w 35 38 #[.int .i64 q, .int .i64 p, .int .i64 d, .int .i64 e, .int .i64 n] #[.int .i64 0, .int .i64 0, .int .i64 0] hB
  have HB := hide hB
  have HT := hide hT; clear hT
  by_cases hfx : fixB ⟨q, p, d, e, n⟩ = true
  · have hv : fixV ⟨q, p, d, e, n⟩ = (low (fixR ⟨q, p, d, e, n⟩), true) := if_pos hfx
    obtain ⟨ht, hn⟩ := fixB_iff.1 hfx
    simp only at hn
    have htb := STurn.okB_iff.2 ht
    rw [hok] at htb
    rw [htb] at HT
    rw [hv]
    have hcl := fun W => lowI_is q p d e n W ht hn
    have hrb := fixR_bd q p d e n ht hn
    have hlow := low_bound hrb.1 hrb.2.1 hrb.2.2.1 hrb.2.2.2
    obtain ⟨q0, q1, p0, p1, d0, d1, e0, e1, n0, n1⟩ := ht
    simp only at q0 q1 p0 p1 d0 d1 e0 e1 n0 n1
    obtain ⟨⟨⟨⟨a1, a2⟩, a3, a4⟩, ⟨a5, a6⟩, a7, a8⟩, ⟨⟨⟨b1, b2⟩, b3, b4⟩, ⟨b5, b6⟩, b7, b8⟩, ⟨c1, c2⟩, c3, c4⟩ := fix_bd p0 p1 d0 d1 e0 e1 n0 n1
    generalize low (fixR ⟨q, p, d, e, n⟩) = v at *
    obtain ⟨vx, vy, vd⟩ := v
    simp only at hlow hcl
    obtain ⟨v0, v1, ⟨v2, v3⟩, ⟨v4, v5⟩⟩ := hlow
    have z0 : IntKind.i64.wrap vx = vx := IntWalk.i64_in _ (by omega)
    have z1 : IntKind.i64.wrap vy = vy := IntWalk.i64_in _ (by omega)
    have z2 : IntKind.i64.wrap vd = vd := IntWalk.i64_in _ (by omega)
    have HWV := hide (And.intro z0 (And.intro z1 z2)); clear z0 z1 z2 v0 v1 v2 v3 v4 v5 hrb
    clear hfx hv hok htb
    go_enter Tryd.func16, Tryd.ntmps16
    go_upto_region 1 with fail
    generalize (w.alloc (.cells #[.int .i64 q, .int .i64 p, .int .i64 d, .int .i64 e, .int .i64 n] 35)).alloc (.cells #[.int .i64 0, .int .i64 0, .int .i64 0] 38) = w1 at *
    obtain ⟨g0, g1, g2, g3, g4⟩ := turn5 hk0
    obtain ⟨r0, r1, r2, rf⟩ := spot3 hk1
    have HK0 := hide hk0; have HK1 := hide hk1; have HBE := hide hbe; have HSZ := hide hsz
    clear hk0 hk1 hbe hsz r0 r1 r2 rf
    go_wp2_with fail
    refine (HT.out _).mono ?_; rintro e w2 ⟨rfl, hb⟩
    have K0 := HK0.out.below hb (by rw [HSZ.out]; omega)
    have K1 := HK1.out.below hb (by rw [HSZ.out]; omega)
    have B2 := bstep HBE.out hb (by rw [HSZ.out]; omega)
    have hs2 := hb.size
    rw [HSZ.out] at hs2
    clear g0 g1 g2 g3 g4 HK0 HK1 HBE hb
    obtain ⟨g0, g1, g2, g3, g4⟩ := turn5 K0
    obtain ⟨r0, r1, r2, rf⟩ := spot3 K1
    have HK0 := hide K0; have HK1 := hide K1; have HB2 := hide B2; clear K0 K1 B2
    have hq4 : q = 0 ∨ q = 1 ∨ q = 2 ∨ q = 3 := by omega
    clear q0 q1
    rcases hq4 with rfl | rfl | rfl | rfl
    · have hpd : ¬ p = d := fun h => hn ⟨rfl, h⟩
      have hpd2 : (p == d) = false := by simpa using hpd
      have hcc : fixI 0 p d e n = ⟨e * d, n * d, d - p⟩ := by unfold fixI; rw [if_pos rfl]
      rw [hcc] at hcl
      simp only at hcl
      have HCL := hide hcl; clear hcl hcc hn
      go_wp2_with fail
      go_region
      all_goals
        go_wp2_with fail
        refine (HCL.out _).mono ?_; rintro e w4 ⟨rfl, hb4⟩
        have K1 := (show Blk w2.drew (B + 1) 38 #[.int .i64 0, .int .i64 0, .int .i64 0] from HK1.out).below hb4 (by simp; omega)
        have B4 := bstep (HB2.out.drew) hb4 (by simp; omega)
        obtain ⟨s0, s1, s2, sf⟩ := spot3 K1
        have HB4 := hide B4; clear K1 B4 hb4 g0 g1 g2 g3 g4 r0 r1 r2 rf
        obtain ⟨u0, u1, u2⟩ := HWV.out
        go_wp2_with fail
        exact bodyPost_ret (v := .tuple #[.agg #[.int .i64 vx, .int .i64 vy, .int .i64 vd], .bool true]) (by simp [results, Tryd.results16, go_sem, u0, u1, u2, s0, s1, s2]) rfl ⟨rfl, below3 HB4.out (by omega) _ _ _⟩
    · have hcc : fixI 1 p d e n = ⟨e * d * d - n * p * d, n * d * d + e * p * d, d * d + p * p⟩ := by unfold fixI; rw [if_neg (by omega), if_pos rfl]
      rw [hcc] at hcl
      simp only at hcl
      have HCL := hide hcl; clear hcl hcc hn
      go_wp2_with fail
      go_region
      all_goals
        go_wp2_with fail
        refine (HCL.out _).mono ?_; rintro e w4 ⟨rfl, hb4⟩
        have K1 := (show Blk w2.drew (B + 1) 38 #[.int .i64 0, .int .i64 0, .int .i64 0] from HK1.out).below hb4 (by simp; omega)
        have B4 := bstep (HB2.out.drew) hb4 (by simp; omega)
        obtain ⟨s0, s1, s2, sf⟩ := spot3 K1
        have HB4 := hide B4; clear K1 B4 hb4 g0 g1 g2 g3 g4 r0 r1 r2 rf
        obtain ⟨u0, u1, u2⟩ := HWV.out
        go_wp2_with fail
        exact bodyPost_ret (v := .tuple #[.agg #[.int .i64 vx, .int .i64 vy, .int .i64 vd], .bool true]) (by simp [results, Tryd.results16, go_sem, u0, u1, u2, s0, s1, s2]) rfl ⟨rfl, below3 HB4.out (by omega) _ _ _⟩
    · have hcc : fixI 2 p d e n = ⟨e * d, n * d, d + p⟩ := by unfold fixI; rw [if_neg (by omega), if_neg (by omega), if_pos rfl]
      rw [hcc] at hcl
      simp only at hcl
      have HCL := hide hcl; clear hcl hcc hn
      go_wp2_with fail
      go_region
      all_goals
        go_wp2_with fail
        refine (HCL.out _).mono ?_; rintro e w4 ⟨rfl, hb4⟩
        have K1 := (show Blk w2.drew (B + 1) 38 #[.int .i64 0, .int .i64 0, .int .i64 0] from HK1.out).below hb4 (by simp; omega)
        have B4 := bstep (HB2.out.drew) hb4 (by simp; omega)
        obtain ⟨s0, s1, s2, sf⟩ := spot3 K1
        have HB4 := hide B4; clear K1 B4 hb4 g0 g1 g2 g3 g4 r0 r1 r2 rf
        obtain ⟨u0, u1, u2⟩ := HWV.out
        go_wp2_with fail
        exact bodyPost_ret (v := .tuple #[.agg #[.int .i64 vx, .int .i64 vy, .int .i64 vd], .bool true]) (by simp [results, Tryd.results16, go_sem, u0, u1, u2, s0, s1, s2]) rfl ⟨rfl, below3 HB4.out (by omega) _ _ _⟩
    · have hcc : fixI 3 p d e n = ⟨e * d * d + n * p * d, n * d * d - e * p * d, d * d + p * p⟩ := by unfold fixI; rw [if_neg (by omega), if_neg (by omega), if_neg (by omega)]
      rw [hcc] at hcl
      simp only at hcl
      have HCL := hide hcl; clear hcl hcc hn
      go_wp2_with fail
      go_region
      all_goals
        go_wp2_with fail
        refine (HCL.out _).mono ?_; rintro e w4 ⟨rfl, hb4⟩
        have K1 := (show Blk w2.drew (B + 1) 38 #[.int .i64 0, .int .i64 0, .int .i64 0] from HK1.out).below hb4 (by simp; omega)
        have B4 := bstep (HB2.out.drew) hb4 (by simp; omega)
        obtain ⟨s0, s1, s2, sf⟩ := spot3 K1
        have HB4 := hide B4; clear K1 B4 hb4 g0 g1 g2 g3 g4 r0 r1 r2 rf
        obtain ⟨u0, u1, u2⟩ := HWV.out
        go_wp2_with fail
        exact bodyPost_ret (v := .tuple #[.agg #[.int .i64 vx, .int .i64 vy, .int .i64 vd], .bool true]) (by simp [results, Tryd.results16, go_sem, u0, u1, u2, s0, s1, s2]) rfl ⟨rfl, below3 HB4.out (by omega) _ _ _⟩
  · have hv : fixV ⟨q, p, d, e, n⟩ = (⟨0, 0, 0⟩, false) := if_neg hfx
    rw [hv]
    have hno : turnB q p d e n = true → q = 0 ∧ p = d := fun h => by
      rw [fixB_iff, not_and, Classical.not_not] at hfx
      exact hfx (STurn.okB_iff.1 (by rw [hok]; exact h))
    clear hfx hv hok
    generalize turnB q p d e n = tb at *
    go_enter Tryd.func16, Tryd.ntmps16
    go_upto_region 1 with fail
    generalize (w.alloc (.cells #[.int .i64 q, .int .i64 p, .int .i64 d, .int .i64 e, .int .i64 n] 35)).alloc (.cells #[.int .i64 0, .int .i64 0, .int .i64 0] 38) = w1 at *
    obtain ⟨g0, g1, g2, g3, g4⟩ := turn5 hk0
    obtain ⟨r0, r1, r2, rf⟩ := spot3 hk1
    have HK0 := hide hk0; have HK1 := hide hk1; have HBE := hide hbe; have HSZ := hide hsz
    clear hk0 hk1 hbe hsz r0 r1 r2 rf
    go_wp2_with fail
    refine (HT.out _).mono ?_; rintro e w2 ⟨rfl, hb⟩
    have K0 := HK0.out.below hb (by rw [HSZ.out]; omega)
    have K1 := HK1.out.below hb (by rw [HSZ.out]; omega)
    have B2 := bstep HBE.out hb (by rw [HSZ.out]; omega)
    have hs2 := hb.size
    rw [HSZ.out] at hs2
    clear g0 g1 g2 g3 g4 HK0 HK1 HBE hb
    obtain ⟨g0, g1, g2, g3, g4⟩ := turn5 K0
    obtain ⟨r0, r1, r2, rf⟩ := spot3 K1
    have HK0 := hide K0; have HK1 := hide K1; have HB2 := hide B2; clear K0 K1 B2
    cases tb with
    | false =>
      clear g0 g1 g2 g3 g4
      go_wp2_with fail
      exact bodyPost_ret (v := .tuple #[.agg #[.int .i64 0, .int .i64 0, .int .i64 0], .bool false]) (by simp [results, Tryd.results16, go_sem, r0, r1, r2]) rfl ⟨rfl, below3 HB2.out (by omega) _ _ _⟩
    | true =>
      obtain ⟨rfl, rfl⟩ := hno rfl
      go_wp2_with fail
      exact bodyPost_ret (v := .tuple #[.agg #[.int .i64 0, .int .i64 0, .int .i64 0], .bool false]) (by simp [results, Tryd.results16, go_sem, r0, r1, r2]) rfl ⟨rfl, below3 HB2.out (by omega) _ _ _⟩
set_option maxHeartbeats 2000000 in
theorem l4Fixed_any (q p d e n f : Int) (s : SSpot) (w : World) (hs : s = if 0 < f then ⟨e * d, n * d, f⟩ else ⟨-e * d, -n * d, -f⟩) (h1 : 1 ≤ s.den) (h2 : s.den ≤ 1000) (hx : -100000000 ≤ s.x ∧ s.x ≤ 100000000) (hy : -100000000 ≤ s.y ∧ s.y ≤ 100000000) (he : -99999 ≤ e ∧ e ≤ 99999) (hn : -99999 ≤ n ∧ n ≤ 99999) :
    Calls Tryd.prog 59 #[.agg #[.int .i64 q, .int .i64 p, .int .i64 d, .int .i64 e, .int .i64 n], .int .i64 f] w fun r w' => r = .returned (.agg #[.int .i64 (low s).x, .int .i64 (low s).y, .int .i64 (low s).den]) ∧ Below w.heap.size w w' := by
  have cl := fun W => l4Lowest_any s W h1 (by omega) (by omega) (by omega)
  have hlow := low_bound h1 h2 hx hy
  generalize low s = v at *
  obtain ⟨vx, vy, vd⟩ := v
  simp only at hlow cl
  obtain ⟨v0, v1, ⟨v2, v3⟩, ⟨v4, v5⟩⟩ := hlow
  have z0 : IntKind.i64.wrap vx = vx := IntWalk.i64_in _ (by omega)
  have z1 : IntKind.i64.wrap vy = vy := IntWalk.i64_in _ (by omega)
  have z2 : IntKind.i64.wrap vd = vd := IntWalk.i64_in _ (by omega)
  have HWV := hide (And.intro z0 (And.intro z1 z2)); clear z0 z1 z2 v0 v1 v2 v3 v4 v5
  generalize hB : w.heap.size = B
  obtain ⟨hk0, hk1, hbe, hsz⟩ := two_blks w 35 38 #[.int .i64 q, .int .i64 p, .int .i64 d, .int .i64 e, .int .i64 n] #[.int .i64 0, .int .i64 0, .int .i64 0] hB
  obtain ⟨x0, x1⟩ := hx; obtain ⟨y0, y1⟩ := hy; obtain ⟨e0, e1⟩ := he; obtain ⟨n0, n1⟩ := hn
  by_cases h0 : 0 < f
  · rw [if_pos h0] at hs
    subst hs
    simp only at cl x0 x1 y0 y1 h1 h2
    have CL := hide cl; clear cl
    go_enter Tryd.func59, Tryd.ntmps59
    go_upto_region 1 with fail
    generalize (w.alloc (.cells #[.int .i64 q, .int .i64 p, .int .i64 d, .int .i64 e, .int .i64 n] 35)).alloc (.cells #[.int .i64 0, .int .i64 0, .int .i64 0] 38) = w1 at *
    obtain ⟨g0, g1, g2, g3, g4⟩ := turn5 hk0
    have HK1 := hide hk1; have HBE := hide hbe; have HSZ := hide hsz
    clear hk0 hk1 hbe hsz
    go_wp2_with fail
    refine (CL.out _).mono ?_; rintro e w4 ⟨rfl, hb4⟩
    have K1 := HK1.out.below hb4 (by rw [HSZ.out]; omega)
    have B4 := bstep HBE.out hb4 (by rw [HSZ.out]; omega)
    obtain ⟨s0, s1, s2, sf⟩ := spot3 K1
    have HB4 := hide B4; clear K1 B4 hb4 g0 g1 g2 g3 g4
    obtain ⟨u0, u1, u2⟩ := HWV.out
    go_wp2_with fail
    exact bodyPost_ret (v := .agg #[.int .i64 vx, .int .i64 vy, .int .i64 vd]) (by simp [results, Tryd.results59, go_sem, u0, u1, u2, s0, s1, s2]) rfl ⟨rfl, below3 HB4.out (by omega) _ _ _⟩
  · rw [if_neg h0] at hs
    subst hs
    simp only at cl x0 x1 y0 y1 h1 h2
    have CL := hide cl; clear cl
    go_enter Tryd.func59, Tryd.ntmps59
    go_upto_region 1 with fail
    generalize (w.alloc (.cells #[.int .i64 q, .int .i64 p, .int .i64 d, .int .i64 e, .int .i64 n] 35)).alloc (.cells #[.int .i64 0, .int .i64 0, .int .i64 0] 38) = w1 at *
    obtain ⟨g0, g1, g2, g3, g4⟩ := turn5 hk0
    have HK1 := hide hk1; have HBE := hide hbe; have HSZ := hide hsz
    clear hk0 hk1 hbe hsz
    go_wp2_with fail
    refine (CL.out _).mono ?_; rintro e w4 ⟨rfl, hb4⟩
    have K1 := HK1.out.below hb4 (by rw [HSZ.out]; omega)
    have B4 := bstep HBE.out hb4 (by rw [HSZ.out]; omega)
    obtain ⟨s0, s1, s2, sf⟩ := spot3 K1
    have HB4 := hide B4; clear K1 B4 hb4 g0 g1 g2 g3 g4
    obtain ⟨u0, u1, u2⟩ := HWV.out
    go_wp2_with fail
    exact bodyPost_ret (v := .agg #[.int .i64 vx, .int .i64 vy, .int .i64 vd]) (by simp [results, Tryd.results59, go_sem, u0, u1, u2, s0, s1, s2]) rfl ⟨rfl, below3 HB4.out (by omega) _ _ _⟩
set_option maxHeartbeats 4000000 in
theorem FixedSpotS_is (q p d e n : Int) (w : World) :
    Calls Tryd.prog 17 #[.agg #[.int .i64 q, .int .i64 p, .int .i64 d, .int .i64 e, .int .i64 n]] w fun r w' => r = .returned (.tuple #[.agg #[.int .i64 (fixV ⟨q, p, d, e, n⟩).1.x, .int .i64 (fixV ⟨q, p, d, e, n⟩).1.y, .int .i64 (fixV ⟨q, p, d, e, n⟩).1.den], .bool (fixV ⟨q, p, d, e, n⟩).2]) ∧ Below w.heap.size w w' := by
  have hT := fun W => turnS_is q p d e n W
  have hok : STurn.okB ⟨q, p, d, e, n⟩ = turnB q p d e n := rfl
  generalize hB : w.heap.size = B
  obtain ⟨hk0, hk1, hbe, hsz⟩ := two_blks w 35 38 #[.int .i64 q, .int .i64 p, .int .i64 d, .int .i64 e, .int .i64 n] #[.int .i64 0, .int .i64 0, .int .i64 0] hB
  have HB := hide hB
  have HT := hide hT; clear hT
  by_cases hfx : fixB ⟨q, p, d, e, n⟩ = true
  · have hv : fixV ⟨q, p, d, e, n⟩ = (low (fixR ⟨q, p, d, e, n⟩), true) := if_pos hfx
    obtain ⟨ht, hn⟩ := fixB_iff.1 hfx
    simp only at hn
    have htb := STurn.okB_iff.2 ht
    rw [hok] at htb
    rw [htb] at HT
    rw [hv]
    have hrb := fixR_bd q p d e n ht hn
    have hlow := low_bound hrb.1 hrb.2.1 hrb.2.2.1 hrb.2.2.2
    obtain ⟨q0, q1, p0, p1, d0, d1, e0, e1, n0, n1⟩ := ht
    simp only at q0 q1 p0 p1 d0 d1 e0 e1 n0 n1
    obtain ⟨⟨⟨⟨a1, a2⟩, a3, a4⟩, ⟨a5, a6⟩, a7, a8⟩, ⟨⟨⟨b1, b2⟩, b3, b4⟩, ⟨b5, b6⟩, b7, b8⟩, ⟨c1, c2⟩, c3, c4⟩ := fix_bd p0 p1 d0 d1 e0 e1 n0 n1
    generalize hfr : fixR ⟨q, p, d, e, n⟩ = fr at *
    have hll := fun W => l4Lowest_any fr W hrb.1 (by omega) (by omega) (by omega)
    have hff := fun (f : Int) hs W => l4Fixed_any q p d e n f fr W hs hrb.1 hrb.2.1 hrb.2.2.1 hrb.2.2.2 ⟨e0, e1⟩ ⟨n0, n1⟩
    obtain ⟨-, -, ⟨frx0, frx1⟩, fry0, fry1⟩ := hrb
    generalize low fr = v at *
    obtain ⟨vx, vy, vd⟩ := v
    simp only at hlow hll hff
    rw [Int.mul_comm] at a1 a2 a3 a4 a5 a6 a7 a8
    obtain ⟨v0, v1, ⟨v2, v3⟩, ⟨v4, v5⟩⟩ := hlow
    have z0 : IntKind.i64.wrap vx = vx := IntWalk.i64_in _ (by omega)
    have z1 : IntKind.i64.wrap vy = vy := IntWalk.i64_in _ (by omega)
    have z2 : IntKind.i64.wrap vd = vd := IntWalk.i64_in _ (by omega)
    have HWV := hide (And.intro z0 (And.intro z1 z2)); clear z0 z1 z2 v0 v1 v2 v3 v4 v5
    clear hfx hv hok htb
    go_enter Tryd.func17, Tryd.ntmps17
    go_upto_region 1 with fail
    generalize (w.alloc (.cells #[.int .i64 q, .int .i64 p, .int .i64 d, .int .i64 e, .int .i64 n] 35)).alloc (.cells #[.int .i64 0, .int .i64 0, .int .i64 0] 38) = w1 at *
    obtain ⟨g0, g1, g2, g3, g4⟩ := turn5 hk0
    obtain ⟨r0, r1, r2, rf⟩ := spot3 hk1
    have HK0 := hide hk0; have HK1 := hide hk1; have HBE := hide hbe; have HSZ := hide hsz
    clear hk0 hk1 hbe hsz r0 r1 r2 rf
    go_wp2_with fail
    refine (HT.out _).mono ?_; rintro e w2 ⟨rfl, hb⟩
    have K0 := HK0.out.below hb (by rw [HSZ.out]; omega)
    have K1 := HK1.out.below hb (by rw [HSZ.out]; omega)
    have B2 := bstep HBE.out hb (by rw [HSZ.out]; omega)
    have hs2 := hb.size
    rw [HSZ.out] at hs2
    clear g0 g1 g2 g3 g4 HK0 HK1 HBE hb
    obtain ⟨g0, g1, g2, g3, g4⟩ := turn5 K0
    obtain ⟨r0, r1, r2, rf⟩ := spot3 K1
    have HK0 := hide K0; have HK1 := hide K1; have HB2 := hide B2; clear K0 K1 B2
    have hq4 : q = 0 ∨ q = 1 ∨ q = 2 ∨ q = 3 := by omega
    clear q0 q1
    rcases hq4 with rfl | rfl | rfl | rfl
    · have hpd : ¬ p = d := fun h => hn ⟨rfl, h⟩
      have hpd2 : (p == d) = false := by simpa using hpd
      have hcl := hff (d - p) (by rw [← hfr]; rfl)
      have HCL := hide hcl; clear hcl hn hll hff hfr
      go_wp2_with fail
      go_region
      all_goals
        go_wp2_with fail
        refine (HCL.out _).mono ?_; rintro e w4 ⟨rfl, hb4⟩
        have K1 := (show Blk w2.drew (B + 1) 38 #[.int .i64 0, .int .i64 0, .int .i64 0] from HK1.out).below hb4 (by simp; omega)
        have B4 := bstep (HB2.out.drew) hb4 (by simp; omega)
        obtain ⟨s0, s1, s2, sf⟩ := spot3 K1
        have HB4 := hide B4; clear K1 B4 hb4 g0 g1 g2 g3 g4 r0 r1 r2 rf
        obtain ⟨u0, u1, u2⟩ := HWV.out
        go_wp2_with fail
        exact bodyPost_ret (v := .tuple #[.agg #[.int .i64 vx, .int .i64 vy, .int .i64 vd], .bool true]) (by simp [results, Tryd.results17, go_sem, u0, u1, u2, s0, s1, s2]) rfl ⟨rfl, below3 HB4.out (by omega) _ _ _⟩
    · have hcc : fr = ⟨d * (d * e - p * n), d * (d * n + p * e), d * d + p * p⟩ := by rw [← hfr]; rfl
      subst hcc
      simp only at hll frx0 frx1 fry0 fry1
      have hcl := hll
      have HCL := hide hcl; clear hcl hn hll hff hfr
      go_wp2_with fail
      go_region
      all_goals
        go_wp2_with fail
        refine (HCL.out _).mono ?_; rintro e w4 ⟨rfl, hb4⟩
        have K1 := (show Blk w2.drew (B + 1) 38 #[.int .i64 0, .int .i64 0, .int .i64 0] from HK1.out).below hb4 (by simp; omega)
        have B4 := bstep (HB2.out.drew) hb4 (by simp; omega)
        obtain ⟨s0, s1, s2, sf⟩ := spot3 K1
        have HB4 := hide B4; clear K1 B4 hb4 g0 g1 g2 g3 g4 r0 r1 r2 rf
        obtain ⟨u0, u1, u2⟩ := HWV.out
        go_wp2_with fail
        exact bodyPost_ret (v := .tuple #[.agg #[.int .i64 vx, .int .i64 vy, .int .i64 vd], .bool true]) (by simp [results, Tryd.results17, go_sem, u0, u1, u2, s0, s1, s2]) rfl ⟨rfl, below3 HB4.out (by omega) _ _ _⟩
    · have hcl := hff (d + p) (by rw [if_pos (by omega), ← hfr]; rfl)
      have HCL := hide hcl; clear hcl hn hll hff hfr
      go_wp2_with fail
      go_region
      all_goals
        go_wp2_with fail
        refine (HCL.out _).mono ?_; rintro e w4 ⟨rfl, hb4⟩
        have K1 := (show Blk w2.drew (B + 1) 38 #[.int .i64 0, .int .i64 0, .int .i64 0] from HK1.out).below hb4 (by simp; omega)
        have B4 := bstep (HB2.out.drew) hb4 (by simp; omega)
        obtain ⟨s0, s1, s2, sf⟩ := spot3 K1
        have HB4 := hide B4; clear K1 B4 hb4 g0 g1 g2 g3 g4 r0 r1 r2 rf
        obtain ⟨u0, u1, u2⟩ := HWV.out
        go_wp2_with fail
        exact bodyPost_ret (v := .tuple #[.agg #[.int .i64 vx, .int .i64 vy, .int .i64 vd], .bool true]) (by simp [results, Tryd.results17, go_sem, u0, u1, u2, s0, s1, s2]) rfl ⟨rfl, below3 HB4.out (by omega) _ _ _⟩
    · have hcc : fr = ⟨d * (d * e + p * n), d * (d * n - p * e), d * d + p * p⟩ := by rw [← hfr]; rfl
      subst hcc
      simp only at hll frx0 frx1 fry0 fry1
      have hcl := hll
      have HCL := hide hcl; clear hcl hn hll hff hfr
      go_wp2_with fail
      go_region
      all_goals
        go_wp2_with fail
        refine (HCL.out _).mono ?_; rintro e w4 ⟨rfl, hb4⟩
        have K1 := (show Blk w2.drew (B + 1) 38 #[.int .i64 0, .int .i64 0, .int .i64 0] from HK1.out).below hb4 (by simp; omega)
        have B4 := bstep (HB2.out.drew) hb4 (by simp; omega)
        obtain ⟨s0, s1, s2, sf⟩ := spot3 K1
        have HB4 := hide B4; clear K1 B4 hb4 g0 g1 g2 g3 g4 r0 r1 r2 rf
        obtain ⟨u0, u1, u2⟩ := HWV.out
        go_wp2_with fail
        exact bodyPost_ret (v := .tuple #[.agg #[.int .i64 vx, .int .i64 vy, .int .i64 vd], .bool true]) (by simp [results, Tryd.results17, go_sem, u0, u1, u2, s0, s1, s2]) rfl ⟨rfl, below3 HB4.out (by omega) _ _ _⟩
  · have hv : fixV ⟨q, p, d, e, n⟩ = (⟨0, 0, 0⟩, false) := if_neg hfx
    rw [hv]
    have hno : turnB q p d e n = true → q = 0 ∧ p = d := fun h => by
      rw [fixB_iff, not_and, Classical.not_not] at hfx
      exact hfx (STurn.okB_iff.1 (by rw [hok]; exact h))
    clear hfx hv hok
    generalize turnB q p d e n = tb at *
    go_enter Tryd.func17, Tryd.ntmps17
    go_upto_region 1 with fail
    generalize (w.alloc (.cells #[.int .i64 q, .int .i64 p, .int .i64 d, .int .i64 e, .int .i64 n] 35)).alloc (.cells #[.int .i64 0, .int .i64 0, .int .i64 0] 38) = w1 at *
    obtain ⟨g0, g1, g2, g3, g4⟩ := turn5 hk0
    obtain ⟨r0, r1, r2, rf⟩ := spot3 hk1
    have HK0 := hide hk0; have HK1 := hide hk1; have HBE := hide hbe; have HSZ := hide hsz
    clear hk0 hk1 hbe hsz r0 r1 r2 rf
    go_wp2_with fail
    refine (HT.out _).mono ?_; rintro e w2 ⟨rfl, hb⟩
    have K0 := HK0.out.below hb (by rw [HSZ.out]; omega)
    have K1 := HK1.out.below hb (by rw [HSZ.out]; omega)
    have B2 := bstep HBE.out hb (by rw [HSZ.out]; omega)
    have hs2 := hb.size
    rw [HSZ.out] at hs2
    clear g0 g1 g2 g3 g4 HK0 HK1 HBE hb
    obtain ⟨g0, g1, g2, g3, g4⟩ := turn5 K0
    obtain ⟨r0, r1, r2, rf⟩ := spot3 K1
    have HK0 := hide K0; have HK1 := hide K1; have HB2 := hide B2; clear K0 K1 B2
    cases tb with
    | false =>
      clear g0 g1 g2 g3 g4
      go_wp2_with fail
      exact bodyPost_ret (v := .tuple #[.agg #[.int .i64 0, .int .i64 0, .int .i64 0], .bool false]) (by simp [results, Tryd.results17, go_sem, r0, r1, r2]) rfl ⟨rfl, below3 HB2.out (by omega) _ _ _⟩
    | true =>
      obtain ⟨rfl, rfl⟩ := hno rfl
      go_wp2_with fail
      exact bodyPost_ret (v := .tuple #[.agg #[.int .i64 0, .int .i64 0, .int .i64 0], .bool false]) (by simp [results, Tryd.results17, go_sem, r0, r1, r2]) rfl ⟨rfl, below3 HB2.out (by omega) _ _ _⟩
end Go.Proofs.YtplemibckjnbhaaDoor
