/- Contracts of the methods of spots in impl: abs, gcd, turned, lowest, led, back. Conditions: bounds of the numbers. -/
import Derived.Test.YtplemibckjnbhaaDoorL4B
namespace Go.Proofs.YtplemibckjnbhaaDoor
open Go.RowKit
set_option linter.unusedVariables false
def gcdI (a b : Int) : Int := (Nat.gcd a.toNat b.toNat : Int)
theorem gcdI_zero {a : Int} (h : 0 ≤ a) : gcdI a 0 = a := by simp [gcdI]; omega
theorem gcdI_step {a b : Int} (ha : 0 ≤ a) (hb : 0 < b) : gcdI b (a % b) = gcdI a b := by
  unfold gcdI
  have h : (a % b).toNat = a.toNat % b.toNat := Int.toNat_emod ha (by omega)
  rw [h, Nat.gcd_comm a.toNat, Nat.gcd_rec b.toNat a.toNat, Nat.gcd_comm]
theorem gcdI_pos {a b : Int} (hb : 0 < b) : 0 < gcdI a b := by
  unfold gcdI
  have := Nat.gcd_pos_of_pos_right a.toNat (show 0 < b.toNat by omega)
  omega
theorem gcd_any (a b : Int) (w : World) (ha : 0 ≤ a) (hb : 0 ≤ b) (ha' : a ≤ 2199023255552) (hb' : b ≤ 2199023255552) :
    Calls Tryd.prog 99 #[.int .i64 a, .int .i64 b] w fun e w' => e = .returned (.int .i64 (gcdI a b)) ∧ Below w.heap.size w w' := by
  generalize hg : gcdI a b = g
  have HG := hide hg; clear hg
  go_enter Tryd.func99, Tryd.ntmps99
  go_wp2_with fail
  go_loopw [0, 1] (fun p q wr => ∃ x y : Int, p = .int .i64 x ∧ q = .int .i64 y ∧ 0 ≤ x ∧ x ≤ 2199023255552 ∧ 0 ≤ y ∧ y ≤ 2199023255552 ∧ Hid (gcdI x y = g) ∧ Below w.heap.size w wr) (fun _ q _ => (intOf q).toNat)
  case atStart => exact ⟨a, b, rfl, rfl, ha, ha', hb, hb', HG, Below.refl _ _⟩
  case round =>
    obtain ⟨x, y, rfl, rfl, x0, x1, y0, y1, HX, hbel⟩ := hrel
    by_cases hy : y = 0
    · subst hy
      have hx := HX.out
      rw [gcdI_zero x0] at hx
      have HE := hide hx; clear hx
      go_wp2_with fail
      go_ret
      exact ⟨ret_int HE.out, hbel⟩
    · have hm := Int.emod_nonneg x hy
      have hm2 := Int.emod_lt_of_pos x (show 0 < y by omega)
      have hst := gcdI_step x0 (show 0 < y by omega)
      rw [HX.out] at hst
      have HST := hide hst; clear hst
      go_wp2_with fail
      go_region
      all_goals
        go_wp2_with fail
        refine ⟨⟨y, x % y, rfl, rfl, y0, y1, hm, by omega, HST, hbel.drew⟩, by simp [intOf]; omega⟩
theorem gcdI_le {a b M : Int} (ha : 0 ≤ a) (ha' : a ≤ M) (hb : 0 ≤ b) (hb' : b ≤ M) : 0 ≤ gcdI a b ∧ gcdI a b ≤ M := by
  unfold gcdI
  refine ⟨by omega, ?_⟩
  rcases Nat.eq_zero_or_pos b.toNat with h | h
  · rw [h, Nat.gcd_zero_right]; omega
  · have := Nat.gcd_le_right a.toNat h; omega
theorem gcdI_abs (x y : Int) : gcdI (max x (-x)) (max y (-y)) = (Int.gcd x y : Int) := by
  unfold gcdI Int.gcd
  rw [show (max x (-x)).toNat = x.natAbs by omega, show (max y (-y)).toNat = y.natAbs by omega]
theorem lowD_gcdI {s : SSpot} (h : 1 ≤ s.den) : gcdI (gcdI (max s.x (-s.x)) (max s.y (-s.y))) (max s.den (-s.den)) = lowD s := by
  rw [gcdI_abs]
  unfold lowD gcdI
  rw [show (max s.den (-s.den)).toNat = s.den.natAbs by omega, Int.toNat_natCast]
  unfold Int.gcd
  rw [Int.natAbs_natCast, Nat.gcd_assoc]
theorem absI_any (n : Int) (w : World) (h0 : -2199023255552 ≤ n) (h1 : n ≤ 2199023255552) :
    Calls Tryd.prog 100 #[.int .i64 n] w fun e w' => e = .returned (.int .i64 (max n (-n))) ∧ w = w' := by
  go_enter Tryd.func100, Tryd.ntmps100
  go_wp2_with fail
  go_ret
  exact ⟨rfl, rfl⟩
theorem tdiv_low {x d : Int} (h : d ∣ x) : x.tdiv d = x / d := Int.tdiv_eq_ediv_of_dvd h
theorem spot3 {w : World} {g : Nat} {t : TypeId} {a b c : Value} (h : Blk w g t #[a, b, c]) : w.cell? ⟨g, 0, none⟩ = some a ∧ w.cell? ⟨g, 1, none⟩ = some b ∧ w.cell? ⟨g, 2, none⟩ = some c ∧ (∀ o, w.frozen? ⟨g, o, none⟩ = false) :=
  ⟨by rw [h.cell]; rfl, by rw [h.cell]; rfl, by rw [h.cell]; rfl, fun o => h.frozen o⟩
theorem turned_any (s : SSpot) (n : Nat) (c : Int) (w : World) (hn : n ≤ 4) (hc : c ≤ 1000000000000000) (hx : -c ≤ s.x ∧ s.x ≤ c) (hy : -c ≤ s.y ∧ s.y ≤ c) :
    Calls Tryd.prog 119 #[.agg #[.int .i64 s.x, .int .i64 s.y, .int .i64 s.den], .int .i64 (n : Int)] w fun e w' => e = .returned (.agg #[.int .i64 (rot n s).x, .int .i64 (rot n s).y, .int .i64 s.den]) ∧ Below w.heap.size w w' := by
  have hb := fun k => rot_bound k hx hy
  have HBD := hide hb; clear hb hx hy
  generalize hB : w.heap.size = B
  have hk0 : Blk ((w.alloc (.cells #[.int .i64 s.x, .int .i64 s.y, .int .i64 s.den] 38)).alloc (.cells #[.int .i64 0, .int .i64 0, .int .i64 0] 38)) B 38 #[.int .i64 (rot 0 s).x, .int .i64 (rot 0 s).y, .int .i64 s.den] := by subst hB; exact (Blk.new w _ _).alloc _
  have hk1 : Blk ((w.alloc (.cells #[.int .i64 s.x, .int .i64 s.y, .int .i64 s.den] 38)).alloc (.cells #[.int .i64 0, .int .i64 0, .int .i64 0] 38)) (B + 1) 38 #[.int .i64 0, .int .i64 0, .int .i64 0] := by subst hB; simpa using Blk.new (w.alloc (.cells #[.int .i64 s.x, .int .i64 s.y, .int .i64 s.den] 38)) 38 #[.int .i64 0, .int .i64 0, .int .i64 0]
  have hbe : Below B w ((w.alloc (.cells #[.int .i64 s.x, .int .i64 s.y, .int .i64 s.den] 38)).alloc (.cells #[.int .i64 0, .int .i64 0, .int .i64 0] 38)) := by subst hB; exact (below_alloc w _).alloc (by simp) _
  have HK0 := hide hk0; have HK1 := hide hk1; have HBE := hide hbe; have HB := hide hB; clear hk0 hk1 hbe
  go_enter Tryd.func119, Tryd.ntmps119
  go_wp2_with fail
  go_loopw [6] (fun i wr => ∃ k : Nat, k ≤ n ∧ i = .int .i64 (k : Int) ∧ Blk wr B 38 #[.int .i64 (rot k s).x, .int .i64 (rot k s).y, .int .i64 s.den] ∧ Blk wr (B + 1) 38 #[.int .i64 0, .int .i64 0, .int .i64 0] ∧ Below B w wr) (fun i _ => n - (intOf i).toNat)
  case atStart => exact ⟨0, Nat.zero_le _, rfl, HK0.out, HK1.out, HBE.out⟩
  case round =>
    obtain ⟨k, hk, rfl, hb0, hb1, hbel⟩ := hrel
    have hbd := HBD.out k
    have hst : (rot (k + 1) s).x = -(rot k s).y ∧ (rot (k + 1) s).y = (rot k s).x := ⟨rfl, rfl⟩
    obtain ⟨c0, c1, c2, hf⟩ := spot3 hb0
    obtain ⟨d0, d1, d2, hf2⟩ := spot3 hb1
    have HB0 := hide hb0; have HB1 := hide hb1; have HBL := hide hbel; have HST := hide hst; clear hb0 hb1 hbel hst
    by_cases hlt : k < n
    · have hlt' : (k : Int) < n := by omega
      generalize (rot k s).x = px at *; generalize (rot k s).y = py at *
      obtain ⟨⟨px0, px1⟩, ⟨py0, py1⟩⟩ := hbd
      go_wp2_with fail
      go_round
      case measure => simp [intOf]; omega
      case rel => exact ⟨k + 1, by omega, by go_num, by rw [HST.out.1, HST.out.2]; exact (HB0.out.set 0 _).set 1 _, (HB1.out.far (p := ⟨B, 0, none⟩) (by simp) _).far (p := ⟨B, 1, none⟩) (by simp) _, (HBL.out.setCell (p := ⟨B, 0, none⟩) (Nat.le_refl _) _).setCell (p := ⟨B, 1, none⟩) (Nat.le_refl _) _⟩
    · have hkn : k = n := by omega
      subst hkn
      go_wp2_with fail
      obtain ⟨f0, f1, f2, _⟩ := spot3 (((HB1.out.set 0 (.int .i64 (rot k s).x)).set 1 (.int .i64 (rot k s).y)).set 2 (.int .i64 s.den))
      exact bodyPost_ret (v := .agg #[.int .i64 (rot k s).x, .int .i64 (rot k s).y, .int .i64 s.den]) (by simp [results, Tryd.results119, go_sem, f0, f1, f2]) rfl ⟨rfl, ((HBL.out.setCell (p := ⟨B + 1, 0, none⟩) (by simp) _).setCell (p := ⟨B + 1, 1, none⟩) (by simp) _).setCell (p := ⟨B + 1, 2, none⟩) (by simp) _⟩
theorem lowest_any (s : SSpot) (w : World) (h1 : 1 ≤ s.den) (hd : s.den ≤ 2199023255552) (hx : -2199023255552 ≤ s.x ∧ s.x ≤ 2199023255552) (hy : -2199023255552 ≤ s.y ∧ s.y ≤ 2199023255552) :
    Calls Tryd.prog 57 #[.agg #[.int .i64 s.x, .int .i64 s.y, .int .i64 s.den]] w fun e w' => e = .returned (.agg #[.int .i64 (low s).x, .int .i64 (low s).y, .int .i64 (low s).den]) ∧ Below w.heap.size w w' := by
  have hlow := low_bound h1 hd hx hy
  have t1 : s.x.tdiv (lowD s) = (low s).x := tdiv_low (lowD_x s)
  have t2 : s.y.tdiv (lowD s) = (low s).y := tdiv_low (lowD_y s)
  have t3 : s.den.tdiv (lowD s) = (low s).den := tdiv_low (lowD_den s)
  have hg := lowD_gcdI h1
  have hp := lowD_pos (s := s) (by omega)
  generalize low s = v at *
  generalize lowD s = d at *
  obtain ⟨x, y, den⟩ := s
  obtain ⟨vx, vy, vd⟩ := v
  simp only at *
  obtain ⟨hx0, hx1⟩ := hx
  obtain ⟨hy0, hy1⟩ := hy
  obtain ⟨v0, v1, ⟨v2, v3⟩, ⟨v4, v5⟩⟩ := hlow
  have ca := fun W => absI_any x W hx0 hx1
  have cb := fun W => absI_any y W hy0 hy1
  have cc := fun W => absI_any den W (by omega) hd
  have b1 := gcdI_le (a := max x (-x)) (b := max y (-y)) (M := 2199023255552) (by omega) (by omega) (by omega) (by omega)
  have cg := fun W => gcd_any (max x (-x)) (max y (-y)) W (by omega) (by omega) (by omega) (by omega)
  generalize gcdI (max x (-x)) (max y (-y)) = g1 at *
  have cg2 := fun W => gcd_any g1 (max den (-den)) W (by omega) (by omega) (by omega) (by omega)
  rw [hg] at cg2
  clear hg b1
  generalize max x (-x) = ax at *; generalize max y (-y) = ay at *; generalize max den (-den) = ad at *
  have CA := hide ca; have CB := hide cb; have CC := hide cc; have CG := hide cg; have CG2 := hide cg2; clear ca cb cc cg cg2
  have hdn : ¬ d = 0 := by omega
  have hneg : ¬ den < 0 := by omega
  generalize hB : w.heap.size = B
  have hk0 : Blk ((w.alloc (.cells #[.int .i64 x, .int .i64 y, .int .i64 den] 38)).alloc (.cells #[.int .i64 0, .int .i64 0, .int .i64 0] 38)) B 38 #[.int .i64 x, .int .i64 y, .int .i64 den] := by subst hB; exact (Blk.new w _ _).alloc _
  have hk1 : Blk ((w.alloc (.cells #[.int .i64 x, .int .i64 y, .int .i64 den] 38)).alloc (.cells #[.int .i64 0, .int .i64 0, .int .i64 0] 38)) (B + 1) 38 #[.int .i64 0, .int .i64 0, .int .i64 0] := by subst hB; simpa using Blk.new (w.alloc (.cells #[.int .i64 x, .int .i64 y, .int .i64 den] 38)) 38 #[.int .i64 0, .int .i64 0, .int .i64 0]
  have hbe : Below B w ((w.alloc (.cells #[.int .i64 x, .int .i64 y, .int .i64 den] 38)).alloc (.cells #[.int .i64 0, .int .i64 0, .int .i64 0] 38)) := by subst hB; exact (below_alloc w _).alloc (by simp) _
  have hsz : ((w.alloc (.cells #[.int .i64 x, .int .i64 y, .int .i64 den] 38)).alloc (.cells #[.int .i64 0, .int .i64 0, .int .i64 0] 38)).heap.size = B + 2 := by subst hB; simp
  have HK0 := hide hk0; have HK1 := hide hk1; have HBE := hide hbe; have HB := hide hB; have HSZ := hide hsz
  obtain ⟨c0, c1, c2, _⟩ := spot3 hk0
  have m0 := fun n => later_cell c0 n; have m1 := fun n => later_cell c1 n; have m2 := fun n => later_cell c2 n
  clear hk0 hk1 hbe hsz
  go_enter Tryd.func57, Tryd.ntmps57
  go_wp2_with fail
  (refine wp_region_later (by kernel_rfl) (by kernel_rfl) ?_; (repeat (go_big_quiet_step ((first | (go_at_call 100; (with_reducible exact later_same (CA.out _))) | (go_at_call 100; (with_reducible exact later_same (CB.out _))) | (go_at_call 100; (with_reducible exact later_same (CC.out _))) | (go_at_call 99; (with_reducible exact later_call (CG.out _))) | (go_at_call 99; (with_reducible exact later_call (CG2.out _))))))); refine wpQuiet_nil ?_; intro _ hw'; obtain ⟨nq, hw''⟩ := hw'; subst hw'')
  have e0 := m0 nq; have e1 := m1 nq; have e2 := m2 nq
  have B3 := bstep HBE.out nq.h (by rw [HSZ.out]; omega)
  have K1 := HK1.out.below nq.h (by rw [HSZ.out]; omega)
  generalize nq.W = W2 at *
  have f := spot3 K1
  obtain ⟨f0, f1, f2, ff⟩ := f
  have HK := hide K1; have HB3 := hide B3; clear K1 B3 m0 m1 m2 c0 c1 c2
  go_wp2_with fail
  go_region_held3 (fun w' => w'.cell? ⟨B, 0, none⟩ = some (.int .i64 x) ∧ w'.cell? ⟨B, 1, none⟩ = some (.int .i64 y) ∧ w'.cell? ⟨B, 2, none⟩ = some (.int .i64 den)) (go_keep) (fail)
  all_goals
    go_wp2_with fail
    have w0 : IntKind.i64.wrap vx = vx := IntWalk.i64_in _ (by omega)
    have w1 : IntKind.i64.wrap vy = vy := IntWalk.i64_in _ (by omega)
    have w2 : IntKind.i64.wrap vd = vd := IntWalk.i64_in _ (by omega)
    exact bodyPost_ret (v := .agg #[.int .i64 vx, .int .i64 vy, .int .i64 vd]) (by simp [results, Tryd.results57, go_sem, w0, w1, w2, f0, f1, f2]) rfl ⟨rfl, (((HB3.out.setCell (p := ⟨B + 1, 0, none⟩) (by simp) _).setCell (p := ⟨B + 1, 1, none⟩) (by simp) _).setCell (p := ⟨B + 1, 2, none⟩) (by simp) _).drew⟩
end Go.Proofs.YtplemibckjnbhaaDoor
