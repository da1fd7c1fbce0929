/- Contracts of the spots' arithmetic in spec: divisor, lowest, rotate. Conditions: bounds of the numbers. -/
import Derived.Test.YtplemibckjnbhaaDoorL4E
namespace Go.Proofs.YtplemibckjnbhaaDoor
open Go.RowKit
set_option linter.unusedVariables false
theorem l4Rotate_any (s : SSpot) (n : Nat) (c : Int) (w : World) (hn : n ≤ 4) (hc : c ≤ 1000000000000000) (hx : -c ≤ s.x ∧ s.x ≤ c) (hy : -c ≤ s.y ∧ s.y ≤ c) :
    Calls Tryd.prog 142 #[.agg #[.int .i64 s.x, .int .i64 s.y, .int .i64 s.den], .int .i64 (n : Int)] w fun e w' => e = .returned (.agg #[.int .i64 (rot n s).x, .int .i64 (rot n s).y, .int .i64 s.den]) ∧ Below w.heap.size w w' := by
  have hb := fun k => rot_bound k hx hy
  have HBD := hide hb; clear hb hx hy
  generalize hB : w.heap.size = B
  have hk0 : Blk ((w.alloc (.cells #[.int .i64 s.x, .int .i64 s.y, .int .i64 s.den] 38)).alloc (.cells #[.int .i64 0, .int .i64 0, .int .i64 0] 38)) B 38 #[.int .i64 (rot 0 s).x, .int .i64 (rot 0 s).y, .int .i64 s.den] := by subst hB; exact (Blk.new w _ _).alloc _
  have hk1 : Blk ((w.alloc (.cells #[.int .i64 s.x, .int .i64 s.y, .int .i64 s.den] 38)).alloc (.cells #[.int .i64 0, .int .i64 0, .int .i64 0] 38)) (B + 1) 38 #[.int .i64 0, .int .i64 0, .int .i64 0] := by subst hB; simpa using Blk.new (w.alloc (.cells #[.int .i64 s.x, .int .i64 s.y, .int .i64 s.den] 38)) 38 #[.int .i64 0, .int .i64 0, .int .i64 0]
  have hbe : Below B w ((w.alloc (.cells #[.int .i64 s.x, .int .i64 s.y, .int .i64 s.den] 38)).alloc (.cells #[.int .i64 0, .int .i64 0, .int .i64 0] 38)) := by subst hB; exact (below_alloc w _).alloc (by simp) _
  have HK0 := hide hk0; have HK1 := hide hk1; have HBE := hide hbe; have HB := hide hB; clear hk0 hk1 hbe
  go_enter Tryd.func142, Tryd.ntmps142
  go_wp2_with fail
  go_loopw [5] (fun i wr => ∃ k : Nat, k ≤ n ∧ i = .int .i64 (k : Int) ∧ Blk wr B 38 #[.int .i64 (rot k s).x, .int .i64 (rot k s).y, .int .i64 s.den] ∧ Blk wr (B + 1) 38 #[.int .i64 0, .int .i64 0, .int .i64 0] ∧ Below B w wr) (fun i _ => n - (intOf i).toNat)
  case atStart => exact ⟨0, Nat.zero_le _, rfl, HK0.out, HK1.out, HBE.out⟩
  case round =>
    obtain ⟨k, hk, rfl, hb0, hb1, hbel⟩ := hrel
    have hbd := HBD.out k
    have hst : (rot (k + 1) s).x = -(rot k s).y ∧ (rot (k + 1) s).y = (rot k s).x := ⟨rfl, rfl⟩
    obtain ⟨c0, c1, c2, hf⟩ := spot3 hb0
    obtain ⟨d0, d1, d2, hf2⟩ := spot3 hb1
    have HB0 := hide hb0; have HB1 := hide hb1; have HBL := hide hbel; have HST := hide hst; clear hb0 hb1 hbel hst
    by_cases hlt : k < n
    · have hlt' : (k : Int) < n := by omega
      generalize (rot k s).x = px at *; generalize (rot k s).y = py at *
      obtain ⟨⟨px0, px1⟩, ⟨py0, py1⟩⟩ := hbd
      go_wp2_with fail
      go_round
      case measure => simp [intOf]; omega
      case rel => exact ⟨k + 1, by omega, by go_num, by rw [HST.out.1, HST.out.2]; exact set3 HB0.out _ _ _, far3 HB1.out (by simp) _ _ _, below3 HBL.out (Nat.le_refl _) _ _ _⟩
    · have hkn : k = n := by omega
      subst hkn
      go_wp2_with fail
      obtain ⟨f0, f1, f2, _⟩ := spot3 (((HB1.out.set 0 (.int .i64 (rot k s).x)).set 1 (.int .i64 (rot k s).y)).set 2 (.int .i64 s.den))
      exact bodyPost_ret (v := .agg #[.int .i64 (rot k s).x, .int .i64 (rot k s).y, .int .i64 s.den]) (by simp [results, Tryd.results142, go_sem, f0, f1, f2]) rfl ⟨rfl, ((HBL.out.setCell (p := ⟨B + 1, 0, none⟩) (by simp) _).setCell (p := ⟨B + 1, 1, none⟩) (by simp) _).setCell (p := ⟨B + 1, 2, none⟩) (by simp) _⟩
theorem l4Divisor_any (a b : Int) (w : World) (h0 : -2199023255552 ≤ a) (h1 : a ≤ 2199023255552) (h2 : 1 ≤ b) (h3 : b ≤ 2199023255552) :
    Calls Tryd.prog 85 #[.int .i64 a, .int .i64 b] w fun e w' => e = .returned (.int .i64 (Int.gcd a b : Int)) ∧ Below w.heap.size w w' := by
  have hg : gcdI (max a (-a)) b = (Int.gcd a b : Int) := by rw [← gcdI_abs, show max b (-b) = b by omega]
  generalize (Int.gcd a b : Int) = g at hg ⊢
  have HG := hide hg; clear hg
  generalize hm : max a (-a) = m at HG
  have hmost := fun W => l1Most_any a (-a) W
  rw [hm] at hmost
  have HM := hide hmost; clear hmost
  go_enter Tryd.func85, Tryd.ntmps85
  go_wp2_with fail
  refine (HM.out _).mono ?_; rintro e w' ⟨rfl, rfl⟩
  go_wp2_with fail
  go_loopw [0, 1] (fun p q wr => ∃ x y : Int, p = .int .i64 x ∧ q = .int .i64 y ∧ 0 ≤ x ∧ x ≤ 2199023255552 ∧ 0 ≤ y ∧ y ≤ 2199023255552 ∧ Hid (gcdI x y = g) ∧ Below w.heap.size w wr) (fun _ q _ => (intOf q).toNat)
  case atStart => exact ⟨m, b, rfl, rfl, by omega, by omega, by omega, h3, HG, Below.refl _ _⟩
  case round =>
    obtain ⟨x, y, rfl, rfl, x0, x1, y0, y1, HX, hbel⟩ := hrel
    by_cases hy : y = 0
    · subst hy
      have hx := HX.out
      rw [gcdI_zero x0] at hx
      have HE := hide hx; clear hx
      go_wp2_with fail
      go_ret
      exact ⟨ret_int HE.out, hbel⟩
    · have hm1 := Int.emod_nonneg x hy
      have hm2 := Int.emod_lt_of_pos x (show 0 < y by omega)
      have hst := gcdI_step x0 (show 0 < y by omega)
      rw [HX.out] at hst
      have HST := hide hst; clear hst
      go_wp2_with fail
      refine ⟨⟨y, x % y, rfl, rfl, y0, y1, hm1, by omega, HST, hbel⟩, by simp [intOf]; omega⟩
theorem gcd_ranges {y d : Int} (h1 : 1 ≤ d) (h2 : d ≤ 2199023255552) : 1 ≤ (Int.gcd y d : Int) ∧ (Int.gcd y d : Int) ≤ 2199023255552 := by
  have h3 : 0 < Int.gcd y d := Int.gcd_pos_of_ne_zero_right y (by omega)
  have h4 := Int.le_of_dvd (by omega) (Int.gcd_dvd_right y d)
  omega
theorem l4Lowest_any (s : SSpot) (w : World) (h1 : 1 ≤ s.den) (hd : s.den ≤ 2199023255552) (hx : -2199023255552 ≤ s.x ∧ s.x ≤ 2199023255552) (hy : -2199023255552 ≤ s.y ∧ s.y ≤ 2199023255552) :
    Calls Tryd.prog 60 #[.int .i64 s.x, .int .i64 s.y, .int .i64 s.den] w fun e w' => e = .returned (.agg #[.int .i64 (low s).x, .int .i64 (low s).y, .int .i64 (low s).den]) ∧ Below w.heap.size w w' := by
  have hlow := low_bound h1 hd hx hy
  have t1 : s.x.tdiv (lowD s) = (low s).x := tdiv_low (lowD_x s)
  have t2 : s.y.tdiv (lowD s) = (low s).y := tdiv_low (lowD_y s)
  have t3 : s.den.tdiv (lowD s) = (low s).den := tdiv_low (lowD_den s)
  have hp := lowD_pos (s := s) (by omega)
  have hgr := gcd_ranges (y := s.y) h1 hd
  have c1 := fun W => l4Divisor_any s.y s.den W hy.1 hy.2 h1 hd
  have c2 := fun W => l4Divisor_any s.x (Int.gcd s.y s.den : Int) W hx.1 hx.2 hgr.1 hgr.2
  have hld : (Int.gcd s.x (Int.gcd s.y s.den : Int) : Int) = lowD s := rfl
  rw [hld] at c2
  clear hld
  generalize low s = v at *
  generalize lowD s = d at *
  generalize (Int.gcd s.y s.den : Int) = g1 at *
  obtain ⟨x, y, den⟩ := s
  obtain ⟨vx, vy, vd⟩ := v
  simp only at *
  obtain ⟨hx0, hx1⟩ := hx
  obtain ⟨hy0, hy1⟩ := hy
  obtain ⟨v0, v1, ⟨v2, v3⟩, ⟨v4, v5⟩⟩ := hlow
  have C1 := hide c1; have C2 := hide c2; clear c1 c2 hgr
  have hdn : ¬ d = 0 := by omega
  have w0 : IntKind.i64.wrap vx = vx := IntWalk.i64_in _ (by omega)
  have w1 : IntKind.i64.wrap vy = vy := IntWalk.i64_in _ (by omega)
  have w2 : IntKind.i64.wrap vd = vd := IntWalk.i64_in _ (by omega)
  generalize hB : w.heap.size = B
  have HB := hide hB
  have hk0 : Blk (w.alloc (.cells #[.int .i64 0, .int .i64 0, .int .i64 0] 38)) B 38 #[.int .i64 0, .int .i64 0, .int .i64 0] := by subst hB; exact Blk.new w _ _
  have hbe : Below B w (w.alloc (.cells #[.int .i64 0, .int .i64 0, .int .i64 0] 38)) := by subst hB; exact below_alloc w _
  go_enter Tryd.func60, Tryd.ntmps60
  go_upto_region 1 with fail
  have hsz : (w.alloc (.cells #[.int .i64 0, .int .i64 0, .int .i64 0] 38)).heap.size = B + 1 := by simp [HB.out]
  generalize w.alloc (.cells #[.int .i64 0, .int .i64 0, .int .i64 0] 38) = W0 at *
  have HK0 := hide hk0; have HBE := hide hbe; clear hk0 hbe
  go_wp2_with fail
  refine (C1.out _).mono ?_; rintro e w3 ⟨rfl, hb3⟩
  go_wp2_with fail
  refine (C2.out _).mono ?_; rintro e w4 ⟨rfl, hb4⟩
  have hs3 := hb3.size
  have K := (HK0.out.below hb3 (by omega)).below hb4 (by omega)
  have B4 := bstep (bstep HBE.out hb3 (by omega)) hb4 (by omega)
  have HK := hide K; have HB4 := hide B4; clear K B4 hb3 hb4 HK0 HBE
  obtain ⟨f0, f1, f2, hf⟩ := spot3 HK.out
  go_wp2_with fail
  go_region
  all_goals
    go_wp2_with fail
    exact bodyPost_ret (v := .agg #[.int .i64 vx, .int .i64 vy, .int .i64 vd]) (by simp [results, Tryd.results60, go_sem, w0, w1, w2, f0, f1, f2]) rfl ⟨rfl, (below3 HB4.out (by omega) _ _ _).drew⟩
end Go.Proofs.YtplemibckjnbhaaDoor
