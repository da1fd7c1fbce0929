/- Helpers of the laws on drawers: equality of lists of numbers and of drawers. No condition. -/
import Derived.Test.YtdbcilinoieabaaL5S
import Derived.Test.YtdbcilinoieabaaLw
import Derived.ChangeKeysEq
import Derived.Deep.RegionWith
namespace Go.Proofs.Ytdbcilinoieabaa
open Go.RowKit
set_option linter.unusedVariables false
theorem rInts_same (A A' : Option Addr) (cap cap' : Nat) (xs : List Int) (w : World) (hr : Row 1 encI w w.heap.size A xs) (hr' : Row 1 encI w w.heap.size A' xs) (hm : xs.length ≤ 9223372036854775807) :
    Calls Try.prog 32 #[.slice A xs.length cap, .slice A' xs.length cap'] w fun e w' => e = .returned (.bool true) ∧ Below w.heap.size w w' := by
  generalize hB : w.heap.size = B at hr hr' ⊢
  have HB := hide hB; clear hB
  have HR := hide hr; clear hr
  have HR' := hide hr'; clear hr'
  go_enter Try.func32, Try.ntmps32
  go_wp2_with fail
  go_loopw [5] (fun i wr => ∃ (k : Nat), k ≤ xs.length ∧ i = .int .i64 k ∧ Below B w wr) (fun i _ => xs.length - (intOf i).toNat)
  case atStart => exact ⟨0, Nat.zero_le _, rfl, Below.refl _ _⟩
  case round =>
    obtain ⟨i, hi, rfl, hbel⟩ := hrel
    by_cases hlt : i < xs.length
    · obtain ⟨b, off, rfl, hb, c0⟩ := Ints.cells HR.out hlt hbel
      obtain ⟨b', off', rfl, hb', c0'⟩ := Ints.cells HR'.out hlt hbel
      have t0 : (xs[i] != xs[i]) = false := by simp
      go_wp2_with fail
      go_quiet (fail)
      all_goals
        go_wp2_with fail
        refine ⟨⟨i + 1, by omega, by go_num, ?_⟩, by simp [intOf]; omega⟩
        exact below_drewN hbel _
    · have hk : i = xs.length := by omega
      have HK := hide hk; clear hk
      go_wp2
      go_ret
      exact ⟨rfl, hbel⟩
theorem rInts_is (v v' : Value) (xs : List Int) (w : World) (h : Is 1 encI w v xs) (h' : Is 1 encI w v' xs) :
    Calls Try.prog 32 #[v, v'] w fun e w' => e = .returned (.bool true) ∧ Below w.heap.size w w' := by
  have hm := h.len
  obtain ⟨A, cap, rfl, hr, _, _⟩ := h
  obtain ⟨A', cap', rfl, hr', _, _⟩ := h'
  exact rInts_same A A' cap cap' xs w hr hr' hm
set_option maxHeartbeats 2000000 in
theorem rDrawers_is (v v' : Value) (ds : List DrV) (w : World) (h : IsD w v ds) (h' : IsD w v' ds) :
    Calls Try.prog 37 #[v, v'] w fun e w' => e = .returned (.bool true) ∧ Below w.heap.size w w' := by
  obtain ⟨rs, hmap, his, hrs⟩ := h
  obtain ⟨rs', hmap', his', hrs'⟩ := h'
  have hm := his.len
  have hl1 : rs.length = ds.length := by rw [← hmap]; simp
  have hl2 : rs'.length = ds.length := by rw [← hmap']; simp
  have hget : ∀ i, (hi : i < rs.length) → (h : i < ds.length) → rs[i].pl = ds[i] := fun i hi h => by simp [← hmap]
  have hget' : ∀ i, (hi : i < rs'.length) → (h : i < ds.length) → rs'[i].pl = ds[i] := fun i hi h => by simp [← hmap']
  obtain ⟨A, cap, rfl, hr, _, _⟩ := his
  obtain ⟨A', cap', rfl, hr', _, _⟩ := his'
  rw [hl1] at hm
  rw [hl1, hl2]
  generalize hB : w.heap.size = B at hr hr' hrs hrs' ⊢
  have HB := hide hB; clear hB
  have HR := hide hr; have HRS := hide hrs; have HL1 := hide hl1; have HGET := hide hget; clear hr hrs hl1 hget hmap
  have HR' := hide hr'; have HRS' := hide hrs'; have HL2 := hide hl2; have HGET' := hide hget'; clear hr' hrs' hl2 hget' hmap'
  go_enter Try.func37, Try.ntmps37
  go_wp2_with fail
  go_loopw [5] (fun i wr => ∃ (k : Nat), k ≤ ds.length ∧ i = .int .i64 k ∧ Below B w wr) (fun i _ => ds.length - (intOf i).toNat)
  case atStart => exact ⟨0, Nat.zero_le _, rfl, Below.refl _ _⟩
  case round =>
    obtain ⟨i, hi, rfl, hbel⟩ := hrel
    by_cases hlt : i < ds.length
    · have h1 : i < rs.length := by have := HL1.out; omega
      have h2 : i < rs'.length := by have := HL2.out; omega
      obtain ⟨b, off, rfl, hb, c0, c1, c2, c3, c4⟩ := SDr.cells HR.out h1 hbel
      obtain ⟨b', off', rfl, hb', d0, d1, d2, d3, d4⟩ := SDr.cells HR'.out h2 hbel
      have hok1 := HRS.out _ (List.getElem_mem h1)
      have hok2 := HRS'.out _ (List.getElem_mem h2)
      have he := (HGET.out i h1 hlt).trans (HGET'.out i h2 hlt).symm
      have hil : (i : Int) < (ds.length : Int) := by omega
      generalize rs[i] = r1 at *
      generalize rs'[i] = r2 at *
      obtain ⟨x0, x1, x2, x3, A1, xs, cap1⟩ := r1
      obtain ⟨y0, y1, y2, y3, A2, ys, cap2⟩ := r2
      simp only [SDr.pl, DrV.mk.injEq] at he
      obtain ⟨rfl, rfl, rfl, rfl, rfl⟩ := he
      simp only at c0 c1 c2 c3 c4 d0 d1 d2 d3 d4
      have hs : B ≤ wr.heap.size := by have := hbel.size; have := HB.out; omega
      have hv := fun n : Later wr => rInts_is (.slice A1 xs.length cap1) (.slice A2 xs.length cap2) xs n.W
        ((hok1.below2 (hbel.trans (n.h.mono hs)) (Nat.le_refl _) (by have := n.h.size; omega)).is) ((hok2.below2 (hbel.trans (n.h.mono hs)) (Nat.le_refl _) (by have := n.h.size; omega)).is)
      have HV := hide hv; have HBEL := hide hbel; clear hv hok1 hok2 hbel
      have l0 := fun n => later_cell c0 n; have l1 := fun n => later_cell c1 n; have l2 := fun n => later_cell c2 n; have l3 := fun n => later_cell c3 n; have l4 := fun n => later_cell c4 n
      have m0 := fun n => later_cell d0 n; have m1 := fun n => later_cell d1 n; have m2 := fun n => later_cell d2 n; have m3 := fun n => later_cell d3 n; have m4 := fun n => later_cell d4 n
      clear c0 c1 c2 c3 c4 d0 d1 d2 d3 d4 h1 h2 hb hb'
      have t0 : (x0 != x0) = false := by simp
      have t1 : (x1 != x1) = false := by simp
      have t2 : (x2 != x2) = false := by simp
      have t3 : (x3 != x3) = false := by simp
      go_wp2_with fail
      (refine wp_region_later (by kernel_rfl) (by kernel_rfl) ?_; (repeat (go_big_quiet_step ((go_at_call 32; exact later_call (HV.out _))))); refine wpQuiet_nil ?_; intro _ hw'; obtain ⟨nq, hw''⟩ := hw'; subst hw'')
      have hb5 := bstep HBEL.out nq.h hs
      go_wp2_with fail
      go_round
      case measure => (simp [intOf] <;> omega)
      case rel => exact ⟨i + 1, by omega, by go_num, hb5⟩
    · have hk : i = ds.length := by omega
      have HK := hide hk; clear hk
      go_wp2
      go_ret
      exact ⟨rfl, hbel⟩
end Go.Proofs.Ytdbcilinoieabaa
