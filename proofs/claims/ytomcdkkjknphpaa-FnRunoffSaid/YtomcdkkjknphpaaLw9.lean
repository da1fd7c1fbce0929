/- Helpers of the laws on water: equality of lists, of grids and of squares; sums. Condition of the sum: up to 1000 numbers from 0 to 9999. -/
import Derived.Test.YtomcdkkjknphpaaL9Z
import Derived.Test.YtomcdkkjknphpaaLw
import Derived.Deep.RegionWith
namespace Go.Proofs.Ytomcdkkjknphpaa
open Go.RowKit
set_option linter.unusedVariables false
theorem vGrid_is (v v' : Value) (xss : List (List Int)) (w : World) (h : IsG w v xss) (h' : IsG w v' xss) :
    Calls Try.prog 24 #[v, v'] w fun e w' => e = .returned (.bool true) ∧ Below w.heap.size w w' := by
  obtain ⟨rs, hmap, his, hrs⟩ := h
  obtain ⟨rs', hmap', his', hrs'⟩ := h'
  have hm := his.len
  have hl1 : rs.length = xss.length := by rw [← hmap]; simp
  have hl2 : rs'.length = xss.length := by rw [← hmap']; simp
  have hget : ∀ i, (hi : i < rs.length) → (h : i < xss.length) → rs[i].xs = xss[i] := fun i hi h => by simp [← hmap]
  have hget' : ∀ i, (hi : i < rs'.length) → (h : i < xss.length) → rs'[i].xs = xss[i] := fun i hi h => by simp [← hmap']
  obtain ⟨A, cap, rfl, hr, _, _⟩ := his
  obtain ⟨A', cap', rfl, hr', _, _⟩ := his'
  rw [hl1] at hm
  rw [hl1, hl2]
  generalize hB : w.heap.size = B at hr hr' hrs hrs' ⊢
  have HB := hide hB; clear hB
  have HR := hide hr; have HRS := hide hrs; have HL1 := hide hl1; have HGET := hide hget; clear hr hrs hl1 hget hmap
  have HR' := hide hr'; have HRS' := hide hrs'; have HL2 := hide hl2; have HGET' := hide hget'; clear hr' hrs' hl2 hget' hmap'
  go_enter Try.func24, Try.ntmps24
  go_wp2_with fail
  go_loopw [5] (fun i wr => ∃ (k : Nat), k ≤ xss.length ∧ i = .int .i64 k ∧ Below B w wr) (fun i _ => xss.length - (intOf i).toNat)
  case atStart => exact ⟨0, Nat.zero_le _, rfl, Below.refl _ _⟩
  case round =>
    obtain ⟨i, hi, rfl, hbel⟩ := hrel
    by_cases hlt : i < xss.length
    · have h1 : i < rs.length := by have := HL1.out; omega
      have h2 : i < rs'.length := by have := HL2.out; omega
      obtain ⟨b, off, rfl, hb, c0⟩ := SRow.cell HR.out h1 hbel
      obtain ⟨b', off', rfl, hb', c0'⟩ := SRow.cell HR'.out h2 hbel
      have hv := fun W (hW : Below B w W) => vInts_is (.slice rs[i].A xss[i].length rs[i].cap) (.slice rs'[i].A xss[i].length rs'[i].cap) xss[i] W
        (by have := ((HRS.out _ (List.getElem_mem h1)).below2 hW (Nat.le_refl _) (by rw [← HB.out]; exact hW.size)).is; rwa [HGET.out i h1 hlt] at this)
        (by have := ((HRS'.out _ (List.getElem_mem h2)).below2 hW (Nat.le_refl _) (by rw [← HB.out]; exact hW.size)).is; rwa [HGET'.out i h2 hlt] at this)
      rw [HGET.out i h1 hlt] at c0
      rw [HGET'.out i h2 hlt] at c0'
      have hil : (i : Int) < (xss.length : Int) := by omega
      have HV := hide hv; clear hv
      generalize rs[i].A = A1 at *; generalize rs[i].cap = cap1 at *; generalize rs'[i].A = A2 at *; generalize rs'[i].cap = cap2 at *
      generalize xss[i] = ys at *
      have HX := hide h1; have HX' := hide h2; clear h1 h2
      go_wp2_with fail
      go_region_with (go_at_call 66; refine (HV.out _ hbel.drew).mono ?_; rintro e w2 ⟨rfl, hb2⟩; replace hbel := bstep hbel.drew hb2 (by rw [← HB.out]; exact hbel.drew.size); clear hb2)
      all_goals
        go_wp2_with fail
        refine ⟨⟨i + 1, by omega, by go_num, hbel⟩, by simp [intOf]; omega⟩
    · have hk : i = xss.length := by omega
      have HK := hide hk; clear hk
      go_wp2
      go_ret
      exact ⟨rfl, hbel⟩
theorem vPairs_is (v v' : Value) (xs : List SA2) (w : World) (h : Is 2 SA2.enc w v xs) (h' : Is 2 SA2.enc w v' xs) :
    Calls Try.prog 50 #[v, v'] w fun e w' => e = .returned (.bool true) ∧ Below w.heap.size w w' := by
  have hm := h.len
  obtain ⟨A, cap, rfl, hr, _, _⟩ := h
  obtain ⟨A', cap', rfl, hr', _, _⟩ := h'
  generalize hB : w.heap.size = B at hr hr' ⊢
  have HB := hide hB; clear hB
  have HR := hide hr; clear hr
  have HR' := hide hr'; clear hr'
  go_enter Try.func50, Try.ntmps50
  go_wp2_with fail
  go_loopw [5] (fun i wr => ∃ (k : Nat), k ≤ xs.length ∧ i = .int .i64 k ∧ Below B w wr) (fun i _ => xs.length - (intOf i).toNat)
  case atStart => exact ⟨0, Nat.zero_le _, rfl, Below.refl _ _⟩
  case round =>
    obtain ⟨i, hi, rfl, hbel⟩ := hrel
    by_cases hlt : i < xs.length
    · obtain ⟨b, off, rfl, hb, c0, c1⟩ := SA2.cells HR.out hlt hbel
      obtain ⟨b', off', rfl, hb', c0', c1'⟩ := SA2.cells HR'.out hlt hbel
      generalize xs[i].x = x at *; generalize xs[i].y = y at *
      have hne : ∀ W, (binOp .neq 50 (.agg #[.int .i64 x, .int .i64 y]) (.agg #[.int .i64 x, .int .i64 y])).run Try.prog W = .ok (.bool false) W := fun W => (SA2.neq_run x y x y W).trans (by unfold neqP; simp)
      go_wp2_with fail
      go_region_held3 (fun w' => w'.cell? ⟨b, off + i * 2, none⟩ = some (.int .i64 x) ∧ w'.cell? ⟨b, off + i * 2 + 1, none⟩ = some (.int .i64 y) ∧ w'.cell? ⟨b', off' + i * 2, none⟩ = some (.int .i64 x) ∧ w'.cell? ⟨b', off' + i * 2 + 1, none⟩ = some (.int .i64 y)) (go_keep) (fail)
      all_goals
        go_wp2_with fail
        refine ⟨⟨i + 1, by omega, by go_num, hbel.drew⟩, by simp [intOf]; omega⟩
    · have hk : i = xs.length := by omega
      have HK := hide hk; clear hk
      go_wp2
      go_ret
      exact ⟨rfl, hbel⟩
theorem vSum_is (v : Value) (xs : List Int) (w : World) (h : Is 1 encI w v xs) (hx : ∀ x ∈ xs, 0 ≤ x ∧ x ≤ 9999) (hl : xs.length ≤ 1000) :
    Calls Try.prog 27 #[v] w fun e w' => e = .returned (.int .i64 xs.sum) ∧ w = w' := by
  obtain ⟨A, cap, rfl, hr, _, _⟩ := h
  have HR := hide hr; clear hr
  have HX := hide hx; clear hx
  go_enter Try.func27, Try.ntmps27
  go_wp2_with fail
  go_loopw [3, 4] (fun s i wr => ∃ (k : Nat), k ≤ xs.length ∧ i = .int .i64 k ∧ ∃ t : Int, s = .int .i64 t ∧ t = (xs.take k).sum ∧ 0 ≤ t ∧ t ≤ 9999 * k ∧ w = wr) (fun _ i _ => xs.length - (intOf i).toNat)
  case atStart => exact ⟨0, Nat.zero_le _, rfl, 0, rfl, by simp, by omega, by omega, rfl⟩
  case round =>
    obtain ⟨i, hi, rfl, t, rfl, ht, h0, h1, rfl⟩ := hrel
    have HT := hide ht; clear ht
    by_cases hlt : i < xs.length
    · obtain ⟨b, off, rfl, hb, c0⟩ := Ints.cells HR.out hlt (Below.refl _ _)
      have hx := HX.out _ (List.getElem_mem hlt)
      have hs : (xs.take (i + 1)).sum = t + xs[i] := by rw [take_snoc' hlt, List.sum_append, HT.out]; simp
      have HS := hide hs; clear hs
      generalize xs[i] = x at *
      go_wp2_with fail
      go_round
      case measure => (first | (simp [intOf]; done) | (simp [intOf] <;> omega))
      case rel => exact ⟨i + 1, by omega, by go_num, _, rfl, HS.out.symm, by omega, by push_cast; omega, by first | rfl | trivial⟩
    · have hk : i = xs.length := by omega
      have hs : t = xs.sum := by rw [HT.out, hk, List.take_length]
      have HK := hide hk; clear hk HT
      subst hs
      go_wp2
      go_ret
      first | exact ⟨rfl, rfl⟩ | exact ⟨rfl, trivial⟩ | exact rfl
end Go.Proofs.Ytomcdkkjknphpaa
