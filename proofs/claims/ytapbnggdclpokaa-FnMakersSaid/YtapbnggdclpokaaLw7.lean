/- Helper of the laws on makers: equality of tables. No condition. -/
import Derived.Test.YtapbnggdclpokaaD7D
import Derived.Test.YtapbnggdclpokaaLw
import Derived.Deep.RegionWith
namespace Go.Proofs.Ytapbnggdclpokaa
open Go.RowKit
set_option linter.unusedVariables false

theorem rInts_same (A A' : Option Addr) (cap cap' : Nat) (xs : List Int) (w : World) (hr : Row 1 encI w w.heap.size A xs) (hr' : Row 1 encI w w.heap.size A' xs) (hm : xs.length ≤ 9223372036854775807) :
    Calls Try.prog 44 #[.slice A xs.length cap, .slice A' xs.length cap'] w fun e w' => e = .returned (.bool true) ∧ Below w.heap.size w w' := by
  generalize hB : w.heap.size = B at hr hr' ⊢
  have HB := hide hB; clear hB
  have HR := hide hr; clear hr
  have HR' := hide hr'; clear hr'
  go_enter Try.func44, Try.ntmps44
  go_wp2_with fail
  go_loopw [5] (fun i wr => ∃ (k : Nat), k ≤ xs.length ∧ i = .int .i64 k ∧ Below B w wr) (fun i _ => xs.length - (intOf i).toNat)
  case atStart => exact ⟨0, Nat.zero_le _, rfl, Below.refl _ _⟩
  case round =>
    obtain ⟨i, hi, rfl, hbel⟩ := hrel
    by_cases hlt : i < xs.length
    · obtain ⟨b, off, rfl, hb, c0⟩ := Ints.cells HR.out hlt hbel
      obtain ⟨b', off', rfl, hb', c0'⟩ := Ints.cells HR'.out hlt hbel
      have t0 : (xs[i] != xs[i]) = false := by simp
      go_wp2_with fail
      go_quiet (fail)
      all_goals
        go_wp2_with fail
        refine ⟨⟨i + 1, by omega, by go_num, ?_⟩, by simp [intOf]; omega⟩
        exact below_drewN hbel _
    · have hk : i = xs.length := by omega
      have HK := hide hk; clear hk
      go_wp2
      go_ret
      exact ⟨rfl, hbel⟩
theorem rInts_is (v v' : Value) (xs : List Int) (w : World) (h : Is 1 encI w v xs) (h' : Is 1 encI w v' xs) :
    Calls Try.prog 44 #[v, v'] w fun e w' => e = .returned (.bool true) ∧ Below w.heap.size w w' := by
  have hm := h.len
  obtain ⟨A, cap, rfl, hr, _, _⟩ := h
  obtain ⟨A', cap', rfl, hr', _, _⟩ := h'
  exact rInts_same A A' cap cap' xs w hr hr' hm
theorem rTable_is (v v' : Value) (xss : List (List Int)) (w : World) (h : IsG w v xss) (h' : IsG w v' xss) :
    Calls Try.prog 46 #[v, v'] w fun e w' => e = .returned (.bool true) ∧ Below w.heap.size w w' := by
  obtain ⟨rs, hmap, his, hrs⟩ := h
  obtain ⟨rs', hmap', his', hrs'⟩ := h'
  have hm := his.len
  have hl1 : rs.length = xss.length := by rw [← hmap]; simp
  have hl2 : rs'.length = xss.length := by rw [← hmap']; simp
  have hget : ∀ i, (hi : i < rs.length) → (h : i < xss.length) → rs[i].xs = xss[i] := fun i hi h => by simp [← hmap]
  have hget' : ∀ i, (hi : i < rs'.length) → (h : i < xss.length) → rs'[i].xs = xss[i] := fun i hi h => by simp [← hmap']
  obtain ⟨A, cap, rfl, hr, _, _⟩ := his
  obtain ⟨A', cap', rfl, hr', _, _⟩ := his'
  rw [hl1] at hm
  rw [hl1, hl2]
  generalize hB : w.heap.size = B at hr hr' hrs hrs' ⊢
  have HB := hide hB; clear hB
  have HR := hide hr; have HRS := hide hrs; have HL1 := hide hl1; have HGET := hide hget; clear hr hrs hl1 hget hmap
  have HR' := hide hr'; have HRS' := hide hrs'; have HL2 := hide hl2; have HGET' := hide hget'; clear hr' hrs' hl2 hget' hmap'
  go_enter Try.func46, Try.ntmps46
  go_wp2_with fail
  go_loopw [5] (fun i wr => ∃ (k : Nat), k ≤ xss.length ∧ i = .int .i64 k ∧ Below B w wr) (fun i _ => xss.length - (intOf i).toNat)
  case atStart => exact ⟨0, Nat.zero_le _, rfl, Below.refl _ _⟩
  case round =>
    obtain ⟨i, hi, rfl, hbel⟩ := hrel
    by_cases hlt : i < xss.length
    · have h1 : i < rs.length := by have := HL1.out; omega
      have h2 : i < rs'.length := by have := HL2.out; omega
      obtain ⟨b, off, rfl, hb, c0⟩ := SRow.cell HR.out h1 hbel
      obtain ⟨b', off', rfl, hb', c0'⟩ := SRow.cell HR'.out h2 hbel
      have hv := fun W (hW : Below B w W) => rInts_is (.slice rs[i].A xss[i].length rs[i].cap) (.slice rs'[i].A xss[i].length rs'[i].cap) xss[i] W
        (by have := ((HRS.out _ (List.getElem_mem h1)).below2 hW (Nat.le_refl _) (by rw [← HB.out]; exact hW.size)).is; rwa [HGET.out i h1 hlt] at this)
        (by have := ((HRS'.out _ (List.getElem_mem h2)).below2 hW (Nat.le_refl _) (by rw [← HB.out]; exact hW.size)).is; rwa [HGET'.out i h2 hlt] at this)
      rw [HGET.out i h1 hlt] at c0
      rw [HGET'.out i h2 hlt] at c0'
      have hil : (i : Int) < (xss.length : Int) := by omega
      have HV := hide hv; clear hv
      generalize rs[i].A = A1 at *; generalize rs[i].cap = cap1 at *; generalize rs'[i].A = A2 at *; generalize rs'[i].cap = cap2 at *
      generalize xss[i] = ys at *
      have HX := hide h1; have HX' := hide h2; clear h1 h2
      go_wp2_with fail
      go_region_with (go_at_call 44; refine (HV.out _ hbel.drew).mono ?_; rintro e w2 ⟨rfl, hb2⟩; replace hbel := bstep hbel.drew hb2 (by rw [← HB.out]; exact hbel.drew.size); clear hb2)
      all_goals
        go_wp2_with fail
        refine ⟨⟨i + 1, by omega, by go_num, hbel⟩, by simp [intOf]; omega⟩
    · have hk : i = xss.length := by omega
      have HK := hide hk; clear hk
      go_wp2
      go_ret
      exact ⟨rfl, hbel⟩