/- Contracts of the lengths of roads, in impl and spec. Conditions: the list is a road where lengths are asked. -/
import Derived.Test.YtefnmfkndepfgaaL10E
namespace Go.Proofs.Ytefnmfkndepfgaa
open Go.RowKit
set_option linter.unusedVariables false
def partAt (xs : List SCorner) (i : Nat) : Int := partI (xs.getD i SCorner.zero).x (xs.getD i SCorner.zero).y (xs.getD (i+1) SCorner.zero).x (xs.getD (i+1) SCorner.zero).y
/-- the lengths of the first n parts -/
def lensN (xs : List SCorner) (n : Nat) : List Int := (List.range n).map (partAt xs)
def lensL (xs : List SCorner) : List Int := lensN xs (xs.length - 1)
theorem lensN_succ (xs : List SCorner) (n : Nat) : lensN xs (n + 1) = lensN xs n ++ [partAt xs n] := by simp [lensN, List.range_succ]
theorem lensN_len (xs : List SCorner) (n : Nat) : (lensN xs n).length = n := by simp [lensN]
theorem partAt_eq {xs : List SCorner} {i : Nat} (h : i + 1 < xs.length) : partAt xs i = partI xs[i].x xs[i].y xs[i+1].x xs[i+1].y := by
  simp only [partAt, getD_lt _ (show i < xs.length by omega), getD_lt _ h]
theorem partAt_bd {xs : List SCorner} (hok : roadB xs = true) {i : Nat} (h : i + 1 < xs.length) : 0 ≤ partAt xs i ∧ partAt xs i < 2000000 := by
  rw [partAt_eq h]; exact part_bd (road_corn hok (by omega)) (road_corn hok h)
theorem sumN_bd {xs : List SCorner} (hok : roadB xs = true) (n : Nat) (h : n + 1 ≤ xs.length) : 0 ≤ (lensN xs n).sum ∧ (lensN xs n).sum ≤ 2000000 * n := by
  induction n with
  | zero => simp [lensN]
  | succ n ih =>
    obtain ⟨h1, h2⟩ := ih (by omega)
    obtain ⟨h3, h4⟩ := partAt_bd hok (i := n) (by omega)
    rw [lensN_succ, List.sum_append, List.sum_singleton]
    omega
theorem sumN_succ (xs : List SCorner) (n : Nat) : (lensN xs (n + 1)).sum = (lensN xs n).sum + partAt xs n := by rw [lensN_succ, List.sum_append, List.sum_singleton]

theorem l10Length_any (v : Value) (xs : List SCorner) (w : World) (h : Is 2 SCorner.enc w v xs) (hok : roadB xs = true) :
    Calls Try.prog 62 #[v] w fun e w' => e = .returned (.int .i64 (lensL xs).sum) ∧ Below w.heap.size w w' := by
  have hlen := road_len hok
  obtain ⟨hl2, hl12⟩ := hlen
  have HOK := hide hok
  clear hok
  obtain ⟨A, cap, rfl, hr, _, _⟩ := h
  generalize hB : w.heap.size = B at hr ⊢
  have HB := hide hB; clear hB
  have HR := hide hr; clear hr
  go_enter Try.func62, Try.ntmps62
  go_wp2_with fail
  go_loopw [3, 4] (fun s i wr => ∃ k : Nat, k + 1 ≤ xs.length ∧ i = .int .i64 ((k : Int) + 1) ∧ s = .int .i64 (lensN xs k).sum ∧ Below B w wr) (fun _ i _ => xs.length - (intOf i).toNat)
  case atStart => exact ⟨0, by omega, rfl, rfl, Below.refl _ _⟩
  case round =>
    obtain ⟨i, hi, rfl, rfl, hbel⟩ := hrel
    have hsz : B ≤ wr.heap.size := by have := hbel.size; rw [HB.out] at this; exact this
    by_cases hlt : i + 1 < xs.length
    · obtain ⟨b, off, rfl, hb, c0, c1⟩ := SCorner.cells HR.out (i := i) (by omega) hbel
      obtain ⟨b', off', hA, hb', d0, d1⟩ := SCorner.cells HR.out (i := i + 1) (by omega) hbel
      injection hA with hA; injection hA with hA1 hA2; subst hA1 hA2
      have i0 := road_corn HOK.out (i := i) (by omega)
      have i1 := road_corn HOK.out (i := i + 1) (by omega)
      have hst := sumN_succ xs i
      obtain ⟨s0, s1⟩ := sumN_bd HOK.out i (by omega)
      obtain ⟨p0, p1⟩ := part_bd i0 i1
      rw [partAt_eq hlt] at hst
      have hcall := fun W => l10Part_any _ _ _ _ W i0 i1
      generalize xs[i].x = ax at c0 hst hcall p0 p1 i0
      generalize xs[i].y = ay at c1 hst hcall p0 p1 i0
      generalize xs[i+1].x = bx at d0 hst hcall p0 p1 i1
      generalize xs[i+1].y = b_ at d1 hst hcall p0 p1 i1
      generalize partI ax ay bx b_ = u at hst hcall p0 p1
      generalize (lensN xs i).sum = S at hst s0 s1
      have HC := hide hcall; have HST := hide hst; clear hcall hst i0 i1
      have n0 := fun n => later_cell c0 n; have n1 := fun n => later_cell c1 n
      have n2 := fun n => later_cell d0 n; have n3 := fun n => later_cell d1 n
      go_wp2_with fail
      have e0 : IntKind.i64.wrap (S + u) = S + u := IntWalk.i64_in _ (by omega)
      (refine wp_region_later (by kernel_rfl) (by kernel_rfl) ?_; (repeat (go_big_quiet_step ((go_at_call 66; exact later_call (HC.out _))))); refine wpQuiet_nil ?_; intro _ hw'; obtain ⟨nq, hw''⟩ := hw'; subst hw'')
      clear e0
      go_wp2_with fail
      refine ⟨⟨i + 1, by omega, by go_num, ?_, bstep hbel nq.h hsz⟩, by simp [intOf]; omega⟩
      rw [HST.out]
    · have hk : i + 1 = xs.length := by omega
      have hL : lensN xs i = lensL xs := by rw [lensL, show xs.length - 1 = i by omega]
      have HL := hide hL
      have hge : ¬ ((i : Int) + 1 < xs.length) := by omega
      clear hk hL
      go_wp2_with fail
      go_ret
      exact ⟨by rw [← HL.out]; rfl, hbel⟩

theorem lengths_any (v : Value) (xs : List SCorner) (w : World) (h : Is 2 SCorner.enc w v xs) (hok : roadB xs = true) :
    Calls Try.prog 64 #[v] w fun e w' => ∃ r, e = .returned r ∧ Own 1 encI 3 w' w.heap.size r (lensL xs) ∧ Below w.heap.size w w' := by
  have hlen := road_len hok
  obtain ⟨hl2, hl12⟩ := hlen
  have HOK := hide hok
  clear hok
  obtain ⟨A, cap, rfl, hr, _, _⟩ := h
  generalize hB : w.heap.size = B at hr ⊢
  have HB := hide hB; clear hB
  have HR := hide hr; clear hr
  go_enter Try.func64, Try.ntmps64
  go_wp2_with fail
  go_loopw [3, 4] (fun s i wr => ∃ k : Nat, k + 1 ≤ xs.length ∧ i = .int .i64 ((k : Int) + 1) ∧ Own 1 encI 3 wr B s (lensN xs k) ∧ Below B w wr) (fun _ i _ => xs.length - (intOf i).toNat)
  case atStart => exact ⟨0, by omega, rfl, Own.nil, Below.refl _ _⟩
  case round =>
    obtain ⟨i, hi, rfl, hown, hbel⟩ := hrel
    have hsz : B ≤ wr.heap.size := by have := hbel.size; rw [HB.out] at this; exact this
    have HOW := hide hown; clear hown
    by_cases hlt : i + 1 < xs.length
    · obtain ⟨b, off, rfl, hb, c0, c1⟩ := SCorner.cells HR.out (i := i) (by omega) hbel
      obtain ⟨b', off', hA, hb', d0, d1⟩ := SCorner.cells HR.out (i := i + 1) (by omega) hbel
      injection hA with hA; injection hA with hA1 hA2; subst hA1 hA2
      have i0 := road_corn HOK.out (i := i) (by omega)
      have i1 := road_corn HOK.out (i := i + 1) (by omega)
      have hst := lensN_succ xs i
      rw [partAt_eq hlt] at hst
      have hcall := fun W => partLength_any _ _ _ _ W i0 i1
      generalize xs[i].x = ax at c0 hst hcall i0
      generalize xs[i].y = ay at c1 hst hcall i0
      generalize xs[i+1].x = bx at d0 hst hcall i1
      generalize xs[i+1].y = b_ at d1 hst hcall i1
      generalize partI ax ay bx b_ = u at hst hcall
      have HC := hide hcall; have HST := hide hst; clear hcall hst i0 i1
      have q := lensN_len xs i
      have hl1 : (lensN xs i).length ≤ 16777216 := by omega
      clear q
      go_wp2_with fail
      have p0 : (0 : Int) ≤ (i : Int) := by omega
      have p1 : (i : Int) < xs.length := by omega
      have p2 : (0 : Int) ≤ (i : Int) + 1 := by omega
      have p3 : (i : Int) + 1 < xs.length := by omega
      have t1 : ((i : Int) + 1).toNat = i + 1 := by omega
      have r0 : IntKind.i64.wrap (i : Int) = i := IntWalk.i64_in _ (by omega)
      have r1 : IntKind.i64.wrap ((i : Int) + 1 - 1) = i := by rw [Int.add_sub_cancel]; exact r0
      go_region_held3 (fun w' => w'.cell? ⟨b, off + i * 2, none⟩ = some (.int .i64 ax) ∧ w'.cell? ⟨b, off + i * 2 + 1, none⟩ = some (.int .i64 ay) ∧ w'.cell? ⟨b, off + (i + 1) * 2, none⟩ = some (.int .i64 bx) ∧ w'.cell? ⟨b, off + (i + 1) * 2 + 1, none⟩ = some (.int .i64 b_)) (go_keep)
        (first
          | (go_at_call 69; refine (HC.out _).mono ?_; rintro e w2 ⟨rfl, hb2⟩; have hc2 : ∀ o, w2.cell? ⟨b, o, none⟩ = wr.cell? ⟨b, o, none⟩ := (fun o => hb2.cell (p := ⟨b, o, none⟩) (by show b < wr.heap.size; omega)); have ho2 := HOW.out.drew.below hb2; have HO2 := hide ho2; clear ho2; have hbl2 := bstep hbel.drew hb2 hsz; have hs2 : B ≤ w2.heap.size := Nat.le_trans hsz hb2.size; clear hb2)
          | (refine step_push1 (k := 1) (enc := encI) _ (by rfl) _ _ 70 (by rfl) 3 (.int .i64 0) 8 Try.underlying70 infoI rfl (by omega) (by omega) encI_one B _ (lensN xs i) (by rfl) HO2.out u _ (by rfl) (by rfl) hl1 hs2 hbl2 (Nat.le_refl _) (by rfl) ?_; intro v1 w1 ho1 hb1 hg1; have hc3 : ∀ o, w1.cell? ⟨b, o, none⟩ = wr.cell? ⟨b, o, none⟩ := (fun o => (hb1.cell (p := ⟨b, o, none⟩) hb).trans (hbel.cell (p := ⟨b, o, none⟩) hb).symm); have HO3 := hide ho1; clear ho1 hg1))
      all_goals
        clear r0 r1
        go_wp2_with fail
        refine ⟨⟨i + 1, by omega, by go_num, ?_, hb1⟩, by simp [intOf]; omega⟩
        rw [HST.out]; exact HO3.out
    · have hk : i + 1 = xs.length := by omega
      have hL : lensN xs i = lensL xs := by rw [lensL, show xs.length - 1 = i by omega]
      have HL := hide hL
      have hge : ¬ ((i : Int) + 1 < xs.length) := by omega
      clear hk hL
      go_wp2_with fail
      go_ret
      exact ⟨_, rfl, by rw [← HL.out]; exact HOW.out, hbel⟩

theorem sum_any (v : Value) (xs : List Int) (w : World) (h : Is 1 encI w v xs) (M : Int) (hM : M ≤ 1000000000000) (hlen : xs.length ≤ 1000000) (hx : ∀ x ∈ xs, 0 ≤ x ∧ x ≤ M) :
    Calls Try.prog 63 #[v] w fun e w' => e = .returned (.int .i64 xs.sum) ∧ w = w' := by
  obtain ⟨A, cap, rfl, hr, _, _⟩ := h
  have HR := hide hr; clear hr
  have HX := hide hx; clear hx
  go_enter Try.func63, Try.ntmps63
  go_wp2_with fail
  go_loop [3, 8] (fun s i => ∃ k : Nat, k ≤ xs.length ∧ i = .int .i64 k ∧ s = .int .i64 (xs.take k).sum ∧ 0 ≤ (xs.take k).sum ∧ (xs.take k).sum ≤ 1000000000000 * k) (fun _ i => xs.length - (intOf i).toNat)
  case atStart => exact ⟨0, by omega, rfl, by simp, by simp, by simp⟩
  case round =>
    obtain ⟨i, hi, rfl, rfl, s0, s1⟩ := hrel
    by_cases hlt : i < xs.length
    · obtain ⟨b, off, rfl, hb, c0⟩ := Ints.cells HR.out hlt (Below.refl _ _)
      obtain ⟨x0, x1⟩ := HX.out _ (List.getElem_mem hlt)
      have hst : (xs.take (i + 1)).sum = (xs.take i).sum + xs[i] := by rw [take_snoc' hlt, List.sum_append, List.sum_singleton]
      generalize (xs.take i).sum = S at hst s0 s1
      generalize xs[i] = x at c0 x0 x1 hst
      have HST := hide hst; clear hst
      go_wp2_with fail
      go_round
      case rel => exact ⟨i + 1, by omega, by go_num, by rw [HST.out], by rw [HST.out]; omega, by rw [HST.out]; omega⟩
      case measure => simp [intOf]; omega
    · have hk : i = xs.length := by omega
      have hL : (xs.take i).sum = xs.sum := by rw [hk, List.take_length]
      have HL := hide hL; clear hk hL
      go_wp2_with fail
      go_ret
      exact ⟨ret_int HL.out, rfl⟩
end Go.Proofs.Ytefnmfkndepfgaa
