/- Contracts of the test of a list of flats, in impl and spec: the Lean function goodF. No condition. (Printed by mkgood5.py.) -/
import Derived.Test.YtdbcilinoieabaaL5A
namespace Go.Proofs.Ytdbcilinoieabaa
open Go.RowKit
set_option linter.unusedVariables false
def SFlat.at (xs : List SFlat) (i : Nat) : SFlat := xs.getD i SFlat.zero
theorem SFlat.at_lt {xs : List SFlat} {i : Nat} (h : i < xs.length) : SFlat.at xs i = xs[i] := by simp [SFlat.at, List.getD_eq_getElem?_getD, h]
def okF (xs : List SFlat) (i : Nat) : Bool := (SFlat.at xs i).okB && (decide (i = 0) || decide ((SFlat.at xs (i - 1)).ident < (SFlat.at xs i).ident))
def goodF (xs : List SFlat) : Bool := (List.range xs.length).all (okF xs) && decide (xs.length ≤ 20)
theorem goodF_no {xs : List SFlat} {i : Nat} (hi : i < xs.length) (h : okF xs i = false) : goodF xs = false := by
  unfold goodF
  rw [Bool.and_eq_false_iff]; left
  rw [List.all_eq_false]
  exact ⟨i, List.mem_range.2 hi, by rw [h]; simp⟩
set_option maxHeartbeats 2000000 in
theorem l5Flats_is (v : Value) (xs : List SFlat) (w : World) (h : Is 4 SFlat.enc w v xs) :
    Calls Try.prog 132 #[v] w fun e w' => e = .returned (.bool (goodF xs)) ∧ Below w.heap.size w w' := by
  have hm := h.len
  obtain ⟨A, cap, rfl, hr, _, _⟩ := h
  generalize hB : w.heap.size = B at hr ⊢
  have HB := hide hB; clear hB
  have HR := hide hr; clear hr
  go_enter Try.func132, Try.ntmps132
  go_wp2_with fail
  go_loopw [3] (fun i wr => ∃ (k : Nat), k ≤ xs.length ∧ i = .int .i64 k ∧ (List.range k).all (okF xs) = true ∧ Below B w wr) (fun i _ => xs.length - (intOf i).toNat)
  case atStart => exact ⟨0, Nat.zero_le _, rfl, rfl, Below.refl _ _⟩
  case round =>
    obtain ⟨i, hi, rfl, hall, hbel⟩ := hrel
    have HALL := hide hall; clear hall
    have hsz : B ≤ wr.heap.size := by have := hbel.size; rw [HB.out] at this; exact this
    by_cases hlt : i < xs.length
    · have hlt' : (i : Int) < xs.length := by omega
      obtain ⟨b, off, rfl, hb, c0, c1, c2, c3⟩ := SFlat.cells HR.out hlt hbel
      have hbw : b < wr.heap.size := by omega
      have hat : SFlat.at xs i = ⟨xs[i].ident, xs[i].wide, xs[i].high, xs[i].grams⟩ := SFlat.at_lt hlt
      generalize xs[i].ident = y0 at *; generalize xs[i].wide = y1 at *; generalize xs[i].high = y2 at *; generalize xs[i].grams = y3 at *
      have hone := fun W => l5Flat_any y0 y1 y2 y3 W
      have hne : okF xs i = (SFlat.okB ⟨y0, y1, y2, y3⟩ && (decide (i = 0) || decide ((SFlat.at xs (i - 1)).ident < y0))) := by unfold okF; rw [hat]
      clear hat
      have BX := hbel
      have hsx := hsz
      have m0 := fun n => later_cell c0 n; have m1 := fun n => later_cell c1 n; have m2 := fun n => later_cell c2 n; have m3 := fun n => later_cell c3 n
      cases hok : SFlat.okB ⟨y0, y1, y2, y3⟩ with
      | false =>
        rw [hok] at hone hne
        have HN := hide (goodF_no hlt hne); have HC := hide hone
        clear hone hne hok
        go_wp2_with fail
        (refine wp_region_later (by kernel_rfl) (by kernel_rfl) ?_; (repeat (go_big_quiet_step ((go_at_call 129; exact later_call (HC.out _))))); refine wpQuiet_nil ?_; intro _ hw'; obtain ⟨nq, hw''⟩ := hw'; subst hw'')
        have B3 := bstep BX nq.h hsx
        go_wp2_with fail
        go_ret
        exact ⟨ret_bool HN.out.symm, B3⟩
      | true =>
        rw [hok, Bool.true_and] at hne
        rw [hok] at hone
        have HC := hide hone; clear hone hok
        have hcont : okF xs i = true → (List.range (i + 1)).all (okF xs) = true := fun h => by rw [List.range_succ, List.all_append, HALL.out]; simp [h]
        have HCONT := hide hcont; clear hcont
        rcases Nat.eq_zero_or_pos i with hz | hpos
        · have hz1 : ¬ (0 : Int) < (i : Int) := by omega
          have hz3 : ¬ 0 < i := by omega
          have hz4 : decide (0 < i) = false := decide_eq_false hz3
          have hz5 : (i == 0) = true := by simpa using hz
          clear hz1
          have HNE := hide (show okF xs i = true from hne.trans (by rw [decide_eq_true hz]; rfl)); clear hne hz
          go_wp2_with fail
          (refine wp_region_later (by kernel_rfl) (by kernel_rfl) ?_; (repeat (go_big_quiet_step ((go_at_call 129; exact later_call (HC.out _))))); refine wpQuiet_nil ?_; intro _ hw'; obtain ⟨nq, hw''⟩ := hw'; subst hw'')
          have B3 := bstep BX nq.h hsx
          generalize nq.W = W5 at B3
          go_wp2_with fail
          go_round
          case measure => (first | (simp [intOf]; done) | (simp [intOf] <;> omega))
          case rel => exact ⟨i + 1, by omega, by go_num, HCONT.out HNE.out, B3⟩
        · obtain ⟨q, rfl⟩ : ∃ q, i = q + 1 := ⟨i - 1, by omega⟩
          obtain ⟨b', off', hA, hb', p0, _, _, _⟩ := SFlat.cells HR.out (i := q) (by omega) hbel
          injection hA with hA; injection hA with hA1 hA2; subst hA1 hA2
          rw [show q + 1 - 1 = q by omega, SFlat.at_lt (show q < xs.length by omega)] at hne
          generalize xs[q].ident = pid at p0 hne
          have p1 : wr.cell? ⟨b, off + q * 4, none⟩ = some (.int .i64 pid) := p0
          have n1 := fun n => later_cell p1 n
          by_cases hp : pid < y0
          · have hp' : ¬ y0 ≤ pid := by omega
            have HNE := hide (show okF xs (q + 1) = true from hne.trans (by rw [decide_eq_true hp, Bool.or_true])); clear hne
            go_wp2_with fail
            (refine wp_region_later (by kernel_rfl) (by kernel_rfl) ?_; (repeat (go_big_quiet_step ((go_at_call 129; exact later_call (HC.out _))))); refine wpQuiet_nil ?_; intro _ hw'; obtain ⟨nq, hw''⟩ := hw'; subst hw'')
            have B3 := bstep BX nq.h hsx
            generalize nq.W = W5 at B3
            go_wp2_with fail
            go_round
            case measure => (first | (simp [intOf]; done) | (simp [intOf] <;> omega))
            case rel => exact ⟨q + 1 + 1, by omega, by go_num, HCONT.out HNE.out, B3⟩
          · have hge : y0 ≤ pid := by omega
            have hne2 : okF xs (q + 1) = false := by rw [hne, decide_eq_false hp, decide_eq_false (show ¬ q + 1 = 0 by omega)]; rfl
            have HN := hide (goodF_no hlt hne2)
            clear hne hne2
            go_wp2_with fail
            (refine wp_region_later (by kernel_rfl) (by kernel_rfl) ?_; (repeat (go_big_quiet_step ((go_at_call 129; exact later_call (HC.out _))))); refine wpQuiet_nil ?_; intro _ hw'; obtain ⟨nq, hw''⟩ := hw'; subst hw'')
            have B3 := bstep BX nq.h hsx
            go_wp2_with fail
            go_ret
            exact ⟨ret_bool HN.out.symm, B3⟩
    · have hk : i = xs.length := by omega
      have hall := HALL.out
      rw [hk] at hall
      have HA := hide hall; clear hall hk
      go_wp2_with fail
      go_ret
      exact ⟨ret_bool (by unfold goodF; rw [HA.out, Bool.true_and]; simp; omega), hbel⟩
set_option maxHeartbeats 2000000 in
theorem AreFlats_is (v : Value) (xs : List SFlat) (w : World) (h : Is 4 SFlat.enc w v xs) :
    Calls Try.prog 46 #[v] w fun e w' => e = .returned (.bool (goodF xs)) ∧ Below w.heap.size w w' := by
  have hm := h.len
  obtain ⟨A, cap, rfl, hr, _, _⟩ := h
  generalize hB : w.heap.size = B at hr ⊢
  have HB := hide hB; clear hB
  have HR := hide hr; clear hr
  go_enter Try.func46, Try.ntmps46
  go_wp2_with fail
  go_loopw [7] (fun i wr => ∃ (k : Nat), k ≤ xs.length ∧ i = .int .i64 k ∧ (List.range k).all (okF xs) = true ∧ Below B w wr) (fun i _ => xs.length - (intOf i).toNat)
  case atStart => exact ⟨0, Nat.zero_le _, rfl, rfl, Below.refl _ _⟩
  case round =>
    obtain ⟨i, hi, rfl, hall, hbel⟩ := hrel
    have HALL := hide hall; clear hall
    have hsz : B ≤ wr.heap.size := by have := hbel.size; rw [HB.out] at this; exact this
    by_cases hlt : i < xs.length
    · have hlt' : (i : Int) < xs.length := by omega
      obtain ⟨b, off, rfl, hb, c0, c1, c2, c3⟩ := SFlat.cells HR.out hlt hbel
      have hbw : b < wr.heap.size := by omega
      have hat : SFlat.at xs i = ⟨xs[i].ident, xs[i].wide, xs[i].high, xs[i].grams⟩ := SFlat.at_lt hlt
      generalize xs[i].ident = y0 at *; generalize xs[i].wide = y1 at *; generalize xs[i].high = y2 at *; generalize xs[i].grams = y3 at *
      have hone := fun W => isFlat_any y0 y1 y2 y3 W
      have hne : okF xs i = (SFlat.okB ⟨y0, y1, y2, y3⟩ && (decide (i = 0) || decide ((SFlat.at xs (i - 1)).ident < y0))) := by unfold okF; rw [hat]
      clear hat
      have BX := hbel.alloc hsz (.cells #[.int .i64 y0, .int .i64 y1, .int .i64 y2, .int .i64 y3] 68)
      have hsx : B ≤ (wr.alloc (.cells #[.int .i64 y0, .int .i64 y1, .int .i64 y2, .int .i64 y3] 68)).heap.size := Nat.le_trans hsz (by simp)
      have hbx : ∀ W, Below (wr.alloc (.cells #[.int .i64 y0, .int .i64 y1, .int .i64 y2, .int .i64 y3] 68)).heap.size (wr.alloc (.cells #[.int .i64 y0, .int .i64 y1, .int .i64 y2, .int .i64 y3] 68)) W → W.cell? ⟨wr.heap.size, 0, none⟩ = some (.int .i64 y0) ∧ W.cell? ⟨wr.heap.size, 1, none⟩ = some (.int .i64 y1) ∧ W.cell? ⟨wr.heap.size, 2, none⟩ = some (.int .i64 y2) ∧ W.cell? ⟨wr.heap.size, 3, none⟩ = some (.int .i64 y3) := by
        intro W hb
        have hc := fun o => (bcell hb).1 wr.heap.size o (by simp)
        refine ⟨?_, ?_, ?_, ?_⟩ <;> rw [hc, (Blk.new wr _ _).cell] <;> rfl
      have HBX := hide hbx; clear hbx
      have m0 := fun n : Later (wr.alloc (.cells #[.int .i64 y0, .int .i64 y1, .int .i64 y2, .int .i64 y3] 68)) => (HBX.out n.W n.h).1
      have m1 := fun n : Later (wr.alloc (.cells #[.int .i64 y0, .int .i64 y1, .int .i64 y2, .int .i64 y3] 68)) => (HBX.out n.W n.h).2.1
      have m2 := fun n : Later (wr.alloc (.cells #[.int .i64 y0, .int .i64 y1, .int .i64 y2, .int .i64 y3] 68)) => (HBX.out n.W n.h).2.2.1
      have m3 := fun n : Later (wr.alloc (.cells #[.int .i64 y0, .int .i64 y1, .int .i64 y2, .int .i64 y3] 68)) => (HBX.out n.W n.h).2.2.2
      cases hok : SFlat.okB ⟨y0, y1, y2, y3⟩ with
      | false =>
        rw [hok] at hone hne
        have HN := hide (goodF_no hlt hne); have HC := hide hone
        clear hone hne hok
        go_wp2_with fail
        (refine wp_region_later (by kernel_rfl) (by kernel_rfl) ?_; (repeat (go_big_quiet_step ((go_at_call 126; exact later_call (HC.out _))))); refine wpQuiet_nil ?_; intro _ hw'; obtain ⟨nq, hw''⟩ := hw'; subst hw'')
        have B3 := bstep BX nq.h hsx
        go_wp2_with fail
        go_ret
        exact ⟨ret_bool HN.out.symm, B3⟩
      | true =>
        rw [hok, Bool.true_and] at hne
        rw [hok] at hone
        have HC := hide hone; clear hone hok
        have hcont : okF xs i = true → (List.range (i + 1)).all (okF xs) = true := fun h => by rw [List.range_succ, List.all_append, HALL.out]; simp [h]
        have HCONT := hide hcont; clear hcont
        rcases Nat.eq_zero_or_pos i with hz | hpos
        · have hz1 : ¬ (0 : Int) < (i : Int) := by omega
          have hz3 : ¬ 0 < i := by omega
          have hz4 : decide (0 < i) = false := decide_eq_false hz3
          have hz5 : (i == 0) = true := by simpa using hz
          clear hz1
          have HNE := hide (show okF xs i = true from hne.trans (by rw [decide_eq_true hz]; rfl)); clear hne hz
          go_wp2_with fail
          (refine wp_region_later (by kernel_rfl) (by kernel_rfl) ?_; (repeat (go_big_quiet_step ((go_at_call 126; exact later_call (HC.out _))))); refine wpQuiet_nil ?_; intro _ hw'; obtain ⟨nq, hw''⟩ := hw'; subst hw'')
          have B3 := bstep BX nq.h hsx
          generalize nq.W = W5 at B3
          go_wp2_with fail
          go_round
          case measure => (first | (simp [intOf]; done) | (simp [intOf] <;> omega))
          case rel => exact ⟨i + 1, by omega, by go_num, HCONT.out HNE.out, B3⟩
        · obtain ⟨q, rfl⟩ : ∃ q, i = q + 1 := ⟨i - 1, by omega⟩
          obtain ⟨b', off', hA, hb', p0, _, _, _⟩ := SFlat.cells HR.out (i := q) (by omega) hbel
          injection hA with hA; injection hA with hA1 hA2; subst hA1 hA2
          rw [show q + 1 - 1 = q by omega, SFlat.at_lt (show q < xs.length by omega)] at hne
          generalize xs[q].ident = pid at p0 hne
          have p1 : (wr.alloc (.cells #[.int .i64 y0, .int .i64 y1, .int .i64 y2, .int .i64 y3] 68)).cell? ⟨b, off + q * 4, none⟩ = some (.int .i64 pid) := ((bcell (below_alloc wr _)).1 _ _ hbw).trans p0
          have n1 := fun n => later_cell p1 n
          by_cases hp : pid < y0
          · have hp' : ¬ y0 ≤ pid := by omega
            have HNE := hide (show okF xs (q + 1) = true from hne.trans (by rw [decide_eq_true hp, Bool.or_true])); clear hne
            go_wp2_with fail
            (refine wp_region_later (by kernel_rfl) (by kernel_rfl) ?_; (repeat (go_big_quiet_step ((go_at_call 126; exact later_call (HC.out _))))); refine wpQuiet_nil ?_; intro _ hw'; obtain ⟨nq, hw''⟩ := hw'; subst hw'')
            have B3 := bstep BX nq.h hsx
            generalize nq.W = W5 at B3
            go_wp2_with fail
            go_round
            case measure => (first | (simp [intOf]; done) | (simp [intOf] <;> omega))
            case rel => exact ⟨q + 1 + 1, by omega, by go_num, HCONT.out HNE.out, B3⟩
          · have hge : y0 ≤ pid := by omega
            have hne2 : okF xs (q + 1) = false := by rw [hne, decide_eq_false hp, decide_eq_false (show ¬ q + 1 = 0 by omega)]; rfl
            have HN := hide (goodF_no hlt hne2)
            clear hne hne2
            go_wp2_with fail
            (refine wp_region_later (by kernel_rfl) (by kernel_rfl) ?_; (repeat (go_big_quiet_step ((go_at_call 126; exact later_call (HC.out _))))); refine wpQuiet_nil ?_; intro _ hw'; obtain ⟨nq, hw''⟩ := hw'; subst hw'')
            have B3 := bstep BX nq.h hsx
            go_wp2_with fail
            go_ret
            exact ⟨ret_bool HN.out.symm, B3⟩
    · have hk : i = xs.length := by omega
      have hall := HALL.out
      rw [hk] at hall
      have HA := hide hall; clear hall hk
      go_wp2_with fail
      go_ret
      exact ⟨ret_bool (by unfold goodF; rw [HA.out, Bool.true_and]; simp; omega), hbel⟩
end Go.Proofs.Ytdbcilinoieabaa
