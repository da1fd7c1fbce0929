/- Contracts of the test of a list of readers, in impl and spec: the Lean function goodR. Condition: the strings' lengths fit. (Printed by mkgood3.py.) -/
import Derived.Test.YtdbcilinoieabaaL3A
namespace Go.Proofs.Ytdbcilinoieabaa
open Go.RowKit
set_option linter.unusedVariables false
def SReader.at (xs : List SReader) (i : Nat) : SReader := xs.getD i SReader.zero
theorem SReader.at_lt {xs : List SReader} {i : Nat} (h : i < xs.length) : SReader.at xs i = xs[i] := by simp [SReader.at, List.getD_eq_getElem?_getD, h]
def okR (xs : List SReader) (i : Nat) : Bool := (SReader.at xs i).okB && (decide (i = 0) || decide ((SReader.at xs (i - 1)).ident < (SReader.at xs i).ident))
def goodR (xs : List SReader) : Bool := (List.range xs.length).all (okR xs) && decide (xs.length ≤ 10)
theorem goodR_no {xs : List SReader} {i : Nat} (hi : i < xs.length) (h : okR xs i = false) : goodR xs = false := by
  unfold goodR
  rw [Bool.and_eq_false_iff]; left
  rw [List.all_eq_false]
  exact ⟨i, List.mem_range.2 hi, by rw [h]; simp⟩
set_option maxHeartbeats 2000000 in
theorem l3Good_is (v : Value) (xs : List SReader) (w : World) (h : Is 5 SReader.enc w v xs) (hw : ∀ z ∈ xs, z.wf) :
    Calls Try.prog 89 #[v] w fun e w' => e = .returned (.bool (goodR xs)) ∧ Below w.heap.size w w' := by
  have hm := h.len
  have HW := hide hw; clear hw
  obtain ⟨A, cap, rfl, hr, _, _⟩ := h
  generalize hB : w.heap.size = B at hr ⊢
  have HB := hide hB; clear hB
  have HR := hide hr; clear hr
  go_enter Try.func89, Try.ntmps89
  go_wp2_with fail
  go_loopw [3] (fun i wr => ∃ (k : Nat), k ≤ xs.length ∧ i = .int .i64 k ∧ (List.range k).all (okR xs) = true ∧ Below B w wr) (fun i _ => xs.length - (intOf i).toNat)
  case atStart => exact ⟨0, Nat.zero_le _, rfl, rfl, Below.refl _ _⟩
  case round =>
    obtain ⟨i, hi, rfl, hall, hbel⟩ := hrel
    have HALL := hide hall; clear hall
    have hsz : B ≤ wr.heap.size := by have := hbel.size; rw [HB.out] at this; exact this
    by_cases hlt : i < xs.length
    · have hlt' : (i : Int) < xs.length := by omega
      obtain ⟨b, off, rfl, hb, c0, c1, c2, c3, c4⟩ := SReader.cells HR.out hlt hbel
      have hbw : b < wr.heap.size := by omega
      have hwf : xs[i].name.size ≤ 9223372036854775807 := Nat.le_trans (HW.out xs[i] (List.getElem_mem hlt)).2.1 (by decide)
      have hat : SReader.at xs i = ⟨xs[i].ident, xs[i].name, xs[i].joined, xs[i].cls, xs[i].fines⟩ := SReader.at_lt hlt
      generalize xs[i].ident = y0 at *; generalize xs[i].name = y1 at *; generalize xs[i].joined = y2 at *; generalize xs[i].cls = y3 at *; generalize xs[i].fines = y4 at *
      have hone := fun W => l3One_any y0 y1 y2 y3 y4 W hwf
      have hne : okR xs i = (SReader.okB ⟨y0, y1, y2, y3, y4⟩ && (decide (i = 0) || decide ((SReader.at xs (i - 1)).ident < y0))) := by unfold okR; rw [hat]
      clear hat hwf
      have BX := hbel
      have hsx := hsz
      have m0 := fun n => later_cell c0 n; have m1 := fun n => later_cell c1 n; have m2 := fun n => later_cell c2 n; have m3 := fun n => later_cell c3 n; have m4 := fun n => later_cell c4 n
      cases hok : SReader.okB ⟨y0, y1, y2, y3, y4⟩ with
      | false =>
        rw [hok] at hone hne
        have HN := hide (goodR_no hlt hne); have HC := hide hone
        clear hone hne hok
        go_wp2_with fail
        (refine wp_region_later (by kernel_rfl) (by kernel_rfl) ?_; (repeat (go_big_quiet_step ((go_at_call 176; exact later_call (HC.out _))))); refine wpQuiet_nil ?_; intro _ hw'; obtain ⟨nq, hw''⟩ := hw'; subst hw'')
        have B3 := bstep BX nq.h hsx
        go_wp2_with fail
        go_ret
        exact ⟨ret_bool HN.out.symm, B3⟩
      | true =>
        rw [hok, Bool.true_and] at hne
        rw [hok] at hone
        have HC := hide hone; clear hone hok
        have hcont : okR xs i = true → (List.range (i + 1)).all (okR xs) = true := fun h => by rw [List.range_succ, List.all_append, HALL.out]; simp [h]
        have HCONT := hide hcont; clear hcont
        rcases Nat.eq_zero_or_pos i with hz | hpos
        · have hz1 : ¬ (0 : Int) < (i : Int) := by omega
          have hz3 : ¬ 0 < i := by omega
          have hz4 : decide (0 < i) = false := decide_eq_false hz3
          have hz5 : (i == 0) = true := by simpa using hz
          clear hz1
          have HNE := hide (show okR xs i = true from hne.trans (by rw [decide_eq_true hz]; rfl)); clear hne hz
          go_wp2_with fail
          (refine wp_region_later (by kernel_rfl) (by kernel_rfl) ?_; (repeat (go_big_quiet_step ((go_at_call 176; exact later_call (HC.out _))))); refine wpQuiet_nil ?_; intro _ hw'; obtain ⟨nq, hw''⟩ := hw'; subst hw'')
          have B3 := bstep BX nq.h hsx
          generalize nq.W = W5 at B3
          go_wp2_with fail
          go_round
          case measure => (first | (simp [intOf]; done) | (simp [intOf] <;> omega))
          case rel => exact ⟨i + 1, by omega, by go_num, HCONT.out HNE.out, B3⟩
        · obtain ⟨q, rfl⟩ : ∃ q, i = q + 1 := ⟨i - 1, by omega⟩
          obtain ⟨b', off', hA, hb', p0, _, _, _, _⟩ := SReader.cells HR.out (i := q) (by omega) hbel
          injection hA with hA; injection hA with hA1 hA2; subst hA1 hA2
          rw [show q + 1 - 1 = q by omega, SReader.at_lt (show q < xs.length by omega)] at hne
          generalize xs[q].ident = pid at p0 hne
          have p1 : wr.cell? ⟨b, off + q * 5, none⟩ = some (.int .i64 pid) := p0
          have n1 := fun n => later_cell p1 n
          by_cases hp : pid < y0
          · have hp' : ¬ y0 ≤ pid := by omega
            have HNE := hide (show okR xs (q + 1) = true from hne.trans (by rw [decide_eq_true hp, Bool.or_true])); clear hne
            go_wp2_with fail
            (refine wp_region_later (by kernel_rfl) (by kernel_rfl) ?_; (repeat (go_big_quiet_step ((go_at_call 176; exact later_call (HC.out _))))); refine wpQuiet_nil ?_; intro _ hw'; obtain ⟨nq, hw''⟩ := hw'; subst hw'')
            have B3 := bstep BX nq.h hsx
            generalize nq.W = W5 at B3
            go_wp2_with fail
            go_round
            case measure => (first | (simp [intOf]; done) | (simp [intOf] <;> omega))
            case rel => exact ⟨q + 1 + 1, by omega, by go_num, HCONT.out HNE.out, B3⟩
          · have hge : y0 ≤ pid := by omega
            have hne2 : okR xs (q + 1) = false := by rw [hne, decide_eq_false hp, decide_eq_false (show ¬ q + 1 = 0 by omega)]; rfl
            have HN := hide (goodR_no hlt hne2)
            clear hne hne2
            go_wp2_with fail
            (refine wp_region_later (by kernel_rfl) (by kernel_rfl) ?_; (repeat (go_big_quiet_step ((go_at_call 176; exact later_call (HC.out _))))); refine wpQuiet_nil ?_; intro _ hw'; obtain ⟨nq, hw''⟩ := hw'; subst hw'')
            have B3 := bstep BX nq.h hsx
            go_wp2_with fail
            go_ret
            exact ⟨ret_bool HN.out.symm, B3⟩
    · have hk : i = xs.length := by omega
      have hall := HALL.out
      rw [hk] at hall
      have HA := hide hall; clear hall hk
      go_wp2_with fail
      go_ret
      exact ⟨ret_bool (by unfold goodR; rw [HA.out, Bool.true_and]; simp; omega), hbel⟩
set_option maxHeartbeats 2000000 in
theorem AreReaders_is (v : Value) (xs : List SReader) (w : World) (h : Is 5 SReader.enc w v xs) (hw : ∀ z ∈ xs, z.wf) :
    Calls Try.prog 87 #[v] w fun e w' => e = .returned (.bool (goodR xs)) ∧ Below w.heap.size w w' := by
  have hm := h.len
  have HW := hide hw; clear hw
  obtain ⟨A, cap, rfl, hr, _, _⟩ := h
  generalize hB : w.heap.size = B at hr ⊢
  have HB := hide hB; clear hB
  have HR := hide hr; clear hr
  go_enter Try.func87, Try.ntmps87
  go_wp2_with fail
  go_loopw [7] (fun i wr => ∃ (k : Nat), k ≤ xs.length ∧ i = .int .i64 k ∧ (List.range k).all (okR xs) = true ∧ Below B w wr) (fun i _ => xs.length - (intOf i).toNat)
  case atStart => exact ⟨0, Nat.zero_le _, rfl, rfl, Below.refl _ _⟩
  case round =>
    obtain ⟨i, hi, rfl, hall, hbel⟩ := hrel
    have HALL := hide hall; clear hall
    have hsz : B ≤ wr.heap.size := by have := hbel.size; rw [HB.out] at this; exact this
    by_cases hlt : i < xs.length
    · have hlt' : (i : Int) < xs.length := by omega
      obtain ⟨b, off, rfl, hb, c0, c1, c2, c3, c4⟩ := SReader.cells HR.out hlt hbel
      have hbw : b < wr.heap.size := by omega
      have hwf : xs[i].name.size ≤ 9223372036854775807 := Nat.le_trans (HW.out xs[i] (List.getElem_mem hlt)).2.1 (by decide)
      have hat : SReader.at xs i = ⟨xs[i].ident, xs[i].name, xs[i].joined, xs[i].cls, xs[i].fines⟩ := SReader.at_lt hlt
      generalize xs[i].ident = y0 at *; generalize xs[i].name = y1 at *; generalize xs[i].joined = y2 at *; generalize xs[i].cls = y3 at *; generalize xs[i].fines = y4 at *
      have hone := fun W => IsReader_any y0 y1 y2 y3 y4 W hwf
      have hne : okR xs i = (SReader.okB ⟨y0, y1, y2, y3, y4⟩ && (decide (i = 0) || decide ((SReader.at xs (i - 1)).ident < y0))) := by unfold okR; rw [hat]
      clear hat hwf
      have BX := hbel.alloc hsz (.cells #[.int .i64 y0, .string y1, .int .i64 y2, .int .i64 y3, .int .i64 y4] 49)
      have hsx : B ≤ (wr.alloc (.cells #[.int .i64 y0, .string y1, .int .i64 y2, .int .i64 y3, .int .i64 y4] 49)).heap.size := Nat.le_trans hsz (by simp)
      have hbx : ∀ W, Below (wr.alloc (.cells #[.int .i64 y0, .string y1, .int .i64 y2, .int .i64 y3, .int .i64 y4] 49)).heap.size (wr.alloc (.cells #[.int .i64 y0, .string y1, .int .i64 y2, .int .i64 y3, .int .i64 y4] 49)) W → W.cell? ⟨wr.heap.size, 0, none⟩ = some (.int .i64 y0) ∧ W.cell? ⟨wr.heap.size, 1, none⟩ = some (.string y1) ∧ W.cell? ⟨wr.heap.size, 2, none⟩ = some (.int .i64 y2) ∧ W.cell? ⟨wr.heap.size, 3, none⟩ = some (.int .i64 y3) ∧ W.cell? ⟨wr.heap.size, 4, none⟩ = some (.int .i64 y4) := by
        intro W hb
        have hc := fun o => (bcell hb).1 wr.heap.size o (by simp)
        refine ⟨?_, ?_, ?_, ?_, ?_⟩ <;> rw [hc, (Blk.new wr _ _).cell] <;> rfl
      have HBX := hide hbx; clear hbx
      have m0 := fun n : Later (wr.alloc (.cells #[.int .i64 y0, .string y1, .int .i64 y2, .int .i64 y3, .int .i64 y4] 49)) => (HBX.out n.W n.h).1
      have m1 := fun n : Later (wr.alloc (.cells #[.int .i64 y0, .string y1, .int .i64 y2, .int .i64 y3, .int .i64 y4] 49)) => (HBX.out n.W n.h).2.1
      have m2 := fun n : Later (wr.alloc (.cells #[.int .i64 y0, .string y1, .int .i64 y2, .int .i64 y3, .int .i64 y4] 49)) => (HBX.out n.W n.h).2.2.1
      have m3 := fun n : Later (wr.alloc (.cells #[.int .i64 y0, .string y1, .int .i64 y2, .int .i64 y3, .int .i64 y4] 49)) => (HBX.out n.W n.h).2.2.2.1
      have m4 := fun n : Later (wr.alloc (.cells #[.int .i64 y0, .string y1, .int .i64 y2, .int .i64 y3, .int .i64 y4] 49)) => (HBX.out n.W n.h).2.2.2.2
      cases hok : SReader.okB ⟨y0, y1, y2, y3, y4⟩ with
      | false =>
        rw [hok] at hone hne
        have HN := hide (goodR_no hlt hne); have HC := hide hone
        clear hone hne hok
        go_wp2_with fail
        (refine wp_region_later (by kernel_rfl) (by kernel_rfl) ?_; (repeat (go_big_quiet_step ((go_at_call 175; exact later_call (HC.out _))))); refine wpQuiet_nil ?_; intro _ hw'; obtain ⟨nq, hw''⟩ := hw'; subst hw'')
        have B3 := bstep BX nq.h hsx
        go_wp2_with fail
        go_ret
        exact ⟨ret_bool HN.out.symm, B3⟩
      | true =>
        rw [hok, Bool.true_and] at hne
        rw [hok] at hone
        have HC := hide hone; clear hone hok
        have hcont : okR xs i = true → (List.range (i + 1)).all (okR xs) = true := fun h => by rw [List.range_succ, List.all_append, HALL.out]; simp [h]
        have HCONT := hide hcont; clear hcont
        rcases Nat.eq_zero_or_pos i with hz | hpos
        · have hz1 : ¬ (0 : Int) < (i : Int) := by omega
          have hz3 : ¬ 0 < i := by omega
          have hz4 : decide (0 < i) = false := decide_eq_false hz3
          have hz5 : (i == 0) = true := by simpa using hz
          clear hz1
          have HNE := hide (show okR xs i = true from hne.trans (by rw [decide_eq_true hz]; rfl)); clear hne hz
          go_wp2_with fail
          (refine wp_region_later (by kernel_rfl) (by kernel_rfl) ?_; (repeat (go_big_quiet_step ((go_at_call 175; exact later_call (HC.out _))))); refine wpQuiet_nil ?_; intro _ hw'; obtain ⟨nq, hw''⟩ := hw'; subst hw'')
          have B3 := bstep BX nq.h hsx
          generalize nq.W = W5 at B3
          go_wp2_with fail
          go_round
          case measure => (first | (simp [intOf]; done) | (simp [intOf] <;> omega))
          case rel => exact ⟨i + 1, by omega, by go_num, HCONT.out HNE.out, B3⟩
        · obtain ⟨q, rfl⟩ : ∃ q, i = q + 1 := ⟨i - 1, by omega⟩
          obtain ⟨b', off', hA, hb', p0, _, _, _, _⟩ := SReader.cells HR.out (i := q) (by omega) hbel
          injection hA with hA; injection hA with hA1 hA2; subst hA1 hA2
          rw [show q + 1 - 1 = q by omega, SReader.at_lt (show q < xs.length by omega)] at hne
          generalize xs[q].ident = pid at p0 hne
          have p1 : (wr.alloc (.cells #[.int .i64 y0, .string y1, .int .i64 y2, .int .i64 y3, .int .i64 y4] 49)).cell? ⟨b, off + q * 5, none⟩ = some (.int .i64 pid) := ((bcell (below_alloc wr _)).1 _ _ hbw).trans p0
          have n1 := fun n => later_cell p1 n
          by_cases hp : pid < y0
          · have hp' : ¬ y0 ≤ pid := by omega
            have HNE := hide (show okR xs (q + 1) = true from hne.trans (by rw [decide_eq_true hp, Bool.or_true])); clear hne
            go_wp2_with fail
            (refine wp_region_later (by kernel_rfl) (by kernel_rfl) ?_; (repeat (go_big_quiet_step ((go_at_call 175; exact later_call (HC.out _))))); refine wpQuiet_nil ?_; intro _ hw'; obtain ⟨nq, hw''⟩ := hw'; subst hw'')
            have B3 := bstep BX nq.h hsx
            generalize nq.W = W5 at B3
            go_wp2_with fail
            go_round
            case measure => (first | (simp [intOf]; done) | (simp [intOf] <;> omega))
            case rel => exact ⟨q + 1 + 1, by omega, by go_num, HCONT.out HNE.out, B3⟩
          · have hge : y0 ≤ pid := by omega
            have hne2 : okR xs (q + 1) = false := by rw [hne, decide_eq_false hp, decide_eq_false (show ¬ q + 1 = 0 by omega)]; rfl
            have HN := hide (goodR_no hlt hne2)
            clear hne hne2
            go_wp2_with fail
            (refine wp_region_later (by kernel_rfl) (by kernel_rfl) ?_; (repeat (go_big_quiet_step ((go_at_call 175; exact later_call (HC.out _))))); refine wpQuiet_nil ?_; intro _ hw'; obtain ⟨nq, hw''⟩ := hw'; subst hw'')
            have B3 := bstep BX nq.h hsx
            go_wp2_with fail
            go_ret
            exact ⟨ret_bool HN.out.symm, B3⟩
    · have hk : i = xs.length := by omega
      have hall := HALL.out
      rw [hk] at hall
      have HA := hide hall; clear hall hk
      go_wp2_with fail
      go_ret
      exact ⟨ret_bool (by unfold goodR; rw [HA.out, Bool.true_and]; simp; omega), hbel⟩
end Go.Proofs.Ytdbcilinoieabaa
