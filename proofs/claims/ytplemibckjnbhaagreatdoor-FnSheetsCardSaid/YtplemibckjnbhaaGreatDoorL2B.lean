/- Contracts of the test of a list of sheets, in impl and spec: the Lean function goodS. No condition. (Printed by mkgood2.py.) -/
import Derived.Test.YtplemibckjnbhaaGreatDoorL2A
import Derived.Test.YtplemibckjnbhaaGreatDoorOwn
namespace Go.Proofs.YtplemibckjnbhaaGreatDoor
open Go.RowKit
set_option linter.unusedVariables false
set_option maxHeartbeats 2000000 in
theorem l2Sheets_is (v : Value) (xs : List SSheet) (w : World) (h : Is 5 SSheet.enc w v xs) :
    Calls Tryz.prog 88 #[v] w fun e w' => e = .returned (.bool (goodS xs)) ∧ Below w.heap.size w w' := by
  have hm := h.len
  have HIS := hide h
  obtain ⟨A, cap, rfl, hr, _, _⟩ := h
  generalize hB : w.heap.size = B at hr ⊢
  have HB := hide hB; clear hB
  have HR := hide hr; clear hr
  by_cases h12 : 12 < xs.length
  · have h12' : (12 : Int) < xs.length := by omega
    have HN := hide (show goodS xs = false by unfold goodS; rw [Bool.and_eq_false_iff]; right; simpa using h12)
    clear h12
    go_enter Tryz.func88, Tryz.ntmps88
    go_wp2_with fail
    go_ret
    exact ⟨ret_bool HN.out.symm, Below.refl _ _⟩
  have h12' : ¬ (12 : Int) < xs.length := by omega
  go_enter Tryz.func88, Tryz.ntmps88
  go_wp2_with fail
  go_loopw [3] (fun i wr => ∃ (k : Nat), k ≤ xs.length ∧ i = .int .i64 k ∧ (List.range k).all (okS xs) = true ∧ Below B w wr) (fun i _ => xs.length - (intOf i).toNat)
  case atStart => exact ⟨0, Nat.zero_le _, rfl, rfl, Below.refl _ _⟩
  case round =>
    obtain ⟨i, hi, rfl, hall, hbel⟩ := hrel
    have HALL := hide hall; clear hall
    have hsz : B ≤ wr.heap.size := by have := hbel.size; rw [HB.out] at this; exact this
    by_cases hlt : i < xs.length
    · have hlt' : (i : Int) < xs.length := by omega
      obtain ⟨b, off, rfl, hb, c0, c1, c2, c3, c4⟩ := SSheet.cells HR.out hlt hbel
      have hbw : b < wr.heap.size := by omega
      have hat : SSheet.at xs i = ⟨xs[i].id, xs[i].row, xs[i].col, xs[i].scale, xs[i].year⟩ := SSheet.at_lt hlt
      have hir := HIS.out.below hbel (by rw [HB.out]; exact Nat.le_refl _)
      generalize xs[i].id = y0 at *; generalize xs[i].row = y1 at *; generalize xs[i].col = y2 at *; generalize xs[i].scale = y3 at *; generalize xs[i].year = y4 at *
      have hone := fun W => l2Sheet_any y0 y1 y2 y3 y4 W
      have hne : okS xs i = (SSheet.okB ⟨y0, y1, y2, y3, y4⟩ && ((decide (i = 0) || decide ((SSheet.at xs (i - 1)).id < y0)) && decide (atV xs y1 y2 y3 = (i : Int)))) := by unfold okS; rw [hat]
      have BX := hbel.alloc hsz (.cells #[.int .i64 y0, .int .i64 y1, .int .i64 y2, .int .i64 y3, .int .i64 y4] 50)
      have hia := hir.below (below_alloc wr (.cells #[.int .i64 y0, .int .i64 y1, .int .i64 y2, .int .i64 y3, .int .i64 y4] 50)) (Nat.le_refl _)
      have hatc := fun n : Later (wr.alloc (.cells #[.int .i64 y0, .int .i64 y1, .int .i64 y2, .int .i64 y3, .int .i64 y4] 50)) => l2At_any _ xs y1 y2 y3 n.W (hia.below n.h (Nat.le_refl _))
      generalize atV xs y1 y2 y3 = av at hne hatc
      have HAT := hide hatc
      clear hat hatc hia hir
      have hsx : B ≤ (wr.alloc (.cells #[.int .i64 y0, .int .i64 y1, .int .i64 y2, .int .i64 y3, .int .i64 y4] 50)).heap.size := Nat.le_trans hsz (by simp)
      have hbx : ∀ W, Below (wr.alloc (.cells #[.int .i64 y0, .int .i64 y1, .int .i64 y2, .int .i64 y3, .int .i64 y4] 50)).heap.size (wr.alloc (.cells #[.int .i64 y0, .int .i64 y1, .int .i64 y2, .int .i64 y3, .int .i64 y4] 50)) W → W.cell? ⟨wr.heap.size, 0, none⟩ = some (.int .i64 y0) ∧ W.cell? ⟨wr.heap.size, 1, none⟩ = some (.int .i64 y1) ∧ W.cell? ⟨wr.heap.size, 2, none⟩ = some (.int .i64 y2) ∧ W.cell? ⟨wr.heap.size, 3, none⟩ = some (.int .i64 y3) ∧ W.cell? ⟨wr.heap.size, 4, none⟩ = some (.int .i64 y4) := by
        intro W hb
        have hc := fun o => (bcell hb).1 wr.heap.size o (by simp)
        refine ⟨?_, ?_, ?_, ?_, ?_⟩ <;> rw [hc, (Blk.new wr _ _).cell] <;> rfl
      have HBX := hide hbx; clear hbx
      have m0 := fun n : Later (wr.alloc (.cells #[.int .i64 y0, .int .i64 y1, .int .i64 y2, .int .i64 y3, .int .i64 y4] 50)) => (HBX.out n.W n.h).1
      have m1 := fun n : Later (wr.alloc (.cells #[.int .i64 y0, .int .i64 y1, .int .i64 y2, .int .i64 y3, .int .i64 y4] 50)) => (HBX.out n.W n.h).2.1
      have m2 := fun n : Later (wr.alloc (.cells #[.int .i64 y0, .int .i64 y1, .int .i64 y2, .int .i64 y3, .int .i64 y4] 50)) => (HBX.out n.W n.h).2.2.1
      have m3 := fun n : Later (wr.alloc (.cells #[.int .i64 y0, .int .i64 y1, .int .i64 y2, .int .i64 y3, .int .i64 y4] 50)) => (HBX.out n.W n.h).2.2.2.1
      have m4 := fun n : Later (wr.alloc (.cells #[.int .i64 y0, .int .i64 y1, .int .i64 y2, .int .i64 y3, .int .i64 y4] 50)) => (HBX.out n.W n.h).2.2.2.2
      cases hok : SSheet.okB ⟨y0, y1, y2, y3, y4⟩ with
      | false =>
        rw [hok] at hone hne
        have HN := hide (goodS_no hlt hne); have HC := hide hone
        clear hone hne hok
        go_wp2_with fail
        (refine wp_region_later (by kernel_rfl) (by kernel_rfl) ?_; (repeat (go_big_quiet_step ((first | (go_at_call 78; exact later_call (HC.out _)) | (go_at_call 87; exact later_same (HAT.out _)))))); refine wpQuiet_nil ?_; intro _ hw'; obtain ⟨nq, hw''⟩ := hw'; subst hw'')
        have B3 := bstep BX nq.h hsx
        go_wp2_with fail
        go_ret
        exact ⟨ret_bool HN.out.symm, B3⟩
      | true =>
        rw [hok, Bool.true_and] at hne
        rw [hok] at hone
        have HC := hide hone; clear hone hok
        have hcont : okS xs i = true → (List.range (i + 1)).all (okS xs) = true := fun h => by rw [List.range_succ, List.all_append, HALL.out]; simp [h]
        have HCONT := hide hcont; clear hcont
        rcases Nat.eq_zero_or_pos i with hz | hpos
        · have hz1 : ¬ (0 : Int) < (i : Int) := by omega
          have hz3 : ¬ 0 < i := by omega
          have hz4 : decide (0 < i) = false := decide_eq_false hz3
          have hz5 : (i == 0) = true := by simpa using hz
          clear hz1
          have hne2 : okS xs i = decide (av = (i : Int)) := hne.trans (by rw [decide_eq_true hz]; simp)
          clear hne hz
          by_cases hav : av = (i : Int)
          · have ha2 : (av != (i : Int)) = false := by simpa using hav
            have HNE := hide (show okS xs i = true from hne2.trans (by rw [decide_eq_true hav])); clear hne2 hav
            go_wp2_with fail
            (refine wp_region_later (by kernel_rfl) (by kernel_rfl) ?_; (repeat (go_big_quiet_step ((first | (go_at_call 78; exact later_call (HC.out _)) | (go_at_call 87; exact later_same (HAT.out _)))))); refine wpQuiet_nil ?_; intro _ hw'; obtain ⟨nq, hw''⟩ := hw'; subst hw'')
            have B3 := bstep BX nq.h hsx
            generalize nq.W = W5 at B3
            go_wp2_with fail
            go_round
            case measure => (first | (simp [intOf]; done) | (simp [intOf] <;> omega))
            case rel => exact ⟨i + 1, by omega, by go_num, HCONT.out HNE.out, B3⟩
          · have ha2 : (av != (i : Int)) = true := by simpa using hav
            have HN := hide (goodS_no hlt (hne2.trans (by rw [decide_eq_false hav]))); clear hne2 hav
            go_wp2_with fail
            (refine wp_region_later (by kernel_rfl) (by kernel_rfl) ?_; (repeat (go_big_quiet_step ((first | (go_at_call 78; exact later_call (HC.out _)) | (go_at_call 87; exact later_same (HAT.out _)))))); refine wpQuiet_nil ?_; intro _ hw'; obtain ⟨nq, hw''⟩ := hw'; subst hw'')
            have B3 := bstep BX nq.h hsx
            go_wp2_with fail
            go_ret
            exact ⟨ret_bool HN.out.symm, B3⟩
        · obtain ⟨q, rfl⟩ : ∃ q, i = q + 1 := ⟨i - 1, by omega⟩
          obtain ⟨b', off', hA, hb', p0, _, _, _, _⟩ := SSheet.cells HR.out (i := q) (by omega) hbel
          injection hA with hA; injection hA with hA1 hA2; subst hA1 hA2
          rw [show q + 1 - 1 = q by omega, SSheet.at_lt (show q < xs.length by omega)] at hne
          generalize xs[q].id = pid at p0 hne
          have p1 : (wr.alloc (.cells #[.int .i64 y0, .int .i64 y1, .int .i64 y2, .int .i64 y3, .int .i64 y4] 50)).cell? ⟨b, off + q * 5, none⟩ = some (.int .i64 pid) := ((bcell (below_alloc wr _)).1 _ _ hbw).trans p0
          have n1 := fun n => later_cell p1 n
          by_cases hp : pid < y0
          · have hp' : ¬ y0 ≤ pid := by omega
            have hp3 : decide (y0 ≤ pid) = false := decide_eq_false hp'
            have hne2 : okS xs (q + 1) = decide (av = ((q + 1 : Nat) : Int)) := hne.trans (by rw [decide_eq_true hp, Bool.or_true, Bool.true_and])
            clear hne
            rw [show ((q + 1 : Nat) : Int) = (q : Int) + 1 from rfl] at hne2
            by_cases hav : av = ((q : Int) + 1)
            · have ha2 : (av != ((q : Int) + 1)) = false := by simpa using hav
              have HNE := hide (show okS xs (q + 1) = true from hne2.trans (by rw [decide_eq_true hav])); clear hne2 hav
              go_wp2_with fail
              (refine wp_region_later (by kernel_rfl) (by kernel_rfl) ?_; (repeat (go_big_quiet_step ((first | (go_at_call 78; exact later_call (HC.out _)) | (go_at_call 87; exact later_same (HAT.out _)))))); refine wpQuiet_nil ?_; intro _ hw'; obtain ⟨nq, hw''⟩ := hw'; subst hw'')
              have B3 := bstep BX nq.h hsx
              generalize nq.W = W5 at B3
              go_wp2_with fail
              go_round
              case measure => (first | (simp [intOf]; done) | (simp [intOf] <;> omega))
              case rel => exact ⟨(q + 1) + 1, by omega, by go_num, HCONT.out HNE.out, B3⟩
            · have ha2 : (av != ((q : Int) + 1)) = true := by simpa using hav
              have HN := hide (goodS_no hlt (hne2.trans (by rw [decide_eq_false hav]))); clear hne2 hav
              go_wp2_with fail
              (refine wp_region_later (by kernel_rfl) (by kernel_rfl) ?_; (repeat (go_big_quiet_step ((first | (go_at_call 78; exact later_call (HC.out _)) | (go_at_call 87; exact later_same (HAT.out _)))))); refine wpQuiet_nil ?_; intro _ hw'; obtain ⟨nq, hw''⟩ := hw'; subst hw'')
              have B3 := bstep BX nq.h hsx
              go_wp2_with fail
              go_ret
              exact ⟨ret_bool HN.out.symm, B3⟩
          · have hge : y0 ≤ pid := by omega
            have hne2 : okS xs (q + 1) = false := by rw [hne, decide_eq_false hp, decide_eq_false (show ¬ q + 1 = 0 by omega)]; rfl
            have HN := hide (goodS_no hlt hne2)
            clear hne hne2
            go_wp2_with fail
            (refine wp_region_later (by kernel_rfl) (by kernel_rfl) ?_; (repeat (go_big_quiet_step ((first | (go_at_call 78; exact later_call (HC.out _)) | (go_at_call 87; exact later_same (HAT.out _)))))); refine wpQuiet_nil ?_; intro _ hw'; obtain ⟨nq, hw''⟩ := hw'; subst hw'')
            have B3 := bstep BX nq.h hsx
            go_wp2_with fail
            go_ret
            exact ⟨ret_bool HN.out.symm, B3⟩
    · have hk : i = xs.length := by omega
      have hall := HALL.out
      rw [hk] at hall
      have HA := hide hall; clear hall hk
      go_wp2_with fail
      go_ret
      exact ⟨ret_bool (by unfold goodS; rw [HA.out, Bool.true_and]; simp; omega), hbel⟩
set_option maxHeartbeats 2000000 in
theorem AreSheets_is (v : Value) (xs : List SSheet) (w : World) (h : Is 5 SSheet.enc w v xs) :
    Calls Tryz.prog 36 #[v] w fun e w' => e = .returned (.bool (goodS xs)) ∧ Below w.heap.size w w' := by
  have hm := h.len
  have HIS := hide h
  obtain ⟨A, cap, rfl, hr, _, _⟩ := h
  generalize hB : w.heap.size = B at hr ⊢
  have HB := hide hB; clear hB
  have HR := hide hr; clear hr
  go_enter Tryz.func36, Tryz.ntmps36
  go_wp2_with fail
  go_loopw [7] (fun i wr => ∃ (k : Nat), k ≤ xs.length ∧ i = .int .i64 k ∧ (List.range k).all (okS xs) = true ∧ Below B w wr) (fun i _ => xs.length - (intOf i).toNat)
  case atStart => exact ⟨0, Nat.zero_le _, rfl, rfl, Below.refl _ _⟩
  case round =>
    obtain ⟨i, hi, rfl, hall, hbel⟩ := hrel
    have HALL := hide hall; clear hall
    have hsz : B ≤ wr.heap.size := by have := hbel.size; rw [HB.out] at this; exact this
    by_cases hlt : i < xs.length
    · have hlt' : (i : Int) < xs.length := by omega
      obtain ⟨b, off, rfl, hb, c0, c1, c2, c3, c4⟩ := SSheet.cells HR.out hlt hbel
      have hbw : b < wr.heap.size := by omega
      have hat : SSheet.at xs i = ⟨xs[i].id, xs[i].row, xs[i].col, xs[i].scale, xs[i].year⟩ := SSheet.at_lt hlt
      have hir := HIS.out.below hbel (by rw [HB.out]; exact Nat.le_refl _)
      generalize xs[i].id = y0 at *; generalize xs[i].row = y1 at *; generalize xs[i].col = y2 at *; generalize xs[i].scale = y3 at *; generalize xs[i].year = y4 at *
      have hone := fun W => IsSheet_any y0 y1 y2 y3 y4 W
      have hne : okS xs i = (SSheet.okB ⟨y0, y1, y2, y3, y4⟩ && ((decide (i = 0) || decide ((SSheet.at xs (i - 1)).id < y0)) && decide (atV xs y1 y2 y3 = (i : Int)))) := by unfold okS; rw [hat]
      have BX := hbel.alloc hsz (.cells #[.int .i64 y0, .int .i64 y1, .int .i64 y2, .int .i64 y3, .int .i64 y4] 50)
      have hia := hir.below (below_alloc wr (.cells #[.int .i64 y0, .int .i64 y1, .int .i64 y2, .int .i64 y3, .int .i64 y4] 50)) (Nat.le_refl _)
      have hatc := fun n : Later (wr.alloc (.cells #[.int .i64 y0, .int .i64 y1, .int .i64 y2, .int .i64 y3, .int .i64 y4] 50)) => sheetOn_any _ xs y1 y2 y3 n.W (hia.below n.h (Nat.le_refl _))
      generalize atV xs y1 y2 y3 = av at hne hatc
      have HAT := hide hatc
      clear hat hatc hia hir
      have hsx : B ≤ (wr.alloc (.cells #[.int .i64 y0, .int .i64 y1, .int .i64 y2, .int .i64 y3, .int .i64 y4] 50)).heap.size := Nat.le_trans hsz (by simp)
      have hbx : ∀ W, Below (wr.alloc (.cells #[.int .i64 y0, .int .i64 y1, .int .i64 y2, .int .i64 y3, .int .i64 y4] 50)).heap.size (wr.alloc (.cells #[.int .i64 y0, .int .i64 y1, .int .i64 y2, .int .i64 y3, .int .i64 y4] 50)) W → W.cell? ⟨wr.heap.size, 0, none⟩ = some (.int .i64 y0) ∧ W.cell? ⟨wr.heap.size, 1, none⟩ = some (.int .i64 y1) ∧ W.cell? ⟨wr.heap.size, 2, none⟩ = some (.int .i64 y2) ∧ W.cell? ⟨wr.heap.size, 3, none⟩ = some (.int .i64 y3) ∧ W.cell? ⟨wr.heap.size, 4, none⟩ = some (.int .i64 y4) := by
        intro W hb
        have hc := fun o => (bcell hb).1 wr.heap.size o (by simp)
        refine ⟨?_, ?_, ?_, ?_, ?_⟩ <;> rw [hc, (Blk.new wr _ _).cell] <;> rfl
      have HBX := hide hbx; clear hbx
      have m0 := fun n : Later (wr.alloc (.cells #[.int .i64 y0, .int .i64 y1, .int .i64 y2, .int .i64 y3, .int .i64 y4] 50)) => (HBX.out n.W n.h).1
      have m1 := fun n : Later (wr.alloc (.cells #[.int .i64 y0, .int .i64 y1, .int .i64 y2, .int .i64 y3, .int .i64 y4] 50)) => (HBX.out n.W n.h).2.1
      have m2 := fun n : Later (wr.alloc (.cells #[.int .i64 y0, .int .i64 y1, .int .i64 y2, .int .i64 y3, .int .i64 y4] 50)) => (HBX.out n.W n.h).2.2.1
      have m3 := fun n : Later (wr.alloc (.cells #[.int .i64 y0, .int .i64 y1, .int .i64 y2, .int .i64 y3, .int .i64 y4] 50)) => (HBX.out n.W n.h).2.2.2.1
      have m4 := fun n : Later (wr.alloc (.cells #[.int .i64 y0, .int .i64 y1, .int .i64 y2, .int .i64 y3, .int .i64 y4] 50)) => (HBX.out n.W n.h).2.2.2.2
      cases hok : SSheet.okB ⟨y0, y1, y2, y3, y4⟩ with
      | false =>
        rw [hok] at hone hne
        have HN := hide (goodS_no hlt hne); have HC := hide hone
        clear hone hne hok
        go_wp2_with fail
        (refine wp_region_later (by kernel_rfl) (by kernel_rfl) ?_; (repeat (go_big_quiet_step ((first | (go_at_call 30; exact later_call (HC.out _)) | (go_at_call 86; exact later_call (HAT.out _)))))); refine wpQuiet_nil ?_; intro _ hw'; obtain ⟨nq, hw''⟩ := hw'; subst hw'')
        have B3 := bstep BX nq.h hsx
        go_wp2_with fail
        go_ret
        exact ⟨ret_bool HN.out.symm, B3⟩
      | true =>
        rw [hok, Bool.true_and] at hne
        rw [hok] at hone
        have HC := hide hone; clear hone hok
        have hcont : okS xs i = true → (List.range (i + 1)).all (okS xs) = true := fun h => by rw [List.range_succ, List.all_append, HALL.out]; simp [h]
        have HCONT := hide hcont; clear hcont
        rcases Nat.eq_zero_or_pos i with hz | hpos
        · have hz1 : ¬ (0 : Int) < (i : Int) := by omega
          have hz3 : ¬ 0 < i := by omega
          have hz4 : decide (0 < i) = false := decide_eq_false hz3
          have hz5 : (i == 0) = true := by simpa using hz
          clear hz1
          have hne2 : okS xs i = decide (av = (i : Int)) := hne.trans (by rw [decide_eq_true hz]; simp)
          clear hne hz
          by_cases hav : av = (i : Int)
          · have ha2 : (av != (i : Int)) = false := by simpa using hav
            have HNE := hide (show okS xs i = true from hne2.trans (by rw [decide_eq_true hav])); clear hne2 hav
            go_wp2_with fail
            (refine wp_region_later (by kernel_rfl) (by kernel_rfl) ?_; (repeat (go_big_quiet_step ((first | (go_at_call 30; exact later_call (HC.out _)) | (go_at_call 86; exact later_call (HAT.out _)))))); refine wpQuiet_nil ?_; intro _ hw'; obtain ⟨nq, hw''⟩ := hw'; subst hw'')
            have B3 := bstep BX nq.h hsx
            generalize nq.W = W5 at B3
            go_wp2_with fail
            go_round
            case measure => (first | (simp [intOf]; done) | (simp [intOf] <;> omega))
            case rel => exact ⟨i + 1, by omega, by go_num, HCONT.out HNE.out, B3⟩
          · have ha2 : (av != (i : Int)) = true := by simpa using hav
            have HN := hide (goodS_no hlt (hne2.trans (by rw [decide_eq_false hav]))); clear hne2 hav
            go_wp2_with fail
            (refine wp_region_later (by kernel_rfl) (by kernel_rfl) ?_; (repeat (go_big_quiet_step ((first | (go_at_call 30; exact later_call (HC.out _)) | (go_at_call 86; exact later_call (HAT.out _)))))); refine wpQuiet_nil ?_; intro _ hw'; obtain ⟨nq, hw''⟩ := hw'; subst hw'')
            have B3 := bstep BX nq.h hsx
            go_wp2_with fail
            go_ret
            exact ⟨ret_bool HN.out.symm, B3⟩
        · obtain ⟨q, rfl⟩ : ∃ q, i = q + 1 := ⟨i - 1, by omega⟩
          obtain ⟨b', off', hA, hb', p0, _, _, _, _⟩ := SSheet.cells HR.out (i := q) (by omega) hbel
          injection hA with hA; injection hA with hA1 hA2; subst hA1 hA2
          rw [show q + 1 - 1 = q by omega, SSheet.at_lt (show q < xs.length by omega)] at hne
          generalize xs[q].id = pid at p0 hne
          have p1 : (wr.alloc (.cells #[.int .i64 y0, .int .i64 y1, .int .i64 y2, .int .i64 y3, .int .i64 y4] 50)).cell? ⟨b, off + q * 5, none⟩ = some (.int .i64 pid) := ((bcell (below_alloc wr _)).1 _ _ hbw).trans p0
          have n1 := fun n => later_cell p1 n
          by_cases hp : pid < y0
          · have hp' : ¬ y0 ≤ pid := by omega
            have hp3 : decide (y0 ≤ pid) = false := decide_eq_false hp'
            have hne2 : okS xs (q + 1) = decide (av = ((q + 1 : Nat) : Int)) := hne.trans (by rw [decide_eq_true hp, Bool.or_true, Bool.true_and])
            clear hne
            rw [show ((q + 1 : Nat) : Int) = (q : Int) + 1 from rfl] at hne2
            by_cases hav : av = ((q : Int) + 1)
            · have ha2 : (av != ((q : Int) + 1)) = false := by simpa using hav
              have HNE := hide (show okS xs (q + 1) = true from hne2.trans (by rw [decide_eq_true hav])); clear hne2 hav
              go_wp2_with fail
              (refine wp_region_later (by kernel_rfl) (by kernel_rfl) ?_; (repeat (go_big_quiet_step ((first | (go_at_call 30; exact later_call (HC.out _)) | (go_at_call 86; exact later_call (HAT.out _)))))); refine wpQuiet_nil ?_; intro _ hw'; obtain ⟨nq, hw''⟩ := hw'; subst hw'')
              have B3 := bstep BX nq.h hsx
              generalize nq.W = W5 at B3
              go_wp2_with fail
              go_round
              case measure => (first | (simp [intOf]; done) | (simp [intOf] <;> omega))
              case rel => exact ⟨(q + 1) + 1, by omega, by go_num, HCONT.out HNE.out, B3⟩
            · have ha2 : (av != ((q : Int) + 1)) = true := by simpa using hav
              have HN := hide (goodS_no hlt (hne2.trans (by rw [decide_eq_false hav]))); clear hne2 hav
              go_wp2_with fail
              (refine wp_region_later (by kernel_rfl) (by kernel_rfl) ?_; (repeat (go_big_quiet_step ((first | (go_at_call 30; exact later_call (HC.out _)) | (go_at_call 86; exact later_call (HAT.out _)))))); refine wpQuiet_nil ?_; intro _ hw'; obtain ⟨nq, hw''⟩ := hw'; subst hw'')
              have B3 := bstep BX nq.h hsx
              go_wp2_with fail
              go_ret
              exact ⟨ret_bool HN.out.symm, B3⟩
          · have hge : y0 ≤ pid := by omega
            have hne2 : okS xs (q + 1) = false := by rw [hne, decide_eq_false hp, decide_eq_false (show ¬ q + 1 = 0 by omega)]; rfl
            have HN := hide (goodS_no hlt hne2)
            clear hne hne2
            go_wp2_with fail
            (refine wp_region_later (by kernel_rfl) (by kernel_rfl) ?_; (repeat (go_big_quiet_step ((first | (go_at_call 30; exact later_call (HC.out _)) | (go_at_call 86; exact later_call (HAT.out _)))))); refine wpQuiet_nil ?_; intro _ hw'; obtain ⟨nq, hw''⟩ := hw'; subst hw'')
            have B3 := bstep BX nq.h hsx
            go_wp2_with fail
            go_ret
            exact ⟨ret_bool HN.out.symm, B3⟩
    · have hk : i = xs.length := by omega
      have hall := HALL.out
      rw [hk] at hall
      have HA := hide hall; clear hall hk
      go_wp2_with fail
      go_ret
      exact ⟨ret_bool (by unfold goodS; rw [HA.out, Bool.true_and]; simp; omega), hbel⟩
end Go.Proofs.YtplemibckjnbhaaGreatDoor
