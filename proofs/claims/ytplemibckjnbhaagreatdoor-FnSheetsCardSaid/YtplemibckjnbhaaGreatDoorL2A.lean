/- Contracts of the small functions on sheets, in impl and spec: one sheet, neighbors, the place of an id and of a row, a column and a scale. Conditions: small numbers where they are subtracted; lengths below 2^63. -/
import Derived.Test.YtplemibckjnbhaaGreatDoorL2P
import Derived.Test.YtplemibckjnbhaaGreatDoorLayX
namespace Go.Proofs.YtplemibckjnbhaaGreatDoor
open Go.RowKit
set_option linter.unusedVariables false
theorem isIdS_any (n : Int) (w : World) : Calls Tryz.prog 48 #[.int .i64 n] w fun e w' => e = .returned (.bool (inB n 1 999)) ∧ w = w' := by
  go_enter Tryz.func48, Tryz.ntmps48
  go_wp2_with (first | (go_at_call 51; refine (within_any _ _ _ _).mono ?_; rintro e w' ⟨rfl, rfl⟩))
  go_ret
  exact ⟨rfl, rfl⟩
theorem isScale_any (n : Int) (w : World) : Calls Tryz.prog 80 #[.int .i64 n] w fun e w' => e = .returned (.bool (inB n 10 500)) ∧ w = w' := by
  go_enter Tryz.func80, Tryz.ntmps80
  go_wp2_with (first | (go_at_call 51; refine (within_any _ _ _ _).mono ?_; rintro e w' ⟨rfl, rfl⟩))
  go_ret
  exact ⟨rfl, rfl⟩
theorem isYearS_any (n : Int) (w : World) : Calls Tryz.prog 81 #[.int .i64 n] w fun e w' => e = .returned (.bool (inB n 1500 2100)) ∧ w = w' := by
  go_enter Tryz.func81, Tryz.ntmps81
  go_wp2_with (first | (go_at_call 51; refine (within_any _ _ _ _).mono ?_; rintro e w' ⟨rfl, rfl⟩))
  go_ret
  exact ⟨rfl, rfl⟩
theorem l2Scale_any (n : Int) (w : World) : Calls Tryz.prog 90 #[.int .i64 n] w fun e w' => e = .returned (.bool (inB n 10 500)) ∧ w = w' := by
  go_enter Tryz.func90, Tryz.ntmps90
  go_wp2_with (first | (go_at_call 75; refine (l1In_any _ _ _ _).mono ?_; rintro e w' ⟨rfl, rfl⟩))
  go_ret
  exact ⟨rfl, rfl⟩
theorem l2Sheet_any (a0 a1 a2 a3 a4 : Int) (w : World) :
    Calls Tryz.prog 78 #[.agg #[.int .i64 a0, .int .i64 a1, .int .i64 a2, .int .i64 a3, .int .i64 a4]] w fun e w' => e = .returned (.bool (SSheet.okB ⟨a0, a1, a2, a3, a4⟩)) ∧ Below w.heap.size w w' := by
  have HI := hide (@SSheet.okB_iff a0 a1 a2 a3 a4)
  have HB1 := hide (below_alloc w (.cells #[.int .i64 a0, .int .i64 a1, .int .i64 a2, .int .i64 a3, .int .i64 a4] 50))
  go_enter Tryz.func78, Tryz.ntmps78
  go_wp2_with (first | (go_at_call 75; refine (l1In_any _ _ _ _).mono ?_; rintro e w' ⟨rfl, rfl⟩) | (go_at_call 90; refine (l2Scale_any _ _).mono ?_; rintro e w' ⟨rfl, rfl⟩))
  all_goals go_ret
  all_goals refine ⟨ret_bool (bool_of_iff ?_), HB1.out⟩
  all_goals (rw [HI.out]; simp [inB_iff, inB_no] at *; try omega)
theorem IsSheet_any (a0 a1 a2 a3 a4 : Int) (w : World) :
    Calls Tryz.prog 30 #[.agg #[.int .i64 a0, .int .i64 a1, .int .i64 a2, .int .i64 a3, .int .i64 a4]] w fun e w' => e = .returned (.bool (SSheet.okB ⟨a0, a1, a2, a3, a4⟩)) ∧ Below w.heap.size w w' := by
  have HI := hide (@SSheet.okB_iff a0 a1 a2 a3 a4)
  have HB1 := hide (below_alloc w (.cells #[.int .i64 a0, .int .i64 a1, .int .i64 a2, .int .i64 a3, .int .i64 a4] 50))
  go_enter Tryz.func30, Tryz.ntmps30
  go_wp2_with (first | (go_at_call 51; refine (within_any _ _ _ _).mono ?_; rintro e w' ⟨rfl, rfl⟩) | (go_at_call 48; refine (isIdS_any _ _).mono ?_; rintro e w' ⟨rfl, rfl⟩) | (go_at_call 80; refine (isScale_any _ _).mono ?_; rintro e w' ⟨rfl, rfl⟩) | (go_at_call 81; refine (isYearS_any _ _).mono ?_; rintro e w' ⟨rfl, rfl⟩))
  all_goals go_ret
  all_goals refine ⟨ret_bool (bool_of_iff ?_), HB1.out⟩
  all_goals (rw [HI.out]; simp [inB_iff, inB_no] at *; try omega)
theorem absS_any (n : Int) (w : World) (h0 : -1000000 ≤ n) (h1 : n ≤ 1000000) :
    Calls Tryz.prog 117 #[.int .i64 n] w fun e w' => e = .returned (.int .i64 (max n (-n))) ∧ w = w' := by
  go_enter Tryz.func117, Tryz.ntmps117
  go_wp2_with fail
  go_ret
  exact ⟨rfl, rfl⟩
/-- numbers of a sheet are small -/
def SSheet.Fit (z : SSheet) : Prop := (-100000 ≤ z.id ∧ z.id ≤ 100000) ∧ (-1000 ≤ z.row ∧ z.row ≤ 1000) ∧ (-1000 ≤ z.col ∧ z.col ≤ 1000) ∧ (-1000 ≤ z.scale ∧ z.scale ≤ 1000) ∧ (-100000 ≤ z.year ∧ z.year ≤ 100000)
/-- side by side, or the same place -/
def nearB (a b : SSheet) : Bool := decide (a.scale = b.scale ∧ -1 ≤ a.row - b.row ∧ a.row - b.row ≤ 1 ∧ -1 ≤ a.col - b.col ∧ a.col - b.col ≤ 1)
theorem nearB_iff {a b : SSheet} : nearB a b = true ↔ (a.scale = b.scale ∧ -1 ≤ a.row - b.row ∧ a.row - b.row ≤ 1 ∧ -1 ≤ a.col - b.col ∧ a.col - b.col ≤ 1) := decide_eq_true_iff
theorem sheetOn1_any (a0 a1 a2 a3 a4 row col scale : Int) (b b2 b3 : Nat) (w : World) (hc : w.cell? ⟨b, 0, none⟩ = some (.int .i64 row)) (hc2 : w.cell? ⟨b2, 0, none⟩ = some (.int .i64 col)) (hc3 : w.cell? ⟨b3, 0, none⟩ = some (.int .i64 scale)) :
    Calls Tryz.prog 112 #[.agg #[.int .i64 a0, .int .i64 a1, .int .i64 a2, .int .i64 a3, .int .i64 a4], .pointer (some ⟨b, 0, none⟩), .pointer (some ⟨b2, 0, none⟩), .pointer (some ⟨b3, 0, none⟩)] w fun e w' => e = .returned (.bool (onP row col scale ⟨a0, a1, a2, a3, a4⟩)) ∧ Below w.heap.size w w' := by
  have k1 := ((bcell (below_alloc w (.cells #[.int .i64 a0, .int .i64 a1, .int .i64 a2, .int .i64 a3, .int .i64 a4] 50))).1 b 0 (World.block_lt_of_cell? w _ hc)).trans hc
  have k2 := ((bcell (below_alloc w (.cells #[.int .i64 a0, .int .i64 a1, .int .i64 a2, .int .i64 a3, .int .i64 a4] 50))).1 b2 0 (World.block_lt_of_cell? w _ hc2)).trans hc2
  have k3 := ((bcell (below_alloc w (.cells #[.int .i64 a0, .int .i64 a1, .int .i64 a2, .int .i64 a3, .int .i64 a4] 50))).1 b3 0 (World.block_lt_of_cell? w _ hc3)).trans hc3
  have HI := hide (show onP row col scale ⟨a0, a1, a2, a3, a4⟩ = true ↔ (a1 = row ∧ a2 = col ∧ a3 = scale) from decide_eq_true_iff)
  cases e1 : (a1 == row) with
  | false =>
    have HE := hide (show a1 ≠ row by simpa using e1)
    go_enter Tryz.func112, Tryz.ntmps112
    go_wp2_with fail
    go_ret
    exact ⟨ret_bool (bool_of_iff (by rw [HI.out]; simp [HE.out])), below_alloc _ _⟩
  | true =>
    have HE := hide (show a1 = row by simpa using e1)
    cases e2 : (a2 == col) with
    | false =>
      have HE2 := hide (show a2 ≠ col by simpa using e2)
      go_enter Tryz.func112, Tryz.ntmps112
      go_wp2_with fail
      go_ret
      exact ⟨ret_bool (bool_of_iff (by rw [HI.out]; simp [HE2.out])), below_alloc _ _⟩
    | true =>
      have HE2 := hide (show a2 = col by simpa using e2)
      go_enter Tryz.func112, Tryz.ntmps112
      go_wp2_with fail
      go_ret
      exact ⟨ret_bool (bool_of_iff (by rw [HI.out]; simp [HE.out, HE2.out])), below_alloc _ _⟩
theorem sheetOn_any (v : Value) (xs : List SSheet) (row col scale : Int) (w : World) (h : Is 5 SSheet.enc w v xs) :
    Calls Tryz.prog 86 #[v, .int .i64 row, .int .i64 col, .int .i64 scale] w fun e w' => e = .returned (.int .i64 (atV xs row col scale)) ∧ Below w.heap.size w w' := by
  have hm := h.len
  obtain ⟨A, cap, rfl, hr, _, _⟩ := h
  have B1 := below_alloc w (.cells #[.int .i64 row] 3)
  have B2 := B1.alloc B1.size (.cells #[.int .i64 col] 3)
  have B3 := B2.alloc B2.size (.cells #[.int .i64 scale] 3)
  have hr1 := hr.below B3 (Nat.le_refl _) B3.size
  have K1 := ((Blk.new w 3 #[.int .i64 row]).alloc (.cells #[.int .i64 col] 3)).alloc (.cells #[.int .i64 scale] 3)
  have K2 := (Blk.new (w.alloc (.cells #[.int .i64 row] 3)) 3 #[.int .i64 col]).alloc (.cells #[.int .i64 scale] 3)
  have K3 := Blk.new ((w.alloc (.cells #[.int .i64 row] 3)).alloc (.cells #[.int .i64 col] 3)) 3 #[.int .i64 scale]
  have hp : SSheet.Pred 112 #[.pointer (some ⟨w.heap.size, 0, none⟩), .pointer (some ⟨w.heap.size + 1, 0, none⟩), .pointer (some ⟨w.heap.size + 2, 0, none⟩)] (onP row col scale) (((w.alloc (.cells #[.int .i64 row] 3)).alloc (.cells #[.int .i64 col] 3)).alloc (.cells #[.int .i64 scale] 3)).heap.size (((w.alloc (.cells #[.int .i64 row] 3)).alloc (.cells #[.int .i64 col] 3)).alloc (.cells #[.int .i64 scale] 3)) := fun W c hb =>
    (sheetOn1_any _ _ _ _ _ row col scale w.heap.size (w.heap.size + 1) (w.heap.size + 2) W ((K1.below hb K1.lt).cell 0) (by have := (K2.below hb K2.lt).cell 0; simpa using this) (by have := (K3.below hb K3.lt).cell 0; simpa using this)).mono fun e w' ⟨he, hw⟩ => ⟨he, hb.trans (hw.mono hb.size)⟩
  have HR := hide hr1; have HP := hide hp; have HB := hide B3; clear hr hr1 hp K1 K2 K3 B1 B2 B3
  go_enter Tryz.func86, Tryz.ntmps86
  go_wp2_with (go_at_call 111; refine (IndexFuncSheet_any _ _ _ _ _ _ _ HR.out hm (fun _ _ => by kernel_rfl) HP.out).mono ?_; rintro e w' ⟨rfl, hb'⟩)
  go_ret
  exact ⟨rfl, bstep HB.out hb' HB.out.size⟩
set_option maxHeartbeats 1000000 in
theorem l2At_any (v : Value) (xs : List SSheet) (row col scale : Int) (w : World) (h : Is 5 SSheet.enc w v xs) :
    Calls Tryz.prog 87 #[v, .int .i64 row, .int .i64 col, .int .i64 scale] w fun e w' => e = .returned (.int .i64 (atV xs row col scale)) ∧ w = w' := by
  have hm := h.len
  obtain ⟨A, cap, rfl, hr, _, _⟩ := h
  have HR := hide hr; clear hr
  go_enter Tryz.func87, Tryz.ntmps87
  go_wp2_with fail
  go_loop [9] (fun i => ∃ (k : Nat), k ≤ xs.length ∧ i = .int .i64 k ∧ (∀ c ∈ xs.take k, onP row col scale c = false)) (fun i => xs.length - (intOf i).toNat)
  case atStart => exact ⟨0, Nat.zero_le _, rfl, by simp⟩
  case round =>
    obtain ⟨i, hi, rfl, hno⟩ := hrel
    have HN := hide hno; clear hno
    by_cases hlt : i < xs.length
    · have hlt' : (i : Int) < xs.length := by omega
      obtain ⟨b, off, rfl, hb, _, c1, c2, c3, _⟩ := SSheet.cells HR.out hlt (Below.refl _ _)
      have hy : onP row col scale xs[i] = decide (xs[i].row = row ∧ xs[i].col = col ∧ xs[i].scale = scale) := rfl
      generalize xs[i].row = y1 at c1 hy; generalize xs[i].col = y2 at c2 hy; generalize xs[i].scale = y3 at c3 hy
      have HY := hide hy; clear hy
      have hcont : onP row col scale xs[i] = false → ∀ c ∈ xs.take (i + 1), onP row col scale c = false := fun hf => by
        rw [take_snoc' hlt]
        intro c hc
        rcases List.mem_append.1 hc with h | h
        · exact HN.out c h
        · rw [List.mem_singleton.1 h]; exact hf
      have HC := hide hcont; clear hcont
      cases e1 : (y1 == row) with
      | false =>
        have HF := hide (HC.out (by rw [HY.out, decide_eq_false_iff_not]; rintro ⟨h, _⟩; rw [h] at e1; simp at e1))
        go_wp2_with fail
        go_round
        case measure => simp [intOf]; omega
        case rel => exact ⟨i + 1, by omega, by go_num, HF.out⟩
      | true =>
        have HE1 := hide (show y1 = row by simpa using e1)
        cases e2 : (y2 == col) with
        | false =>
          have HF := hide (HC.out (by rw [HY.out, decide_eq_false_iff_not]; rintro ⟨_, h, _⟩; rw [h] at e2; simp at e2))
          go_wp2_with fail
          go_round
          case measure => simp [intOf]; omega
          case rel => exact ⟨i + 1, by omega, by go_num, HF.out⟩
        | true =>
          have HE2 := hide (show y2 = col by simpa using e2)
          cases e3 : (y3 == scale) with
          | false =>
            have HF := hide (HC.out (by rw [HY.out, decide_eq_false_iff_not]; rintro ⟨_, _, h⟩; rw [h] at e3; simp at e3))
            go_wp2_with fail
            go_round
            case measure => simp [intOf]; omega
            case rel => exact ⟨i + 1, by omega, by go_num, HF.out⟩
          | true =>
            have HE3 := hide (show y3 = scale by simpa using e3)
            go_wp2_with fail
            go_ret
            refine ⟨ret_int ?_, rfl⟩
            exact (idxF_hit hlt (by rw [HY.out, decide_eq_true_iff]; exact ⟨HE1.out, HE2.out, HE3.out⟩) HN.out).symm
    · have hk : i = xs.length := by omega
      have HK := hide hk; clear hk
      go_wp2_with fail
      go_ret
      refine ⟨ret_int ?_, rfl⟩
      have := HN.out; rw [HK.out, List.take_length] at this
      exact (idxF_miss this).symm
end Go.Proofs.YtplemibckjnbhaaGreatDoor
