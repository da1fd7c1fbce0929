/- Contracts of the small functions on sheets, in impl and spec: one sheet, neighbors, the place of an id and of a row, a column and a scale. Conditions: small numbers where they are subtracted; lengths below 2^63. -/
import Derived.Test.YtdbcilinoieabaaL2P
import Derived.Test.YtdbcilinoieabaaStInt
import Derived.Test.YtdbcilinoieabaaL1
namespace Go.Proofs.Ytdbcilinoieabaa
open Go.RowKit
set_option linter.unusedVariables false
theorem isIdS_any (n : Int) (w : World) : Calls Try.prog 192 #[.int .i64 n] w fun e w' => e = .returned (.bool (inB n 1 999)) ∧ w = w' := by
  go_enter Try.func192, Try.ntmps192
  go_wp2_with (first | (go_at_call 91; refine (within_any _ _ _ _).mono ?_; rintro e w' ⟨rfl, rfl⟩))
  go_ret
  exact ⟨rfl, rfl⟩
theorem isScale_any (n : Int) (w : World) : Calls Try.prog 217 #[.int .i64 n] w fun e w' => e = .returned (.bool (inB n 10 500)) ∧ w = w' := by
  go_enter Try.func217, Try.ntmps217
  go_wp2_with (first | (go_at_call 91; refine (within_any _ _ _ _).mono ?_; rintro e w' ⟨rfl, rfl⟩))
  go_ret
  exact ⟨rfl, rfl⟩
theorem isYearS_any (n : Int) (w : World) : Calls Try.prog 218 #[.int .i64 n] w fun e w' => e = .returned (.bool (inB n 1500 2100)) ∧ w = w' := by
  go_enter Try.func218, Try.ntmps218
  go_wp2_with (first | (go_at_call 91; refine (within_any _ _ _ _).mono ?_; rintro e w' ⟨rfl, rfl⟩))
  go_ret
  exact ⟨rfl, rfl⟩
theorem l2Scale_any (n : Int) (w : World) : Calls Try.prog 149 #[.int .i64 n] w fun e w' => e = .returned (.bool (inB n 10 500)) ∧ w = w' := by
  go_enter Try.func149, Try.ntmps149
  go_wp2_with (first | (go_at_call 81; refine (l1In_any _ _ _ _).mono ?_; rintro e w' ⟨rfl, rfl⟩))
  go_ret
  exact ⟨rfl, rfl⟩
theorem l2Sheet_any (a0 a1 a2 a3 a4 : Int) (w : World) :
    Calls Try.prog 199 #[.agg #[.int .i64 a0, .int .i64 a1, .int .i64 a2, .int .i64 a3, .int .i64 a4]] w fun e w' => e = .returned (.bool (SSheet.okB ⟨a0, a1, a2, a3, a4⟩)) ∧ Below w.heap.size w w' := by
  have HI := hide (@SSheet.okB_iff a0 a1 a2 a3 a4)
  have HB1 := hide (below_alloc w (.cells #[.int .i64 a0, .int .i64 a1, .int .i64 a2, .int .i64 a3, .int .i64 a4] 142))
  go_enter Try.func199, Try.ntmps199
  go_wp2_with (first | (go_at_call 81; refine (l1In_any _ _ _ _).mono ?_; rintro e w' ⟨rfl, rfl⟩) | (go_at_call 149; refine (l2Scale_any _ _).mono ?_; rintro e w' ⟨rfl, rfl⟩))
  all_goals go_ret
  all_goals refine ⟨ret_bool (bool_of_iff ?_), HB1.out⟩
  all_goals (rw [HI.out]; simp [inB_iff, inB_no] at *; try omega)
theorem IsSheet_any (a0 a1 a2 a3 a4 : Int) (w : World) :
    Calls Try.prog 197 #[.agg #[.int .i64 a0, .int .i64 a1, .int .i64 a2, .int .i64 a3, .int .i64 a4]] w fun e w' => e = .returned (.bool (SSheet.okB ⟨a0, a1, a2, a3, a4⟩)) ∧ Below w.heap.size w w' := by
  have HI := hide (@SSheet.okB_iff a0 a1 a2 a3 a4)
  have HB1 := hide (below_alloc w (.cells #[.int .i64 a0, .int .i64 a1, .int .i64 a2, .int .i64 a3, .int .i64 a4] 142))
  go_enter Try.func197, Try.ntmps197
  go_wp2_with (first | (go_at_call 91; refine (within_any _ _ _ _).mono ?_; rintro e w' ⟨rfl, rfl⟩) | (go_at_call 192; refine (isIdS_any _ _).mono ?_; rintro e w' ⟨rfl, rfl⟩) | (go_at_call 217; refine (isScale_any _ _).mono ?_; rintro e w' ⟨rfl, rfl⟩) | (go_at_call 218; refine (isYearS_any _ _).mono ?_; rintro e w' ⟨rfl, rfl⟩))
  all_goals go_ret
  all_goals refine ⟨ret_bool (bool_of_iff ?_), HB1.out⟩
  all_goals (rw [HI.out]; simp [inB_iff, inB_no] at *; try omega)
theorem absS_any (n : Int) (w : World) (h0 : -1000000 ≤ n) (h1 : n ≤ 1000000) :
    Calls Try.prog 173 #[.int .i64 n] w fun e w' => e = .returned (.int .i64 (max n (-n))) ∧ w = w' := by
  go_enter Try.func173, Try.ntmps173
  go_wp2_with fail
  go_ret
  exact ⟨rfl, rfl⟩
/-- numbers of a sheet are small -/
def SSheet.Fit (z : SSheet) : Prop := (-100000 ≤ z.id ∧ z.id ≤ 100000) ∧ (-1000 ≤ z.row ∧ z.row ≤ 1000) ∧ (-1000 ≤ z.col ∧ z.col ≤ 1000) ∧ (-1000 ≤ z.scale ∧ z.scale ≤ 1000) ∧ (-100000 ≤ z.year ∧ z.year ≤ 100000)
/-- side by side, or the same place -/
def nearB (a b : SSheet) : Bool := decide (a.scale = b.scale ∧ -1 ≤ a.row - b.row ∧ a.row - b.row ≤ 1 ∧ -1 ≤ a.col - b.col ∧ a.col - b.col ≤ 1)
theorem nearB_iff {a b : SSheet} : nearB a b = true ↔ (a.scale = b.scale ∧ -1 ≤ a.row - b.row ∧ a.row - b.row ≤ 1 ∧ -1 ≤ a.col - b.col ∧ a.col - b.col ≤ 1) := decide_eq_true_iff
set_option maxHeartbeats 1000000 in
theorem areNeighbors_any (a0 a1 a2 a3 a4 b0 b1 b2 b3 b4 : Int) (w : World) (ha : (⟨a0, a1, a2, a3, a4⟩ : SSheet).Fit) (hb : (⟨b0, b1, b2, b3, b4⟩ : SSheet).Fit) :
    Calls Try.prog 142 #[.agg #[.int .i64 a0, .int .i64 a1, .int .i64 a2, .int .i64 a3, .int .i64 a4], .agg #[.int .i64 b0, .int .i64 b1, .int .i64 b2, .int .i64 b3, .int .i64 b4]] w fun e w' => e = .returned (.bool (nbB ⟨a0, a1, a2, a3, a4⟩ ⟨b0, b1, b2, b3, b4⟩)) ∧ Below w.heap.size w w' := by
  have HI := hide (@nbB_iff ⟨a0, a1, a2, a3, a4⟩ ⟨b0, b1, b2, b3, b4⟩)
  obtain ⟨_, ⟨p0, p1⟩, ⟨p2, p3⟩, _, _⟩ := ha
  obtain ⟨_, ⟨q0, q1⟩, ⟨q2, q3⟩, _, _⟩ := hb
  simp only at p0 p1 p2 p3 q0 q1 q2 q3
  have B1 := below_alloc w (.cells #[.int .i64 a0, .int .i64 a1, .int .i64 a2, .int .i64 a3, .int .i64 a4] 142)
  have HB1 := hide (B1.alloc B1.size (.cells #[.int .i64 b0, .int .i64 b1, .int .i64 b2, .int .i64 b3, .int .i64 b4] 142))
  clear B1
  by_cases e0 : a0 = b0
  · have f0 : (a0 != b0) = false := by simpa using e0
    have HE := hide e0; clear e0
    go_enter Try.func142, Try.ntmps142
    go_wp2_with fail
    go_ret
    refine ⟨ret_bool (bool_of_iff ?_), HB1.out⟩
    rw [HI.out]; simp [HE.out]
  have f0 : (a0 != b0) = true := by simpa using e0
  by_cases e3 : a3 = b3
  · have f3 : (a3 == b3) = true := by simpa using e3
    have HE := hide e0; have HE3 := hide e3; clear e0 e3
    go_enter Try.func142, Try.ntmps142
    go_wp2_with (go_at_call 173; refine (absS_any _ _ (by omega) (by omega)).mono ?_; rintro e w' ⟨rfl, rfl⟩)
    all_goals go_ret
    all_goals refine ⟨ret_bool (bool_of_iff ?_), HB1.out⟩
    all_goals (rw [HI.out]; have := HE.out; have := HE3.out; simp at *; omega)
  · have f3 : (a3 == b3) = false := by simpa using e3
    have HE3 := hide e3; clear e0 e3
    go_enter Try.func142, Try.ntmps142
    go_wp2_with fail
    go_ret
    refine ⟨ret_bool (bool_of_iff ?_), HB1.out⟩
    rw [HI.out]; simp [HE3.out]
set_option maxHeartbeats 1000000 in
theorem l2Near_any (a0 a1 a2 a3 a4 b0 b1 b2 b3 b4 : Int) (w : World) (ha : (⟨a0, a1, a2, a3, a4⟩ : SSheet).Fit) (hb : (⟨b0, b1, b2, b3, b4⟩ : SSheet).Fit) :
    Calls Try.prog 145 #[.agg #[.int .i64 a0, .int .i64 a1, .int .i64 a2, .int .i64 a3, .int .i64 a4], .agg #[.int .i64 b0, .int .i64 b1, .int .i64 b2, .int .i64 b3, .int .i64 b4]] w fun e w' => e = .returned (.bool (nearB ⟨a0, a1, a2, a3, a4⟩ ⟨b0, b1, b2, b3, b4⟩)) ∧ Below w.heap.size w w' := by
  have HI := hide (@nearB_iff ⟨a0, a1, a2, a3, a4⟩ ⟨b0, b1, b2, b3, b4⟩)
  obtain ⟨_, ⟨p0, p1⟩, ⟨p2, p3⟩, _, _⟩ := ha
  obtain ⟨_, ⟨q0, q1⟩, ⟨q2, q3⟩, _, _⟩ := hb
  simp only at p0 p1 p2 p3 q0 q1 q2 q3
  have B1 := below_alloc w (.cells #[.int .i64 a0, .int .i64 a1, .int .i64 a2, .int .i64 a3, .int .i64 a4] 142)
  have HB1 := hide (B1.alloc B1.size (.cells #[.int .i64 b0, .int .i64 b1, .int .i64 b2, .int .i64 b3, .int .i64 b4] 142))
  clear B1
  by_cases e3 : a3 = b3
  · have f3 : (a3 == b3) = true := by simpa using e3
    have HE3 := hide e3; clear e3
    go_enter Try.func145, Try.ntmps145
    go_wp2_with (go_at_call 81; refine (l1In_any _ _ _ _).mono ?_; rintro e w' ⟨rfl, rfl⟩)
    all_goals go_ret
    all_goals refine ⟨ret_bool (bool_of_iff ?_), HB1.out⟩
    all_goals (rw [HI.out]; have := HE3.out; simp [inB_iff, inB_no] at *; omega)
  · have f3 : (a3 == b3) = false := by simpa using e3
    have HE3 := hide e3; clear e3
    go_enter Try.func145, Try.ntmps145
    go_wp2_with fail
    go_ret
    refine ⟨ret_bool (bool_of_iff ?_), HB1.out⟩
    rw [HI.out]; simp [HE3.out]
/-! ### places -/
theorem sheetAt1_any (a0 a1 a2 a3 a4 id : Int) (b : Nat) (w : World) (hc : w.cell? ⟨b, 0, none⟩ = some (.int .i64 id)) :
    Calls Try.prog 196 #[.agg #[.int .i64 a0, .int .i64 a1, .int .i64 a2, .int .i64 a3, .int .i64 a4], .pointer (some ⟨b, 0, none⟩)] w fun e w' => e = .returned (.bool (a0 == id)) ∧ Below w.heap.size w w' := by
  have hbl := World.block_lt_of_cell? w _ hc
  have hc2 : (w.alloc (.cells #[.int .i64 a0, .int .i64 a1, .int .i64 a2, .int .i64 a3, .int .i64 a4] 142)).cell? ⟨b, 0, none⟩ = some (.int .i64 id) := ((bcell (below_alloc w _)).1 b 0 hbl).trans hc
  go_enter Try.func196, Try.ntmps196
  go_wp2_with fail
  go_ret
  exact ⟨rfl, below_alloc _ _⟩
theorem sheetAt_any (v : Value) (xs : List SSheet) (id : Int) (w : World) (h : Is 5 SSheet.enc w v xs) :
    Calls Try.prog 138 #[v, .int .i64 id] w fun e w' => e = .returned (.int .i64 (findS xs id)) ∧ Below w.heap.size w w' := by
  have hm := h.len
  obtain ⟨A, cap, rfl, hr, _, _⟩ := h
  have B1 := below_alloc w (.cells #[.int .i64 id] 3)
  have hr1 := hr.below B1 (Nat.le_refl _) B1.size
  have hcell : (w.alloc (.cells #[.int .i64 id] 3)).cell? ⟨w.heap.size, 0, none⟩ = some (.int .i64 id) := by rw [(Blk.new w _ _).cell]; rfl
  have hp : SSheet.Pred 196 #[.pointer (some ⟨w.heap.size, 0, none⟩)] (fun c => c.id == id) (w.alloc (.cells #[.int .i64 id] 3)).heap.size (w.alloc (.cells #[.int .i64 id] 3)) := fun W c hb =>
    (sheetAt1_any _ _ _ _ _ id w.heap.size W (((bcell hb).1 _ _ (by simp)).trans hcell)).mono fun e w' ⟨he, hw⟩ => ⟨he, hb.trans (hw.mono hb.size)⟩
  have HR := hide hr1; have HP := hide hp; clear hr hr1 hp hcell
  go_enter Try.func138, Try.ntmps138
  go_wp2_with (go_at_call 195; refine (IndexFuncSheet_any _ _ _ _ _ _ _ HR.out hm (fun _ _ => by kernel_rfl) HP.out).mono ?_; rintro e w' ⟨rfl, hb'⟩)
  go_ret
  exact ⟨rfl, bstep B1 hb' B1.size⟩
theorem sheetOn1_any (a0 a1 a2 a3 a4 row col scale : Int) (b b2 b3 : Nat) (w : World) (hc : w.cell? ⟨b, 0, none⟩ = some (.int .i64 row)) (hc2 : w.cell? ⟨b2, 0, none⟩ = some (.int .i64 col)) (hc3 : w.cell? ⟨b3, 0, none⟩ = some (.int .i64 scale)) :
    Calls Try.prog 219 #[.agg #[.int .i64 a0, .int .i64 a1, .int .i64 a2, .int .i64 a3, .int .i64 a4], .pointer (some ⟨b, 0, none⟩), .pointer (some ⟨b2, 0, none⟩), .pointer (some ⟨b3, 0, none⟩)] w fun e w' => e = .returned (.bool (onP row col scale ⟨a0, a1, a2, a3, a4⟩)) ∧ Below w.heap.size w w' := by
  have k1 := ((bcell (below_alloc w (.cells #[.int .i64 a0, .int .i64 a1, .int .i64 a2, .int .i64 a3, .int .i64 a4] 142))).1 b 0 (World.block_lt_of_cell? w _ hc)).trans hc
  have k2 := ((bcell (below_alloc w (.cells #[.int .i64 a0, .int .i64 a1, .int .i64 a2, .int .i64 a3, .int .i64 a4] 142))).1 b2 0 (World.block_lt_of_cell? w _ hc2)).trans hc2
  have k3 := ((bcell (below_alloc w (.cells #[.int .i64 a0, .int .i64 a1, .int .i64 a2, .int .i64 a3, .int .i64 a4] 142))).1 b3 0 (World.block_lt_of_cell? w _ hc3)).trans hc3
  have HI := hide (show onP row col scale ⟨a0, a1, a2, a3, a4⟩ = true ↔ (a1 = row ∧ a2 = col ∧ a3 = scale) from decide_eq_true_iff)
  cases e1 : (a1 == row) with
  | false =>
    have HE := hide (show a1 ≠ row by simpa using e1)
    go_enter Try.func219, Try.ntmps219
    go_wp2_with fail
    go_ret
    exact ⟨ret_bool (bool_of_iff (by rw [HI.out]; simp [HE.out])), below_alloc _ _⟩
  | true =>
    have HE := hide (show a1 = row by simpa using e1)
    cases e2 : (a2 == col) with
    | false =>
      have HE2 := hide (show a2 ≠ col by simpa using e2)
      go_enter Try.func219, Try.ntmps219
      go_wp2_with fail
      go_ret
      exact ⟨ret_bool (bool_of_iff (by rw [HI.out]; simp [HE2.out])), below_alloc _ _⟩
    | true =>
      have HE2 := hide (show a2 = col by simpa using e2)
      go_enter Try.func219, Try.ntmps219
      go_wp2_with fail
      go_ret
      exact ⟨ret_bool (bool_of_iff (by rw [HI.out]; simp [HE.out, HE2.out])), below_alloc _ _⟩
theorem sheetOn_any (v : Value) (xs : List SSheet) (row col scale : Int) (w : World) (h : Is 5 SSheet.enc w v xs) :
    Calls Try.prog 198 #[v, .int .i64 row, .int .i64 col, .int .i64 scale] w fun e w' => e = .returned (.int .i64 (atV xs row col scale)) ∧ Below w.heap.size w w' := by
  have hm := h.len
  obtain ⟨A, cap, rfl, hr, _, _⟩ := h
  have B1 := below_alloc w (.cells #[.int .i64 row] 3)
  have B2 := B1.alloc B1.size (.cells #[.int .i64 col] 3)
  have B3 := B2.alloc B2.size (.cells #[.int .i64 scale] 3)
  have hr1 := hr.below B3 (Nat.le_refl _) B3.size
  have K1 := ((Blk.new w 3 #[.int .i64 row]).alloc (.cells #[.int .i64 col] 3)).alloc (.cells #[.int .i64 scale] 3)
  have K2 := (Blk.new (w.alloc (.cells #[.int .i64 row] 3)) 3 #[.int .i64 col]).alloc (.cells #[.int .i64 scale] 3)
  have K3 := Blk.new ((w.alloc (.cells #[.int .i64 row] 3)).alloc (.cells #[.int .i64 col] 3)) 3 #[.int .i64 scale]
  have hp : SSheet.Pred 219 #[.pointer (some ⟨w.heap.size, 0, none⟩), .pointer (some ⟨w.heap.size + 1, 0, none⟩), .pointer (some ⟨w.heap.size + 2, 0, none⟩)] (onP row col scale) (((w.alloc (.cells #[.int .i64 row] 3)).alloc (.cells #[.int .i64 col] 3)).alloc (.cells #[.int .i64 scale] 3)).heap.size (((w.alloc (.cells #[.int .i64 row] 3)).alloc (.cells #[.int .i64 col] 3)).alloc (.cells #[.int .i64 scale] 3)) := fun W c hb =>
    (sheetOn1_any _ _ _ _ _ row col scale w.heap.size (w.heap.size + 1) (w.heap.size + 2) W ((K1.below hb K1.lt).cell 0) (by have := (K2.below hb K2.lt).cell 0; simpa using this) (by have := (K3.below hb K3.lt).cell 0; simpa using this)).mono fun e w' ⟨he, hw⟩ => ⟨he, hb.trans (hw.mono hb.size)⟩
  have HR := hide hr1; have HP := hide hp; have HB := hide B3; clear hr hr1 hp K1 K2 K3 B1 B2 B3
  go_enter Try.func198, Try.ntmps198
  go_wp2_with (go_at_call 195; refine (IndexFuncSheet_any _ _ _ _ _ _ _ HR.out hm (fun _ _ => by kernel_rfl) HP.out).mono ?_; rintro e w' ⟨rfl, hb'⟩)
  go_ret
  exact ⟨rfl, bstep HB.out hb' HB.out.size⟩
theorem l2Find_any (v : Value) (xs : List SSheet) (id : Int) (w : World) (h : Is 5 SSheet.enc w v xs) :
    Calls Try.prog 143 #[v, .int .i64 id] w fun e w' => e = .returned (.int .i64 (findS xs id)) ∧ w = w' := by
  have hm := h.len
  obtain ⟨A, cap, rfl, hr, _, _⟩ := h
  have HR := hide hr; clear hr
  go_enter Try.func143, Try.ntmps143
  go_wp2_with fail
  go_loop [5] (fun i => ∃ (k : Nat), k ≤ xs.length ∧ i = .int .i64 k ∧ (∀ c ∈ xs.take k, (c.id == id) = false)) (fun i => xs.length - (intOf i).toNat)
  case atStart => exact ⟨0, Nat.zero_le _, rfl, by simp⟩
  case round =>
    obtain ⟨i, hi, rfl, hno⟩ := hrel
    have HN := hide hno; clear hno
    by_cases hlt : i < xs.length
    · have hlt' : (i : Int) < xs.length := by omega
      obtain ⟨b, off, rfl, hb, c0, _, _, _, _⟩ := SSheet.cells HR.out hlt (Below.refl _ _)
      generalize hy : xs[i].id = y at c0
      have HY := hide hy; clear hy
      cases hq : (y == id) with
      | true =>
        have HQ := hide hq
        go_wp2_with fail
        go_ret
        refine ⟨ret_int ?_, rfl⟩
        exact (idxF_hit hlt (by rw [HY.out]; exact HQ.out) HN.out).symm
      | false =>
        have HQ := hide hq
        go_wp2_with fail
        go_round
        case measure => simp [intOf]; omega
        case rel =>
          refine ⟨i + 1, by omega, by go_num, ?_⟩
          rw [take_snoc' hlt]
          intro c hc
          rcases List.mem_append.1 hc with h | h
          · exact HN.out c h
          · rw [List.mem_singleton.1 h, HY.out]; exact HQ.out
    · have hk : i = xs.length := by omega
      have HK := hide hk; clear hk
      go_wp2_with fail
      go_ret
      refine ⟨ret_int ?_, rfl⟩
      have := HN.out; rw [HK.out, List.take_length] at this
      exact (idxF_miss this).symm
set_option maxHeartbeats 1000000 in
theorem l2At_any (v : Value) (xs : List SSheet) (row col scale : Int) (w : World) (h : Is 5 SSheet.enc w v xs) :
    Calls Try.prog 150 #[v, .int .i64 row, .int .i64 col, .int .i64 scale] w fun e w' => e = .returned (.int .i64 (atV xs row col scale)) ∧ w = w' := by
  have hm := h.len
  obtain ⟨A, cap, rfl, hr, _, _⟩ := h
  have HR := hide hr; clear hr
  go_enter Try.func150, Try.ntmps150
  go_wp2_with fail
  go_loop [9] (fun i => ∃ (k : Nat), k ≤ xs.length ∧ i = .int .i64 k ∧ (∀ c ∈ xs.take k, onP row col scale c = false)) (fun i => xs.length - (intOf i).toNat)
  case atStart => exact ⟨0, Nat.zero_le _, rfl, by simp⟩
  case round =>
    obtain ⟨i, hi, rfl, hno⟩ := hrel
    have HN := hide hno; clear hno
    by_cases hlt : i < xs.length
    · have hlt' : (i : Int) < xs.length := by omega
      obtain ⟨b, off, rfl, hb, _, c1, c2, c3, _⟩ := SSheet.cells HR.out hlt (Below.refl _ _)
      have hy : onP row col scale xs[i] = decide (xs[i].row = row ∧ xs[i].col = col ∧ xs[i].scale = scale) := rfl
      generalize xs[i].row = y1 at c1 hy; generalize xs[i].col = y2 at c2 hy; generalize xs[i].scale = y3 at c3 hy
      have HY := hide hy; clear hy
      have hcont : onP row col scale xs[i] = false → ∀ c ∈ xs.take (i + 1), onP row col scale c = false := fun hf => by
        rw [take_snoc' hlt]
        intro c hc
        rcases List.mem_append.1 hc with h | h
        · exact HN.out c h
        · rw [List.mem_singleton.1 h]; exact hf
      have HC := hide hcont; clear hcont
      cases e1 : (y1 == row) with
      | false =>
        have HF := hide (HC.out (by rw [HY.out, decide_eq_false_iff_not]; rintro ⟨h, _⟩; rw [h] at e1; simp at e1))
        go_wp2_with fail
        go_round
        case measure => simp [intOf]; omega
        case rel => exact ⟨i + 1, by omega, by go_num, HF.out⟩
      | true =>
        have HE1 := hide (show y1 = row by simpa using e1)
        cases e2 : (y2 == col) with
        | false =>
          have HF := hide (HC.out (by rw [HY.out, decide_eq_false_iff_not]; rintro ⟨_, h, _⟩; rw [h] at e2; simp at e2))
          go_wp2_with fail
          go_round
          case measure => simp [intOf]; omega
          case rel => exact ⟨i + 1, by omega, by go_num, HF.out⟩
        | true =>
          have HE2 := hide (show y2 = col by simpa using e2)
          cases e3 : (y3 == scale) with
          | false =>
            have HF := hide (HC.out (by rw [HY.out, decide_eq_false_iff_not]; rintro ⟨_, _, h⟩; rw [h] at e3; simp at e3))
            go_wp2_with fail
            go_round
            case measure => simp [intOf]; omega
            case rel => exact ⟨i + 1, by omega, by go_num, HF.out⟩
          | true =>
            have HE3 := hide (show y3 = scale by simpa using e3)
            go_wp2_with fail
            go_ret
            refine ⟨ret_int ?_, rfl⟩
            exact (idxF_hit hlt (by rw [HY.out, decide_eq_true_iff]; exact ⟨HE1.out, HE2.out, HE3.out⟩) HN.out).symm
    · have hk : i = xs.length := by omega
      have HK := hide hk; clear hk
      go_wp2_with fail
      go_ret
      refine ⟨ret_int ?_, rfl⟩
      have := HN.out; rw [HK.out, List.take_length] at this
      exact (idxF_miss this).symm
end Go.Proofs.Ytdbcilinoieabaa
