/- Contracts of the small functions on readers, in impl and spec: days, ids, one reader, the place of an id. Condition: lengths below 2^63. -/
import Derived.Test.YtdbcilinoieabaaL3W
namespace Go.Proofs.Ytdbcilinoieabaa
open Go.RowKit Go.Lib
set_option linter.unusedVariables false
theorem l2Day_any (n : Int) (w : World) : Calls Try.prog 102 #[.int .i64 n] w fun e w' => e = .returned (.bool (inB n 0 4000)) ∧ w = w' := by
  go_enter Try.func102, Try.ntmps102
  go_wp2_with (first | (go_at_call 81; refine (l1In_any _ _ _ _).mono ?_; rintro e w' ⟨rfl, rfl⟩))
  go_ret
  exact ⟨rfl, rfl⟩
theorem isDay_any (n : Int) (w : World) : Calls Try.prog 100 #[.int .i64 n] w fun e w' => e = .returned (.bool (inB n 0 4000)) ∧ w = w' := by
  go_enter Try.func100, Try.ntmps100
  go_wp2_with (first | (go_at_call 91; refine (within_any _ _ _ _).mono ?_; rintro e w' ⟨rfl, rfl⟩))
  go_ret
  exact ⟨rfl, rfl⟩
theorem isId_any (n : Int) (w : World) : Calls Try.prog 192 #[.int .i64 n] w fun e w' => e = .returned (.bool (inB n 1 999)) ∧ w = w' := by
  go_enter Try.func192, Try.ntmps192
  go_wp2_with (first | (go_at_call 91; refine (within_any _ _ _ _).mono ?_; rintro e w' ⟨rfl, rfl⟩))
  go_ret
  exact ⟨rfl, rfl⟩
theorem l3Cents_any (n : Int) (w : World) : Calls Try.prog 96 #[.int .i64 n] w fun e w' => e = .returned (.bool (inB n 1 10000)) ∧ w = w' := by
  go_enter Try.func96, Try.ntmps96
  go_wp2_with (first | (go_at_call 81; refine (l1In_any _ _ _ _).mono ?_; rintro e w' ⟨rfl, rfl⟩))
  go_ret
  exact ⟨rfl, rfl⟩
/-- whether one reader is valid -/
def SReader.okB (c : SReader) : Bool := decide (1 ≤ c.ident ∧ c.ident ≤ 999 ∧ wordB c.name = true ∧ 0 ≤ c.joined ∧ c.joined ≤ 4000 ∧ 1 ≤ c.cls ∧ c.cls ≤ 3 ∧ 0 ≤ c.fines ∧ c.fines ≤ 10000)
theorem SReader.okB_iff {a0 : Int} {a1 : ByteArray} {a2 a3 a4 : Int} : SReader.okB ⟨a0, a1, a2, a3, a4⟩ = true ↔ (1 ≤ a0 ∧ a0 ≤ 999 ∧ wordB a1 = true ∧ 0 ≤ a2 ∧ a2 ≤ 4000 ∧ 1 ≤ a3 ∧ a3 ≤ 3 ∧ 0 ≤ a4 ∧ a4 ≤ 10000) := decide_eq_true_iff
theorem l3One_any (a0 : Int) (a1 : ByteArray) (a2 a3 a4 : Int) (w : World) (hm : a1.size ≤ 9223372036854775807) :
    Calls Try.prog 176 #[.agg #[.int .i64 a0, .string a1, .int .i64 a2, .int .i64 a3, .int .i64 a4]] w fun e w' => e = .returned (.bool (SReader.okB ⟨a0, a1, a2, a3, a4⟩)) ∧ Below w.heap.size w w' := by
  have hcw := fun W => l2Word_any a1 W hm
  have hiff := @SReader.okB_iff a0 a1 a2 a3 a4
  generalize wordB a1 = wd at hcw hiff
  have HC := hide hcw; have HI := hide hiff; clear hcw hiff
  have B1 := below_alloc w (.cells #[.int .i64 a0, .string a1, .int .i64 a2, .int .i64 a3, .int .i64 a4] 49)
  have HB1 := hide B1; clear B1
  cases wd
  all_goals
    go_enter Try.func176, Try.ntmps176
    go_wp2_with (first | (go_at_call 81; refine (l1In_any _ _ _ _).mono ?_; rintro e w' ⟨rfl, rfl⟩) | (go_at_call 102; refine (l2Day_any _ _).mono ?_; rintro e w' ⟨rfl, rfl⟩) | (go_at_call 211; refine (HC.out _).mono ?_; rintro e w' ⟨rfl, rfl⟩))
    all_goals go_ret
    all_goals refine ⟨ret_bool (bool_of_iff ?_), HB1.out⟩
    all_goals (rw [HI.out]; simp [inB_iff, inB_no] at *; try omega)
theorem IsReader_any (a0 : Int) (a1 : ByteArray) (a2 a3 a4 : Int) (w : World) (hm : a1.size ≤ 9223372036854775807) :
    Calls Try.prog 175 #[.agg #[.int .i64 a0, .string a1, .int .i64 a2, .int .i64 a3, .int .i64 a4]] w fun e w' => e = .returned (.bool (SReader.okB ⟨a0, a1, a2, a3, a4⟩)) ∧ Below w.heap.size w w' := by
  have hcw := fun W => isWord_any a1 W hm
  have hiff := @SReader.okB_iff a0 a1 a2 a3 a4
  generalize wordB a1 = wd at hcw hiff
  have HC := hide hcw; have HI := hide hiff; clear hcw hiff
  have B1 := below_alloc w (.cells #[.int .i64 a0, .string a1, .int .i64 a2, .int .i64 a3, .int .i64 a4] 49)
  have hce : ∀ W, Below (w.heap.size + 1) (w.alloc (.cells #[.int .i64 a0, .string a1, .int .i64 a2, .int .i64 a3, .int .i64 a4] 49)) W → W.cell? ⟨w.heap.size, 0, none⟩ = some (.int .i64 a0) ∧ W.cell? ⟨w.heap.size, 2, none⟩ = some (.int .i64 a2) ∧ W.cell? ⟨w.heap.size, 3, none⟩ = some (.int .i64 a3) ∧ W.cell? ⟨w.heap.size, 4, none⟩ = some (.int .i64 a4) := by
    intro W hb
    have hc := fun o => hb.cell (p := ⟨w.heap.size, o, none⟩) (by simp)
    refine ⟨?_, ?_, ?_, ?_⟩ <;> rw [hc, (Blk.new w _ _).cell] <;> rfl
  have HCE := hide hce; clear hce
  have HB1 := hide B1; clear B1
  cases wd
  all_goals
    go_enter Try.func175, Try.ntmps175
    go_wp2_with (first | (go_at_call 100; refine (isDay_any _ _).mono ?_; rintro e w' ⟨rfl, rfl⟩) | (go_at_call 192; refine (isId_any _ _).mono ?_; rintro e w' ⟨rfl, rfl⟩) | (go_at_call 91; refine (within_any _ _ _ _).mono ?_; rintro e w' ⟨rfl, rfl⟩) | (go_at_call 210; refine (HC.out _).mono ?_; rintro e w2 ⟨rfl, hb2⟩; have hb4 := hb2.mono (show w.heap.size + 1 ≤ _ by simp); obtain ⟨c0, c1, c2, c3⟩ := HCE.out _ hb4; have hb3 := HB1.out.trans (hb4.mono (Nat.le_succ _)); have HB3 := hide hb3; clear hb2 hb3 hb4))
    all_goals go_ret
    all_goals (first | refine ⟨ret_bool (bool_of_iff ?_), HB3.out⟩ | refine ⟨ret_bool (bool_of_iff ?_), HB1.out⟩)
    all_goals (rw [HI.out]; simp [inB_iff, inB_no] at *; try omega)
/-- the place of an id -/
def findR (xs : List SReader) (id : Int) : Int := idxF (fun c => c.ident == id) xs
theorem readerAt1_any (a0 : Int) (a1 : ByteArray) (a2 a3 a4 id : Int) (b : Nat) (w : World) (hc : w.cell? ⟨b, 0, none⟩ = some (.int .i64 id)) :
    Calls Try.prog 178 #[.agg #[.int .i64 a0, .string a1, .int .i64 a2, .int .i64 a3, .int .i64 a4], .pointer (some ⟨b, 0, none⟩)] w fun e w' => e = .returned (.bool (a0 == id)) ∧ Below w.heap.size w w' := by
  have hbl := World.block_lt_of_cell? w _ hc
  have hc2 : (w.alloc (.cells #[.int .i64 a0, .string a1, .int .i64 a2, .int .i64 a3, .int .i64 a4] 49)).cell? ⟨b, 0, none⟩ = some (.int .i64 id) := ((bcell (below_alloc w _)).1 b 0 hbl).trans hc
  go_enter Try.func178, Try.ntmps178
  go_wp2_with fail
  go_ret
  exact ⟨rfl, below_alloc _ _⟩
theorem readerAt_any (v : Value) (xs : List SReader) (id : Int) (w : World) (h : Is 5 SReader.enc w v xs) :
    Calls Try.prog 90 #[v, .int .i64 id] w fun e w' => e = .returned (.int .i64 (findR xs id)) ∧ Below w.heap.size w w' := by
  have hm := h.len
  obtain ⟨A, cap, rfl, hr, _, _⟩ := h
  have B1 := below_alloc w (.cells #[.int .i64 id] 3)
  have hr1 := hr.below B1 (Nat.le_refl _) B1.size
  have hcell : (w.alloc (.cells #[.int .i64 id] 3)).cell? ⟨w.heap.size, 0, none⟩ = some (.int .i64 id) := by rw [(Blk.new w _ _).cell]; rfl
  have hp : SReader.Pred 178 #[.pointer (some ⟨w.heap.size, 0, none⟩)] (fun c => c.ident == id) (w.alloc (.cells #[.int .i64 id] 3)).heap.size (w.alloc (.cells #[.int .i64 id] 3)) := fun W c hb =>
    (readerAt1_any _ _ _ _ _ id w.heap.size W (((bcell hb).1 _ _ (by simp)).trans hcell)).mono fun e w' ⟨he, hw⟩ => ⟨he, hb.trans (hw.mono hb.size)⟩
  have HR := hide hr1; have HP := hide hp; clear hr hr1 hp hcell
  go_enter Try.func90, Try.ntmps90
  go_wp2_with (go_at_call 177; refine (IndexFuncReader_any _ _ _ _ _ _ _ HR.out hm (fun _ _ => by kernel_rfl) HP.out).mono ?_; rintro e w' ⟨rfl, hb'⟩)
  go_ret
  exact ⟨rfl, bstep B1 hb' B1.size⟩
end Go.Proofs.Ytdbcilinoieabaa
