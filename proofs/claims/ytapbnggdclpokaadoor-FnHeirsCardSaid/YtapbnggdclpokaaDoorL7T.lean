/- The text of a maker, in impl and spec. Condition: the table of powers of ten is laid, for impl's. -/
import Derived.Test.YtapbnggdclpokaaDoorLsT
import Derived.Test.YtapbnggdclpokaaDoorL7A
namespace Go.Proofs.YtapbnggdclpokaaDoor
open Go.RowKit
set_option linter.unusedVariables false
/-- the text of a valid maker, before its heir's -/
def mtext (a0 : Int) (a1 : ByteArray) (a2 a3 : Int) : ByteArray := numS a0 ++ ⟨#[32]⟩ ++ a1 ++ ⟨#[32]⟩ ++ numS a2 ++ ⟨#[45]⟩ ++ numS a3
/-- the text of a maker, and whether there is one -/
def textM (z : SMaker) : ByteArray × Bool := if z.okB then (if z.heir = 0 then mtext z.ident z.name z.frm z.untl else mtext z.ident z.name z.frm z.untl ++ (⟨#[32, 62]⟩ ++ numS z.heir), true) else (⟨#[]⟩, false)
theorem wordB_size {s : ByteArray} (h : wordB s = true) : s.size ≤ 10 := by
  unfold wordB at h
  rw [Bool.and_eq_true, inB_iff] at h
  have := h.2.2
  omega
theorem ret_text {z : SMaker} {s : ByteArray} {b : Bool} (h : textM z = (s, b)) : Ending.returned (.tuple #[.string s, .bool b]) = .returned (.tuple #[.string (textM z).1, .bool (textM z).2]) := by rw [h]
set_option maxHeartbeats 2000000 in
theorem MakerTextI_is (a0 : Int) (a1 : ByteArray) (a2 a3 a4 : Int) (w : World) (hm : a1.size ≤ 9223372036854775807) (ht : Tab w) :
    Calls Tryd.prog 8 #[.agg #[.int .i64 a0, .string a1, .int .i64 a2, .int .i64 a3, .int .i64 a4]] w fun e w' => e = .returned (.tuple #[.string (textM ⟨a0, a1, a2, a3, a4⟩).1, .bool (textM ⟨a0, a1, a2, a3, a4⟩).2]) ∧ Below w.heap.size w w' := by
  have hcw := fun W => IsMaker_any a0 a1 a2 a3 a4 W hm
  have B1 := below_alloc w (.cells #[.int .i64 a0, .string a1, .int .i64 a2, .int .i64 a3, .int .i64 a4] 27)
  have HB1 := hide B1; clear B1
  have hT1 := ht.alloc (.cells #[.int .i64 a0, .string a1, .int .i64 a2, .int .i64 a3, .int .i64 a4] 27)
  have HT1 := hide hT1; clear ht hT1
  have hce : ∀ W, Below (w.heap.size + 1) (w.alloc (.cells #[.int .i64 a0, .string a1, .int .i64 a2, .int .i64 a3, .int .i64 a4] 27)) W → W.cell? ⟨w.heap.size, 0, none⟩ = some (.int .i64 a0) ∧ W.cell? ⟨w.heap.size, 1, none⟩ = some (.string a1) ∧ W.cell? ⟨w.heap.size, 2, none⟩ = some (.int .i64 a2) ∧ W.cell? ⟨w.heap.size, 3, none⟩ = some (.int .i64 a3) ∧ W.cell? ⟨w.heap.size, 4, none⟩ = some (.int .i64 a4) := by
    intro W hb
    have hc := fun o => hb.cell (p := ⟨w.heap.size, o, none⟩) (by simp)
    refine ⟨?_, ?_, ?_, ?_, ?_⟩ <;> rw [hc, (Blk.new w _ _).cell] <;> rfl
  have HCE := hide hce; clear hce
  by_cases hok : SMaker.okB ⟨a0, a1, a2, a3, a4⟩ = true
  · have hv := SMaker.okB_iff.1 hok
    have htx : textM ⟨a0, a1, a2, a3, a4⟩ = (if a4 = 0 then mtext a0 a1 a2 a3 else mtext a0 a1 a2 a3 ++ (⟨#[32, 62]⟩ ++ numS a4), true) := if_pos hok
    unfold mtext at htx
    rw [hok] at hcw
    obtain ⟨v0, v1, v2, v3, v4, v5, v6, v7, v8⟩ := hv
    have hs1 := wordB_size v2
    have hs0 := (numS_size a0 (by omega) (by omega)).2
    have hs2 := (numS_size a2 (by omega) (by omega)).2
    have hs3 := (numS_size a3 (by omega) (by omega)).2
    have hs4 := (numS_size a4 (by omega) (by omega)).2
    have HC := hide hcw; have HX := hide htx; have hh := v6; have HV := hide (show (1 ≤ a0 ∧ a0 ≤ 99) ∧ (1500 ≤ a2 ∧ a2 ≤ a3 ∧ a3 ≤ 2100) ∧ a4 ≤ 99 from ⟨⟨v0, v1⟩, ⟨v3, v4, v5⟩, v7⟩)
    clear hcw htx hok v0 v1 v2 v3 v4 v5 v6 v7 v8
    have q0 : ¬ 9223372036854775807 < (numS a0).size + 1 := by omega
    have q1 : ¬ 9223372036854775807 < (numS a0).size + 1 + a1.size := by omega
    have q2 : ¬ 9223372036854775807 < (numS a0).size + 1 + a1.size + 1 := by omega
    have q3 : ¬ 9223372036854775807 < (numS a0).size + 1 + a1.size + 1 + (numS a2).size := by omega
    have q4 : ¬ 9223372036854775807 < (numS a0).size + 1 + a1.size + 1 + (numS a2).size + 1 := by omega
    have q5 : ¬ 9223372036854775807 < (numS a0).size + 1 + a1.size + 1 + (numS a2).size + 1 + (numS a3).size := by omega
    have q6 : ¬ 9223372036854775807 < 2 + (numS a4).size := by omega
    have q7 : ¬ 9223372036854775807 < (numS a0).size + 1 + a1.size + 1 + (numS a2).size + 1 + (numS a3).size + (2 + (numS a4).size) := by omega
    clear hs0 hs1 hs2 hs3 hs4
    go_enter Tryd.func8, Tryd.ntmps8
    go_wp2_with (go_at_call 28; refine (HC.out _).mono ?_; rintro e w1 ⟨rfl, hb⟩)
    have hb4 := hb.mono (show w.heap.size + 1 ≤ _ by simp); obtain ⟨c0, c1, c2, c3, c4⟩ := HCE.out _ hb4
    have hb3 := HB1.out.trans (hb4.mono (Nat.le_succ _)); have HB3 := hide hb3
    have hT := HT1.out.below hb (Nat.le_refl _); have HT := hide hT; clear hT
    have hsz : w.heap.size ≤ w1.heap.size := hb3.size
    clear hb hb3 hb4
    have n0 := fun n => later_cell c0 n; have n1 := fun n => later_cell c1 n; have n2 := fun n => later_cell c2 n; have n3 := fun n => later_cell c3 n
    (refine wp_region_later (by kernel_rfl) (by kernel_rfl) ?_; (repeat (go_big_quiet_step ((go_at_call 32; exact later_call (text_is _ _ (by have := HV.out; omega) (by have := HV.out; omega) (HT.out.later _)))))); refine wpQuiet_nil ?_; intro _ hw'; obtain ⟨nq, hw''⟩ := hw'; subst hw'')
    have hB := HB3.out.trans (nq.h.mono hsz); have HB := hide hB; clear hB
    replace c4 := later_cell c4 nq
    have hT2 := HT.out.later nq; have HT2 := hide hT2; clear hT2
    have hsz2 := HB.out.size
    clear n0 n1 n2 n3 c0 c1 c2 c3
    generalize nq.W = W2 at *
    by_cases h0 : a4 = 0
    · rw [if_pos h0] at HX
      subst h0
      go_wp2_with fail
      go_ret2
      exact ⟨ret_text HX.out, HB.out⟩
    · rw [if_neg h0] at HX
      have h1 : 0 < a4 := by omega
      go_wp2_with (go_at_call 32; refine (text_is _ _ (by have := HV.out; omega) (by have := HV.out; omega) HT2.out).mono ?_; rintro e w3 ⟨rfl, hb3⟩)
      go_ret2
      exact ⟨ret_text HX.out, HB.out.trans (hb3.mono hsz2)⟩
  · have hno : SMaker.okB ⟨a0, a1, a2, a3, a4⟩ = false := by simpa using hok
    have htx : textM ⟨a0, a1, a2, a3, a4⟩ = (⟨#[]⟩, false) := if_neg hok
    rw [hno] at hcw
    have HX := hide htx; have HC := hide hcw
    clear hok hno htx hcw
    go_enter Tryd.func8, Tryd.ntmps8
    go_wp2_with (go_at_call 28; refine (HC.out _).mono ?_; rintro e w1 ⟨rfl, hb⟩)
    go_ret2
    exact ⟨ret_text HX.out, HB1.out.trans (hb.mono (by simp))⟩
set_option maxHeartbeats 2000000 in
theorem MakerTextS_is (a0 : Int) (a1 : ByteArray) (a2 a3 a4 : Int) (w : World) (hm : a1.size ≤ 9223372036854775807) :
    Calls Tryd.prog 6 #[.agg #[.int .i64 a0, .string a1, .int .i64 a2, .int .i64 a3, .int .i64 a4]] w fun e w' => e = .returned (.tuple #[.string (textM ⟨a0, a1, a2, a3, a4⟩).1, .bool (textM ⟨a0, a1, a2, a3, a4⟩).2]) ∧ Below w.heap.size w w' := by
  have hcw := fun W => l7One_any a0 a1 a2 a3 a4 W hm
  have B1 := below_alloc w (.cells #[.int .i64 a0, .string a1, .int .i64 a2, .int .i64 a3, .int .i64 a4] 27)
  have HB1 := hide B1; clear B1
  have hce : ∀ W, Below (w.heap.size + 1) (w.alloc (.cells #[.int .i64 a0, .string a1, .int .i64 a2, .int .i64 a3, .int .i64 a4] 27)) W → W.cell? ⟨w.heap.size, 0, none⟩ = some (.int .i64 a0) ∧ W.cell? ⟨w.heap.size, 1, none⟩ = some (.string a1) ∧ W.cell? ⟨w.heap.size, 2, none⟩ = some (.int .i64 a2) ∧ W.cell? ⟨w.heap.size, 3, none⟩ = some (.int .i64 a3) ∧ W.cell? ⟨w.heap.size, 4, none⟩ = some (.int .i64 a4) := by
    intro W hb
    have hc := fun o => hb.cell (p := ⟨w.heap.size, o, none⟩) (by simp)
    refine ⟨?_, ?_, ?_, ?_, ?_⟩ <;> rw [hc, (Blk.new w _ _).cell] <;> rfl
  have HCE := hide hce; clear hce
  by_cases hok : SMaker.okB ⟨a0, a1, a2, a3, a4⟩ = true
  · have hv := SMaker.okB_iff.1 hok
    have htx : textM ⟨a0, a1, a2, a3, a4⟩ = (if a4 = 0 then mtext a0 a1 a2 a3 else mtext a0 a1 a2 a3 ++ (⟨#[32, 62]⟩ ++ numS a4), true) := if_pos hok
    unfold mtext at htx
    rw [hok] at hcw
    obtain ⟨v0, v1, v2, v3, v4, v5, v6, v7, v8⟩ := hv
    have hs1 := wordB_size v2
    have hs0 := (numS_size a0 (by omega) (by omega)).2
    have hs2 := (numS_size a2 (by omega) (by omega)).2
    have hs3 := (numS_size a3 (by omega) (by omega)).2
    have hs4 := (numS_size a4 (by omega) (by omega)).2
    have HC := hide hcw; have HX := hide htx; have hh := v6; have HV := hide (show (1 ≤ a0 ∧ a0 ≤ 99) ∧ (1500 ≤ a2 ∧ a2 ≤ a3 ∧ a3 ≤ 2100) ∧ a4 ≤ 99 from ⟨⟨v0, v1⟩, ⟨v3, v4, v5⟩, v7⟩)
    clear hcw htx hok v0 v1 v2 v3 v4 v5 v6 v7 v8
    have q0 : ¬ 9223372036854775807 < (numS a0).size + 1 := by omega
    have q1 : ¬ 9223372036854775807 < (numS a0).size + 1 + a1.size := by omega
    have q2 : ¬ 9223372036854775807 < (numS a0).size + 1 + a1.size + 1 := by omega
    have q3 : ¬ 9223372036854775807 < (numS a0).size + 1 + a1.size + 1 + (numS a2).size := by omega
    have q4 : ¬ 9223372036854775807 < (numS a0).size + 1 + a1.size + 1 + (numS a2).size + 1 := by omega
    have q5 : ¬ 9223372036854775807 < (numS a0).size + 1 + a1.size + 1 + (numS a2).size + 1 + (numS a3).size := by omega
    have q6 : ¬ 9223372036854775807 < (numS a0).size + 1 + a1.size + 1 + (numS a2).size + 1 + (numS a3).size + 2 := by omega
    have q7 : ¬ 9223372036854775807 < (numS a0).size + 1 + a1.size + 1 + (numS a2).size + 1 + (numS a3).size + 2 + (numS a4).size := by omega
    clear hs0 hs1 hs2 hs3 hs4
    go_enter Tryd.func6, Tryd.ntmps6
    go_wp2_with (go_at_call 30; refine (HC.out _).mono ?_; rintro e w1 ⟨rfl, hb⟩)
    have hb4 := hb.mono (show w.heap.size + 1 ≤ _ by simp); obtain ⟨c0, c1, c2, c3, c4⟩ := HCE.out _ hb4
    have hb3 := HB1.out.trans (hb4.mono (Nat.le_succ _)); have HB3 := hide hb3
    have hsz : w.heap.size ≤ w1.heap.size := hb3.size
    clear hb hb3 hb4
    have n0 := fun n => later_cell c0 n; have n1 := fun n => later_cell c1 n; have n2 := fun n => later_cell c2 n; have n3 := fun n => later_cell c3 n
    (refine wp_region_later (by kernel_rfl) (by kernel_rfl) ?_; (repeat (go_big_quiet_step ((go_at_call 31; exact later_call (num_is _ _ (by have := HV.out; omega) (by have := HV.out; omega)))))); refine wpQuiet_nil ?_; intro _ hw'; obtain ⟨nq, hw''⟩ := hw'; subst hw'')
    have hB := HB3.out.trans (nq.h.mono hsz); have HB := hide hB; clear hB
    replace c4 := later_cell c4 nq
    have hsz2 := HB.out.size
    clear n0 n1 n2 n3 c0 c1 c2 c3
    generalize nq.W = W2 at *
    by_cases h0 : a4 = 0
    · rw [if_pos h0] at HX
      subst h0
      go_wp2_with fail
      go_ret2
      exact ⟨ret_text HX.out, HB.out⟩
    · rw [if_neg h0] at HX
      have h1 : 0 < a4 := by omega
      go_wp2_with (go_at_call 31; refine (num_is _ _ (by have := HV.out; omega) (by have := HV.out; omega)).mono ?_; rintro e w3 ⟨rfl, hb3⟩)
      go_ret2
      exact ⟨ret_text (HX.out.trans (by simp only [ByteArray.append_assoc])), HB.out.trans (hb3.mono hsz2)⟩
  · have hno : SMaker.okB ⟨a0, a1, a2, a3, a4⟩ = false := by simpa using hok
    have htx : textM ⟨a0, a1, a2, a3, a4⟩ = (⟨#[]⟩, false) := if_neg hok
    rw [hno] at hcw
    have HX := hide htx; have HC := hide hcw
    clear hok hno htx hcw
    go_enter Tryd.func6, Tryd.ntmps6
    go_wp2_with (go_at_call 30; refine (HC.out _).mono ?_; rintro e w1 ⟨rfl, hb⟩)
    go_ret2
    exact ⟨ret_text HX.out, HB1.out.trans (hb.mono (by simp))⟩
end Go.Proofs.YtapbnggdclpokaaDoor
