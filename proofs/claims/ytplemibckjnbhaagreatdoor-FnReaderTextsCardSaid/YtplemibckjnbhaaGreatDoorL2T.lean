/- The text of a sheet, in impl and spec: the Lean function textSh. Condition: the table of powers of ten is laid, for impl's. (Printed by mkshtext.py.) -/
import Derived.Test.YtplemibckjnbhaaGreatDoorL2C
import Derived.Test.YtplemibckjnbhaaGreatDoorLsT
namespace Go.Proofs.YtplemibckjnbhaaGreatDoor
open Go.RowKit
set_option linter.unusedVariables false
def sheetT (z : SSheet) : ByteArray := numS z.id ++ ⟨#[58, 32, 114]⟩ ++ numS z.row ++ ⟨#[32, 99]⟩ ++ numS z.col ++ ⟨#[32, 49, 58]⟩ ++ numS z.scale ++ ⟨#[48, 48, 48, 32]⟩ ++ numS z.year
/-- the text of a sheet, and whether there is one -/
def textSh (z : SSheet) : ByteArray × Bool := if z.okB then (sheetT z, true) else (⟨#[]⟩, false)
theorem ret_sht {z : SSheet} {t : ByteArray} {b : Bool} (h : textSh z = (t, b)) : Ending.returned (.tuple #[.string t, .bool b]) = .returned (.tuple #[.string (textSh z).1, .bool (textSh z).2]) := by rw [h]
theorem num_sz {n : Int} (h0 : -1000000000 ≤ n) (h1 : n ≤ 1000000000) : (numS n).size ≤ 21 := (numS_size n (by omega) (by omega)).2
set_option maxHeartbeats 2000000 in
theorem l2Text_is (a0 a1 a2 a3 a4 : Int) (w : World) (h0 : -1000000000 ≤ a0 ∧ a0 ≤ 1000000000) (h1 : -1000000000 ≤ a1 ∧ a1 ≤ 1000000000) (h2 : -1000000000 ≤ a2 ∧ a2 ≤ 1000000000) (h3 : -1000000000 ≤ a3 ∧ a3 ≤ 1000000000) (h4 : -1000000000 ≤ a4 ∧ a4 ≤ 1000000000) :
    Calls Tryz.prog 79 #[.agg #[.int .i64 a0, .int .i64 a1, .int .i64 a2, .int .i64 a3, .int .i64 a4]] w fun e w' => e = .returned (.string (sheetT ⟨a0, a1, a2, a3, a4⟩)) ∧ Below w.heap.size w w' := by
  have B1 := below_alloc w (.cells #[.int .i64 a0, .int .i64 a1, .int .i64 a2, .int .i64 a3, .int .i64 a4] 50)
  have K := Blk.new w 50 #[.int .i64 a0, .int .i64 a1, .int .i64 a2, .int .i64 a3, .int .i64 a4]
  generalize hw1 : w.alloc (.cells #[.int .i64 a0, .int .i64 a1, .int .i64 a2, .int .i64 a3, .int .i64 a4] 50) = w1 at *
  have hs1 : w.heap.size < w1.heap.size := by rw [← hw1]; simp
  generalize hgm : w.heap.size = B at *
  have HK := hide K; have HB := hide B1; clear K B1
  have z0 := num_sz (n := a0) (by omega) (by omega); have z1 := num_sz (n := a1) (by omega) (by omega); have z2 := num_sz (n := a2) (by omega) (by omega); have z3 := num_sz (n := a3) (by omega) (by omega); have z4 := num_sz (n := a4) (by omega) (by omega)
  have q0 : ¬ 9223372036854775807 < (numS a0).size + 3 := by omega
  have q1 : ¬ 9223372036854775807 < (numS a0).size + 3 + (numS a1).size := by omega
  have q2 : ¬ 9223372036854775807 < (numS a0).size + 3 + (numS a1).size + 2 := by omega
  have q3 : ¬ 9223372036854775807 < (numS a0).size + 3 + (numS a1).size + 2 + (numS a2).size := by omega
  have q4 : ¬ 9223372036854775807 < (numS a0).size + 3 + (numS a1).size + 2 + (numS a2).size + 3 := by omega
  have q5 : ¬ 9223372036854775807 < (numS a0).size + 3 + (numS a1).size + 2 + (numS a2).size + 3 + (numS a3).size := by omega
  have q6 : ¬ 9223372036854775807 < (numS a0).size + 3 + (numS a1).size + 2 + (numS a2).size + 3 + (numS a3).size + 4 := by omega
  have q7 : ¬ 9223372036854775807 < (numS a0).size + 3 + (numS a1).size + 2 + (numS a2).size + 3 + (numS a3).size + 4 + (numS a4).size := by omega
  clear z0 z1 z2 z3 z4
  unfold sheetT
  go_enter Tryz.func79, Tryz.ntmps79
  go_upto_region 1 with fail
  (try simp only [hgm, hw1])
  clear hw1
  obtain ⟨c0, c1, c2, c3, c4⟩ := mk5S HK.out
  have m0 := fun n => later_cell c0 n; have m1 := fun n => later_cell c1 n; have m2 := fun n => later_cell c2 n; have m3 := fun n => later_cell c3 n; have m4 := fun n => later_cell c4 n
  (refine wp_region_later (by kernel_rfl) (by kernel_rfl) ?_; (repeat (go_big_quiet_step ((go_at_call 99; exact later_call (num_is _ _ (by omega) (by omega)))))); refine wpQuiet_nil ?_; intro _ hw'; obtain ⟨nq, hw''⟩ := hw'; subst hw'')
  have HB2 := hide (HB.out.trans (nq.h.mono (by omega)))
  clear m0 m1 m2 m3 m4
  go_wp2_with fail
  go_ret
  exact ⟨rfl, HB2.out⟩
set_option maxHeartbeats 2000000 in
theorem SheetTextI_is (a0 a1 a2 a3 a4 : Int) (w : World) (ht : Tab w) :
    Calls Tryz.prog 27 #[.agg #[.int .i64 a0, .int .i64 a1, .int .i64 a2, .int .i64 a3, .int .i64 a4]] w fun e w' => e = .returned (.tuple #[.string (textSh ⟨a0, a1, a2, a3, a4⟩).1, .bool (textSh ⟨a0, a1, a2, a3, a4⟩).2]) ∧ Below w.heap.size w w' := by
  have hcw := fun W => IsSheet_any a0 a1 a2 a3 a4 W
  have B1 := below_alloc w (.cells #[.int .i64 a0, .int .i64 a1, .int .i64 a2, .int .i64 a3, .int .i64 a4] 50)
  have hT := ht.alloc (.cells #[.int .i64 a0, .int .i64 a1, .int .i64 a2, .int .i64 a3, .int .i64 a4] 50)
  have K := Blk.new w 50 #[.int .i64 a0, .int .i64 a1, .int .i64 a2, .int .i64 a3, .int .i64 a4]
  generalize hw1 : w.alloc (.cells #[.int .i64 a0, .int .i64 a1, .int .i64 a2, .int .i64 a3, .int .i64 a4] 50) = w1 at *
  have hs1 : w.heap.size < w1.heap.size := by rw [← hw1]; simp
  generalize hgm : w.heap.size = B at *
  by_cases hok : SSheet.okB ⟨a0, a1, a2, a3, a4⟩ = true
  · have hv := SSheet.okB_iff.1 hok
    have htx : textSh ⟨a0, a1, a2, a3, a4⟩ = (sheetT ⟨a0, a1, a2, a3, a4⟩, true) := if_pos hok
    unfold sheetT at htx
    simp only at htx
    rw [hok] at hcw
    obtain ⟨v0, v1, v2, v3, v4, v5, v6, v7, v8, v9⟩ := hv
    have HX := hide htx; have HC := hide hcw; have HK := hide K; have HB := hide B1
    have HT := hide hT
    clear htx hcw hok K B1 hT ht
    have z0 := num_sz (n := a0) (by omega) (by omega); have z1 := num_sz (n := a1) (by omega) (by omega); have z2 := num_sz (n := a2) (by omega) (by omega); have z3 := num_sz (n := a3) (by omega) (by omega); have z4 := num_sz (n := a4) (by omega) (by omega)
    have q0 : ¬ 9223372036854775807 < (numS a0).size + 3 := by omega
    have q1 : ¬ 9223372036854775807 < (numS a0).size + 3 + (numS a1).size := by omega
    have q2 : ¬ 9223372036854775807 < (numS a0).size + 3 + (numS a1).size + 2 := by omega
    have q3 : ¬ 9223372036854775807 < (numS a0).size + 3 + (numS a1).size + 2 + (numS a2).size := by omega
    have q4 : ¬ 9223372036854775807 < (numS a0).size + 3 + (numS a1).size + 2 + (numS a2).size + 3 := by omega
    have q5 : ¬ 9223372036854775807 < (numS a0).size + 3 + (numS a1).size + 2 + (numS a2).size + 3 + (numS a3).size := by omega
    have q6 : ¬ 9223372036854775807 < (numS a0).size + 3 + (numS a1).size + 2 + (numS a2).size + 3 + (numS a3).size + 4 := by omega
    have q7 : ¬ 9223372036854775807 < (numS a0).size + 3 + (numS a1).size + 2 + (numS a2).size + 3 + (numS a3).size + 4 + (numS a4).size := by omega
    clear z0 z1 z2 z3 z4
    go_enter Tryz.func27, Tryz.ntmps27
    go_upto_region 1 with fail
    (try simp only [hgm, hw1])
    clear hw1
    obtain ⟨c0, c1, c2, c3, c4⟩ := mk5S HK.out
    go_wp2_with fail
    refine (HC.out _).mono ?_; rintro e w2 ⟨rfl, hb⟩
    replace HK := hide (HK.out.below hb (by omega)); replace HB := hide (HB.out.trans (hb.mono (by omega)))
    replace HT := hide (HT.out.below hb (Nat.le_refl _))
    have hs2 : B ≤ w2.heap.size := by have := hb.size; omega
    clear hb c0 c1 c2 c3 c4
    obtain ⟨c0, c1, c2, c3, c4⟩ := mk5S HK.out
    have m0 := fun n => later_cell c0 n; have m1 := fun n => later_cell c1 n; have m2 := fun n => later_cell c2 n; have m3 := fun n => later_cell c3 n; have m4 := fun n => later_cell c4 n
    go_wp2_with fail
    (refine wp_region_later (by kernel_rfl) (by kernel_rfl) ?_; (repeat (go_big_quiet_step ((go_at_call 45; exact later_call (text_is _ _ (by omega) (by omega) (HT.out.later _)))))); refine wpQuiet_nil ?_; intro _ hw'; obtain ⟨nq, hw''⟩ := hw'; subst hw'')
    have HB2 := hide (HB.out.trans (nq.h.mono hs2))
    clear m0 m1 m2 m3 m4
    go_wp2_with fail
    go_ret2
    exact ⟨ret_sht HX.out, HB2.out⟩
  · have hno : SSheet.okB ⟨a0, a1, a2, a3, a4⟩ = false := by simpa using hok
    have htx : textSh ⟨a0, a1, a2, a3, a4⟩ = (⟨#[]⟩, false) := if_neg hok
    rw [hno] at hcw
    clear hno
    have HX := hide htx; have HC := hide hcw; have HK := hide K; have HB := hide B1
    have HT := hide hT
    clear htx hcw hok K B1 hT ht
    go_enter Tryz.func27, Tryz.ntmps27
    go_upto_region 1 with fail
    (try simp only [hgm, hw1])
    clear hw1
    obtain ⟨c0, c1, c2, c3, c4⟩ := mk5S HK.out
    go_wp2_with fail
    refine (HC.out _).mono ?_; rintro e w2 ⟨rfl, hb⟩
    replace HK := hide (HK.out.below hb (by omega)); replace HB := hide (HB.out.trans (hb.mono (by omega)))
    replace HT := hide (HT.out.below hb (Nat.le_refl _))
    have hs2 : B ≤ w2.heap.size := by have := hb.size; omega
    clear hb c0 c1 c2 c3 c4
    go_wp2_with fail
    go_ret2
    exact ⟨ret_sht HX.out, HB.out⟩
set_option maxHeartbeats 2000000 in
theorem SheetTextS_is (a0 a1 a2 a3 a4 : Int) (w : World) :
    Calls Tryz.prog 29 #[.agg #[.int .i64 a0, .int .i64 a1, .int .i64 a2, .int .i64 a3, .int .i64 a4]] w fun e w' => e = .returned (.tuple #[.string (textSh ⟨a0, a1, a2, a3, a4⟩).1, .bool (textSh ⟨a0, a1, a2, a3, a4⟩).2]) ∧ Below w.heap.size w w' := by
  have hcw := fun W => l2Sheet_any a0 a1 a2 a3 a4 W
  have B1 := below_alloc w (.cells #[.int .i64 a0, .int .i64 a1, .int .i64 a2, .int .i64 a3, .int .i64 a4] 50)
  have K := Blk.new w 50 #[.int .i64 a0, .int .i64 a1, .int .i64 a2, .int .i64 a3, .int .i64 a4]
  generalize hw1 : w.alloc (.cells #[.int .i64 a0, .int .i64 a1, .int .i64 a2, .int .i64 a3, .int .i64 a4] 50) = w1 at *
  have hs1 : w.heap.size < w1.heap.size := by rw [← hw1]; simp
  generalize hgm : w.heap.size = B at *
  by_cases hok : SSheet.okB ⟨a0, a1, a2, a3, a4⟩ = true
  · have hv := SSheet.okB_iff.1 hok
    have htx : textSh ⟨a0, a1, a2, a3, a4⟩ = (sheetT ⟨a0, a1, a2, a3, a4⟩, true) := if_pos hok
    rw [hok] at hcw
    obtain ⟨v0, v1, v2, v3, v4, v5, v6, v7, v8, v9⟩ := hv
    have HX := hide htx; have HC := hide hcw; have HK := hide K; have HB := hide B1
    clear htx hcw hok K B1
    go_enter Tryz.func29, Tryz.ntmps29
    go_upto_region 1 with fail
    (try simp only [hgm, hw1])
    clear hw1
    obtain ⟨c0, c1, c2, c3, c4⟩ := mk5S HK.out
    go_wp2_with fail
    refine (HC.out _).mono ?_; rintro e w2 ⟨rfl, hb⟩
    replace HK := hide (HK.out.below hb (by omega)); replace HB := hide (HB.out.trans (hb.mono (by omega)))
    have hs2 : B ≤ w2.heap.size := by have := hb.size; omega
    clear hb c0 c1 c2 c3 c4
    obtain ⟨c0, c1, c2, c3, c4⟩ := mk5S HK.out
    go_wp2_with fail
    refine (l2Text_is _ _ _ _ _ _ (by omega) (by omega) (by omega) (by omega) (by omega)).mono ?_; rintro e w3 ⟨rfl, hb⟩
    have HB2 := hide (HB.out.trans (hb.mono hs2)); clear hb
    go_wp2_with fail
    go_ret2
    exact ⟨ret_sht HX.out, HB2.out⟩
  · have hno : SSheet.okB ⟨a0, a1, a2, a3, a4⟩ = false := by simpa using hok
    have htx : textSh ⟨a0, a1, a2, a3, a4⟩ = (⟨#[]⟩, false) := if_neg hok
    rw [hno] at hcw
    clear hno
    have HX := hide htx; have HC := hide hcw; have HK := hide K; have HB := hide B1
    clear htx hcw hok K B1
    go_enter Tryz.func29, Tryz.ntmps29
    go_upto_region 1 with fail
    (try simp only [hgm, hw1])
    clear hw1
    obtain ⟨c0, c1, c2, c3, c4⟩ := mk5S HK.out
    go_wp2_with fail
    refine (HC.out _).mono ?_; rintro e w2 ⟨rfl, hb⟩
    replace HK := hide (HK.out.below hb (by omega)); replace HB := hide (HB.out.trans (hb.mono (by omega)))
    have hs2 : B ≤ w2.heap.size := by have := hb.size; omega
    clear hb c0 c1 c2 c3 c4
    go_wp2_with fail
    go_ret2
    exact ⟨ret_sht HX.out, HB.out⟩
end Go.Proofs.YtplemibckjnbhaaGreatDoor
