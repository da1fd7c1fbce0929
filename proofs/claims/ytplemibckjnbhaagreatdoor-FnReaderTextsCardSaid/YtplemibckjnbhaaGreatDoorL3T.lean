/- The text of a reader, in impl and spec: the Lean function textR. Condition: the table of powers of ten is laid, for impl's; the name's length fits. (Printed by mkrdtext.py.) -/
import Derived.Test.YtplemibckjnbhaaGreatDoorL3C
import Derived.Test.YtplemibckjnbhaaGreatDoorLsT
namespace Go.Proofs.YtplemibckjnbhaaGreatDoor
open Go.RowKit Go.Lib
set_option linter.unusedVariables false
theorem wordB_size {s : ByteArray} (h : wordB s = true) : s.size ≤ 10 := by
  unfold wordB at h
  simp only [Bool.and_eq_true, inB, decide_eq_true_eq] at h
  omega
def rdT0 (z : SReader) : ByteArray := numS z.ident ++ ⟨#[32]⟩ ++ z.name ++ ⟨#[32, 99]⟩ ++ numS z.cls ++ ⟨#[32, 115, 105, 110, 99, 101, 32]⟩ ++ numS z.joined
def rdT (z : SReader) : ByteArray := if 0 < z.fines then rdT0 z ++ ⟨#[32, 111, 119, 101, 115, 32]⟩ ++ numS z.fines else rdT0 z
/-- the text of a reader, and whether there is one -/
def textR (z : SReader) : ByteArray × Bool := if z.okB then (rdT z, true) else (⟨#[]⟩, false)
theorem ret_rdt {z : SReader} {t : ByteArray} {b : Bool} (h : textR z = (t, b)) : Ending.returned (.tuple #[.string t, .bool b]) = .returned (.tuple #[.string (textR z).1, .bool (textR z).2]) := by rw [h]
theorem num_szR {n : Int} (h0 : -1000000000 ≤ n) (h1 : n ≤ 1000000000) : (numS n).size ≤ 21 := (numS_size n (by omega) (by omega)).2
theorem mk5R {w : World} {g : Nat} {t : TypeId} {a b c d e : Value} (h : Blk w g t #[a, b, c, d, e]) : w.cell? ⟨g, 0, none⟩ = some a ∧ w.cell? ⟨g, 1, none⟩ = some b ∧ w.cell? ⟨g, 2, none⟩ = some c ∧ w.cell? ⟨g, 3, none⟩ = some d ∧ w.cell? ⟨g, 4, none⟩ = some e := by
  refine ⟨?_, ?_, ?_, ?_, ?_⟩ <;> (rw [h.cell]; rfl)
theorem rdT_some {z : SReader} (h : 0 < z.fines) : rdT z = rdT0 z ++ ⟨#[32, 111, 119, 101, 115, 32]⟩ ++ numS z.fines := if_pos h
theorem rdT_none {z : SReader} (h : ¬ 0 < z.fines) : rdT z = rdT0 z := if_neg h
set_option maxHeartbeats 2000000 in
theorem l3Text_is (a0 : Int) (a1 : ByteArray) (a2 a3 a4 : Int) (w : World) (h0 : -1000000000 ≤ a0 ∧ a0 ≤ 1000000000) (h1 : a1.size ≤ 1000) (h2 : -1000000000 ≤ a2 ∧ a2 ≤ 1000000000) (h3 : -1000000000 ≤ a3 ∧ a3 ≤ 1000000000) (h4 : -1000000000 ≤ a4 ∧ a4 ≤ 1000000000) :
    Calls Tryz.prog 47 #[.agg #[.int .i64 a0, .string a1, .int .i64 a2, .int .i64 a3, .int .i64 a4]] w fun e w' => e = .returned (.string (rdT ⟨a0, a1, a2, a3, a4⟩)) ∧ Below w.heap.size w w' := by
  have B1 := below_alloc w (.cells #[.int .i64 a0, .string a1, .int .i64 a2, .int .i64 a3, .int .i64 a4] 25)
  have K := Blk.new w 25 #[.int .i64 a0, .string a1, .int .i64 a2, .int .i64 a3, .int .i64 a4]
  generalize hw1 : w.alloc (.cells #[.int .i64 a0, .string a1, .int .i64 a2, .int .i64 a3, .int .i64 a4] 25) = w1 at *
  have hs1 : w.heap.size < w1.heap.size := by rw [← hw1]; simp
  generalize hgm : w.heap.size = B at *
  have HK := hide K; have HB := hide B1; clear K B1
  by_cases ho : 0 < a4
  · rw [show rdT ⟨a0, a1, a2, a3, a4⟩ = _ from rdT_some ho]
    have z0 := num_szR (n := a0) (by omega) (by omega); have z2 := num_szR (n := a2) (by omega) (by omega); have z3 := num_szR (n := a3) (by omega) (by omega); have z4 := num_szR (n := a4) (by omega) (by omega)
    have q0 : ¬ 9223372036854775807 < (numS a0).size + 1 := by omega
    have q1 : ¬ 9223372036854775807 < (numS a0).size + 1 + a1.size := by omega
    have q2 : ¬ 9223372036854775807 < (numS a0).size + 1 + a1.size + 2 := by omega
    have q3 : ¬ 9223372036854775807 < (numS a0).size + 1 + a1.size + 2 + (numS a3).size := by omega
    have q4 : ¬ 9223372036854775807 < (numS a0).size + 1 + a1.size + 2 + (numS a3).size + 7 := by omega
    have q5 : ¬ 9223372036854775807 < (numS a0).size + 1 + a1.size + 2 + (numS a3).size + 7 + (numS a2).size := by omega
    have q6 : ¬ 9223372036854775807 < (numS a0).size + 1 + a1.size + 2 + (numS a3).size + 7 + (numS a2).size + 6 := by omega
    have q7 : ¬ 9223372036854775807 < (numS a0).size + 1 + a1.size + 2 + (numS a3).size + 7 + (numS a2).size + 6 + (numS a4).size := by omega
    clear z0 z2 z3 z4
    unfold rdT0
    try simp only
    go_enter Tryz.func47, Tryz.ntmps47
    go_upto_region 1 with fail
    (try simp only [hgm, hw1])
    clear hw1
    obtain ⟨c0, c1, c2, c3, c4⟩ := mk5R HK.out
    have m0 := fun n => later_cell c0 n; have m1 := fun n => later_cell c1 n; have m2 := fun n => later_cell c2 n; have m3 := fun n => later_cell c3 n
    (refine wp_region_later (by kernel_rfl) (by kernel_rfl) ?_; (repeat (go_big_quiet_step ((go_at_call 99; exact later_call (num_is _ _ (by omega) (by omega)))))); refine wpQuiet_nil ?_; intro _ hw'; obtain ⟨nq, hw''⟩ := hw'; subst hw'')
    replace HK := hide (HK.out.below nq.h (by omega)); replace HB := hide (HB.out.trans (nq.h.mono (by omega)))
    have hs3 : B ≤ nq.W.heap.size := by have := nq.h.size; omega
    clear m0 m1 m2 m3 c0 c1 c2 c3 c4
    obtain ⟨d0, d1, d2, d3, d4⟩ := mk5R HK.out
    go_wp2_with fail
    refine (num_is _ _ (by omega) (by omega)).mono ?_; rintro e w8 ⟨rfl, hb⟩
    replace HB := hide (HB.out.trans (hb.mono hs3)); clear hb d0 d1 d2 d3 d4
    go_wp2_with fail
    go_ret
    exact ⟨rfl, HB.out⟩
  · rw [show rdT ⟨a0, a1, a2, a3, a4⟩ = _ from rdT_none ho]
    have z0 := num_szR (n := a0) (by omega) (by omega); have z2 := num_szR (n := a2) (by omega) (by omega); have z3 := num_szR (n := a3) (by omega) (by omega); have z4 := num_szR (n := a4) (by omega) (by omega)
    have q0 : ¬ 9223372036854775807 < (numS a0).size + 1 := by omega
    have q1 : ¬ 9223372036854775807 < (numS a0).size + 1 + a1.size := by omega
    have q2 : ¬ 9223372036854775807 < (numS a0).size + 1 + a1.size + 2 := by omega
    have q3 : ¬ 9223372036854775807 < (numS a0).size + 1 + a1.size + 2 + (numS a3).size := by omega
    have q4 : ¬ 9223372036854775807 < (numS a0).size + 1 + a1.size + 2 + (numS a3).size + 7 := by omega
    have q5 : ¬ 9223372036854775807 < (numS a0).size + 1 + a1.size + 2 + (numS a3).size + 7 + (numS a2).size := by omega
    clear z0 z2 z3 z4
    unfold rdT0
    try simp only
    go_enter Tryz.func47, Tryz.ntmps47
    go_upto_region 1 with fail
    (try simp only [hgm, hw1])
    clear hw1
    obtain ⟨c0, c1, c2, c3, c4⟩ := mk5R HK.out
    have m0 := fun n => later_cell c0 n; have m1 := fun n => later_cell c1 n; have m2 := fun n => later_cell c2 n; have m3 := fun n => later_cell c3 n
    (refine wp_region_later (by kernel_rfl) (by kernel_rfl) ?_; (repeat (go_big_quiet_step ((go_at_call 99; exact later_call (num_is _ _ (by omega) (by omega)))))); refine wpQuiet_nil ?_; intro _ hw'; obtain ⟨nq, hw''⟩ := hw'; subst hw'')
    replace HK := hide (HK.out.below nq.h (by omega)); replace HB := hide (HB.out.trans (nq.h.mono (by omega)))
    have hs3 : B ≤ nq.W.heap.size := by have := nq.h.size; omega
    clear m0 m1 m2 m3 c0 c1 c2 c3 c4
    obtain ⟨d0, d1, d2, d3, d4⟩ := mk5R HK.out
    go_wp2_with fail
    go_ret
    exact ⟨rfl, HB.out⟩
set_option maxHeartbeats 2000000 in
theorem ReaderTextI_is (a0 : Int) (a1 : ByteArray) (a2 a3 a4 : Int) (w : World) (hm : a1.size ≤ 9223372036854775807) (ht : Tab w) :
    Calls Tryz.prog 7 #[.agg #[.int .i64 a0, .string a1, .int .i64 a2, .int .i64 a3, .int .i64 a4]] w fun e w' => e = .returned (.tuple #[.string (textR ⟨a0, a1, a2, a3, a4⟩).1, .bool (textR ⟨a0, a1, a2, a3, a4⟩).2]) ∧ Below w.heap.size w w' := by
  have hcw := fun W => IsReader_any a0 a1 a2 a3 a4 W hm
  have B1 := below_alloc w (.cells #[.int .i64 a0, .string a1, .int .i64 a2, .int .i64 a3, .int .i64 a4] 25)
  have hT := ht.alloc (.cells #[.int .i64 a0, .string a1, .int .i64 a2, .int .i64 a3, .int .i64 a4] 25)
  have K := Blk.new w 25 #[.int .i64 a0, .string a1, .int .i64 a2, .int .i64 a3, .int .i64 a4]
  generalize hw1 : w.alloc (.cells #[.int .i64 a0, .string a1, .int .i64 a2, .int .i64 a3, .int .i64 a4] 25) = w1 at *
  have hs1 : w.heap.size < w1.heap.size := by rw [← hw1]; simp
  generalize hgm : w.heap.size = B at *
  by_cases hok : SReader.okB ⟨a0, a1, a2, a3, a4⟩ = true
  · have hv := SReader.okB_iff.1 hok
    have hn10 := wordB_size hv.2.2.1
    rw [hok] at hcw
    obtain ⟨v0, v1, v2, v3, v4, v5, v6, v7, v8⟩ := hv
    by_cases ho : 0 < a4
    · have htx : textR ⟨a0, a1, a2, a3, a4⟩ = (rdT ⟨a0, a1, a2, a3, a4⟩, true) := if_pos hok
      rw [show rdT ⟨a0, a1, a2, a3, a4⟩ = _ from rdT_some ho] at htx
      unfold rdT0 at htx
      try simp only at htx
      rw [ByteArray.append_assoc (b := ⟨#[32, 111, 119, 101, 115, 32]⟩)] at htx
      have HX := hide htx; have HC := hide hcw; have HK := hide K; have HB := hide B1
      have HT := hide hT
      clear htx hcw hok K B1 hT ht
      have z0 := num_szR (n := a0) (by omega) (by omega); have z2 := num_szR (n := a2) (by omega) (by omega); have z3 := num_szR (n := a3) (by omega) (by omega); have z4 := num_szR (n := a4) (by omega) (by omega)
      have q0 : ¬ 9223372036854775807 < (numS a0).size + 1 := by omega
      have q1 : ¬ 9223372036854775807 < (numS a0).size + 1 + a1.size := by omega
      have q2 : ¬ 9223372036854775807 < (numS a0).size + 1 + a1.size + 2 := by omega
      have q3 : ¬ 9223372036854775807 < (numS a0).size + 1 + a1.size + 2 + (numS a3).size := by omega
      have q4 : ¬ 9223372036854775807 < (numS a0).size + 1 + a1.size + 2 + (numS a3).size + 7 := by omega
      have q5 : ¬ 9223372036854775807 < (numS a0).size + 1 + a1.size + 2 + (numS a3).size + 7 + (numS a2).size := by omega
      have q6 : ¬ 9223372036854775807 < 6 + (numS a4).size := by omega
      have q7 : ¬ 9223372036854775807 < (numS a0).size + 1 + a1.size + 2 + (numS a3).size + 7 + (numS a2).size + (6 + (numS a4).size) := by omega
      clear z0 z2 z3 z4
      go_enter Tryz.func7, Tryz.ntmps7
      go_upto_region 1 with fail
      (try simp only [hgm, hw1])
      clear hw1
      obtain ⟨c0, c1, c2, c3, c4⟩ := mk5R HK.out
      go_wp2_with fail
      refine (HC.out _).mono ?_; rintro e w2 ⟨rfl, hb⟩
      replace HK := hide (HK.out.below hb (by omega)); replace HB := hide (HB.out.trans (hb.mono (by omega)))
      replace HT := hide (HT.out.below hb (Nat.le_refl _))
      have hs2 : B ≤ w2.heap.size := by have := hb.size; omega
      have hs3 : B < w2.heap.size := by have := hb.size; omega
      clear hb c0 c1 c2 c3 c4
      go_upto_region 3 with fail
      obtain ⟨c0, c1, c2, c3, c4⟩ := mk5R HK.out
      have m0 := fun n => later_cell c0 n; have m1 := fun n => later_cell c1 n; have m2 := fun n => later_cell c2 n; have m3 := fun n => later_cell c3 n
      (refine wp_region_later (by kernel_rfl) (by kernel_rfl) ?_; (repeat (go_big_quiet_step ((go_at_call 45; exact later_call (text_is _ _ (by omega) (by omega) (HT.out.later _)))))); refine wpQuiet_nil ?_; intro _ hw'; obtain ⟨nq, hw''⟩ := hw'; subst hw'')
      replace HK := hide (HK.out.below nq.h (by omega)); replace HB := hide (HB.out.trans (nq.h.mono (by omega)))
      replace HT := hide (HT.out.later nq)
      have hs3 : B ≤ nq.W.heap.size := by have := nq.h.size; omega
      clear m0 m1 m2 m3 c0 c1 c2 c3 c4
      obtain ⟨d0, d1, d2, d3, d4⟩ := mk5R HK.out
      go_wp2_with fail
      refine (text_is _ _ (by omega) (by omega) HT.out).mono ?_; rintro e w8 ⟨rfl, hb⟩
      replace HB := hide (HB.out.trans (hb.mono hs3)); clear hb d0 d1 d2 d3 d4
      go_wp2_with fail
      go_ret2
      exact ⟨ret_rdt HX.out, HB.out⟩
    · have htx : textR ⟨a0, a1, a2, a3, a4⟩ = (rdT ⟨a0, a1, a2, a3, a4⟩, true) := if_pos hok
      rw [show rdT ⟨a0, a1, a2, a3, a4⟩ = _ from rdT_none ho] at htx
      unfold rdT0 at htx
      try simp only at htx
      have HX := hide htx; have HC := hide hcw; have HK := hide K; have HB := hide B1
      have HT := hide hT
      clear htx hcw hok K B1 hT ht
      have z0 := num_szR (n := a0) (by omega) (by omega); have z2 := num_szR (n := a2) (by omega) (by omega); have z3 := num_szR (n := a3) (by omega) (by omega); have z4 := num_szR (n := a4) (by omega) (by omega)
      have q0 : ¬ 9223372036854775807 < (numS a0).size + 1 := by omega
      have q1 : ¬ 9223372036854775807 < (numS a0).size + 1 + a1.size := by omega
      have q2 : ¬ 9223372036854775807 < (numS a0).size + 1 + a1.size + 2 := by omega
      have q3 : ¬ 9223372036854775807 < (numS a0).size + 1 + a1.size + 2 + (numS a3).size := by omega
      have q4 : ¬ 9223372036854775807 < (numS a0).size + 1 + a1.size + 2 + (numS a3).size + 7 := by omega
      have q5 : ¬ 9223372036854775807 < (numS a0).size + 1 + a1.size + 2 + (numS a3).size + 7 + (numS a2).size := by omega
      clear z0 z2 z3 z4
      go_enter Tryz.func7, Tryz.ntmps7
      go_upto_region 1 with fail
      (try simp only [hgm, hw1])
      clear hw1
      obtain ⟨c0, c1, c2, c3, c4⟩ := mk5R HK.out
      go_wp2_with fail
      refine (HC.out _).mono ?_; rintro e w2 ⟨rfl, hb⟩
      replace HK := hide (HK.out.below hb (by omega)); replace HB := hide (HB.out.trans (hb.mono (by omega)))
      replace HT := hide (HT.out.below hb (Nat.le_refl _))
      have hs2 : B ≤ w2.heap.size := by have := hb.size; omega
      have hs3 : B < w2.heap.size := by have := hb.size; omega
      clear hb c0 c1 c2 c3 c4
      go_upto_region 3 with fail
      obtain ⟨c0, c1, c2, c3, c4⟩ := mk5R HK.out
      have m0 := fun n => later_cell c0 n; have m1 := fun n => later_cell c1 n; have m2 := fun n => later_cell c2 n; have m3 := fun n => later_cell c3 n
      (refine wp_region_later (by kernel_rfl) (by kernel_rfl) ?_; (repeat (go_big_quiet_step ((go_at_call 45; exact later_call (text_is _ _ (by omega) (by omega) (HT.out.later _)))))); refine wpQuiet_nil ?_; intro _ hw'; obtain ⟨nq, hw''⟩ := hw'; subst hw'')
      replace HK := hide (HK.out.below nq.h (by omega)); replace HB := hide (HB.out.trans (nq.h.mono (by omega)))
      replace HT := hide (HT.out.later nq)
      have hs3 : B ≤ nq.W.heap.size := by have := nq.h.size; omega
      clear m0 m1 m2 m3 c0 c1 c2 c3 c4
      obtain ⟨d0, d1, d2, d3, d4⟩ := mk5R HK.out
      go_wp2_with fail
      go_ret2
      exact ⟨ret_rdt HX.out, HB.out⟩
  · have hno : SReader.okB ⟨a0, a1, a2, a3, a4⟩ = false := by simpa using hok
    have htx : textR ⟨a0, a1, a2, a3, a4⟩ = (⟨#[]⟩, false) := if_neg hok
    rw [hno] at hcw
    clear hno
    have HX := hide htx; have HC := hide hcw; have HK := hide K; have HB := hide B1
    have HT := hide hT
    clear htx hcw hok K B1 hT ht
    go_enter Tryz.func7, Tryz.ntmps7
    go_upto_region 1 with fail
    (try simp only [hgm, hw1])
    clear hw1
    obtain ⟨c0, c1, c2, c3, c4⟩ := mk5R HK.out
    go_wp2_with fail
    refine (HC.out _).mono ?_; rintro e w2 ⟨rfl, hb⟩
    replace HK := hide (HK.out.below hb (by omega)); replace HB := hide (HB.out.trans (hb.mono (by omega)))
    replace HT := hide (HT.out.below hb (Nat.le_refl _))
    have hs2 : B ≤ w2.heap.size := by have := hb.size; omega
    have hs3 : B < w2.heap.size := by have := hb.size; omega
    clear hb c0 c1 c2 c3 c4
    go_wp2_with fail
    go_ret2
    exact ⟨ret_rdt HX.out, HB.out⟩
set_option maxHeartbeats 2000000 in
theorem ReaderTextS_is (a0 : Int) (a1 : ByteArray) (a2 a3 a4 : Int) (w : World) (hm : a1.size ≤ 9223372036854775807) :
    Calls Tryz.prog 8 #[.agg #[.int .i64 a0, .string a1, .int .i64 a2, .int .i64 a3, .int .i64 a4]] w fun e w' => e = .returned (.tuple #[.string (textR ⟨a0, a1, a2, a3, a4⟩).1, .bool (textR ⟨a0, a1, a2, a3, a4⟩).2]) ∧ Below w.heap.size w w' := by
  have hcw := fun W => l3One_any a0 a1 a2 a3 a4 W hm
  have B1 := below_alloc w (.cells #[.int .i64 a0, .string a1, .int .i64 a2, .int .i64 a3, .int .i64 a4] 25)
  have K := Blk.new w 25 #[.int .i64 a0, .string a1, .int .i64 a2, .int .i64 a3, .int .i64 a4]
  generalize hw1 : w.alloc (.cells #[.int .i64 a0, .string a1, .int .i64 a2, .int .i64 a3, .int .i64 a4] 25) = w1 at *
  have hs1 : w.heap.size < w1.heap.size := by rw [← hw1]; simp
  generalize hgm : w.heap.size = B at *
  by_cases hok : SReader.okB ⟨a0, a1, a2, a3, a4⟩ = true
  · have hv := SReader.okB_iff.1 hok
    have hn10 := wordB_size hv.2.2.1
    rw [hok] at hcw
    obtain ⟨v0, v1, v2, v3, v4, v5, v6, v7, v8⟩ := hv
    have htx : textR ⟨a0, a1, a2, a3, a4⟩ = (rdT ⟨a0, a1, a2, a3, a4⟩, true) := if_pos hok
    have HX := hide htx; have HC := hide hcw; have HK := hide K; have HB := hide B1
    clear htx hcw hok K B1
    go_enter Tryz.func8, Tryz.ntmps8
    go_upto_region 1 with fail
    (try simp only [hgm, hw1])
    clear hw1
    obtain ⟨c0, c1, c2, c3, c4⟩ := mk5R HK.out
    go_wp2_with fail
    refine (HC.out _).mono ?_; rintro e w2 ⟨rfl, hb⟩
    replace HK := hide (HK.out.below hb (by omega)); replace HB := hide (HB.out.trans (hb.mono (by omega)))
    have hs2 : B ≤ w2.heap.size := by have := hb.size; omega
    have hs3 : B < w2.heap.size := by have := hb.size; omega
    clear hb c0 c1 c2 c3 c4
    obtain ⟨d0, d1, d2, d3, d4⟩ := mk5R HK.out
    go_wp2_with fail
    refine (l3Text_is _ _ _ _ _ _ (by omega) (by omega) (by omega) (by omega) (by omega)).mono ?_; rintro e w3 ⟨rfl, hb⟩
    have HB2 := hide (HB.out.trans (hb.mono hs2)); clear hb
    go_wp2_with fail
    go_ret2
    exact ⟨ret_rdt HX.out, HB2.out⟩
  · have hno : SReader.okB ⟨a0, a1, a2, a3, a4⟩ = false := by simpa using hok
    have htx : textR ⟨a0, a1, a2, a3, a4⟩ = (⟨#[]⟩, false) := if_neg hok
    rw [hno] at hcw
    clear hno
    have HX := hide htx; have HC := hide hcw; have HK := hide K; have HB := hide B1
    clear htx hcw hok K B1
    go_enter Tryz.func8, Tryz.ntmps8
    go_upto_region 1 with fail
    (try simp only [hgm, hw1])
    clear hw1
    obtain ⟨c0, c1, c2, c3, c4⟩ := mk5R HK.out
    go_wp2_with fail
    refine (HC.out _).mono ?_; rintro e w2 ⟨rfl, hb⟩
    replace HK := hide (HK.out.below hb (by omega)); replace HB := hide (HB.out.trans (hb.mono (by omega)))
    have hs2 : B ≤ w2.heap.size := by have := hb.size; omega
    have hs3 : B < w2.heap.size := by have := hb.size; omega
    clear hb c0 c1 c2 c3 c4
    go_wp2_with fail
    go_ret2
    exact ⟨ret_rdt HX.out, HB.out⟩
end Go.Proofs.YtplemibckjnbhaaGreatDoor
