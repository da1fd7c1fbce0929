/- The numeral of an int: impl's text (strconv.Itoa, over the table of powers of ten that the row lists) and spec's l1Num. Condition: the table is laid, for impl's. -/
import Derived.Test.YtplemibckjnbhaaGreatDoorLayX
import Derived.Test.YtplemibckjnbhaaGreatDoorOwn
import Derived.Lib.LaidTab
import Derived.LaidLaws
namespace Go.Proofs.YtplemibckjnbhaaGreatDoor
open Go.RowKit Go.Shelf Go.Sort
set_option linter.unusedVariables false
theorem ret_str {a b : ByteArray} (h : a = b) : Ending.returned (.string a) = .returned (.string b) := by rw [h]
/-- the numeral of an int -/
def numS (n : Int) : ByteArray := ⟨(Lib.itoa n).toArray⟩
/-- the table of the powers of ten lies as the row lists it -/
def Tab (w : World) : Prop := Lib.TabIs Tryz.prog w "internal/strconv.uint64pow10" .u64 Lib.pow10Tab
theorem Tab.below {w w' : World} {B : Nat} (h : Tab w) (hb : Below B w w') (hB : w.heap.size ≤ B) : Tab w' := by
  unfold Tab Lib.TabIs World.var? at *
  rw [show Tryz.prog.globalNamed "internal/strconv.uint64pow10" = some 1 by kernel_rfl] at *
  simp only [Option.bind_some] at *
  have hk : 1 < w.heap.size := by
    rcases Nat.lt_or_ge 1 w.heap.size with h' | h'
    · exact h'
    · rw [Array.getElem?_eq_none h'] at h; simp at h
  rw [hb.block _ (Nat.lt_of_lt_of_le hk hB)]
  exact h
theorem Tab.later {w : World} (h : Tab w) (n : Later w) : Tab n.W := h.below n.h (Nat.le_refl _)
theorem Tab.alloc {w : World} (h : Tab w) (o : Obj) : Tab (w.alloc o) := h.below (below_alloc w o) (Nat.le_refl _)
theorem below_grow (w : World) (k : Nat) (os : Array Obj) : Below w.heap.size w (grow (w.drewN k) os) :=
  ⟨rfl, rfl, rfl, by simp, fun i hi => heap_grow_old (w.drewN k) os hi⟩
theorem numS_size (n : Int) (h0 : -9223372036854775808 ≤ n) (h1 : n ≤ 9223372036854775807) : 1 ≤ (numS n).size ∧ (numS n).size ≤ 21 := by
  have key : ∀ u : Nat, u ≤ 9223372036854775808 → 1 ≤ (Lib.decDigits u).length ∧ (Lib.decDigits u).length ≤ 20 := by
    intro u hu
    rw [Lib.decDigits_length]
    refine ⟨Lib.nDigits_pos u, ?_⟩
    have mono : ∀ k u : Nat, u < 10 ^ (k + 1) → Lib.nDigits u ≤ k + 1 := by
      intro k
      induction k with
      | zero => intro u hu; rw [Lib.nDigits_small (by simpa using hu)]; exact Nat.le_refl _
      | succ k ih =>
        intro u hu
        by_cases h : u < 10
        · rw [Lib.nDigits_small h]; omega
        · rw [Lib.nDigits_big h]
          have := ih (u / 10) (by rw [Nat.pow_succ] at hu; omega)
          omega
    exact mono 19 u (Nat.lt_of_le_of_lt hu (by decide))
  show 1 ≤ (Lib.itoa n).toArray.size ∧ (Lib.itoa n).toArray.size ≤ 21
  rw [List.size_toArray]
  unfold Lib.itoa
  split
  · have := key n.natAbs (by omega)
    simp only [List.length_cons]; omega
  · have := key n.toNat (by omega)
    omega
theorem itoa_is (n : Int) (w : World) (h0 : -9223372036854775808 ≤ n) (h1 : n ≤ 9223372036854775807) (ht : Tab w) :
    Calls Tryz.prog 96 #[.int .i64 n] w fun e w' => e = .returned (.string (numS n)) ∧ Below w.heap.size w w' := by
  have key : Calls Tryz.prog 96 #[.int .i64 n] w fun e w' => e = .returned (.string ⟨(Lib.itoa n).toArray⟩) ∧ ∃ k os, w' = grow (w.drewN k) os :=
    Any.strconv_Itoa layI n h0 h1 w ht
  refine key.mono ?_
  rintro e w' ⟨rfl, k, os, rfl⟩
  exact ⟨rfl, below_grow w k os⟩
theorem text_is (n : Int) (w : World) (h0 : -9223372036854775808 ≤ n) (h1 : n ≤ 9223372036854775807) (ht : Tab w) :
    Calls Tryz.prog 45 #[.int .i64 n] w fun e w' => e = .returned (.string (numS n)) ∧ Below w.heap.size w w' := by
  have HT := hide ht; clear ht
  go_enter Tryz.func45, Tryz.ntmps45
  go_wp2_with (go_at_call 96; refine (itoa_is _ _ h0 h1 HT.out).mono ?_; rintro e w' ⟨rfl, hb⟩)
  go_ret
  exact ⟨rfl, hb⟩
/-- the letter of a digit -/
def dig (u : Nat) : UInt8 := UInt8.ofNat (48 + u)
theorem numS_small (u : Nat) (h : u < 10) : numS (u : Int) = ⟨#[dig u]⟩ := by
  unfold numS Lib.itoa
  rw [if_neg (by omega)]
  rw [Lib.decDigits, dif_pos (by simpa using h)]
  simp [dig]
theorem numS_big (u : Nat) (h : ¬ u < 10) : numS (u : Int) = numS ((u / 10 : Nat) : Int) ++ ⟨#[dig (u % 10)]⟩ := by
  unfold numS Lib.itoa
  rw [if_neg (by omega), if_neg (by omega)]
  rw [Lib.decDigits, dif_neg (by simpa using h)]
  apply ByteArray.ext
  have : ((u : Int) / 10).toNat = u / 10 := by omega
  simp [ByteArray.data_append, this, dig]
theorem numS_neg (n : Int) (h : n < 0) : numS n = ⟨#[45]⟩ ++ numS (-n) := by
  unfold numS Lib.itoa
  rw [if_pos h, if_neg (by omega)]
  apply ByteArray.ext
  have : n.natAbs = (-n).toNat := by omega
  simp [ByteArray.data_append, this]
theorem dig_at (u : Nat) (h : u < 10) : (⟨#[48, 49, 50, 51, 52, 53, 54, 55, 56, 57]⟩ : ByteArray).extract u (u + 1) = ⟨#[dig u]⟩ := by
  have : u = 0 ∨ u = 1 ∨ u = 2 ∨ u = 3 ∨ u = 4 ∨ u = 5 ∨ u = 6 ∨ u = 7 ∨ u = 8 ∨ u = 9 := by omega
  rcases this with rfl | rfl | rfl | rfl | rfl | rfl | rfl | rfl | rfl | rfl <;> rfl
theorem numN_is (u : Nat) : ∀ (w : World), (u : Int) ≤ 9223372036854775807 →
    Calls Tryz.prog 99 #[.int .i64 (u : Int)] w fun e w' => e = .returned (.string (numS (u : Int))) ∧ Below w.heap.size w w' := by
  induction u using Nat.strongRecOn with
  | _ u ih =>
    intro w hu
    by_cases h : u < 10
    · have hd := dig_at u h
      have hs := numS_small u h
      have HS := hide hs; clear hs
      clear ih
      have h0 : ¬ ((u : Int) < 0) := by omega
      have h10 : (u : Int) < 10 := by omega
      generalize dig u = c at *
      go_enter Tryz.func99, Tryz.ntmps99
      go_wp2_with fail
      go_ret
      exact ⟨ret_str HS.out.symm, Below.refl _ _⟩
    · have hr1 : u % 10 < 10 := by omega
      have hd := dig_at (u % 10) hr1
      have hs := numS_big u h
      have hsz := numS_size ((u / 10 : Nat) : Int) (by omega) (by omega)
      have hih := fun w => ih (u / 10) (by omega) w (by omega)
      generalize numS ((u / 10 : Nat) : Int) = t at hs hsz hih
      have hq : (u : Int) / 10 = ((u / 10 : Nat) : Int) := by omega
      have hr : (u : Int) % 10 = ((u % 10 : Nat) : Int) := by omega
      clear ih
      generalize dig (u % 10) = c at *
      generalize u / 10 = q at *
      generalize u % 10 = r at *
      have HS := hide hs; have HI := hide hih; clear hs hih
      have h0 : ¬ ((u : Int) < 0) := by omega
      have h10 : ¬ (u : Int) < 10 := by omega
      obtain ⟨hz1, hz2⟩ := hsz
      have hns : ¬ 9223372036854775807 < t.size + 1 := by omega
      go_enter Tryz.func99, Tryz.ntmps99
      go_wp2_with fail
      (refine wp_region_later (by kernel_rfl) (by kernel_rfl) ?_; (repeat (go_big_quiet_step ((go_at_call 99; exact later_call (HI.out _))))); refine wpQuiet_nil ?_; intro _ hw'; obtain ⟨nq, hw''⟩ := hw'; subst hw'')
      go_wp2_with fail
      go_ret
      exact ⟨ret_str HS.out.symm, nq.h⟩
theorem num_is (n : Int) (w : World) (h0 : -9223372036854775807 ≤ n) (h1 : n ≤ 9223372036854775807) :
    Calls Tryz.prog 99 #[.int .i64 n] w fun e w' => e = .returned (.string (numS n)) ∧ Below w.heap.size w w' := by
  by_cases hn : n < 0
  · have hs := numS_neg n hn
    have hc := fun w => numN_is (-n).toNat w (by omega)
    have hz := numS_size (-n) (by omega) (by omega)
    rw [show (((-n).toNat : Nat) : Int) = -n by omega] at hc
    generalize numS (-n) = t at hs hc hz
    have HS := hide hs; have HC := hide hc; clear hs hc
    obtain ⟨hz1, hz2⟩ := hz
    have hns : ¬ 9223372036854775807 < 1 + t.size := by omega
    go_enter Tryz.func99, Tryz.ntmps99
    go_wp2_with (go_at_call 99; refine (HC.out _).mono ?_; rintro e w' ⟨rfl, hb⟩)
    go_ret
    exact ⟨ret_str HS.out.symm, hb⟩
  · have hc := numN_is n.toNat w (by omega)
    rw [show ((n.toNat : Nat) : Int) = n by omega] at hc
    exact hc
end Go.Proofs.YtplemibckjnbhaaGreatDoor
