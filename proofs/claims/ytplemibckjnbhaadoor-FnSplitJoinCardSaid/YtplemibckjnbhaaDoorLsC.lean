/- Contracts of the sealing of texts: whether a byte stands in a text (strings.Contains), what stands ahead of it (strings.Cut), AppendChecksum in impl and spec, VerifyChecksum in impl. Condition: the table of powers of ten is laid; texts of at most a million bytes. -/
import Derived.Test.YtplemibckjnbhaaDoorLsB
import Derived.Test.YtplemibckjnbhaaDoorLayC
import Derived.Test.YtplemibckjnbhaaDoorLayX
import Derived.StillTailTactics
namespace Go.Proofs.YtplemibckjnbhaaDoor
open Go.RowKit Go.Lib
set_option linter.unusedVariables false
theorem index_mem (l : List UInt8) (c : UInt8) : (0 ≤ indexByte l c ↔ c ∈ l) ∧ (0 ≤ indexByte l c → (indexByte l c).toNat < l.length ∧ l.takeWhile (· != c) = l.take (indexByte l c).toNat) ∧ (¬ 0 ≤ indexByte l c → l.takeWhile (· != c) = l) := by
  induction l with
  | nil => simp [indexByte]
  | cons b l ih =>
    obtain ⟨h1, h2, h3⟩ := ih
    by_cases hb : b = c
    · subst hb
      simp [indexByte]
    · have hb1 : (b == c) = false := by simpa using hb
      have hb2 : (b != c) = true := by simpa using hb
      by_cases hm : 0 ≤ indexByte l c
      · have hne : (indexByte l c == -1) = false := by simp only [beq_eq_false_iff_ne, ne_eq]; omega
        have hix : indexByte (b :: l) c = indexByte l c + 1 := by simp [indexByte, hb1, hne]
        obtain ⟨h4, h5⟩ := h2 hm
        rw [hix]
        refine ⟨⟨fun _ => List.mem_cons_of_mem _ (h1.1 hm), fun _ => by omega⟩, fun _ => ?_, fun h => absurd (by omega) h⟩
        have ht : (indexByte l c + 1).toNat = (indexByte l c).toNat + 1 := by omega
        rw [ht, List.takeWhile_cons, hb2, if_pos rfl, h5]
        exact ⟨by simp only [List.length_cons]; omega, rfl⟩
      · have hge := indexByte_ge l c
        have hix : indexByte (b :: l) c = -1 := by
          have : indexByte l c = -1 := by omega
          simp [indexByte, hb1, this]
        rw [hix]
        refine ⟨⟨fun h => absurd h (by omega), fun h => ?_⟩, fun h => absurd h (by omega), fun _ => ?_⟩
        · rcases List.mem_cons.1 h with h | h
          · exact absurd h.symm hb
          · exact absurd (h1.2 h) hm
        · rw [List.takeWhile_cons, hb2, if_pos rfl, h3 hm]
theorem contains_is (s : ByteArray) (c : UInt8) (w : World) :
    Calls Tryd.prog 53 #[.string s, .string ⟨#[c]⟩] w fun e w' => e = .returned (.bool (hasB c s)) ∧ w' = w := by
  have key : Calls Tryd.prog 53 #[.string s, .string ⟨#[c]⟩] w fun e w' => e = .returned (.bool (decide (0 ≤ indexByte s.data.toList c))) ∧ w' = w := Any.strings_Contains_one layC s c w
  refine key.mono ?_
  rintro e w' ⟨rfl, rfl⟩
  refine ⟨?_, rfl⟩
  unfold hasB
  rw [decide_eq_decide.2 (index_mem s.data.toList c).1]
theorem index_is (s : ByteArray) (c : UInt8) (w : World) :
    Calls Tryd.prog 116 #[.string s, .string ⟨#[c]⟩] w fun e w' => e = .returned (.int .i64 (indexByte s.data.toList c)) ∧ w' = w := Any.stringslite_Index_one layX s c w
/-- what stands ahead of a byte -/
def headS (s : ByteArray) : ByteArray := ⟨(headB s.data.toList).toArray⟩
theorem headS_eq (s : ByteArray) : (headS s).data.toList = headB s.data.toList := by simp [headS]
theorem headS_size (s : ByteArray) : (headS s).size ≤ s.size := by
  show (headB s.data.toList).toArray.size ≤ s.data.size
  rw [List.size_toArray]
  have := (List.takeWhile_prefix (l := s.data.toList) (· != 35)).length_le
  exact this
theorem extract_head (s : ByteArray) {i : Nat} (hi : i ≤ s.size) : s.extract 0 i = ⟨(s.data.toList.take i).toArray⟩ := by
  apply ByteArray.ext
  apply Array.ext'
  simp [ByteArray.data_extract]
set_option maxHeartbeats 1000000 in
theorem cutL_is (s : ByteArray) (w : World) (hm : s.size ≤ 1000000) :
    Calls Tryd.prog 113 #[.string s, .string ⟨#[35]⟩] w fun e w' => ∃ (r : ByteArray) (b : Bool), e = .returned (.tuple #[.string (headS s), .string r, .bool b]) ∧ Below w.heap.size w w' := by
  obtain ⟨_, h2, h3⟩ := index_mem s.data.toList 35
  have hge := indexByte_ge s.data.toList 35
  have hix := fun w => index_is s 35 w
  by_cases hc : 0 ≤ indexByte s.data.toList 35
  · obtain ⟨h4, h5⟩ := h2 hc
    have h4 : (indexByte s.data.toList 35).toNat < s.size := h4
    have hh : s.extract 0 (indexByte s.data.toList 35).toNat = headS s := by
      rw [extract_head s (Nat.le_of_lt h4), ← h5]; rfl
    obtain ⟨i, hi⟩ : ∃ i : Nat, indexByte s.data.toList 35 = (i : Int) := ⟨_, (Int.toNat_of_nonneg hc).symm⟩
    rw [hi] at hix hh h4
    rw [Int.toNat_natCast] at hh h4
    have HH := hide hh; have HX := hide hix
    clear h2 h3 h5 hi hh hix hc hge
    have c1 : (0 : Int) ≤ ↑i := by omega
    have c2 : (↑i : Int) ≤ ↑s.size := by omega
    have c3 : (0 : Int) ≤ ↑i + 1 := by omega
    have c4 : (↑i + 1 : Int) ≤ ↑s.size := by omega
    go_enter Tryd.func113, Tryd.ntmps113
    go_wp2_with (go_at_call 116; refine (HX.out _).mono ?_; rintro e w' ⟨rfl, rfl⟩)
    go_quiet (fail)
    all_goals
      go_wp2_with fail
      go_ret3
      exact ⟨s.extract (i + 1) s.size, true, by rw [← HH.out]; rfl, below_drewN (Below.refl _ _) _⟩
  · have hh : headS s = s := by
      unfold headS headB
      rw [h3 hc]
    have hm1 : indexByte s.data.toList 35 = -1 := by omega
    rw [hm1] at hix
    rw [hh]
    have HX := hide hix
    clear h2 h3 hix hm1 hc hge hh
    go_enter Tryd.func113, Tryd.ntmps113
    go_wp2_with (go_at_call 116; refine (HX.out _).mono ?_; rintro e w' ⟨rfl, rfl⟩)
    go_ret3
    exact ⟨_, _, rfl, Below.refl _ _⟩
theorem cut_is (s : ByteArray) (w : World) (hm : s.size ≤ 1000000) :
    Calls Tryd.prog 91 #[.string s, .string ⟨#[35]⟩] w fun e w' => ∃ (r : ByteArray) (b : Bool), e = .returned (.tuple #[.string (headS s), .string r, .bool b]) ∧ Below w.heap.size w w' := by
  have hc := fun w => cutL_is s w hm
  generalize headS s = h at hc ⊢
  have HC := hide hc; clear hc
  go_enter Tryd.func91, Tryd.ntmps91
  go_wp2_with (go_at_call 113; refine (HC.out _).mono ?_; rintro e w' ⟨r, b, rfl, hb⟩)
  go_ret3
  exact ⟨r, b, rfl, hb⟩
/-- a text sealed, and whether it may be -/
def badS (s : ByteArray) : Bool := hasB 35 s || decide ((4000 : Int) < (sealS s).size)
def sealW (s : ByteArray) : ByteArray × Bool := if badS s then (⟨#[]⟩, false) else (sealS s, true)
theorem sealS_bounds (s : ByteArray) (hm : s.size ≤ 1000000) : s.size + 1 ≤ (sealS s).size ∧ (sealS s).size ≤ s.size + 22 := by
  have hz := numS_size (sumB s.data.toList : Nat) (by have := sumB_lt s.data.toList; omega) (by have := sumB_lt s.data.toList; omega)
  unfold sealS
  rw [ByteArray.size_append, ByteArray.size_append]
  have : (⟨#[35]⟩ : ByteArray).size = 1 := rfl
  omega
set_option maxHeartbeats 1000000 in
theorem AppendI_is (s : ByteArray) (w : World) (hm : s.size ≤ 1000000) (ht : Tab w) :
    Calls Tryd.prog 44 #[.string s] w fun e w' => e = .returned (.tuple #[.string (sealW s).1, .bool (sealW s).2]) ∧ Below w.heap.size w w' := by
  have hx : sealW s = if badS s then (⟨#[]⟩, false) else (sealS s, true) := rfl
  have hlt := sumB_lt s.data.toList
  have hz := (numS_size (sumB s.data.toList : Nat) (by omega) (by omega)).2
  have hss := sealS_bounds s hm
  have hcs := fun w => checksum_is s w (by omega)
  have hcn := fun w h => text_is (sumB s.data.toList : Nat) w (by omega) (by omega) h
  have hcc := fun w => contains_is s 35 w
  have hse : s ++ ⟨#[35]⟩ ++ numS (sumB s.data.toList : Nat) = sealS s := rfl
  have hsz : (sealS s).size = s.size + 1 + (numS (sumB s.data.toList : Nat)).size := by rw [← hse, ByteArray.size_append, ByteArray.size_append]; rfl
  have hbad : badS s = (hasB 35 s || decide ((4000 : Int) < ((s.size + 1 + (numS (sumB s.data.toList : Nat)).size : Nat) : Int))) := by unfold badS; rw [hsz]
  generalize sealW s = sw at *
  generalize badS s = bad at *
  generalize sealS s = se at *
  generalize numS (sumB s.data.toList : Nat) = t at *
  generalize sumB s.data.toList = q at *
  generalize hasB 35 s = hs at *
  have q1 : ¬ 9223372036854775807 < s.size + 1 := by omega
  have q2 : ¬ 9223372036854775807 < s.size + 1 + t.size := by omega
  have HS := hide hcs; have HN := hide hcn; have HC := hide hcc; have HX := hide hx; have HE := hide hse; have HT := hide ht; have HBAD := hide hbad; clear hcs hcn hcc hx hse ht hbad hsz hss
  have HB0 := hide (Below.refl w.heap.size w)
  cases hs with
  | true =>
    go_enter Tryd.func44, Tryd.ntmps44
    go_wp2_with (first | (go_at_call 89; refine (HS.out _).mono ?_; rintro e w1 ⟨rfl, hb⟩; have HB1 := hide hb; clear hb) | (go_at_call 83; refine (HN.out _ (HT.out.below HB1.out (Nat.le_refl _))).mono ?_; rintro e w2 ⟨rfl, hb⟩; have HB2 := hide (bstep HB1.out hb HB1.out.size); clear hb) | (go_at_call 53; refine (HC.out _).mono ?_; rintro e w' ⟨rfl, rfl⟩))
    go_ret2
    have hb := HBAD.out; rw [Bool.true_or] at hb
    rw [HX.out, hb]
    exact ⟨rfl, HB2.out⟩
  | false =>
    by_cases hl : 4000 < s.size + 1 + t.size
    · have hl2 : (4000 : Int) < (s.size : Int) + 1 + (t.size : Int) := by omega
      go_enter Tryd.func44, Tryd.ntmps44
      go_wp2_with (first | (go_at_call 89; refine (HS.out _).mono ?_; rintro e w1 ⟨rfl, hb⟩; have HB1 := hide hb; clear hb) | (go_at_call 83; refine (HN.out _ (HT.out.below HB1.out (Nat.le_refl _))).mono ?_; rintro e w2 ⟨rfl, hb⟩; have HB2 := hide (bstep HB1.out hb HB1.out.size); clear hb) | (go_at_call 53; refine (HC.out _).mono ?_; rintro e w' ⟨rfl, rfl⟩))
      go_ret2
      have hb := HBAD.out; rw [Bool.false_or, decide_eq_true (by omega)] at hb
      rw [HX.out, hb]
      exact ⟨rfl, HB2.out⟩
    · have hl2 : ¬ (4000 : Int) < (s.size : Int) + 1 + (t.size : Int) := by omega
      go_enter Tryd.func44, Tryd.ntmps44
      go_wp2_with (first | (go_at_call 89; refine (HS.out _).mono ?_; rintro e w1 ⟨rfl, hb⟩; have HB1 := hide hb; clear hb) | (go_at_call 83; refine (HN.out _ (HT.out.below HB1.out (Nat.le_refl _))).mono ?_; rintro e w2 ⟨rfl, hb⟩; have HB2 := hide (bstep HB1.out hb HB1.out.size); clear hb) | (go_at_call 53; refine (HC.out _).mono ?_; rintro e w' ⟨rfl, rfl⟩))
      go_ret2
      have hb := HBAD.out; rw [Bool.false_or, decide_eq_false (by omega)] at hb
      rw [HX.out, hb, ← HE.out]
      exact ⟨rfl, HB2.out⟩
end Go.Proofs.YtplemibckjnbhaaDoor
