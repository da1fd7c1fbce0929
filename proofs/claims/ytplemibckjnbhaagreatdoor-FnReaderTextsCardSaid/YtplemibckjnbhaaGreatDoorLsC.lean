/- Contracts of the sealing of texts: whether a byte stands in a text (strings.Contains), what stands ahead of it (strings.Cut), AppendChecksum in impl and spec, VerifyChecksum in impl. Condition: the table of powers of ten is laid; texts of at most a million bytes. -/
import Derived.Test.YtplemibckjnbhaaGreatDoorLsB
import Derived.Test.YtplemibckjnbhaaGreatDoorLayX
import Derived.StillTailTactics
namespace Go.Proofs.YtplemibckjnbhaaGreatDoor
open Go.RowKit Go.Lib
set_option linter.unusedVariables false
theorem index_mem (l : List UInt8) (c : UInt8) : (0 ≤ indexByte l c ↔ c ∈ l) ∧ (0 ≤ indexByte l c → (indexByte l c).toNat < l.length ∧ l.takeWhile (· != c) = l.take (indexByte l c).toNat) ∧ (¬ 0 ≤ indexByte l c → l.takeWhile (· != c) = l) := by
  induction l with
  | nil => simp [indexByte]
  | cons b l ih =>
    obtain ⟨h1, h2, h3⟩ := ih
    by_cases hb : b = c
    · subst hb
      simp [indexByte]
    · have hb1 : (b == c) = false := by simpa using hb
      have hb2 : (b != c) = true := by simpa using hb
      by_cases hm : 0 ≤ indexByte l c
      · have hne : (indexByte l c == -1) = false := by simp only [beq_eq_false_iff_ne, ne_eq]; omega
        have hix : indexByte (b :: l) c = indexByte l c + 1 := by simp [indexByte, hb1, hne]
        obtain ⟨h4, h5⟩ := h2 hm
        rw [hix]
        refine ⟨⟨fun _ => List.mem_cons_of_mem _ (h1.1 hm), fun _ => by omega⟩, fun _ => ?_, fun h => absurd (by omega) h⟩
        have ht : (indexByte l c + 1).toNat = (indexByte l c).toNat + 1 := by omega
        rw [ht, List.takeWhile_cons, hb2, if_pos rfl, h5]
        exact ⟨by simp only [List.length_cons]; omega, rfl⟩
      · have hge := indexByte_ge l c
        have hix : indexByte (b :: l) c = -1 := by
          have : indexByte l c = -1 := by omega
          simp [indexByte, hb1, this]
        rw [hix]
        refine ⟨⟨fun h => absurd h (by omega), fun h => ?_⟩, fun h => absurd h (by omega), fun _ => ?_⟩
        · rcases List.mem_cons.1 h with h | h
          · exact absurd h.symm hb
          · exact absurd (h1.2 h) hm
        · rw [List.takeWhile_cons, hb2, if_pos rfl, h3 hm]
theorem index_is (s : ByteArray) (c : UInt8) (w : World) :
    Calls Tryz.prog 135 #[.string s, .string ⟨#[c]⟩] w fun e w' => e = .returned (.int .i64 (indexByte s.data.toList c)) ∧ w' = w := Any.stringslite_Index_one layX s c w
/-- what stands ahead of a byte -/
def headS (s : ByteArray) : ByteArray := ⟨(headB s.data.toList).toArray⟩
theorem headS_eq (s : ByteArray) : (headS s).data.toList = headB s.data.toList := by simp [headS]
theorem headS_size (s : ByteArray) : (headS s).size ≤ s.size := by
  show (headB s.data.toList).toArray.size ≤ s.data.size
  rw [List.size_toArray]
  have := (List.takeWhile_prefix (l := s.data.toList) (· != 35)).length_le
  exact this
theorem extract_head (s : ByteArray) {i : Nat} (hi : i ≤ s.size) : s.extract 0 i = ⟨(s.data.toList.take i).toArray⟩ := by
  apply ByteArray.ext
  apply Array.ext'
  simp [ByteArray.data_extract]
/-- a text sealed, and whether it may be -/
def badS (s : ByteArray) : Bool := hasB 35 s || decide ((4000 : Int) < (sealS s).size)
def sealW (s : ByteArray) : ByteArray × Bool := if badS s then (⟨#[]⟩, false) else (sealS s, true)
theorem sealS_bounds (s : ByteArray) (hm : s.size ≤ 1000000) : s.size + 1 ≤ (sealS s).size ∧ (sealS s).size ≤ s.size + 22 := by
  have hz := numS_size (sumB s.data.toList : Nat) (by have := sumB_lt s.data.toList; omega) (by have := sumB_lt s.data.toList; omega)
  unfold sealS
  rw [ByteArray.size_append, ByteArray.size_append]
  have : (⟨#[35]⟩ : ByteArray).size = 1 := rfl
  omega
end Go.Proofs.YtplemibckjnbhaaGreatDoor
