/- The plain law of splitting at one byte and joining again. Nothing here speaks of the program. No condition. -/
import Derived.Test.YtplemibckjnbhaaGreatDoorLsC
import Derived.Lib.Split
import Derived.Lib.Join
import Derived.Lib.CountLaws
namespace Go.Proofs.YtplemibckjnbhaaGreatDoor
open Go.RowKit Go.Lib
set_option linter.unusedVariables false
theorem indexByte_at : ∀ (l : List UInt8) (c : UInt8) (i : Nat), indexByte l c = (i : Int) → l = l.take i ++ c :: l.drop (i + 1) ∧ c ∉ l.take i
  | [], c, i, h => by simp [indexByte] at h
  | b :: l, c, i, h => by
    by_cases hb : b = c
    · subst hb
      simp [indexByte] at h
      have : i = 0 := by omega
      subst this
      simp
    · have hb1 : (b == c) = false := by simpa using hb
      simp only [indexByte, hb1] at h
      by_cases hm : indexByte l c = -1
      · rw [hm] at h; simp at h
      · have hne : (indexByte l c == -1) = false := by simpa using hm
        rw [hne] at h
        simp only [Bool.false_eq_true, if_false] at h
        obtain ⟨j, rfl⟩ : ∃ j, i = j + 1 := ⟨i - 1, by have := indexByte_ge l c; omega⟩
        obtain ⟨h1, h2⟩ := indexByte_at l c j (by omega)
        refine ⟨?_, ?_⟩
        · simp only [List.take_succ_cons, List.drop_succ_cons, List.cons_append]
          rw [← h1]
        · simp only [List.take_succ_cons, List.mem_cons, not_or]
          exact ⟨fun e => hb e.symm, h2⟩
theorem join_more (x : List UInt8) (r : List (List UInt8)) (sep : List UInt8) (hr : r ≠ []) : join (x :: r) sep = x ++ (sep ++ join r sep) := by
  cases r with
  | nil => exact absurd rfl hr
  | cons y r =>
    rw [join_cons, join_cons y r]
    simp [joinTail]
/-- the pieces of a text between bytes c -/
def splitS (c : UInt8) (s : ByteArray) : List ByteArray := splitB ⟨#[c]⟩ 0 (countB s ⟨#[c]⟩) s
theorem split_law (c : UInt8) : ∀ (n : Nat) (s : ByteArray), s.size ≤ n → splitS c s ≠ [] ∧ join ((splitS c s).map (·.data.toList)) [c] = s.data.toList ∧ ∀ p ∈ splitS c s, c ∉ p.data.toList
  | n, s, hs => by
    have hix : indexB s ⟨#[c]⟩ = indexByte s.data.toList c := index_one s.data.toList c
    by_cases hm : indexByte s.data.toList c = -1
    · have h1 : splitS c s = [s] := by
        unfold splitS
        exact splitB_miss _ _ _ _ (hix.trans hm)
      rw [h1]
      refine ⟨by simp, by simp only [List.map_cons, List.map_nil, join_one], ?_⟩
      intro p hp
      rw [List.mem_singleton.1 hp]
      intro h
      have := (index_mem s.data.toList c).1.2 h
      omega
    · have hge := indexByte_ge s.data.toList c
      obtain ⟨i, hi⟩ : ∃ i : Nat, indexByte s.data.toList c = (i : Int) := ⟨(indexByte s.data.toList c).toNat, by omega⟩
      have hlt : i < s.size := by
        have := ((index_mem s.data.toList c).2.1 (by omega)).1
        rw [hi, Int.toNat_natCast] at this
        exact this
      obtain ⟨h1, h2⟩ := indexByte_at _ c i hi
      have hex : (s.extract (i + 1) s.size).data.toList = s.data.toList.drop (i + 1) := by
        rw [ByteArray.data_extract, Array.toList_extract, List.extract_eq_take_drop, List.take_of_length_le (by rw [List.length_drop]; exact Nat.le_refl _)]
      have hsz : (s.extract (i + 1) s.size).size < s.size := by rw [ByteArray.size_extract]; omega
      have h3 : splitS c s = s.extract 0 i :: splitS c (s.extract (i + 1) s.size) := by
        unfold splitS
        rw [countB_hit s ⟨#[c]⟩ i (Nat.le_refl 1) (hix.trans hi), Nat.add_comm]
        exact splitB_hit _ _ _ _ i (hix.trans hi)
      match n, hs with
      | 0, hs => omega
      | n + 1, hs =>
        obtain ⟨q1, q2, q3⟩ := split_law c n (s.extract (i + 1) s.size) (by omega)
        rw [h3]
        refine ⟨by simp, ?_, ?_⟩
        · rw [List.map_cons, join_more _ _ _ (by simpa using q1), q2, hex, extract_from_zero]
          exact h1.symm
        · intro p hp
          rcases List.mem_cons.1 hp with rfl | hp
          · rw [extract_from_zero]; exact h2
          · exact q3 p hp
end Go.Proofs.YtplemibckjnbhaaGreatDoor
