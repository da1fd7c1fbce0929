/- Joining texts at one byte: the Lean function joinV, and the contract of spec's JoinStrings. Condition: texts of at most 5000 bytes. -/
import Derived.Test.YtplemibckjnbhaaGreatDoorLsJ
namespace Go.Proofs.YtplemibckjnbhaaGreatDoor
open Go.RowKit Go.Lib
set_option linter.unusedVariables false
def encS (x : ByteArray) : Nat → Value := fun _ => .string x
theorem encS_one : ∀ (c : ByteArray) (j : Nat), (encS c j).oneCell' = true := fun _ _ => rfl
theorem Strs.cells {w : World} {B : Nat} {A : Option Addr} {xs : List ByteArray} (h : Row 1 encS w B A xs) {i : Nat} (hi : i < xs.length) {wr : World} (hb : Below B w wr) :
    ∃ b off, A = some ⟨b, off, none⟩ ∧ b < B ∧ wr.cell? ⟨b, off + i, none⟩ = some (.string xs[i]) := by
  obtain ⟨b, off, rfl, hl, hc⟩ := h.get hi
  have hcell := (hb.cell (p := ⟨b, off + i * 1 + 0, none⟩) hl).trans (hc 0 (by omega))
  exact ⟨b, off, rfl, hl, by simpa [encS] using hcell⟩
theorem join_snoc (l : List (List UInt8)) (x sep : List UInt8) : join (l ++ [x]) sep = if l = [] then x else join l sep ++ sep ++ x := by
  induction l with
  | nil => simp [join_one]
  | cons y l ih =>
    rw [if_neg (by simp), List.cons_append, join_more _ _ _ (by simp), ih]
    by_cases hl : l = []
    · subst hl; simp [join_one]
    · rw [if_neg hl, join_more y l sep hl]; simp
/-- the join of the first k texts -/
def joinTo (xs : List ByteArray) (sep : ByteArray) : Nat → ByteArray
  | 0 => ⟨#[]⟩
  | k + 1 => (if 0 < k then joinTo xs sep k ++ sep else joinTo xs sep k) ++ xs.getD k ⟨#[]⟩
theorem joinTo_eq (xs : List ByteArray) (sep : ByteArray) : ∀ k, k ≤ xs.length → (joinTo xs sep k).data.toList = join ((xs.take k).map (·.data.toList)) sep.data.toList
  | 0, _ => by simp [joinTo, join_nil]
  | k + 1, h => by
    have ih := joinTo_eq xs sep k (by omega)
    have hk : k < xs.length := by omega
    rw [take_snoc' hk, List.map_append, List.map_cons, List.map_nil, join_snoc]
    have hg : xs.getD k ⟨#[]⟩ = xs[k] := by simp [List.getD_eq_getElem?_getD, hk]
    unfold joinTo
    rw [hg]
    by_cases h0 : k = 0
    · subst h0
      simp [joinTo]
    · have hne : (List.take k xs).map (·.data.toList) ≠ [] := by
        intro e
        have h9 := congrArg List.length e
        rw [List.length_map, List.length_take, List.length_nil] at h9; omega
      rw [if_pos (by omega), if_neg hne, ← ih]
      simp [ByteArray.data_append]
theorem joinTo_mono (xs : List ByteArray) (sep : ByteArray) : ∀ k, (joinTo xs sep k).size ≤ (joinTo xs sep (k + 1)).size := fun k => by
  show _ ≤ ((if 0 < k then joinTo xs sep k ++ sep else joinTo xs sep k) ++ xs.getD k ⟨#[]⟩).size
  rw [ByteArray.size_append]
  split
  · rw [ByteArray.size_append]; omega
  · omega
theorem joinTo_le (xs : List ByteArray) (sep : ByteArray) {j : Nat} : ∀ k, j ≤ k → (joinTo xs sep j).size ≤ (joinTo xs sep k).size
  | 0, h => by obtain rfl : j = 0 := by omega
               exact Nat.le_refl _
  | k + 1, h => by
    by_cases hj : j = k + 1
    · subst hj; exact Nat.le_refl _
    · exact Nat.le_trans (joinTo_le xs sep k (by omega)) (joinTo_mono xs sep k)
/-- texts joined at one byte, and whether they may be -/
def mayJoin (xs : List ByteArray) (sep : ByteArray) : Bool := decide (sep.size = 1) && (!xs.isEmpty && (!xs.any (fun x => hasB (sep.data.toList.headD 0) x) && decide ((joinTo xs sep xs.length).size ≤ 4000)))
def joinV (xs : List ByteArray) (sep : ByteArray) : ByteArray × Bool := if mayJoin xs sep then (joinTo xs sep xs.length, true) else (⟨#[]⟩, false)
end Go.Proofs.YtplemibckjnbhaaGreatDoor
