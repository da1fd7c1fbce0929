/- The plain law of FnSplitJoin: the pieces of a text between bytes, joined at that byte, give it back. Nothing here speaks of the program. (Printed by mkfnsplit.py.) -/
import Derived.Test.YtplemibckjnbhaaDoorDrK
import Derived.Test.YtplemibckjnbhaaDoorLsG
namespace Go.Proofs.YtplemibckjnbhaaDoor
open Go.RowKit Go.Lib
set_option linter.unusedVariables false
theorem split_back (c : UInt8) (s : ByteArray) (hs : s.size ≤ 20) : joinV (splitS c s) ⟨#[c]⟩ = (s, true) ∧ ∀ x ∈ splitS c s, x.size ≤ 5000 := by
  obtain ⟨h1, h2, h3⟩ := split_law c s.size s (Nat.le_refl _)
  have he := joinTo_eq (splitS c s) ⟨#[c]⟩ _ (Nat.le_refl _)
  rw [List.take_length] at he
  have hj : joinTo (splitS c s) ⟨#[c]⟩ (splitS c s).length = s := bytes_eq (he.trans h2)
  constructor
  · unfold joinV
    rw [if_pos, hj]
    unfold mayJoin
    have h5 : (splitS c s).any (fun x => hasB ((⟨#[c]⟩ : ByteArray).data.toList.headD 0) x) = false := by
      rw [List.any_eq_false]
      intro x hx
      show ¬ hasB c x = true
      unfold hasB
      rw [decide_eq_true_iff]
      exact h3 x hx
    have h6 : (splitS c s).isEmpty = false := by
      cases hq : splitS c s with
      | nil => exact absurd hq h1
      | cons => rfl
    rw [h5, h6, hj, decide_eq_true (show s.size ≤ 4000 by omega)]; rfl
  · intro x hx
    obtain ⟨k, hk, rfl⟩ := List.getElem_of_mem hx
    have h7 := joinTo_le (splitS c s) ⟨#[c]⟩ (j := k + 1) (splitS c s).length (by omega)
    rw [hj, joinTo, ByteArray.size_append] at h7
    have hg : (splitS c s).getD k ⟨#[]⟩ = (splitS c s)[k] := by simp [List.getD_eq_getElem?_getD, hk]
    rw [hg] at h7
    omega
end Go.Proofs.YtplemibckjnbhaaDoor
