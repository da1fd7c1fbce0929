/- Plain laws of OweMost: each told reader is one of the list, and their fines fall. No program. -/
import Derived.Test.YtplemibckjnbhaaGreatDoorL3O
import Derived.Test.YtplemibckjnbhaaGreatDoorL3T
namespace Go.Proofs.YtplemibckjnbhaaGreatDoor
open Go.RowKit Go.Sort
set_option linter.unusedVariables false
theorem foldl_sorted {α : Type} (lt : α → α → Bool) (hir : ∀ x y z, lt x y = false → lt y z = false → lt x z = false) (has : ∀ x y, lt x y = true → lt y x = false) : ∀ (xs ys : List α), (ys.reverse.Pairwise fun a b => lt a b = false) → ((xs.foldl (insD lt) ys).reverse.Pairwise fun a b => lt a b = false)
  | [], ys, h => h
  | x :: xs, ys, h => foldl_sorted lt hir has xs _ (by unfold insD; rw [List.reverse_reverse]; exact insR_sorted lt hir has _ x h)
theorem oweS_sorted (xs : List SReader) {i j : Nat} (hij : i < j) (hj : j < (oweS xs).length) : (oweS xs)[j].fines ≤ (oweS xs)[i].fines := by
  have h := foldl_sorted (ltOf Go.Proofs.YtplemibckjnbhaaGreatDoor.cfR) (fun x y z h1 h2 => by rw [ltOf_cfR] at *; simp only [decide_eq_false_iff_not] at *; omega) (fun x y h => by rw [ltOf_cfR] at *; simp only [decide_eq_true_eq, decide_eq_false_iff_not] at *; omega) xs [] (by simp)
  rw [List.pairwise_reverse, List.pairwise_iff_getElem] at h
  have := h i j (by have : (oweS xs).length = (xs.foldl (insD (ltOf Go.Proofs.YtplemibckjnbhaaGreatDoor.cfR)) []).length := rfl; omega) hj hij
  rw [ltOf_cfR] at this
  have h2 := of_decide_eq_false this
  show ((xs.foldl (insD (ltOf Go.Proofs.YtplemibckjnbhaaGreatDoor.cfR)) [])[j]).fines ≤ ((xs.foldl (insD (ltOf Go.Proofs.YtplemibckjnbhaaGreatDoor.cfR)) [])[i]'(by have : (oweS xs).length = (xs.foldl (insD (ltOf Go.Proofs.YtplemibckjnbhaaGreatDoor.cfR)) []).length := rfl; omega)).fines
  omega
theorem oweS_perm (xs : List SReader) : (oweS xs).Perm xs := stD_perm _ xs
theorem owe_law {xs : List SReader} {n : Int} (h : (oweV xs n).2 = true) : ∃ fo : Nat → Int, (∀ (k : Nat) (hk : k < xs.length) (i : Nat) (hi : i < (oweV xs n).1.length), xs[k].ident = (oweV xs n).1[i] → xs[k].fines = fo i) ∧ (∀ i, i < (oweV xs n).1.length → fo i ≤ 10001) ∧ (∀ i, i + 1 < (oweV xs n).1.length → fo (i + 1) ≤ fo i) := by
  by_cases hg : goodR xs = true ∧ inB n 0 10 = true
  · have hv : oweV xs n = (oweTo (oweS xs) n.toNat, true) := if_pos hg
    rw [hv]
    have hlen : (oweTo (oweS xs) n.toNat).length ≤ (oweS xs).length := oweTo_le _ _
    have hget : ∀ i (hi : i < (oweTo (oweS xs) n.toNat).length), (oweTo (oweS xs) n.toNat)[i] = ((oweS xs)[i]'(by omega)).ident := fun i hi => by simp [oweTo]
    refine ⟨fun i => (SReader.at (oweS xs) i).fines, ?_, ?_, ?_⟩
    · intro k hk i hi he
      simp only at hi he
      rw [hget i hi] at he
      obtain ⟨j, hj, hje⟩ := List.getElem_of_mem ((oweS_perm xs).mem_iff.1 (List.getElem_mem (show i < (oweS xs).length by omega)))
      rw [← hje] at he
      have := goodR_one hg.1 hk hj (by rw [SReader.at_lt hk, SReader.at_lt hj]; exact he)
      subst this
      show xs[k].fines = (SReader.at (oweS xs) i).fines
      rw [SReader.at_lt (show i < (oweS xs).length by omega), ← hje]
    · intro i hi
      simp only at hi ⊢
      obtain ⟨j, hj, hje⟩ := List.getElem_of_mem ((oweS_perm xs).mem_iff.1 (List.getElem_mem (show i < (oweS xs).length by omega)))
      rw [SReader.at_lt (show i < (oweS xs).length by omega), ← hje]
      have hok := (goodR_ok hg.1 hj).1
      rw [SReader.at_lt hj] at hok
      have := SReader.okB_iff.1 (show SReader.okB ⟨xs[j].ident, xs[j].name, xs[j].joined, xs[j].cls, xs[j].fines⟩ = true from hok)
      omega
    · intro i hi
      simp only at hi ⊢
      rw [SReader.at_lt (show i < (oweS xs).length by omega), SReader.at_lt (show i + 1 < (oweS xs).length by omega)]
      exact oweS_sorted xs (Nat.lt_succ_self i) (by omega)
  · rw [show oweV xs n = ([], false) from if_neg hg] at h
    cases h
theorem oweV_no {xs : List SReader} {n : Int} (h : (oweV xs n).2 = false) : (oweV xs n).1 = [] := by
  by_cases hg : goodR xs = true ∧ inB n 0 10 = true
  · rw [show oweV xs n = (oweTo (oweS xs) n.toNat, true) from if_pos hg] at h; cases h
  · rw [show oweV xs n = ([], false) from if_neg hg]
theorem oweV_len (xs : List SReader) (n : Int) (hl : xs.length ≤ 12) : (oweV xs n).1.length ≤ 12 := by
  unfold oweV
  split
  · have := oweTo_le (oweS xs) n.toNat
    have h2 : (oweS xs).length = xs.length := stD_len _ _
    simp only; omega
  · simp
theorem okB_wf {z : SReader} (h : z.okB = true) : z.wf := by
  obtain ⟨h0, h1, h2, h3, h4, h5, h6, h7, h8⟩ := SReader.okB_iff.1 (show SReader.okB ⟨z.ident, z.name, z.joined, z.cls, z.fines⟩ = true from h)
  have hs := wordB_size h2
  exact ⟨ident_fit (by omega), by simp only [maxLen]; omega, ident_fit (by omega), ident_fit (by omega), ident_fit (by omega)⟩
theorem goodR_wf {xs : List SReader} (h : goodR xs = true) : ∀ z ∈ xs, z.wf := fun z hz => by
  obtain ⟨i, hi, rfl⟩ := List.getElem_of_mem hz
  have := (goodR_ok h hi).1
  rw [SReader.at_lt hi] at this
  exact okB_wf this
theorem owe_law2 (xs : List SReader) (n : Int) : ∃ fo : Nat → Int, (∀ (k : Nat) (hk : k < xs.length) (i : Nat) (hi : i < (oweV xs n).1.length), xs[k].ident = (oweV xs n).1[i] → xs[k].fines = fo i) ∧ (∀ i, i < (oweV xs n).1.length → fo i ≤ 10001) ∧ (∀ i, i + 1 < (oweV xs n).1.length → fo (i + 1) ≤ fo i) := by
  cases h : (oweV xs n).2 with
  | true => exact owe_law h
  | false =>
    have hn := oweV_no h
    exact ⟨fun _ => 0, fun k hk i hi => absurd hi (by rw [hn]; simp), fun i hi => absurd hi (by rw [hn]; simp), fun i hi => absurd hi (by rw [hn]; simp)⟩
end Go.Proofs.YtplemibckjnbhaaGreatDoor
