/- Plain laws of contours and of tied marks: heights over some contours fit the claim about them; heights fit exactly if nothing is broken; a mark is tied to itself, and tied marks have the same ties. Nothing here speaks of the program. -/
import Derived.Test.YtijjecckfcbaoaaL8C
import Derived.Test.YtijjecckfcbaoaaL8U
import Derived.Test.YtijjecckfcbaoaaL8F
import Derived.Test.YtijjecckfcbaoaaL8X
import Derived.Test.YtijjecckfcbaoaaWContoursBetween
namespace Go.Proofs.Ytijjecckfcbaoaa
open Go.RowKit
set_option linter.unusedVariables false
theorem fit_two (n : Int) (xs : List SClaim) (hs : List Int) : (fitV n xs hs).2 = (areB n xs && hgtB n hs) := by unfold fitV; split <;> simp_all
theorem brk_two (n : Int) (xs : List SClaim) (hs : List Int) : (brkV n xs hs).2 = (areB n xs && hgtB n hs) := by unfold brkV; split <;> simp_all
theorem fit_law {n : Int} {xs : List SClaim} {hs : List Int} (h : (areB n xs && hgtB n hs) = true) : 1 ≤ hs.length ∧ (fitV n xs hs).1 = (decide (hs.getD 0 0 = 0) && decide ((brkV n xs hs).1.length = 0)) := by
  unfold fitV brkV
  rw [if_pos h, if_pos h]
  refine ⟨?_, rfl⟩
  rw [Bool.and_eq_true] at h
  have h1 := (areB_iff.1 h.1).2.1
  have h2 := h.2
  unfold hgtB at h2
  rw [Bool.and_eq_true, decide_eq_true_eq] at h2
  omega
theorem cbt_comm (a b s : Int) : cbt b a s = cbt a b s := by
  unfold cbt
  rw [Int.max_comm b a, Int.min_comm b a, Bool.and_comm (inB b (-200000) 200000)]
theorem cbt_pos (a b s : Int) : 0 ≤ (cbt a b s).1 := by
  unfold cbt
  split
  · rename_i h
    rw [Bool.and_eq_true, Bool.and_eq_true, inB_iff, inB_iff, inB_iff] at h
    have := Int.ediv_le_ediv (show 0 < s by omega) (show min a b ≤ max a b by omega)
    simp only; omega
  · simp
theorem cbt_in {a b s : Int} (h : (cbt a b s).2 = true) : (-200000 ≤ a ∧ a ≤ 200000) ∧ (-200000 ≤ b ∧ b ≤ 200000) ∧ (1 ≤ s ∧ s ≤ 1000) ∧ (cbt a b s).1 = max a b / s - min a b / s := by
  unfold cbt at h ⊢
  split at h
  · rename_i hc
    rw [if_pos hc]
    rw [Bool.and_eq_true, Bool.and_eq_true, inB_iff, inB_iff, inB_iff] at hc
    exact ⟨hc.1.1, hc.1.2, hc.2, rfl⟩
  · simp at h
/-- the claim that some contours make holds of heights over as many -/
theorem contours_fit {a b s p q r t : Int} (h : (cbt a b s).2 = true) (hab : a ≤ b) (hc : coc 0 1 (cbt a b s).1 s = some (p, q, r, t)) (hle : b - a ≤ 200000) : fitV 2 [(⟨p, q, r, t⟩ : SClaim)] [0, b - a] = (true, true) := by
  obtain ⟨ha, hb, hs, hn⟩ := cbt_in h
  rw [Int.max_eq_right hab, Int.min_eq_left hab] at hn
  generalize (cbt a b s).1 = n at *
  unfold coc at hc
  split at hc
  · rename_i hcond
    rw [Bool.and_eq_true, Bool.and_eq_true, inB_iff, inB_iff, oneB_iff] at hcond
    obtain ⟨⟨hn9, _⟩, hone⟩ := hcond
    injection hc with hc
    injection hc with h1 hc
    injection hc with h2 hc
    injection hc with h3 h4
    subst h1 h2 h3 h4
    have hone2 : oneB 2 0 1 (max 0 ((n - 1) * s + 1)) ((n + 1) * s - 1) = true := by rw [oneB_iff]; omega
    have hare : areB 2 [(⟨0, 1, max 0 ((n - 1) * s + 1), (n + 1) * s - 1⟩ : SClaim)] = true := by
      unfold areB
      rw [List.all_cons, List.all_nil]
      show (oneB 2 0 1 _ _ && true && inB 2 1 10 && decide _) = true
      rw [hone2]; simp [inB]
    have hhgt : hgtB 2 [0, b - a] = true := by
      unfold hgtB
      rw [List.all_cons, List.all_cons, List.all_nil, Bool.and_eq_true, Bool.and_eq_true, Bool.and_eq_true, decide_eq_true_eq, inB_iff, inB_iff]
      refine ⟨by simp, by omega, by omega, rfl⟩
    have e1 := Int.mul_ediv_add_emod b s
    have e2 := Int.mul_ediv_add_emod a s
    have e3 := Int.emod_nonneg b (show s ≠ 0 by omega)
    have e4 := Int.emod_lt_of_pos b (show 0 < s by omega)
    have e5 := Int.emod_nonneg a (show s ≠ 0 by omega)
    have e6 := Int.emod_lt_of_pos a (show 0 < s by omega)
    have e7 : s * (b / s) - s * (a / s) = s * n := by rw [← Int.mul_sub, hn]
    have e8 : (n - 1) * s = s * n - s := by rw [Int.sub_mul, Int.mul_comm n s]; omega
    have e9 : (n + 1) * s = s * n + s := by rw [Int.add_mul, Int.mul_comm n s]; omega
    have hbrk : brk [(⟨0, 1, max 0 ((n - 1) * s + 1), (n + 1) * s - 1⟩ : SClaim)] [0, b - a] = [] := by
      unfold brk
      refine idxs_none fun i hi => ?_
      have hi0 : i = 0 := by simpa using hi
      subst hi0
      unfold brkAt holdB
      have : inB (b - a - 0) (max 0 ((n - 1) * s + 1)) ((n + 1) * s - 1) = true := by rw [inB_iff]; omega
      simpa using this
    unfold fitV
    rw [hare, hhgt, hbrk]
    rfl
  · simp at hc
/-! ### tied marks -/
theorem steps_back {xs : List SClaim} : ∀ e ∈ stepsOf xs, ∃ e' ∈ stepsOf xs, e'.1 = e.2.1 ∧ e'.2.1 = e.1 := fun e he => by
  unfold stepsOf at he
  rw [List.mem_flatMap] at he
  obtain ⟨c, hc, he⟩ := he
  obtain ⟨s1, s2⟩ := steps_mem hc
  unfold stepsC at he
  rcases List.mem_cons.1 he with rfl | he
  · exact ⟨_, s2, rfl, rfl⟩
  · rw [List.mem_singleton.1 he]
    exact ⟨_, s1, rfl, rfl⟩
theorem tied_self {n k : Nat} {xs : List SClaim} : tieN xs n (oneT k) k = true := tieN_mono (by unfold oneT; simp) n
theorem tied_eq {n j k : Nat} {xs : List SClaim} (h : areB n xs = true) (hk : k < n) (hj : j < n) (ht : tieN xs n (oneT k) j = true) : tieN xs n (oneT j) = tieN xs n (oneT k) := by
  funext v
  have hin := in_range h
  have h1 := (tie_reach hin hk j).1 ht
  rw [Bool.eq_iff_iff, tie_reach hin hj, tie_reach hin hk]
  exact ⟨fun hr => h1.trans hr, fun hr => (Reach.symm steps_back h1).trans hr⟩
theorem tied_law {n k : Int} {xs : List SClaim} : ((tiedV n xs k).2 = true → (tiedV n xs k).1.contains k = true) ∧ ∀ x ∈ (tiedV n xs k).1, tiedV n xs x = tiedV n xs k := by
  unfold tiedV
  split
  · rename_i h
    rw [Bool.and_eq_true, inB_iff] at h
    obtain ⟨ha, hk⟩ := h
    obtain ⟨m, rfl⟩ : ∃ m : Nat, n = (m : Int) := ⟨n.toNat, by omega⟩
    rw [Int.toNat_natCast]
    refine ⟨fun _ => ?_, fun x hx => ?_⟩
    · rw [List.contains_iff_mem]
      exact mem_tl.2 ⟨by omega, by omega, tied_self⟩
    · obtain ⟨x0, x1, x2⟩ := mem_tl.1 hx
      rw [ha, inB_iff.2 ⟨x0, by omega⟩, if_pos (by rfl), tied_eq ha (by omega) (by omega) x2]
  · simp
end Go.Proofs.Ytijjecckfcbaoaa
