/- The plain law of the library's stable sort: it puts one element after the other, from the back, behind the first that it is not below. No program. -/
import Derived.Sort.WalkA
import Derived.Sort.Lot0
namespace Go.Proofs.Ytdbcilinoieabaa
open Go.Sort
section
variable {α : Type} (lt : α → α → Bool)
/-- x put into a list that is told from its end, ahead of all that it is below -/
def insR : List α → α → List α
  | [], x => [x]
  | y :: r, x => if lt x y = true then y :: insR r x else x :: y :: r
def insD (ys : List α) (x : α) : List α := (insR lt ys.reverse x).reverse
/-- all put in, one after the other -/
def stD (xs : List α) : List α := xs.foldl (insD lt) []
theorem insD_nil (x : α) : insD lt [] x = [x] := rfl
theorem insD_lt {ys : List α} {x y : α} (h : lt x y = true) : insD lt (ys ++ [y]) x = insD lt ys x ++ [y] := by simp [insD, insR, h]
theorem insD_ge {ys : List α} {x y : α} (h : lt x y = false) : insD lt (ys ++ [y]) x = ys ++ [y, x] := by simp [insD, insR, h]
theorem insR_perm (ys : List α) (x : α) : (insR lt ys x).Perm (x :: ys) := by
  induction ys with
  | nil => exact List.Perm.refl _
  | cons y r ih =>
    unfold insR
    split
    · exact (List.Perm.cons y ih).trans (List.Perm.swap x y r)
    · exact List.Perm.refl _
theorem insD_perm (ys : List α) (x : α) : (insD lt ys x).Perm (x :: ys) :=
  (List.reverse_perm _).trans ((insR_perm lt _ x).trans (List.Perm.cons x (List.reverse_perm ys)))
theorem insD_len (ys : List α) (x : α) : (insD lt ys x).length = ys.length + 1 := by simpa using (insD_perm lt ys x).length_eq
theorem stD_snoc (xs : List α) (x : α) : stD lt (xs ++ [x]) = insD lt (stD lt xs) x := by simp [stD]
theorem stD_succ {xs : List α} {n : Nat} (h : n < xs.length) : stD lt (xs.take (n + 1)) = insD lt (stD lt (xs.take n)) xs[n] := by
  rw [← stD_snoc]; congr 1; rw [List.take_succ_eq_append_getElem h]
theorem foldl_perm (xs ys : List α) : (xs.foldl (insD lt) ys).Perm (ys ++ xs) := by
  induction xs generalizing ys with
  | nil => simp
  | cons x xs ih =>
    refine (ih _).trans ?_
    refine ((insD_perm lt ys x).append_right xs).trans ?_
    exact (List.perm_middle (a := x) (l₁ := ys) (l₂ := xs)).symm
theorem stD_perm (xs : List α) : (stD lt xs).Perm xs := by simpa [stD] using foldl_perm lt xs []
theorem stD_len (xs : List α) : (stD lt xs).length = xs.length := (stD_perm lt xs).length_eq
/-- how the search from the end goes on: at place k -/
def InsAt (ys : List α) (x : α) (k : Nat) : Prop := insD lt ys x = insD lt (ys.take k) x ++ ys.drop k
theorem insAt_start (ys : List α) (x : α) : InsAt lt ys x ys.length := by simp [InsAt]
theorem insAt_step {ys : List α} {x : α} {k : Nat} (h : InsAt lt ys x (k + 1)) (hk : k < ys.length) (hl : lt x ys[k] = true) : InsAt lt ys x k := by
  unfold InsAt at *
  rw [h, List.take_succ_eq_append_getElem hk, insD_lt lt hl, List.append_assoc]
  congr 1
  rw [List.drop_eq_getElem_cons hk]; rfl
theorem insAt_zero {ys : List α} {x : α} (h : InsAt lt ys x 0) : insD lt ys x = x :: ys := by
  unfold InsAt at h; rw [h]; simp [insD_nil]
theorem insAt_stop {ys : List α} {x : α} {k : Nat} (h : InsAt lt ys x (k + 1)) (hk : k < ys.length) (hl : lt x ys[k] = false) : insD lt ys x = ys.take (k + 1) ++ x :: ys.drop (k + 1) := by
  unfold InsAt at h
  rw [h, List.take_succ_eq_append_getElem hk, insD_ge lt hl]; simp only [List.append_assoc, List.cons_append, List.nil_append]
/-- sorted: none behind is below one ahead -/
def SortD (ys : List α) : Prop := ys.Pairwise fun a b => lt b a = false
theorem insR_sorted (hir : ∀ x y z, lt x y = false → lt y z = false → lt x z = false) (has : ∀ x y, lt x y = true → lt y x = false) (r : List α) (x : α) (h : r.Pairwise fun a b => lt a b = false) : (insR lt r x).Pairwise fun a b => lt a b = false := by
  induction r with
  | nil => simp [insR]
  | cons y r ih =>
    unfold insR
    split
    · next hl =>
      have h1 := List.pairwise_cons.1 h
      refine List.pairwise_cons.2 ⟨fun a ha => ?_, ih h1.2⟩
      rcases List.mem_cons.1 ((insR_perm lt r x).mem_iff.1 ha) with rfl | ha
      · exact has _ _ hl
      · exact h1.1 a ha
    · next hl =>
      have hl' : lt x y = false := by simpa using hl
      have h1 := List.pairwise_cons.1 h
      refine List.pairwise_cons.2 ⟨fun a ha => ?_, h⟩
      rcases List.mem_cons.1 ha with rfl | ha
      · exact hl'
      · exact hir _ _ _ hl' (h1.1 a ha)
end
section
variable {α : Type} [Inhabited α] (lt : α → α → Bool)
theorem get_mid (ys zs : List α) (x : α) (d : Array α) (h : d.toList = ys ++ x :: zs) : d[ys.length]! = x := by
  have hs : d.size = ys.length + (zs.length + 1) := by rw [← Array.length_toList, h]; simp
  have hl : ys.length < d.size := by omega
  rw [getElem!_pos d ys.length hl, ← Array.getElem_toList, List.getElem_of_eq h]
  simp
theorem insInner_list (j : Nat) (d : Array α) (ys zs : List α) (x : α) (h : d.toList = ys ++ x :: zs) (hj : ys.length = j) : (insInner lt 0 j d).toList = insD lt ys x ++ zs := by
  induction j generalizing d ys zs x with
  | zero =>
    have : ys = [] := List.eq_nil_of_length_eq_zero hj
    subst this
    simp [insInner, h, insD_nil]
  | succ j ih =>
    obtain ⟨ys', y, rfl⟩ : ∃ ys' y, ys = ys' ++ [y] := ⟨ys.dropLast, ys.getLast (by intro e; simp [e] at hj), (List.dropLast_concat_getLast _).symm⟩
    have hj' : ys'.length = j := by simpa using hj
    have g1 : d[j + 1]! = x := by have := get_mid (ys' ++ [y]) zs x d h; rwa [hj] at this
    have g0 : d[j]! = y := by have := get_mid ys' (x :: zs) y d (by rw [h]; simp); rwa [hj'] at this
    unfold insInner
    rw [g1, g0]
    cases hl : lt x y with
    | true =>
      simp only [Nat.zero_lt_succ, gt_iff_lt, decide_true, Bool.and_self, if_true]
      rw [insD_lt lt hl, List.append_assoc]
      refine ih _ ys' ([y] ++ zs) x ?_ hj'
      unfold swp
      rw [g1, g0]
      simp only [Array.toList_setIfInBounds, h]
      have e1 : (ys' ++ [y] ++ x :: zs).set (j + 1) y = ys' ++ [y] ++ y :: zs := by
        rw [List.set_append, if_neg (by simp; omega)]; simp [hj']
      rw [e1, List.append_assoc, List.set_append, if_neg (by omega)]
      simp [hj']
    | false =>
      simp only [Bool.and_false, Bool.false_eq_true, if_false]
      rw [insD_ge lt hl, h]; simp
theorem insOuter_list (xs : List α) (n : Nat) : ∀ (i : Nat) (d : Array α), xs.length - i = n → i ≤ xs.length → d.toList = stD lt (xs.take i) ++ xs.drop i → (insOuter lt 0 xs.length i d).toList = stD lt xs := by
  induction n with
  | zero =>
    intro i d hn hi hd
    obtain rfl : i = xs.length := by omega
    rw [insOuter_stop lt _ _ _ _ (by omega), hd]; simp
  | succ n ih =>
    intro i d hn hi hd
    have hlt : i < xs.length := by omega
    rw [insOuter_go lt _ _ _ _ hlt]
    refine ih (i + 1) _ (by omega) (by omega) ?_
    rw [stD_succ lt hlt]
    refine insInner_list lt i d _ _ xs[i] (by rw [hd, List.drop_eq_getElem_cons hlt]) (by rw [stD_len]; simp; omega)
/-- the library's insertion sort of a whole list -/
theorem insertionSort_list (xs : List α) : (insertionSort lt xs.toArray 0 xs.length).toList = stD lt xs := by
  unfold insertionSort
  cases xs with
  | nil => rw [insOuter_stop lt _ _ _ _ (by simp)]; rfl
  | cons x xs =>
    exact insOuter_list lt (x :: xs) _ 1 _ rfl (by simp) (by simp [stD, insD_nil])
theorem insertionSort_none (d : Array α) (a b : Nat) (h : b ≤ a + 1) : insertionSort lt d a b = d := by
  unfold insertionSort; exact insOuter_stop lt _ _ _ _ (by omega)
theorem insertionSort_size (xs : List α) : (insertionSort lt xs.toArray 0 xs.length).size = xs.length := by
  rw [← Array.length_toList, insertionSort_list, stD_len]
end
end Go.Proofs.Ytdbcilinoieabaa
