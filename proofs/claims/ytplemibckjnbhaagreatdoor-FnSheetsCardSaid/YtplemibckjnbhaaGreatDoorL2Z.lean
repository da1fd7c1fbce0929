/- The bounds of all sheets of a scale, and the Lean function missV of MissingSheets. Nothing here speaks of the program. No condition. -/
import Derived.Test.YtplemibckjnbhaaGreatDoorL2Y
namespace Go.Proofs.YtplemibckjnbhaaGreatDoor
set_option linter.unusedVariables false
def bst (b : Int × Int × Int × Int) (s : SSheet) : Int × Int × Int × Int := (min b.1 s.row, max b.2.1 s.row, min b.2.2.1 s.col, max b.2.2.2 s.col)
def bnd (l : List SSheet) : Int × Int × Int × Int := l.foldl bst (99, 0, 99, 0)
theorem bnd_snoc (l : List SSheet) (s : SSheet) : bnd (l ++ [s]) = bst (bnd l) s := by unfold bnd; rw [List.foldl_append]; rfl
theorem ofSc_succ {xs : List SSheet} {sc : Int} {k : Nat} (h : k < xs.length) : ofSc (xs.take (k + 1)) sc = ofSc (xs.take k) sc ++ if xs[k].scale = sc then [xs[k]] else [] := by
  unfold ofSc
  rw [take_snoc' h, List.filter_append]
  congr 1
  by_cases hs : xs[k].scale = sc <;> simp [hs]
theorem bnd_of (l : List SSheet) (h : ∀ s ∈ l, (0 ≤ s.row ∧ s.row ≤ 99) ∧ (0 ≤ s.col ∧ s.col ≤ 99)) :
    (∀ s ∈ l, ((bnd l).1 ≤ s.row ∧ s.row ≤ (bnd l).2.1) ∧ ((bnd l).2.2.1 ≤ s.col ∧ s.col ≤ (bnd l).2.2.2)) ∧ ((0 ≤ (bnd l).1 ∧ (bnd l).1 ≤ 99) ∧ (0 ≤ (bnd l).2.1 ∧ (bnd l).2.1 ≤ 99)) ∧ ((0 ≤ (bnd l).2.2.1 ∧ (bnd l).2.2.1 ≤ 99) ∧ (0 ≤ (bnd l).2.2.2 ∧ (bnd l).2.2.2 ≤ 99)) ∧
    (l ≠ [] → ((∃ s ∈ l, s.row = (bnd l).1) ∧ ∃ s ∈ l, s.row = (bnd l).2.1) ∧ (∃ s ∈ l, s.col = (bnd l).2.2.1) ∧ ∃ s ∈ l, s.col = (bnd l).2.2.2) := by
  have key : ∀ n, n ≤ l.length → (∀ s ∈ l.take n, ((bnd (l.take n)).1 ≤ s.row ∧ s.row ≤ (bnd (l.take n)).2.1) ∧ ((bnd (l.take n)).2.2.1 ≤ s.col ∧ s.col ≤ (bnd (l.take n)).2.2.2)) ∧ ((0 ≤ (bnd (l.take n)).1 ∧ (bnd (l.take n)).1 ≤ 99) ∧ (0 ≤ (bnd (l.take n)).2.1 ∧ (bnd (l.take n)).2.1 ≤ 99)) ∧ ((0 ≤ (bnd (l.take n)).2.2.1 ∧ (bnd (l.take n)).2.2.1 ≤ 99) ∧ (0 ≤ (bnd (l.take n)).2.2.2 ∧ (bnd (l.take n)).2.2.2 ≤ 99)) ∧
      (0 < n → ((∃ s ∈ l.take n, s.row = (bnd (l.take n)).1) ∧ ∃ s ∈ l.take n, s.row = (bnd (l.take n)).2.1) ∧ (∃ s ∈ l.take n, s.col = (bnd (l.take n)).2.2.1) ∧ ∃ s ∈ l.take n, s.col = (bnd (l.take n)).2.2.2) := by
    intro n
    induction n with
    | zero => intro _; refine ⟨fun s hs => by simp at hs, ?_, ?_, fun h => absurd h (by omega)⟩ <;> simp [bnd]
    | succ n ih =>
      intro hn
      have hlt : n < l.length := by omega
      obtain ⟨i1, i2, i3, i4⟩ := ih (by omega)
      have hx := h _ (List.getElem_mem hlt)
      rw [take_snoc' hlt, bnd_snoc]
      generalize hb : bnd (l.take n) = b at *
      generalize l[n] = y at *
      unfold bst
      simp only
      refine ⟨?_, ⟨⟨by omega, by omega⟩, by omega, by omega⟩, ⟨⟨by omega, by omega⟩, by omega, by omega⟩, fun _ => ?_⟩
      · intro s hs
        rcases List.mem_append.1 hs with hs | hs
        · have := i1 s hs; refine ⟨⟨by omega, by omega⟩, by omega, by omega⟩
        · rw [List.mem_singleton.1 hs]; refine ⟨⟨by omega, by omega⟩, by omega, by omega⟩
      · have hy : y ∈ l.take n ++ [y] := by simp
        have up : ∀ {s}, s ∈ l.take n → s ∈ l.take n ++ [y] := fun hs => List.mem_append_left _ hs
        by_cases h0 : n = 0
        · subst h0
          have hb0 : b = (99, 0, 99, 0) := by rw [← hb]; rfl
          subst hb0
          simp only
          exact ⟨⟨⟨y, hy, by omega⟩, y, hy, by omega⟩, ⟨y, hy, by omega⟩, y, hy, by omega⟩
        · obtain ⟨⟨⟨s1, m1, e1⟩, s2, m2, e2⟩, ⟨s3, m3, e3⟩, s4, m4, e4⟩ := i4 (by omega)
          refine ⟨⟨?_, ?_⟩, ?_, ?_⟩
          · by_cases hc : b.1 ≤ y.row
            · exact ⟨s1, up m1, by omega⟩
            · exact ⟨y, hy, by omega⟩
          · by_cases hc : y.row ≤ b.2.1
            · exact ⟨s2, up m2, by omega⟩
            · exact ⟨y, hy, by omega⟩
          · by_cases hc : b.2.2.1 ≤ y.col
            · exact ⟨s3, up m3, by omega⟩
            · exact ⟨y, hy, by omega⟩
          · by_cases hc : y.col ≤ b.2.2.2
            · exact ⟨s4, up m4, by omega⟩
            · exact ⟨y, hy, by omega⟩
  have hk := key l.length (Nat.le_refl _)
  rw [List.take_length] at hk
  refine ⟨hk.1, hk.2.1, hk.2.2.1, fun hne => hk.2.2.2 (List.length_pos_iff.2 hne)⟩
theorem ofSc_bd {xs : List SSheet} (hg : goodS xs = true) (sc : Int) : ∀ s ∈ ofSc xs sc, (0 ≤ s.row ∧ s.row ≤ 99) ∧ (0 ≤ s.col ∧ s.col ≤ 99) := by
  intro s hs
  unfold ofSc at hs
  rw [List.mem_filter] at hs
  obtain ⟨i, hi, he⟩ := List.getElem_of_mem hs.1
  have h1 := (goodS_ok hg hi).1
  rw [SSheet.at_lt hi] at h1
  have h2 : s.okB = true := by rw [← he]; exact h1
  have h3 := SSheet.okB_iff.1 h2
  omega
/-- the places within all sheets of a scale at which there is none -/
def cellsM (xs : List SSheet) (sc : Int) : List SPair := boxP (noneAt xs sc) (bnd (ofSc xs sc)).1 (bnd (ofSc xs sc)).2.2.1 ((bnd (ofSc xs sc)).2.2.2 - (bnd (ofSc xs sc)).2.2.1 + 1).toNat ((bnd (ofSc xs sc)).2.1 - (bnd (ofSc xs sc)).1 + 1).toNat
def missV (xs : List SSheet) (sc : Int) : List SPair × Bool := if goodS xs = true ∧ ofSc xs sc ≠ [] ∧ (cellsM xs sc).length ≤ 400 then (cellsM xs sc, true) else ([], false)
/-- the bounds of a list that is not empty: the least one's lies in it -/
theorem bnd_le {xs : List SSheet} (hg : goodS xs = true) {sc : Int} (hne : ofSc xs sc ≠ []) : (bnd (ofSc xs sc)).1 ≤ (bnd (ofSc xs sc)).2.1 ∧ (bnd (ofSc xs sc)).2.2.1 ≤ (bnd (ofSc xs sc)).2.2.2 := by
  obtain ⟨h1, _, _, h4⟩ := bnd_of _ (ofSc_bd hg sc)
  obtain ⟨⟨⟨s, hs, e⟩, _⟩, _, _⟩ := h4 hne
  have := h1 s hs
  omega
/-- how many free places: the area less the sheets -/
theorem cells_count {xs : List SSheet} (hg : goodS xs = true) {sc : Int} (hne : ofSc xs sc ≠ []) :
    ((bnd (ofSc xs sc)).2.1 - (bnd (ofSc xs sc)).1 + 1) * ((bnd (ofSc xs sc)).2.2.2 - (bnd (ofSc xs sc)).2.2.1 + 1) - ((ofSc xs sc).length : Int) = ((cellsM xs sc).length : Int) := by
  have hle := bnd_le hg hne
  obtain ⟨h1, _, _, _⟩ := bnd_of _ (ofSc_bd hg sc)
  have hc := free_count hg (sc := sc) (a := (bnd (ofSc xs sc)).1) (c := (bnd (ofSc xs sc)).2.2.1) (nr := ((bnd (ofSc xs sc)).2.1 - (bnd (ofSc xs sc)).1 + 1).toNat) (nc := ((bnd (ofSc xs sc)).2.2.2 - (bnd (ofSc xs sc)).2.2.1 + 1).toNat) (fun s hs => by
    have := h1 s hs
    refine ⟨⟨by omega, by omega⟩, by omega, by omega⟩)
  have hm : ((((bnd (ofSc xs sc)).2.1 - (bnd (ofSc xs sc)).1 + 1).toNat * ((bnd (ofSc xs sc)).2.2.2 - (bnd (ofSc xs sc)).2.2.1 + 1).toNat : Nat) : Int) = ((bnd (ofSc xs sc)).2.1 - (bnd (ofSc xs sc)).1 + 1) * ((bnd (ofSc xs sc)).2.2.2 - (bnd (ofSc xs sc)).2.2.1 + 1) := by
    rw [Int.natCast_mul, Int.toNat_of_nonneg (by omega), Int.toNat_of_nonneg (by omega)]
  rw [← hm, ← hc]
  unfold cellsM
  omega
end Go.Proofs.YtplemibckjnbhaaGreatDoor
