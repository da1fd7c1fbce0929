/- The plain laws of FnHeirs: a maker who ends has the told heir next in line; founders are no one's heirs; the one who works longest is told with all years. Nothing here speaks of the program. -/
import Derived.Test.YtapbnggdclpokaaDoorL7L
import Derived.Test.YtapbnggdclpokaaDoorL7I
namespace Go.Proofs.YtapbnggdclpokaaDoor
open Go.RowKit Go.Lib
set_option linter.unusedVariables false
section
variable {xs : List SMaker}
theorem findM_map (xs : List SMaker) (id : Int) : findM xs id = idxF (fun c => c == id) (xs.map fun z => z.ident) := by
  unfold findM idxF
  rw [List.findIdx?_map]
  rfl
theorem upd_idents (xs : List SMaker) (k : Nat) (y hh : Int) (hk : k < xs.length) : (updAt xs k y hh).map (fun z => z.ident) = xs.map fun z => z.ident := by
  unfold updAt
  rw [List.map_set, SMaker.at_lt hk]
  apply List.ext_getElem?
  intro i
  rw [List.getElem?_set]
  split
  · next h =>
    subst h
    simp [hk]
  · rfl
theorem upd_at (xs : List SMaker) (k : Nat) (y hh : Int) (hk : k < xs.length) : SMaker.at (updAt xs k y hh) k = ⟨(SMaker.at xs k).ident, (SMaker.at xs k).name, (SMaker.at xs k).frm, y, hh⟩ := by
  rw [SMaker.at_lt (by rw [updAt_len]; exact hk)]
  unfold updAt
  simp
theorem lineN_head (f k : Nat) : ∃ l, lineN xs (f + 1) k = k :: l := by
  unfold lineN
  split
  · exact ⟨[], rfl⟩
  · exact ⟨_, rfl⟩
/-- what comes of ending a maker: the line of the maker in the new list -/
theorem end_law {id y hh : Int} (h : (endV xs id y hh).2 = true) (hw : ∀ z ∈ xs, z.wf) (wy : (Lit.int .i64 y).wf = true) (wh : (Lit.int .i64 hh).wf = true) :
    (∀ z ∈ (endV xs id y hh).1, z.wf) ∧ (lineV (endV xs id y hh).1 id).2 = true ∧ ((hh = 0 ∧ (lineV (endV xs id y hh).1 id).1 = [id]) ∨ (hh ≠ 0 ∧ ∃ l, (lineV (endV xs id y hh).1 id).1 = id :: hh :: l)) := by
  unfold endV at h ⊢
  by_cases hc : ¬ (listedB xs id && (inB y 1500 2100 && (decide (y ≤ (SMaker.at xs (findM xs id).toNat).untl) && goodB (updAt xs (findM xs id).toNat y hh)))) = true
  · rw [if_neg hc] at h; cases h
  replace hc := Classical.not_not.1 hc
  rw [if_pos hc]
  simp only [Bool.and_eq_true] at hc
  obtain ⟨hl, _, _, hg⟩ := hc
  unfold listedB at hl
  rw [Bool.and_eq_true] at hl
  obtain ⟨hgx, hf⟩ := hl
  rcases findM_cases xs id with hf1 | ⟨k, hk, hfk, hid⟩
  · rw [hf1] at hf; exact absurd hf (by decide)
  rw [hfk, Int.toNat_natCast] at hg ⊢
  have hko : k < (updAt xs k y hh).length := by rw [updAt_len]; exact hk
  have hfo : findM (updAt xs k y hh) id = (k : Int) := by rw [findM_map, upd_idents xs k y hh hk, ← findM_map, hfk]
  have hlo : listedB (updAt xs k y hh) id = true := listed_yes hg hfo
  have hat := upd_at xs k y hh hk
  have hheir : (SMaker.at (updAt xs k y hh) k).heir = hh := by rw [hat]
  have hido : (SMaker.at (updAt xs k y hh) k).ident = id := by rw [hat]; exact hid
  refine ⟨updAt_wf hw hk wy wh, by unfold lineV; rw [if_pos hlo], ?_⟩
  unfold lineV
  rw [if_pos hlo, hfo, Int.toNat_natCast]
  by_cases hz : hh = 0
  · left
    refine ⟨hz, ?_⟩
    have : lineL (updAt xs k y hh) k = [k] := by
      unfold lineL lineN
      rw [if_pos (by rw [hheir]; exact hz)]
    rw [this]
    simp only [mks, idsOf, List.map_cons, List.map_nil, hido]
  · right
    refine ⟨hz, ?_⟩
    obtain ⟨j, hj, hfj, _⟩ := good_heir hg hko (by rw [hheir]; exact hz)
    obtain ⟨l, hll⟩ := lineN_head (xs := updAt xs k y hh) 699 j
    have : lineL (updAt xs k y hh) k = k :: j :: l := by
      unfold lineL lineN
      rw [if_neg (by rw [hheir]; exact hz), hfj, Int.toNat_natCast, hll]
    rw [this]
    have hjid : (SMaker.at (updAt xs k y hh) j).ident = hh := by
      rcases findM_cases (updAt xs k y hh) (SMaker.at (updAt xs k y hh) k).heir with h1 | ⟨j2, _, hf2, hi2⟩
      · rw [h1] at hfj; omega
      · rw [hf2] at hfj
        have := Int.ofNat.inj hfj
        subst this
        rw [hi2, hheir]
    exact ⟨idsOf (mks (updAt xs k y hh) l), by simp only [mks, idsOf, List.map_cons, hido, hjid]⟩
/-- founders are no one's heirs -/
theorem fou_law {i : Nat} (hi : i < xs.length) : xs[i].heir ∉ (fouV xs).1 := by
  unfold fouV
  split
  · intro h
    unfold idsOf at h
    rw [List.mem_map] at h
    obtain ⟨c, hc, he⟩ := h
    rw [List.mem_filter] at hc
    have := hc.2
    rw [he] at this
    have hy : isHeir xs xs[i].heir = true := by
      unfold isHeir
      rw [List.any_eq_true]
      exact ⟨xs[i], List.getElem_mem hi, by simp⟩
    rw [hy] at this
    cases this
  · simp
theorem good_monoH (hg : goodB xs = true) {i : Nat} : ∀ {j : Nat}, i < j → j < xs.length → (SMaker.at xs i).ident < (SMaker.at xs j).ident
  | 0, h, _ => by omega
  | j + 1, h, hj => by
    have h1 := good_at hg hj
    unfold okAt at h1
    rw [Bool.and_eq_true, Bool.and_eq_true] at h1
    have h2 := h1.1.2
    rw [decide_eq_false (by omega), Bool.false_or, decide_eq_true_iff] at h2
    simp only [Nat.add_sub_cancel] at h2
    by_cases hij : i = j
    · subst hij; exact h2
    · have := good_monoH hg (i := i) (j := j) (by omega) (by omega)
      omega
theorem longTo_law (hg : goodB xs = true) : ∀ n, n ≤ xs.length → (∀ j, j < n → (SMaker.at xs j).yrs ≤ (longTo xs n).2) ∧ (0 < n → ∃ j, j < n ∧ (longTo xs n).1 = (SMaker.at xs j).ident ∧ (longTo xs n).2 = (SMaker.at xs j).yrs)
  | 0, _ => ⟨fun j hj => by omega, fun h => by omega⟩
  | n + 1, h => by
    obtain ⟨h1, h2⟩ := longTo_law hg n (by omega)
    have q := good_fine hg (show n < xs.length by omega)
    have hy : 1 ≤ (SMaker.at xs n).yrs := by have := q.f2; unfold SMaker.yrs; omega
    unfold longTo
    by_cases hc : (longTo xs n).2 < (SMaker.at xs n).yrs
    · rw [if_pos hc]
      refine ⟨fun j hj => ?_, fun _ => ⟨n, by omega, rfl, rfl⟩⟩
      by_cases hjn : j = n
      · subst hjn; exact Int.le_refl _
      · have := h1 j (by omega)
        show (SMaker.at xs j).yrs ≤ (SMaker.at xs n).yrs
        omega
    · rw [if_neg hc]
      refine ⟨fun j hj => ?_, fun _ => ?_⟩
      · by_cases hjn : j = n
        · subst hjn; omega
        · exact h1 j (by omega)
      · by_cases h0 : n = 0
        · subst h0
          simp only [longTo] at hc
          omega
        · obtain ⟨j, hj, e1, e2⟩ := h2 (by omega)
          exact ⟨j, by omega, e1, e2⟩
/-- the one who works longest is told with all years -/
theorem long_law {i : Nat} (hi : i < xs.length) (h : (longV xs).2 = true) : xs[i].untl - xs[i].frm + 1 ≤ (longV xs).1.2 ∧ (xs[i].ident = (longV xs).1.1 → xs[i].untl - xs[i].frm + 1 = (longV xs).1.2) := by
  unfold longV at h ⊢
  by_cases hc : ¬ (goodB xs && !decide (xs.length = 0)) = true
  · rw [if_neg hc] at h; cases h
  replace hc := Classical.not_not.1 hc
  rw [if_pos hc]
  rw [Bool.and_eq_true] at hc
  obtain ⟨hg, _⟩ := hc
  obtain ⟨h1, h2⟩ := longTo_law hg xs.length (Nat.le_refl _)
  obtain ⟨j, hj, e1, e2⟩ := h2 (by omega)
  have q := h1 i hi
  rw [SMaker.at_lt hi] at q
  refine ⟨q, fun he => ?_⟩
  show _ = (longTo xs xs.length).2
  have he : xs[i].ident = (longTo xs xs.length).1 := he
  rw [e1] at he
  have hij : i = j := by
    rcases Nat.lt_trichotomy i j with hl | hl | hl
    · have := good_monoH hg hl hj
      rw [SMaker.at_lt hi] at this; omega
    · exact hl
    · have := good_monoH hg hl hi
      rw [SMaker.at_lt hi] at this; omega
  subst hij
  rw [e2, SMaker.at_lt hi]
  rfl
/-- a valid list's years are small -/
theorem long_small {i : Nat} (hi : i < xs.length) (h : (longV xs).2 = true) : (1500 ≤ xs[i].frm ∧ xs[i].frm ≤ 2100) ∧ (1500 ≤ xs[i].untl ∧ xs[i].untl ≤ 2100) := by
  unfold longV at h
  by_cases hc : ¬ (goodB xs && !decide (xs.length = 0)) = true
  · rw [if_neg hc] at h; cases h
  replace hc := Classical.not_not.1 hc
  rw [Bool.and_eq_true] at hc
  have q := good_fine hc.1 hi
  rw [SMaker.at_lt hi] at q
  have := q.f1; have := q.f2; have := q.f3
  omega
end
end Go.Proofs.YtapbnggdclpokaaDoor
