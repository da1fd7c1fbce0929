/- Plain facts of sheets: valid lists, neighbors, overviews, and the longest strip (two ways of asking are one). Nothing here speaks of the program. No condition. -/
import Derived.Test.YtplemibckjnbhaaGreatDoorStSheet
namespace Go.Proofs.YtplemibckjnbhaaGreatDoor
open Go.RowKit
set_option linter.unusedVariables false
/-! ### the longest strip: two ways of asking are one -/
/-- the longer of two lists, the first one if they are as long -/
def updL (b c : List Int) : List Int := if b.length < c.length then c else b
/-- the ids while they go on -/
def chainL : List (Bool × Int) → List Int
  | [] => []
  | (f, x) :: l => if f then x :: chainL l else []
/-- impl: the strip that ends here, the best one so far -/
def stepL (s : List Int × List Int) (p : Bool × Int) : List Int × List Int :=
  ((if p.1 then s.1 else []) ++ [p.2], updL s.2 ((if p.1 then s.1 else []) ++ [p.2]))
/-- spec: the strips that begin somewhere -/
def bestL (b : List Int) : List (Bool × Int) → List Int
  | [] => b
  | (_, x) :: l => bestL (updL b (x :: chainL l)) l
theorem updL_len (b c : List Int) : b.length ≤ (updL b c).length ∧ c.length ≤ (updL b c).length := by
  unfold updL; split <;> omega
theorem updL_no {b c : List Int} (h : c.length ≤ b.length) : updL b c = b := if_neg (by omega)
theorem updL_two (b s t : List Int) (h : s.length ≤ t.length) (ht : t = s ∨ s.length < t.length) : updL (updL b s) t = updL b t := by
  by_cases h1 : b.length < s.length
  · rw [show updL b s = s from if_pos h1, show updL b t = t from if_pos (by omega)]
    rcases ht with rfl | ht
    · exact updL_no (Nat.le_refl _)
    · exact if_pos ht
  · rw [updL_no (b := b) (c := s) (by omega)]
theorem strips (l : List (Bool × Int)) : ∀ (strip best : List Int), strip.length ≤ best.length → (l.foldl stepL (strip, best)).2 = bestL (updL best (strip ++ chainL l)) l := by
  induction l with
  | nil => intro strip best h; simp only [List.foldl_nil, chainL, List.append_nil, bestL]; rw [updL_no h]
  | cons p l ih =>
    intro strip best h
    obtain ⟨f, x⟩ := p
    rw [List.foldl_cons]
    cases f with
    | true =>
      have h1 : stepL (strip, best) (true, x) = (strip ++ [x], updL best (strip ++ [x])) := rfl
      have h2 : chainL ((true, x) :: l) = x :: chainL l := rfl
      rw [h1, ih _ _ (updL_len _ _).2, h2]
      show _ = bestL (updL (updL best (strip ++ x :: chainL l)) (x :: chainL l)) l
      rw [updL_no (b := updL best (strip ++ x :: chainL l)) (Nat.le_trans (by simp) (updL_len _ _).2), updL_two _ _ _ (by simp) (by
        cases chainL l with
        | nil => left; simp
        | cons a b => right; simp)]
      simp
    | false =>
      have h1 : stepL (strip, best) (false, x) = ([x], updL best [x]) := rfl
      have h2 : chainL ((false, x) :: l) = [] := rfl
      rw [h1, ih _ _ (updL_len _ _).2, h2, List.append_nil, updL_no h]
      show _ = bestL (updL best (x :: chainL l)) l
      rw [updL_two _ _ _ (by simp) (by
        cases chainL l with
        | nil => left; simp
        | cons a b => right; simp)]
      rfl
/-- the run from a place on, as far as its row goes -/
def runK (g : Nat → Option Int) : Nat → Nat → List Int
  | 0, _ => []
  | f + 1, k => match g k with | none => [] | some x => x :: runK g f (k + 1)
/-- whether each one goes on from the one ahead -/
def flagsK : Option Nat → List (Nat × Int) → List (Bool × Int)
  | _, [] => []
  | p, (k, x) :: l => (decide (p = some (k - 1) ∧ k % 100 ≠ 0), x) :: flagsK (some k) l
/-- the best run among the places below n -/
def foldK (g : Nat → Option Int) : Nat → List Int
  | 0 => []
  | n + 1 => updL (foldK g n) (runK g (100 - n % 100) n)
theorem run_chain (g : Nat → Option Int) : ∀ (l : List (Nat × Int)) (k : Nat), (∀ p ∈ l, k < p.1) → l.Pairwise (fun a b => a.1 < b.1) → (∀ j y, k < j → (g j = some y ↔ (j, y) ∈ l)) →
    runK g (99 - k % 100) (k + 1) = chainL (flagsK (some k) l) := by
  intro l
  induction l with
  | nil =>
    intro k _ _ hg
    have h0 : g (k + 1) = none := by
      cases h : g (k + 1) with
      | none => rfl
      | some y => exact absurd ((hg (k + 1) y (by omega)).1 h) (by simp)
    cases 99 - k % 100 with
    | zero => rfl
    | succ f => show (match g (k + 1) with | none => [] | some x => x :: runK g f (k + 1 + 1)) = _; rw [h0]; rfl
  | cons p l ih =>
    intro k hlt hpw hg
    obtain ⟨k', x'⟩ := p
    have hk' : k < k' := hlt (k', x') (by simp)
    rw [List.pairwise_cons] at hpw
    show _ = if decide (some k = some (k' - 1) ∧ k' % 100 ≠ 0) = true then x' :: chainL (flagsK (some k') l) else []
    by_cases h1 : k' = k + 1
    · subst h1
      by_cases h2 : (k + 1) % 100 = 0
      · rw [show 99 - k % 100 = 0 by omega, if_neg (by simp [h2])]; rfl
      · obtain ⟨f, hf⟩ : ∃ f, 99 - k % 100 = f + 1 := ⟨98 - k % 100, by omega⟩
        rw [hf, if_pos (by simpa using h2)]
        show (match g (k + 1) with | none => [] | some x => x :: runK g f (k + 1 + 1)) = _
        rw [(hg (k + 1) x' (by omega)).2 (by simp)]
        show x' :: runK g f (k + 1 + 1) = _
        rw [show f = 99 - (k + 1) % 100 by omega, ih (k + 1) (fun p hp => hpw.1 p hp) hpw.2 (fun j y hj => by
          rw [hg j y (by omega)]
          constructor
          · intro h
            rcases List.mem_cons.1 h with h | h
            · injection h with h3 h4; omega
            · exact h
          · exact List.mem_cons_of_mem _)]
    · have h0 : g (k + 1) = none := by
        cases h : g (k + 1) with
        | none => rfl
        | some y =>
          have hm := (hg (k + 1) y (by omega)).1 h
          rcases List.mem_cons.1 hm with h3 | h3
          · injection h3 with h3 h4; omega
          · have := hpw.1 _ h3; simp only at this; omega
      rw [if_neg (by simp; intro h; omega)]
      cases 99 - k % 100 with
      | zero => rfl
      | succ f => show (match g (k + 1) with | none => [] | some x => x :: runK g f (k + 1 + 1)) = _; rw [h0]
theorem fold_best (g : Nat → Option Int) (d : Nat) : ∀ (n : Nat) (l : List (Nat × Int)) (p : Option Nat), n + d = 10000 → (∀ q ∈ l, n ≤ q.1 ∧ q.1 < 10000) → l.Pairwise (fun a b => a.1 < b.1) → (∀ j y, n ≤ j → (g j = some y ↔ (j, y) ∈ l)) →
    foldK g 10000 = bestL (foldK g n) (flagsK p l) := by
  induction d with
  | zero =>
    intro n l p hn hl _ _
    obtain rfl : n = 10000 := by omega
    cases l with
    | nil => rfl
    | cons q l => have := hl q (by simp); omega
  | succ d ih =>
    intro n l p hn hl hpw hg
    have hno : (∀ y, (n, y) ∉ l) → foldK g (n + 1) = foldK g n := fun h => by
      have h0 : g n = none := by
        cases h1 : g n with
        | none => rfl
        | some y => exact absurd ((hg n y (Nat.le_refl _)).1 h1) (h y)
      show updL (foldK g n) (runK g (100 - n % 100) n) = _
      obtain ⟨f, hf⟩ : ∃ f, 100 - n % 100 = f + 1 := ⟨99 - n % 100, by omega⟩
      rw [hf]
      show updL (foldK g n) (match g n with | none => [] | some x => x :: runK g f (n + 1)) = _
      rw [h0]
      exact updL_no (Nat.zero_le _)
    cases l with
    | nil =>
      rw [ih (n + 1) [] p (by omega) (by simp) List.Pairwise.nil (fun j y hj => hg j y (by omega)), hno (by simp)]
    | cons q l =>
      obtain ⟨k, x⟩ := q
      have hk := hl (k, x) (by simp)
      simp only at hk
      have hpw' := List.pairwise_cons.1 hpw
      by_cases hkn : k = n
      · subst hkn
        have hgt : ∀ j y, k < j → (g j = some y ↔ (j, y) ∈ l) := fun j y hj => by
          rw [hg j y (by omega)]
          constructor
          · intro h
            rcases List.mem_cons.1 h with h | h
            · injection h with h3 h4; omega
            · exact h
          · exact List.mem_cons_of_mem _
        have hrc := run_chain g l k (fun q hq => hpw'.1 q hq) hpw'.2 hgt
        rw [ih (k + 1) l (some k) (by omega) (fun q hq => ⟨hpw'.1 q hq, (hl q (List.mem_cons_of_mem _ hq)).2⟩) hpw'.2 (fun j y hj => hgt j y (by omega))]
        show bestL (updL (foldK g k) (runK g (100 - k % 100) k)) _ = bestL (updL (foldK g k) (x :: chainL (flagsK (some k) l))) (flagsK (some k) l)
        obtain ⟨f, hf⟩ : ∃ f, 100 - k % 100 = f + 1 := ⟨99 - k % 100, by omega⟩
        rw [hf]
        show bestL (updL (foldK g k) (match g k with | none => [] | some x => x :: runK g f (k + 1))) _ = _
        rw [(hg k x (Nat.le_refl _)).2 (by simp)]
        show bestL (updL (foldK g k) (x :: runK g f (k + 1))) _ = _
        rw [show f = 99 - k % 100 by omega, hrc]
      · have hn0 : ∀ y, (n, y) ∉ (k, x) :: l := fun y hy => by
          rcases List.mem_cons.1 hy with h | h
          · injection h with h3 h4; omega
          · have := hpw'.1 _ h; simp only at this; omega
        rw [ih (n + 1) ((k, x) :: l) p (by omega) (fun q hq => by
          have h1 := hl q hq
          refine ⟨?_, h1.2⟩
          by_cases h2 : q.1 = n
          · exact absurd (show (n, q.2) ∈ (k, x) :: l by rw [← h2]; exact hq) (hn0 _)
          · omega) hpw (fun j y hj => hg j y (by omega)), hno hn0]

/-! ### sheets -/
/-- whether one sheet is valid -/
def SSheet.okB (c : SSheet) : Bool := decide (1 ≤ c.id ∧ c.id ≤ 999 ∧ 0 ≤ c.row ∧ c.row ≤ 99 ∧ 0 ≤ c.col ∧ c.col ≤ 99 ∧ 10 ≤ c.scale ∧ c.scale ≤ 500 ∧ 1500 ≤ c.year ∧ c.year ≤ 2100)
theorem SSheet.okB_iff {a0 a1 a2 a3 a4 : Int} : SSheet.okB ⟨a0, a1, a2, a3, a4⟩ = true ↔ (1 ≤ a0 ∧ a0 ≤ 999 ∧ 0 ≤ a1 ∧ a1 ≤ 99 ∧ 0 ≤ a2 ∧ a2 ≤ 99 ∧ 10 ≤ a3 ∧ a3 ≤ 500 ∧ 1500 ≤ a4 ∧ a4 ≤ 2100) := decide_eq_true_iff
def SSheet.at (xs : List SSheet) (i : Nat) : SSheet := xs.getD i SSheet.zero
theorem SSheet.at_lt {xs : List SSheet} {i : Nat} (h : i < xs.length) : SSheet.at xs i = xs[i] := by simp [SSheet.at, List.getD_eq_getElem?_getD, h]
/-- lies at this place in this scale -/
def onP (row col scale : Int) (c : SSheet) : Bool := decide (c.row = row ∧ c.col = col ∧ c.scale = scale)
def atV (xs : List SSheet) (row col scale : Int) : Int := idxF (onP row col scale) xs
def findS (xs : List SSheet) (id : Int) : Int := idxF (fun c => c.id == id) xs
def okS (xs : List SSheet) (i : Nat) : Bool := (SSheet.at xs i).okB && ((decide (i = 0) || decide ((SSheet.at xs (i - 1)).id < (SSheet.at xs i).id)) && decide (atV xs (SSheet.at xs i).row (SSheet.at xs i).col (SSheet.at xs i).scale = (i : Int)))
def goodS (xs : List SSheet) : Bool := (List.range xs.length).all (okS xs) && decide (xs.length ≤ 12)
theorem goodS_no {xs : List SSheet} {i : Nat} (hi : i < xs.length) (h : okS xs i = false) : goodS xs = false := by
  unfold goodS
  rw [Bool.and_eq_false_iff]; left
  rw [List.all_eq_false]
  exact ⟨i, List.mem_range.2 hi, by rw [h]; simp⟩
theorem goodS_len {xs : List SSheet} (h : goodS xs = true) : xs.length ≤ 12 := by
  unfold goodS at h
  rw [Bool.and_eq_true, decide_eq_true_eq] at h
  exact h.2
theorem goodS_ok {xs : List SSheet} (h : goodS xs = true) {i : Nat} (hi : i < xs.length) : (SSheet.at xs i).okB = true ∧ (i = 0 ∨ (SSheet.at xs (i - 1)).id < (SSheet.at xs i).id) ∧ atV xs (SSheet.at xs i).row (SSheet.at xs i).col (SSheet.at xs i).scale = (i : Int) := by
  unfold goodS at h
  rw [Bool.and_eq_true, List.all_eq_true] at h
  have := h.1 i (List.mem_range.2 hi)
  unfold okS at this
  rw [Bool.and_eq_true, Bool.and_eq_true, Bool.or_eq_true, decide_eq_true_eq, decide_eq_true_eq, decide_eq_true_eq] at this
  exact this
theorem goodS_asc {xs : List SSheet} (h : goodS xs = true) {i j : Nat} (hij : i < j) (hj : j < xs.length) : (SSheet.at xs i).id < (SSheet.at xs j).id := by
  induction j with
  | zero => omega
  | succ j ih =>
    have h1 := (goodS_ok h hj).2.1
    rw [show j + 1 - 1 = j by omega] at h1
    have h2 : (SSheet.at xs j).id < (SSheet.at xs (j + 1)).id := h1.resolve_left (by omega)
    by_cases hx : i = j
    · subst hx; exact h2
    · have := ih (by omega) (by omega); omega
theorem goodS_one {xs : List SSheet} (h : goodS xs = true) {i j : Nat} (hi : i < xs.length) (hj : j < xs.length) (he : (SSheet.at xs i).id = (SSheet.at xs j).id) : i = j := by
  rcases Nat.lt_trichotomy i j with h1 | h1 | h1
  · have := goodS_asc h h1 hj; omega
  · exact h1
  · have := goodS_asc h h1 hi; omega
theorem idxF_three {α : Type} (p : α → Bool) (xs : List α) : (idxF p xs = -1 ∧ ∀ c ∈ xs, p c = false) ∨ ∃ i, ∃ h : i < xs.length, idxF p xs = (i : Int) ∧ p xs[i] = true ∧ ∀ c ∈ xs.take i, p c = false := by
  unfold idxF
  rcases h : xs.findIdx? p with _ | i
  · exact .inl ⟨rfl, by simpa [List.findIdx?_eq_none_iff] using h⟩
  · right
    rw [List.findIdx?_eq_some_iff_getElem] at h
    obtain ⟨hi, hp, hn⟩ := h
    refine ⟨i, hi, rfl, hp, fun c hc => ?_⟩
    obtain ⟨j, hj, rfl⟩ := List.mem_iff_getElem.1 hc
    rw [List.length_take] at hj
    rw [List.getElem_take]
    simpa using hn j (by omega)
theorem findS_cases (xs : List SSheet) (id : Int) : (findS xs id = -1 ∧ ∀ c ∈ xs, c.id ≠ id) ∨ ∃ k, k < xs.length ∧ findS xs id = (k : Int) ∧ (SSheet.at xs k).id = id := by
  rcases idxF_three (fun c : SSheet => c.id == id) xs with ⟨h1, h2⟩ | ⟨i, hi, h1, h2, _⟩
  · exact .inl ⟨h1, fun c hc => by simpa using h2 c hc⟩
  · exact .inr ⟨i, hi, h1, by rw [SSheet.at_lt hi]; simpa using h2⟩
theorem findS_at {xs : List SSheet} (hg : goodS xs = true) {k : Nat} (hk : k < xs.length) : findS xs (SSheet.at xs k).id = (k : Int) := by
  rcases findS_cases xs (SSheet.at xs k).id with ⟨_, h⟩ | ⟨j, hj, hf, he⟩
  · exact absurd rfl (h (SSheet.at xs k) (by rw [SSheet.at_lt hk]; exact List.getElem_mem hk))
  · rw [hf, goodS_one hg hj hk he]
theorem atV_cases (xs : List SSheet) (row col scale : Int) : (atV xs row col scale = -1 ∧ ∀ c ∈ xs, onP row col scale c = false) ∨ ∃ k, k < xs.length ∧ atV xs row col scale = (k : Int) ∧ (SSheet.at xs k).row = row ∧ (SSheet.at xs k).col = col ∧ (SSheet.at xs k).scale = scale := by
  rcases idxF_three (onP row col scale) xs with ⟨h1, h2⟩ | ⟨i, hi, h1, h2, _⟩
  · exact .inl ⟨h1, h2⟩
  · exact .inr ⟨i, hi, h1, by rw [SSheet.at_lt hi]; simpa [onP] using h2⟩
/-- the ids of those of the first n for which p holds -/
def filtTo (p : SSheet → Bool) (xs : List SSheet) (n : Nat) : List Int := ((xs.take n).filter p).map (·.id)
theorem filtTo_succ {p : SSheet → Bool} {xs : List SSheet} {n : Nat} (h : n < xs.length) : filtTo p xs (n + 1) = filtTo p xs n ++ if p xs[n] = true then [xs[n].id] else [] := by
  unfold filtTo
  rw [take_snoc' h, List.filter_append, List.map_append]
  congr 1
  cases hp : p xs[n] <;> simp [hp]
theorem filtTo_le (p : SSheet → Bool) (xs : List SSheet) (n : Nat) : (filtTo p xs n).length ≤ n := by
  unfold filtTo
  rw [List.length_map]
  exact Nat.le_trans (List.length_filter_le _ _) (by simp; omega)
/-- two other sheets side by side -/
def nbB (a b : SSheet) : Bool := decide (a.id ≠ b.id ∧ a.scale = b.scale ∧ -1 ≤ a.row - b.row ∧ a.row - b.row ≤ 1 ∧ -1 ≤ a.col - b.col ∧ a.col - b.col ≤ 1)
theorem nbB_iff {a b : SSheet} : nbB a b = true ↔ (a.id ≠ b.id ∧ a.scale = b.scale ∧ -1 ≤ a.row - b.row ∧ a.row - b.row ≤ 1 ∧ -1 ≤ a.col - b.col ∧ a.col - b.col ≤ 1) := decide_eq_true_iff
def nbV (xs : List SSheet) (id : Int) : List Int × Bool := if goodS xs = true ∧ 0 ≤ findS xs id then (filtTo (fun c => nbB c (SSheet.at xs (findS xs id).toNat)) xs xs.length, true) else ([], false)
/-- on which the beginning of b lies -/
def ovB (b a : SSheet) : Bool := decide (b.scale < a.scale ∧ 0 ≤ b.row * b.scale - a.row * a.scale ∧ b.row * b.scale - a.row * a.scale ≤ a.scale - 1 ∧ 0 ≤ b.col * b.scale - a.col * a.scale ∧ b.col * b.scale - a.col * a.scale ≤ a.scale - 1)
def ovV (xs : List SSheet) (id : Int) : List Int × Bool := if goodS xs = true ∧ 0 ≤ findS xs id then (filtTo (fun c => ovB (SSheet.at xs (findS xs id).toNat) c) xs xs.length, true) else ([], false)
theorem foundS {xs : List SSheet} {id : Int} (h : 0 ≤ findS xs id) : ∃ k, k < xs.length ∧ findS xs id = (k : Int) ∧ (SSheet.at xs k).id = id := by
  rcases findS_cases xs id with ⟨h1, _⟩ | h1
  · omega
  · exact h1
/-- a neighbor's neighbor is the sheet itself -/
theorem nb_law {xs : List SSheet} {id y : Int} (hy : y ∈ (nbV xs id).1) : (nbV xs y).2 = true ∧ id ∈ (nbV xs y).1 ∧ y ≠ id := by
  unfold nbV at hy
  split at hy
  · rename_i h
    obtain ⟨k, hk, hf, hid⟩ := foundS h.2
    rw [hf, Int.toNat_natCast] at hy
    simp only [filtTo, List.take_length, List.mem_map, List.mem_filter] at hy
    obtain ⟨c, ⟨hm, hn⟩, rfl⟩ := hy
    obtain ⟨j, hj, rfl⟩ := List.mem_iff_getElem.1 hm
    have hfj := findS_at h.1 hj
    rw [SSheet.at_lt hj] at hfj
    have hn' := nbB_iff.1 hn
    have hv : nbV xs xs[j].id = (filtTo (fun c => nbB c (SSheet.at xs j)) xs xs.length, true) := by
      unfold nbV; rw [if_pos ⟨h.1, by omega⟩, hfj, Int.toNat_natCast]
    rw [hv]
    refine ⟨rfl, ?_, by rw [← hid]; exact hn'.1⟩
    simp only [filtTo, List.take_length, List.mem_map, List.mem_filter]
    refine ⟨SSheet.at xs k, ⟨by rw [SSheet.at_lt hk]; exact List.getElem_mem hk, ?_⟩, hid⟩
    rw [SSheet.at_lt hj, nbB_iff]
    refine ⟨fun e => hn'.1 e.symm, hn'.2.1.symm, by omega, by omega, by omega, by omega⟩
  · simp at hy
theorem ov_law {xs : List SSheet} {id : Int} : id ∉ (ovV xs id).1 := by
  intro hy
  unfold ovV at hy
  split at hy
  · rename_i h
    obtain ⟨k, hk, hf, hid⟩ := foundS h.2
    rw [hf, Int.toNat_natCast] at hy
    simp only [filtTo, List.take_length, List.mem_map, List.mem_filter] at hy
    obtain ⟨c, ⟨hm, hn⟩, he⟩ := hy
    obtain ⟨j, hj, rfl⟩ := List.mem_iff_getElem.1 hm
    have hjk : j = k := goodS_one h.1 hj hk (by rw [SSheet.at_lt hj, he, hid])
    subst hjk
    rw [SSheet.at_lt hj] at hn
    simp [ovB] at hn
  · simp at hy
/-- the id of the sheet at a place (100 places a row) of a scale -/
def gS (xs : List SSheet) (scale : Int) (k : Nat) : Option Int := if atV xs (k / 100 : Nat) (k % 100 : Nat) scale < 0 then none else some (SSheet.at xs (atV xs (k / 100 : Nat) (k % 100 : Nat) scale).toNat).id
def stripV (xs : List SSheet) (scale : Int) : List Int × Bool := if goodS xs = true ∧ inB scale 10 500 = true then (foldK (gS xs scale) 10000, decide (0 < (foldK (gS xs scale) 10000).length)) else ([], false)
theorem foldK_run (g : Nat → Option Int) : ∀ n, foldK g n = [] ∨ ∃ k, foldK g n = runK g (100 - k % 100) k := by
  intro n
  induction n with
  | zero => exact .inl rfl
  | succ n ih =>
    show updL (foldK g n) (runK g (100 - n % 100) n) = [] ∨ _
    unfold updL
    rcases Nat.lt_or_ge (foldK g n).length (runK g (100 - n % 100) n).length with h | h
    · right; refine ⟨n, ?_⟩
      show updL _ _ = _
      exact if_pos h
    · rw [if_neg (by omega)]
      have : foldK g (n + 1) = foldK g n := updL_no h
      rw [this]; exact ih
theorem runK_get (g : Nat → Option Int) : ∀ (f k i : Nat) (x : Int), (runK g f k)[i]? = some x → i < f ∧ g (k + i) = some x := by
  intro f
  induction f with
  | zero => intro k i x h; simp [runK] at h
  | succ f ih =>
    intro k i x h
    simp only [runK] at h
    cases hg : g k with
    | none => rw [hg] at h; simp at h
    | some y =>
      rw [hg] at h
      cases i with
      | zero => simp at h; subst h; exact ⟨by omega, hg⟩
      | succ i =>
        simp only [List.getElem?_cons_succ] at h
        have := ih (k + 1) i x h
        exact ⟨by omega, by rw [show k + (i + 1) = k + 1 + i by omega]; exact this.2⟩
theorem gS_some {xs : List SSheet} {scale : Int} {k : Nat} {x : Int} (h : gS xs scale k = some x) : ∃ j, j < xs.length ∧ (SSheet.at xs j).id = x ∧ (SSheet.at xs j).row = (k / 100 : Nat) ∧ (SSheet.at xs j).col = (k % 100 : Nat) ∧ (SSheet.at xs j).scale = scale := by
  unfold gS at h
  split at h
  · cases h
  · rename_i hn
    rcases atV_cases xs (k / 100 : Nat) (k % 100 : Nat) scale with ⟨h1, _⟩ | ⟨j, hj, h1, h2, h3, h4⟩
    · omega
    · rw [h1, Int.toNat_natCast] at h
      injection h with h
      exact ⟨j, hj, h, h2, h3, h4⟩
/-- in a strip each sheet is a neighbor of the one ahead -/
theorem strip_law {xs : List SSheet} {scale : Int} {i : Nat} {a b : Int} (ha : (stripV xs scale).1[i]? = some a) (hb : (stripV xs scale).1[i + 1]? = some b) : (nbV xs a).2 = true ∧ b ∈ (nbV xs a).1 := by
  unfold stripV at ha hb
  split at ha
  · rename_i h
    rw [if_pos h] at hb
    simp only at ha hb
    rcases foldK_run (gS xs scale) 10000 with h0 | ⟨k, h0⟩
    · rw [h0] at ha; simp at ha
    · rw [h0] at ha hb
      have h1 := runK_get _ _ _ _ _ ha
      have h2 := runK_get _ _ _ _ _ hb
      obtain ⟨j, hj, e1, e2, e3, e4⟩ := gS_some h1.2
      obtain ⟨m, hm, d1, d2, d3, d4⟩ := gS_some h2.2
      have hf := findS_at h.1 hj
      rw [e1] at hf
      have hv : nbV xs a = (filtTo (fun c => nbB c (SSheet.at xs j)) xs xs.length, true) := by
        unfold nbV; rw [if_pos ⟨h.1, by omega⟩, hf, Int.toNat_natCast]
      rw [hv]
      refine ⟨rfl, ?_⟩
      simp only [filtTo, List.take_length, List.mem_map, List.mem_filter]
      refine ⟨SSheet.at xs m, ⟨by rw [SSheet.at_lt hm]; exact List.getElem_mem hm, ?_⟩, d1⟩
      rw [nbB_iff]
      have hr : (k + (i + 1)) / 100 = (k + i) / 100 := by omega
      have hc : (k + (i + 1)) % 100 = (k + i) % 100 + 1 := by omega
      rw [hr] at d2; rw [hc] at d3
      refine ⟨fun e => ?_, by rw [d4, e4], by omega, by omega, by omega, by omega⟩
      have hjm := goodS_one h.1 hm hj e
      subst hjm
      rw [e3] at d3; omega
  · simp at ha
end Go.Proofs.YtplemibckjnbhaaGreatDoor
