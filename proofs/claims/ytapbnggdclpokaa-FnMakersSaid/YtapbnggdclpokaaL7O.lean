/- Families of makers, in plain Lean: groups by the last maker of a line; and the plain laws of lines, of the first common one, and of families. Nothing here speaks of the program. -/
import Derived.Test.YtapbnggdclpokaaL7N
namespace Go.Proofs.Ytapbnggdclpokaa
open Go.RowKit Go.Lib
set_option linter.unusedVariables false
/-- the place of the last maker of a line -/
def endI (xs : List SMaker) (k : Nat) : Nat := (lineL xs k).getLastD 0
def addG (gs : List (Nat × List Nat)) (e i : Nat) : List (Nat × List Nat) := if gs.any (fun g => g.1 == e) then gs.map (fun g => if g.1 = e then (g.1, g.2 ++ [i]) else g) else gs ++ [(e, [i])]
def grTo (xs : List SMaker) : Nat → List (Nat × List Nat)
  | 0 => []
  | n + 1 => addG (grTo xs n) (endI xs n) n
def idOf (xs : List SMaker) (i : Nat) : Int := (SMaker.at xs i).ident
def famL (xs : List SMaker) (gs : List (Nat × List Nat)) : List (List Int) := gs.map fun g => g.2.map (idOf xs)
def famV (xs : List SMaker) : List (List Int) × Bool := if goodB xs then (famL xs (grTo xs xs.length), true) else ([], false)
/-! ### the ends of lines -/
section
variable {xs : List SMaker}
theorem LineFrom.head {k : Nat} {l : List Nat} (h : LineFrom xs k l) : l.head? = some k := by cases h <;> rfl
theorem LineFrom.unique {k : Nat} {l : List Nat} (h : LineFrom xs k l) : ∀ {m : List Nat}, LineFrom xs k m → l = m := by
  induction h with
  | stop _ hz =>
    intro m hm
    cases hm with
    | stop _ _ => rfl
    | go _ hn _ _ => exact absurd hz hn
  | go _ hn hf _ ih =>
    intro m hm
    cases hm with
    | stop _ hz => exact absurd hz hn
    | go _ _ hf2 hm2 =>
      rw [hf] at hf2
      have := Int.ofNat.inj hf2
      subst this
      rw [ih hm2]
/-- from each member on, the rest of the line is that member's line -/
theorem LineFrom.tail {k : Nat} {l : List Nat} (h : LineFrom xs k l) : ∀ {j : Nat}, j ∈ l → ∃ pre post, l = pre ++ post ∧ LineFrom xs j post := by
  induction h with
  | @stop k hk hz =>
    intro j hj
    rw [List.mem_singleton] at hj
    subst hj
    exact ⟨[], [j], rfl, .stop hk hz⟩
  | @go k j' l hk hn hf hl ih =>
    intro j hj
    rcases List.mem_cons.1 hj with rfl | hj
    · exact ⟨[], _, rfl, .go hk hn hf hl⟩
    · obtain ⟨pre, post, rfl, hp⟩ := ih hj
      exact ⟨k :: pre, post, rfl, hp⟩
theorem LineFrom.ne {k : Nat} {l : List Nat} (h : LineFrom xs k l) : l ≠ [] := by cases h <;> simp
theorem end_mem (hg : goodB xs = true) {k : Nat} (hk : k < xs.length) : endI xs k ∈ lineL xs k := by
  have hl := lineL_from hg hk
  unfold endI
  have hne := hl.ne
  rw [List.getLastD_eq_getLast?, List.getLast?_eq_some_getLast hne]
  exact List.getLast_mem hne
theorem end_lt (hg : goodB xs = true) {k : Nat} (hk : k < xs.length) : endI xs k < xs.length := (lineL_from hg hk).lt _ (end_mem hg hk)
/-- who lies on a line has its end -/
theorem end_same (hg : goodB xs = true) {k j : Nat} (hk : k < xs.length) (hj : j ∈ lineL xs k) : endI xs j = endI xs k := by
  have hl := lineL_from hg hk
  have hjl := hl.lt j hj
  obtain ⟨pre, post, he, hp⟩ := hl.tail hj
  have hu := (lineL_from hg hjl).unique hp
  have hne := hp.ne
  unfold endI
  rw [hu, he, List.getLastD_eq_getLast?, List.getLastD_eq_getLast?, List.getLast?_append, List.getLast?_eq_some_getLast hne]
  rfl
/-- two lines have one maker in common exactly if they end alike -/
theorem common_iff (hg : goodB xs = true) {i j : Nat} (hi : i < xs.length) (hj : j < xs.length) : (fcFind (lineL xs i) (lineL xs j)).isSome = decide (endI xs i = endI xs j) := by
  rw [Bool.eq_iff_iff, decide_eq_true_eq]
  unfold fcFind
  rw [List.find?_isSome]
  constructor
  · rintro ⟨x, hx, hy⟩
    obtain ⟨y, hy1, hy2⟩ := List.any_eq_true.1 hy
    have : y = x := by simpa using hy2
    subst this
    rw [← end_same hg hi hx, ← end_same hg hj hy1]
  · intro he
    refine ⟨endI xs i, end_mem hg hi, List.any_eq_true.2 ⟨endI xs j, end_mem hg hj, ?_⟩⟩
    simp [he]
theorem fc_in {la lb : List Nat} {x : Nat} (h : fcFind la lb = some x) : x ∈ la ∧ x ∈ lb := by
  unfold fcFind at h
  refine ⟨List.mem_of_find?_eq_some h, ?_⟩
  have := List.find?_some h
  obtain ⟨y, hy1, hy2⟩ := List.any_eq_true.1 this
  have : y = x := by simpa using hy2
  rw [← this]; exact hy1
/-! ### the groups -/
structure GrI (xs : List SMaker) (n : Nat) (gs : List (Nat × List Nat)) : Prop where
  nd : gs.Pairwise fun g h => g.1 ≠ h.1
  ne : ∀ g ∈ gs, g.2 ≠ []
  mem : ∀ g ∈ gs, ∀ i ∈ g.2, i < n ∧ endI xs i = g.1
  all : ∀ i, i < n → ∃ g ∈ gs, i ∈ g.2
  len : ∀ g ∈ gs, g.2.length ≤ n
  cnt : gs.length ≤ n
theorem GrI.step {n : Nat} {gs : List (Nat × List Nat)} (h : GrI xs n gs) : GrI xs (n + 1) (addG gs (endI xs n) n) := by
  unfold addG
  by_cases hany : gs.any (fun g => g.1 == endI xs n) = true
  · rw [if_pos hany]
    obtain ⟨g0, hg0, he0⟩ := List.any_eq_true.1 hany
    have he0' : g0.1 = endI xs n := by simpa using he0
    have hf : ∀ g : Nat × List Nat, (if g.1 = endI xs n then (g.1, g.2 ++ [n]) else g).1 = g.1 := fun g => by split <;> rfl
    refine ⟨?_, fun g hg => ?_, fun g hg i hi => ?_, fun i hi => ?_, fun g hg => ?_, by rw [List.length_map]; have := h.cnt; omega⟩
    · rw [List.pairwise_map]
      exact h.nd.imp fun {a b} hab => by rw [hf, hf]; exact hab
    · obtain ⟨g', hg', rfl⟩ := List.mem_map.1 hg
      split
      · simp
      · exact h.ne g' hg'
    · obtain ⟨g', hg', rfl⟩ := List.mem_map.1 hg
      by_cases hc : g'.1 = endI xs n
      · rw [if_pos hc] at hi ⊢
        rcases List.mem_append.1 hi with hi | hi
        · have := h.mem g' hg' i hi
          exact ⟨by omega, this.2⟩
        · rw [List.mem_singleton] at hi
          subst hi
          exact ⟨by omega, hc.symm⟩
      · rw [if_neg hc] at hi ⊢
        have := h.mem g' hg' i hi
        exact ⟨by omega, this.2⟩
    · by_cases hin : i < n
      · obtain ⟨g, hg, hgi⟩ := h.all i hin
        refine ⟨_, List.mem_map.2 ⟨g, hg, rfl⟩, ?_⟩
        split
        · exact List.mem_append_left _ hgi
        · exact hgi
      · have : i = n := by omega
        subst this
        exact ⟨_, List.mem_map.2 ⟨g0, hg0, rfl⟩, by rw [if_pos he0']; simp⟩
    · obtain ⟨g', hg', rfl⟩ := List.mem_map.1 hg
      have := h.len g' hg'
      split
      · simp; omega
      · omega
  · rw [if_neg hany]
    rw [List.any_eq_true] at hany
    have hno : ∀ g ∈ gs, g.1 ≠ endI xs n := fun g hg he => hany ⟨g, hg, by simpa using he⟩
    refine ⟨?_, fun g hg => ?_, fun g hg i hi => ?_, fun i hi => ?_, fun g hg => ?_, by rw [List.length_append, List.length_singleton]; have := h.cnt; omega⟩
    · rw [List.pairwise_append]
      refine ⟨h.nd, by simp, fun a ha b hb => ?_⟩
      rw [List.mem_singleton] at hb
      subst hb
      exact hno a ha
    · rcases List.mem_append.1 hg with hg | hg
      · exact h.ne g hg
      · rw [List.mem_singleton.1 hg]; simp
    · rcases List.mem_append.1 hg with hg | hg
      · have := h.mem g hg i hi
        exact ⟨by omega, this.2⟩
      · rw [List.mem_singleton] at hg
        subst hg
        rw [List.mem_singleton] at hi
        subst hi
        exact ⟨by omega, rfl⟩
    · by_cases hin : i < n
      · obtain ⟨g, hg, hgi⟩ := h.all i hin
        exact ⟨g, List.mem_append_left _ hg, hgi⟩
      · have : i = n := by omega
        subst this
        exact ⟨_, List.mem_append_right _ List.mem_cons_self, by simp⟩
    · rcases List.mem_append.1 hg with hg | hg
      · have := h.len g hg; omega
      · rw [List.mem_singleton.1 hg]; simp
theorem grTo_I : ∀ n, GrI xs n (grTo xs n)
  | 0 => ⟨.nil, by simp [grTo], by simp [grTo], fun i hi => absurd hi (by omega), by simp [grTo], by simp [grTo]⟩
  | n + 1 => (grTo_I n).step
/-- who is in one family -/
theorem GrI.same {n : Nat} {gs : List (Nat × List Nat)} (h : GrI xs n gs) {i j : Nat} (hi : i < n) (hj : j < n) : (∃ g ∈ gs, i ∈ g.2 ∧ j ∈ g.2) ↔ endI xs i = endI xs j := by
  constructor
  · rintro ⟨g, hg, h1, h2⟩
    rw [(h.mem g hg i h1).2, (h.mem g hg j h2).2]
  · intro he
    obtain ⟨g, hg, h1⟩ := h.all i hi
    obtain ⟨g2, hg2, h2⟩ := h.all j hj
    have e1 := (h.mem g hg i h1).2
    have e2 := (h.mem g2 hg2 j h2).2
    have e3 : g.1 = g2.1 := by rw [← e1, ← e2, he]
    by_cases hgg : g = g2
    · subst hgg; exact ⟨g, hg, h1, h2⟩
    · exact absurd e3 (by
        obtain ⟨a, ha, rfl⟩ := List.getElem_of_mem hg
        obtain ⟨b, hb, rfl⟩ := List.getElem_of_mem hg2
        rcases Nat.lt_trichotomy a b with hab | hab | hab
        · exact List.pairwise_iff_getElem.1 h.nd a b ha hb hab
        · subst hab; exact absurd rfl hgg
        · exact fun e => List.pairwise_iff_getElem.1 h.nd b a hb ha hab e.symm)
theorem id_inj (hg : goodB xs = true) {i j : Nat} (hi : i < xs.length) (hj : j < xs.length) (h : idOf xs i = idOf xs j) : i = j :=
  Decidable.byContradiction fun hne => good_inj hg hi hj hne h
theorem find_self (hg : goodB xs = true) {i : Nat} (hi : i < xs.length) : findM xs (idOf xs i) = (i : Int) := by
  rcases findM_cases xs (idOf xs i) with h | ⟨j, hj, hf, he⟩
  · exfalso
    unfold findM idxF at h
    split at h
    · omega
    · rename_i hn
      rw [List.findIdx?_eq_none_iff] at hn
      have := hn xs[i] (List.getElem_mem hi)
      simp [idOf, SMaker.at_lt hi] at this
  · rw [hf]
    have := id_inj hg hj hi he
    rw [this]
/-- whether a maker's id stands in a family -/
theorem fam_has (hg : goodB xs = true) {l : List Nat} (hl : ∀ i ∈ l, i < xs.length) {i : Nat} (hi : i < xs.length) : (l.map (idOf xs)).contains (idOf xs i) = decide (i ∈ l) := by
  rw [Bool.eq_iff_iff, List.contains_iff_mem, decide_eq_true_eq, List.mem_map]
  constructor
  · rintro ⟨j, hj, he⟩
    rw [← id_inj hg (hl j hj) hi he]; exact hj
  · exact fun h => ⟨i, h, rfl⟩
theorem listed_of {a : Int} (h : listedB xs a = true) : goodB xs = true ∧ ∃ i, i < xs.length ∧ findM xs a = (i : Int) ∧ idOf xs i = a := by
  unfold listedB at h
  rw [Bool.and_eq_true, decide_eq_true_eq] at h
  rcases findM_cases xs a with hf | ⟨j, hj, hf, he⟩
  · rw [hf] at h; exact absurd h.2 (by decide)
  · exact ⟨h.1, j, hj, hf, he⟩
theorem fam_two : (famV xs).2 = goodB xs := by unfold famV; cases goodB xs <;> rfl
/-- FnMakers: a and b have a common maker exactly if a family holds both -/
theorem fam_law {a b : Int} (ha : (lineV xs a).2 = true) (hb : (lineV xs b).2 = true) : ((famV xs).1.any fun g => g.contains a && g.contains b) = (fcV xs a b).2 := by
  have la : listedB xs a = true := by unfold lineV at ha; split at ha <;> simp_all
  have lb : listedB xs b = true := by unfold lineV at hb; split at hb <;> simp_all
  obtain ⟨hg, i, hi, fi, rfl⟩ := listed_of la
  obtain ⟨_, j, hj, fj, rfl⟩ := listed_of lb
  have hI := grTo_I (xs := xs) xs.length
  have hsame := hI.same hi hj
  have hc := common_iff hg hi hj
  have hfc : (fcV xs (idOf xs i) (idOf xs j)).2 = decide (endI xs i = endI xs j) := by
    rw [← hc]
    unfold fcV
    rw [la, lb, fi, fj, Int.toNat_natCast, Int.toNat_natCast]
    cases fcFind (lineL xs i) (lineL xs j) <;> rfl
  rw [hfc, Bool.eq_iff_iff, decide_eq_true_eq, ← hsame]
  unfold famV
  rw [hg, if_pos rfl, List.any_eq_true]
  unfold famL
  constructor
  · rintro ⟨g, hgm, hgc⟩
    obtain ⟨g', hg', rfl⟩ := List.mem_map.1 hgm
    rw [Bool.and_eq_true, fam_has hg (fun k hk => (hI.mem g' hg' k hk).1) hi, fam_has hg (fun k hk => (hI.mem g' hg' k hk).1) hj, decide_eq_true_eq, decide_eq_true_eq] at hgc
    exact ⟨g', hg', hgc⟩
  · rintro ⟨g', hg', h1, h2⟩
    refine ⟨_, List.mem_map.2 ⟨g', hg', rfl⟩, ?_⟩
    rw [fam_has hg (fun k hk => (hI.mem g' hg' k hk).1) hi, fam_has hg (fun k hk => (hI.mem g' hg' k hk).1) hj]
    simp [h1, h2]
theorem line_two (a : Int) : (lineV xs a).2 = listedB xs a := by unfold lineV; cases listedB xs a <;> rfl
theorem line_first {a : Int} (h : listedB xs a = true) : (lineV xs a).1.head? = some a := by
  obtain ⟨hg, i, hi, fi, rfl⟩ := listed_of h
  unfold lineV
  rw [if_pos h, fi, Int.toNat_natCast]
  have := (lineL_from hg hi).head
  generalize lineL xs i = l at *
  cases l with
  | nil => simp at this
  | cons k l =>
    simp only [List.head?_cons, Option.some.injEq] at this
    subst this
    rfl
theorem line_has {a : Int} (h : listedB xs a = true) {k : Nat} (hk : k ∈ lineL xs (findM xs a).toNat) : (lineV xs a).1.contains (idOf xs k) = true := by
  unfold lineV
  rw [if_pos h, List.contains_iff_mem]
  unfold idsOf mks
  rw [List.map_map, List.mem_map]
  exact ⟨k, hk, rfl⟩
theorem fc_law {a b : Int} (h : (fcV xs a b).2 = true) : listedB xs a = true ∧ listedB xs b = true ∧ (lineV xs a).1.contains (fcV xs a b).1 = true ∧ (lineV xs b).1.contains (fcV xs a b).1 = true := by
  unfold fcV at h ⊢
  split at h
  · rename_i hc
    rw [Bool.and_eq_true] at hc
    rw [if_pos (by rw [Bool.and_eq_true]; exact hc)]
    cases hf : fcFind (lineL xs (findM xs a).toNat) (lineL xs (findM xs b).toNat) with
    | none => rw [hf] at h; simp [fcOut] at h
    | some x =>
      obtain ⟨h1, h2⟩ := fc_in hf
      refine ⟨hc.1, hc.2, ?_, ?_⟩
      · exact line_has hc.1 h1
      · exact line_has hc.2 h2
  · simp at h
theorem keepTo_in (l : List Nat) (y : Int) : ∀ n, n ≤ l.length → keepTo xs l y n = 0 ∨ ∃ k ∈ l, keepTo xs l y n = idOf xs k
  | 0, _ => .inl rfl
  | n + 1, h => by
    have ih := keepTo_in l y n (by omega)
    have hm : l.getD n 0 ∈ l := by
      rw [List.getD_eq_getElem?_getD, List.getElem?_eq_getElem (by omega : n < l.length), Option.getD_some]
      exact List.getElem_mem _
    unfold keepTo
    split
    · exact .inr ⟨_, hm, rfl⟩
    · exact ih
theorem keep_law {a y : Int} (h : (keepV xs a y).2 = true) : listedB xs a = true ∧ (lineV xs a).1.contains (keepV xs a y).1 = true := by
  unfold keepV at h ⊢
  split at h
  · rename_i hc
    rw [if_pos hc]
    rw [Bool.and_eq_true] at hc
    simp only [decide_eq_true_eq] at h
    rcases keepTo_in (xs := xs) (lineL xs (findM xs a).toNat) y _ (Nat.le_refl _) with hk | ⟨k, hk, he⟩
    · rw [hk] at h; omega
    · refine ⟨hc.1, ?_⟩
      show (lineV xs a).1.contains (keepTo xs _ y _) = true
      rw [he]
      exact line_has hc.1 hk
  · simp at h
end
end Go.Proofs.Ytapbnggdclpokaa
