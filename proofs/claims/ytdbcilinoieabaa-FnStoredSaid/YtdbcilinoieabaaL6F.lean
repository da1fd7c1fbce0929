/- The plain law of FnStored: behind StoreAll no loose flat fits into any drawer; what lay in a drawer lies there still; a flat lies in no drawer just where it is told as loose. Condition: none beyond good drawers. -/
import Derived.Test.YtdbcilinoieabaaL6E
namespace Go.Proofs.Ytdbcilinoieabaa
open Go.RowKit Go.Sort
set_option linter.unusedVariables false
theorem riseB_iff {xs : List Int} : riseB xs = true ↔ (∀ x ∈ xs, 1 ≤ x ∧ x ≤ 999) ∧ xs.Pairwise (· < ·) := by
  constructor
  · intro h
    refine ⟨fun x hx => ?_, rise_pair h⟩
    obtain ⟨i, hi, rfl⟩ := List.mem_iff_getElem.1 hx
    have := rise_at h hi
    unfold riseAt at this
    rw [Bool.and_eq_true, getD_int hi] at this
    exact inB_iff.1 this.1
  · rintro ⟨h1, h2⟩
    unfold riseB
    rw [List.all_eq_true]
    intro i hi
    rw [List.mem_range] at hi
    unfold riseAt
    rw [Bool.and_eq_true, getD_int hi]
    refine ⟨inB_iff.2 (h1 _ (List.getElem_mem hi)), ?_⟩
    rw [Bool.or_eq_true]
    rcases Nat.eq_zero_or_pos i with h0 | h0
    · exact .inl (decide_eq_true h0)
    · refine .inr (decide_eq_true ?_)
      rw [getD_int (show i - 1 < xs.length by omega)]
      exact List.pairwise_iff_getElem.1 h2 _ _ _ _ (by omega)
theorem sumW_filter {fs : List SFlat} (h : goodF fs = true) (p : Int → Bool) : ∀ l : List Int, sumW fs (l.filter p) ≤ sumW fs l
  | [] => Int.le_refl _
  | a :: l => by
    have ih := sumW_filter h p l
    have h1 := sumW_pos h [a]
    rw [sumW_cons] at h1
    have h2 : sumW fs [] = 0 := rfl
    rw [sumW_cons]
    by_cases hp : p a = true
    · rw [List.filter_cons_of_pos hp, sumW_cons]; omega
    · rw [List.filter_cons_of_neg hp]; omega
/-- drawers stay good where a flat is taken out of one -/
theorem good_take {fs : List SFlat} {e : List DrV} {j : Nat} (hj : j < e.length) (x : Int) (h : goodDs fs e = true) : goodDs fs (takeK e x j) = true := by
  have hF := goodDs_F h
  have hl : (takeK e x j).length = e.length := setFl_len _ _ _
  have hat : ∀ i, (hi : i < e.length) → DrV.at (takeK e x j) i = if (i : Int) = (j : Int) then ⟨e[i].ident, e[i].wide, e[i].high, e[i].holds, (DrV.at e j).fl.filter fun y => !(y == x)⟩ else e[i] := fun i hi => by
    rw [DrV.at_lt (by omega)]
    exact setFl_get hi
  have hsame : ∀ i, (hi : i < e.length) → ∃ l, (∀ y ∈ l, y ∈ e[i].fl) ∧ l.length ≤ e[i].fl.length ∧ (e[i].fl.Pairwise (· < ·) → l.Pairwise (· < ·)) ∧ sumW fs l ≤ sumW fs e[i].fl ∧ DrV.at (takeK e x j) i = ⟨e[i].ident, e[i].wide, e[i].high, e[i].holds, l⟩ := fun i hi => by
    rw [hat i hi]
    by_cases hij : i = j
    · subst hij
      rw [if_pos rfl, DrV.at_lt hi]
      exact ⟨_, fun y hy => (List.mem_filter.1 hy).1, List.length_filter_le _ _, fun hp => hp.sublist List.filter_sublist, sumW_filter hF _ _, rfl⟩
    · rw [if_neg (by omega)]
      exact ⟨_, fun y hy => hy, Nat.le_refl _, fun hp => hp, Int.le_refl _, rfl⟩
  unfold goodDs
  rw [Bool.and_eq_true, Bool.and_eq_true, List.all_eq_true]
  refine ⟨hF, decide_eq_true (by rw [hl]; exact goodDs_len h), fun i hi => ?_⟩
  rw [List.mem_range, hl] at hi
  have hok := goodDs_at h hi
  obtain ⟨l, h1, h2, h3, h4, h5⟩ := hsame i hi
  unfold okDr at hok ⊢
  rw [h5]
  rw [DrV.at_lt hi] at hok
  simp only [Bool.and_eq_true] at hok ⊢
  obtain ⟨k1, k2, k3, k4⟩ := hok
  refine ⟨?_, ?_, ?_, ?_⟩
  · obtain ⟨q1, q2, q3, q4, q5, q6, q7, q8, q9, q10⟩ := DrV.okB_iff.1 k1
    have hr := riseB_iff.1 q10
    have q9' : e[i].fl.length ≤ 12 := q9
    exact DrV.okB_iff.2 ⟨q1, q2, q3, q4, q5, q6, q7, q8, by omega, riseB_iff.2 ⟨fun y hy => hr.1 y (h1 y hy), h3 hr.2⟩⟩
  · unfold rightB at k2 ⊢
    rw [Bool.and_eq_true] at k2 ⊢
    obtain ⟨q1, q2⟩ := k2
    have q3 := of_decide_eq_true q2
    refine ⟨?_, decide_eq_true (by simp only; omega)⟩
    unfold fitsV at q1 ⊢
    rw [List.all_eq_true] at q1 ⊢
    exact fun y hy => q1 y (h1 y hy)
  · rw [Bool.or_eq_true] at k3 ⊢
    rcases k3 with k3 | k3
    · exact .inl k3
    · by_cases hi0 : i = 0
      · exact .inl (decide_eq_true hi0)
      · obtain ⟨l', _, _, _, _, h6⟩ := hsame (i - 1) (by omega)
        rw [h6]
        rw [DrV.at_lt (show i - 1 < e.length by omega)] at k3
        exact .inr k3
  · unfold inHere at k4 ⊢
    rw [List.all_eq_true] at k4 ⊢
    intro y hy
    have k5 := of_decide_eq_true (k4 y (h1 y hy))
    refine decide_eq_true ?_
    have hmi : y ∈ (takeK e x j)[i].fl := by
      have := h5
      rw [DrV.at_lt (by omega)] at this
      rw [this]; exact hy
    refine (whereD_here (by omega) hmi).2 (where_none fun d hd hyd => ?_)
    obtain ⟨t, ht, rfl⟩ := List.mem_iff_getElem.1 hd
    have ht2 : t < i := by rw [List.length_take] at ht; omega
    rw [List.getElem_take] at hyd
    obtain ⟨l', g1, _, _, _, g5⟩ := hsame t (by omega)
    rw [DrV.at_lt (by omega)] at g5
    rw [g5] at hyd
    have hyt : y ∈ e[t].fl := g1 y hyd
    have hmi2 : y ∈ e[i].fl := h1 y hy
    have hw := (whereD_here hi hmi2).1 k5
    exact notin_where hw e[t] (by
      rw [List.mem_iff_getElem]
      exact ⟨t, by rw [List.length_take]; omega, by rw [List.getElem_take]⟩) hyt
theorem insL_cons {y : Int} {ys : List Int} {x : Int} (h : ∀ z ∈ ys, y < z) : insL (y :: ys) x = if y < x then y :: insL ys x else x :: y :: ys := by
  by_cases hy : y < x
  · have h2 : below (y :: ys) x = below ys x + 1 := by
      unfold below
      rw [List.countP_cons_of_pos (by simpa using hy)]
    unfold insL
    rw [if_pos hy, h2]; rfl
  · have h2 : below (y :: ys) x = 0 := by
      unfold below
      rw [List.countP_eq_zero]
      intro a ha
      rcases List.mem_cons.1 ha with rfl | ha
      · simpa using hy
      · have := h a ha
        simp; omega
    unfold insL
    rw [if_neg hy, h2]; rfl
theorem insL_low {xs : List Int} {x : Int} (h : ∀ z ∈ xs, ¬ z < x) : insL xs x = x :: xs := by
  have h2 : below xs x = 0 := by
    unfold below
    rw [List.countP_eq_zero]
    intro a ha
    simpa using h a ha
  unfold insL; rw [h2]; rfl
theorem filter_insL_ne {x y : Int} (hn : y ≠ x) : ∀ {xs : List Int}, xs.Pairwise (· < ·) → ((insL xs y).filter fun z => !(z == x)) = insL (xs.filter fun z => !(z == x)) y
  | [], _ => by
    unfold insL
    simp [below, hn]
  | a :: xs, hp => by
    rw [List.pairwise_cons] at hp
    rw [insL_cons hp.1]
    have ih := filter_insL_ne hn hp.2
    by_cases hay : a < y
    · rw [if_pos hay]
      by_cases hax : a = x
      · rw [List.filter_cons_of_neg (by simpa using hax), List.filter_cons_of_neg (by simpa using hax), ih]
      · rw [List.filter_cons_of_pos (by simpa using hax), List.filter_cons_of_pos (by simpa using hax), ih, insL_cons (fun z hz => hp.1 z (List.mem_filter.1 hz).1), if_pos hay]
    · rw [if_neg hay, List.filter_cons_of_pos (by simpa using hn)]
      refine (insL_low fun z hz => ?_).symm
      rcases List.mem_cons.1 (List.mem_filter.1 hz).1 with rfl | h
      · exact hay
      · have := hp.1 z h; omega
theorem insL_pair {xs : List Int} {x : Int} (h : xs.Pairwise (· < ·)) (hn : x ∉ xs) : (insL xs x).Pairwise (· < ·) := by
  induction xs with
  | nil => simp [insL]
  | cons a l ih =>
    rw [List.pairwise_cons] at h
    rw [List.mem_cons] at hn
    rw [insL_cons h.1]
    by_cases ha : a < x
    · rw [if_pos ha, List.pairwise_cons]
      refine ⟨fun z hz => ?_, ih h.2 (fun q => hn (.inr q))⟩
      rcases mem_insL_iff hz with rfl | hz
      · exact ha
      · exact h.1 z hz
    · rw [if_neg ha, List.pairwise_cons, List.pairwise_cons]
      refine ⟨fun z hz => ?_, h⟩
      have hxa : x ≠ a := fun q => hn (.inl q)
      rcases List.mem_cons.1 hz with rfl | hz
      · omega
      · have := h.1 z hz; omega
/-- a flat that cannot go in now cannot go in later -/
theorem can_back {fs : List SFlat} {d : List DrV} {x y : Int} {j k : Nat} (hj : j < d.length) (hk : k < d.length) (hg : goodDs fs d = true) (hx : whereD d x < 0) (hn : y ≠ x) (hc : canB fs (putK d x j) y k = true) : canB fs d y k = true := by
  have hc2 : goodDs fs (putK (putK d x j) y k) = true := hc
  have hl1 : (putK d x j).length = d.length := putK_len _ _ _
  have h1 := good_take (j := j) (by rw [putK_len, hl1]; exact hj) x hc2
  have h2 : takeK (putK (putK d x j) y k) x j = putK d y k := by
    have hfl : ((DrV.at (putK (putK d x j) y k) j).fl.filter fun z => !(z == x)) = (DrV.at (putK d y k) j).fl := by
      have hnj := notin_where hx _ (List.getElem_mem hj)
      have hpj := rise_pair (goodDs_fl hg _ (List.getElem_mem hj)).2
      by_cases hjk : j = k
      · subst hjk
        rw [at_put (by omega), at_put hj]
        have := at_put (flat := x) hj
        rw [DrV.at_lt (by omega)] at this
        rw [this]
        simp only
        rw [filter_insL_ne hn (insL_pair hpj hnj), filter_insL hnj]
      · have a2 : DrV.at (putK d y k) j = d[j] := by rw [DrV.at_lt (by rw [putK_len]; exact hj), putK_get hj, if_neg (by omega)]
        have a1 : DrV.at (putK (putK d x j) y k) j = DrV.at (putK d x j) j := by rw [DrV.at_lt (by rw [putK_len, hl1]; exact hj), putK_get (by omega), if_neg (by omega), DrV.at_lt (by omega)]
        rw [a1, a2, at_put hj]
        exact filter_insL hnj
    unfold takeK
    rw [hfl]
    apply List.ext_getElem (by rw [setFl_len, putK_len, putK_len, putK_len])
    intro i g1 g2
    have hi : i < d.length := by rwa [putK_len] at g2
    rw [setFl_get (show i < (putK (putK d x j) y k).length by rw [putK_len, hl1]; exact hi)]
    by_cases hij : i = j
    · subst hij
      rw [if_pos rfl]
      have e1 : (putK (putK d x i) y k)[i]'(by rw [putK_len, hl1]; exact hi) = ⟨d[i].ident, d[i].wide, d[i].high, d[i].holds, ((putK (putK d x i) y k)[i]'(by rw [putK_len, hl1]; exact hi)).fl⟩ := by
        rw [putK_get (by omega)]
        split
        · rw [putK_get hi, if_pos rfl]
        · rw [putK_get hi, if_pos rfl]
      have e2 : (putK d y k)[i]'g2 = ⟨d[i].ident, d[i].wide, d[i].high, d[i].holds, ((putK d y k)[i]'g2).fl⟩ := by
        rw [putK_get hi]
        split <;> rfl
      rw [e1, e2, DrV.at_lt g2]
    · rw [if_neg (by omega)]
      have e3 : (putK d x j)[i]'(by omega) = d[i] := by rw [putK_get hi, if_neg (by omega)]
      have e4 : (putK (putK d x j) y k)[i]'(by rw [putK_len, hl1]; exact hi) = if (i : Int) = (k : Int) then ⟨d[i].ident, d[i].wide, d[i].high, d[i].holds, insL (DrV.at (putK d x j) k).fl y⟩ else d[i] := by rw [putK_get (show i < (putK d x j).length by omega), e3]
      rw [e4, putK_get hi]
      by_cases hik : i = k
      · subst hik
        rw [if_pos rfl, if_pos rfl, DrV.at_lt (by omega), DrV.at_lt hi, e3]
      · rw [if_neg (by omega), if_neg (by omega)]
  rw [h2] at h1
  exact h1
theorem stepV_len (fs : List SFlat) (d : List DrV) (z : SFlat) : (stepV fs d z).length = d.length := by
  rcases stepV_cases fs d z with ⟨h, _⟩ | ⟨k, _, _, _, h⟩
  · rw [h]
  · rw [h, putK_len]
theorem where_put {d : List DrV} {x y : Int} {k : Nat} (hk : k < d.length) (hn : y ≠ x) : whereD (putK d x k) y = whereD d y := by
  unfold whereD
  have hp : ∀ i, (hi : i < d.length) → decide (y ∈ ((putK d x k)[i]'(by rw [putK_len]; exact hi)).fl) = decide (y ∈ d[i].fl) := fun i hi => by
    rw [putK_get hi]
    split
    · rename_i he
      have hik : i = k := by omega
      subst hik
      refine decide_eq_decide.2 ?_
      simp only [DrV.at_lt hk]
      exact ⟨fun h => (mem_insL_iff h).resolve_left hn, fun h => by
        unfold insL
        rw [← List.take_append_drop (below d[i].fl x) d[i].fl] at h
        rcases List.mem_append.1 h with h | h
        · exact List.mem_append_left _ h
        · exact List.mem_append_right _ (List.mem_cons_of_mem _ h)⟩
    · rfl
  have hmap : (putK d x k).map (fun e => decide (y ∈ e.fl)) = d.map (fun e => decide (y ∈ e.fl)) := by
    apply List.ext_getElem (by rw [List.length_map, List.length_map, putK_len])
    intro i h1 h2
    rw [List.getElem_map, List.getElem_map]
    exact hp i (by rwa [List.length_map] at h2)
  have h1 := idxF_map (fun e : DrV => decide (y ∈ e.fl)) (fun b => b) (putK d x k)
  have h2 := idxF_map (fun e : DrV => decide (y ∈ e.fl)) (fun b => b) d
  rw [h1, h2, hmap]
/-- what a walk over the flats keeps -/
theorem store_keeps {fs : List SFlat} : ∀ (l : List SFlat) (d : List DrV) (done : List Int), goodDs fs d = true → (∀ z ∈ l, whereD d z.ident < 0) → l.Pairwise (fun a b => a.ident ≠ b.ident) → (∀ z ∈ l, z.ident ∉ done) →
    (∀ y ∈ done, whereD d y < 0 → ∀ k, k < d.length → canB fs d y k = false) →
    (l.foldl (stepV fs) d).length = d.length ∧
    (∀ y, (y ∈ done ∨ y ∈ l.map SFlat.ident) → whereD (l.foldl (stepV fs) d) y < 0 → ∀ k, k < d.length → canB fs (l.foldl (stepV fs) d) y k = false) ∧
    (∀ y, y ∉ l.map SFlat.ident → whereD (l.foldl (stepV fs) d) y = whereD d y) ∧
    (∀ k, (DrV.at (l.foldl (stepV fs) d) k).ident = (DrV.at d k).ident)
  | [], d, done, _, _, _, _, hd => ⟨rfl, fun y hy => hy.elim (hd y) (fun h => by cases h), fun _ _ => rfl, fun _ => rfl⟩
  | z :: l, d, done, hg, hl, hp, hn, hd => by
    rw [List.pairwise_cons] at hp
    have hz := hl z (List.mem_cons_self ..)
    have hzd := hn z (List.mem_cons_self ..)
    have key : goodDs fs (stepV fs d z) = true ∧ (∀ y, y ≠ z.ident → whereD (stepV fs d z) y = whereD d y) ∧ (∀ y, (y ∈ done ∨ y = z.ident) → whereD (stepV fs d z) y < 0 → ∀ k, k < d.length → canB fs (stepV fs d z) y k = false) ∧ (∀ k, (DrV.at (stepV fs d z) k).ident = (DrV.at d k).ident) := by
      rcases stepV_cases fs d z with ⟨h1, _, h2⟩ | ⟨q, hq, hc, _, h1⟩
      · rw [h1]
        refine ⟨hg, fun _ _ => rfl, fun y hy => ?_, fun _ => rfl⟩
        rcases hy with h | rfl
        · exact hd y h
        · exact fun _ => h2
      · rw [h1]
        refine ⟨hc, fun y hy => where_put hq hy, fun y hy hw k hk => ?_, fun k => ?_⟩
        · rcases hy with h | rfl
          · have hne : y ≠ z.ident := fun e => hzd (e ▸ h)
            rw [where_put hq hne] at hw
            have hf := hd y h hw k hk
            cases hcc : canB fs (putK d z.ident q) y k with
            | false => rfl
            | true => rw [can_back hq hk hg hz hne hcc] at hf; cases hf
          · rw [whereD_put hq hz] at hw; omega
        · by_cases hk : k < d.length
          · rw [DrV.at_lt (by rw [putK_len]; exact hk), putK_get hk, DrV.at_lt hk]
            split <;> rfl
          · unfold DrV.at
            rw [List.getD_eq_getElem?_getD, List.getD_eq_getElem?_getD, List.getElem?_eq_none (by rw [putK_len]; omega), List.getElem?_eq_none (by omega)]
    obtain ⟨k1, k2, k3, k4⟩ := key
    have hsl := stepV_len fs d z
    obtain ⟨r1, r2, r3, r4⟩ := store_keeps l (stepV fs d z) (z.ident :: done) k1 (fun y hy => by rw [k2 _ (fun e => hp.1 y hy e.symm)]; exact hl y (List.mem_cons_of_mem _ hy)) hp.2
      (fun y hy h => by
        rcases List.mem_cons.1 h with h | h
        · exact hp.1 y hy h.symm
        · exact hn y (List.mem_cons_of_mem _ hy) h)
      (fun y hy hw k hk => k3 y (by
        rcases List.mem_cons.1 hy with h | h
        · exact .inr h
        · exact .inl h) hw k (by omega))
    rw [List.foldl_cons]
    refine ⟨by rw [r1, hsl], fun y hy hw k hk => r2 y ?_ hw k (by omega), fun y hy => ?_, fun k => by rw [r4, k4]⟩
    · rcases hy with h | h
      · exact .inl (List.mem_cons_of_mem _ h)
      · rw [List.map_cons] at h
        rcases List.mem_cons.1 h with h | h
        · exact .inl (by rw [h]; exact List.mem_cons_self ..)
        · exact .inr h
    · rw [List.map_cons, List.mem_cons] at hy
      rw [r3 y (fun h => hy (.inr h)), k2 y (fun h => hy (.inl h))]
end Go.Proofs.Ytdbcilinoieabaa
