/- The plain law of FnDrawers: a flat goes into a drawer just where the drawer is among those that can take it; then it lies there, the grams grow by its grams, and taking it out again undoes all. Condition: small grams. -/
import Derived.Test.YtdbcilinoieabaaL5S
namespace Go.Proofs.Ytdbcilinoieabaa
open Go.RowKit
set_option linter.unusedVariables false
theorem flat_lt {fs : List SFlat} (h : goodF fs = true) {i : Nat} : ∀ {j : Nat}, i < j → (hj : j < fs.length) → (SFlat.at fs i).ident < (SFlat.at fs j).ident
  | 0, hij, _ => absurd hij (by omega)
  | j + 1, hij, hj => by
    have h1 := goodF_ok h hj
    unfold okF at h1
    rw [Bool.and_eq_true, Bool.or_eq_true] at h1
    have h2 : (SFlat.at fs j).ident < (SFlat.at fs (j + 1)).ident := by
      rcases h1.2 with h3 | h3
      · simp at h3
      · simpa using h3
    by_cases he : i = j
    · subst he; exact h2
    · have := flat_lt h (i := i) (j := j) (by omega) (by omega)
      omega
theorem findF_self {fs : List SFlat} (h : goodF fs = true) {i : Nat} (hi : i < fs.length) : findF fs fs[i].ident = (i : Int) := by
  rcases findF_place fs fs[i].ident with h1 | ⟨k, hk, h1, h2⟩
  · rcases idxF_place (fun c : SFlat => c.ident == fs[i].ident) fs with ⟨_, h3⟩ | ⟨k, hk, h3, _⟩
    · have := h3 _ (List.getElem_mem hi)
      simp at this
    · have h4 : findF fs fs[i].ident = (k : Int) := h3
      omega
  · rw [← SFlat.at_lt hk] at h2
    have h5 : (SFlat.at fs k).ident = (SFlat.at fs i).ident := by rw [h2, SFlat.at_lt hi]
    rcases Nat.lt_trichotomy k i with h4 | h4 | h4
    · have := flat_lt h h4 hi; omega
    · subst h4; exact h1
    · have := flat_lt h h4 hk; omega
theorem gOf_self {fs : List SFlat} (h : goodF fs = true) {i : Nat} (hi : i < fs.length) : (gOf fs fs[i].ident).grams = fs[i].grams := by
  rw [gOf_at hi (findF_self h hi)]
theorem mem_insL (xs : List Int) (x : Int) : x ∈ insL xs x := by simp [insL]
theorem sumW_app (fs : List SFlat) (a b : List Int) : sumW fs (a ++ b) = sumW fs a + sumW fs b := by
  unfold sumW; rw [List.map_append, List.sum_append]
theorem sumW_cons (fs : List SFlat) (x : Int) (b : List Int) : sumW fs (x :: b) = (gOf fs x).grams + sumW fs b := by
  unfold sumW; rw [List.map_cons, List.sum_cons]
theorem sumW_insL (fs : List SFlat) (xs : List Int) (x : Int) : sumW fs (insL xs x) = sumW fs xs + (gOf fs x).grams := by
  have h := sumW_app fs (xs.take (below xs x)) (xs.drop (below xs x))
  rw [List.take_append_drop] at h
  unfold insL
  rw [sumW_app, sumW_cons]
  omega
theorem filter_insL {xs : List Int} {x : Int} (h : x ∉ xs) : ((insL xs x).filter fun y => !(y == x)) = xs := by
  have ha : ∀ l : List Int, (∀ y ∈ l, y ∈ xs) → (l.filter fun y => !(y == x)) = l := fun l hl => List.filter_eq_self.2 fun y hy => by
    have : y ≠ x := fun e => h (e ▸ hl y hy)
    simpa using this
  unfold insL
  rw [List.filter_append, List.filter_cons_of_neg (by simp), ha _ (fun y hy => List.mem_of_mem_take hy), ha _ (fun y hy => List.mem_of_mem_drop hy), List.take_append_drop]
theorem notin_where {ds : List DrV} {flat : Int} (h : whereD ds flat < 0) : ∀ d ∈ ds, flat ∉ d.fl := by
  rcases whereD_place ds flat with h1 | ⟨q, hq, h1, _⟩
  · exact h1.2
  · omega
theorem putK_len (ds : List DrV) (flat : Int) (k : Nat) : (putK ds flat k).length = ds.length := setFl_len _ _ _
theorem putK_get {ds : List DrV} {flat : Int} {k q : Nat} (h : q < ds.length) : (putK ds flat k)[q]'(by rw [putK_len]; exact h) = if (q : Int) = (k : Int) then ⟨ds[q].ident, ds[q].wide, ds[q].high, ds[q].holds, insL (DrV.at ds k).fl flat⟩ else ds[q] := setFl_get h
theorem whereD_put {ds : List DrV} {flat : Int} {k : Nat} (hk : k < ds.length) (h : whereD ds flat < 0) : whereD (putK ds flat k) flat = (k : Int) := by
  have hn := notin_where h
  have hl : (putK ds flat k).length = ds.length := setFl_len _ _ _
  rcases whereD_place (putK ds flat k) flat with ⟨_, h1⟩ | ⟨q, hq, h1, h2, _⟩
  · exfalso
    have h3 := h1 _ (List.getElem_mem (show k < (putK ds flat k).length by omega))
    rw [putK_get hk, if_pos rfl] at h3
    exact h3 (mem_insL _ _)
  · by_cases he : q = k
    · subst he; exact h1
    · exfalso
      rw [putK_get (show q < ds.length by omega), if_neg (by omega)] at h2
      exact hn _ (List.getElem_mem _) h2
theorem at_put {ds : List DrV} {flat : Int} {k : Nat} (hk : k < ds.length) : DrV.at (putK ds flat k) k = ⟨ds[k].ident, ds[k].wide, ds[k].high, ds[k].holds, insL ds[k].fl flat⟩ := by
  have hl : k < (putK ds flat k).length := by rw [show (putK ds flat k).length = ds.length from setFl_len _ _ _]; exact hk
  rw [DrV.at_lt hl]
  rw [putK_get hk, if_pos rfl, DrV.at_lt hk]
theorem take_put {ds : List DrV} {flat : Int} {k : Nat} (hk : k < ds.length) (h : whereD ds flat < 0) : takeK (putK ds flat k) flat k = ds := by
  have hl : (putK ds flat k).length = ds.length := setFl_len _ _ _
  have hf : ((DrV.at (putK ds flat k) k).fl.filter fun y => !(y == flat)) = ds[k].fl := by
    rw [at_put hk]
    exact filter_insL (notin_where h _ (List.getElem_mem hk))
  unfold takeK
  rw [hf]
  apply List.ext_getElem (by rw [setFl_len, hl])
  intro i h1 h2
  rw [setFl_get (show i < (putK ds flat k).length by omega)]
  by_cases he : i = k
  · subst he
    rw [if_pos rfl]
    have := at_put (flat := flat) hk
    rw [DrV.at_lt (by omega)] at this
    rw [this]
  · rw [if_neg (by omega)]
    rw [putK_get h2, if_neg (by omega)]
theorem put_is {fs : List SFlat} {ds : List DrV} {flat id : Int} (h : (putV fs ds flat id).2 = true) : ∃ k, ∃ hk : k < ds.length, idxD ds id = (k : Int) ∧ ds[k].ident = id ∧ looseB fs ds flat = true ∧ goodDs fs (putK ds flat k) = true ∧ putV fs ds flat id = (putK ds flat k, true) := by
  unfold putV at h
  split at h
  · rename_i hc
    obtain ⟨⟨h1, h2⟩, h3⟩ := hc
    rcases idxD_place ds id with h4 | ⟨k, hk, h4, h5⟩
    · omega
    · rw [h4, Int.toNat_natCast] at h3
      refine ⟨k, hk, h4, h5, h1, h3, ?_⟩
      unfold putV
      rw [h4, Int.toNat_natCast]
      exact if_pos ⟨⟨h1, by omega⟩, h3⟩
  · cases h
theorem put_df (fs : List SFlat) (ds : List DrV) (flat id : Int) : (putV fs ds flat id).2 = ((dfV fs ds flat).2 && decide (id ∈ (dfV fs ds flat).1)) := by
  cases hlo : looseB fs ds flat with
  | false =>
    rw [show dfV fs ds flat = ([], false) from if_neg (by rw [hlo]; simp), show putV fs ds flat id = ([], false) from if_neg (by rw [hlo]; simp)]
    rfl
  | true =>
    rw [show dfV fs ds flat = (dfIds fs ds flat ds.length, true) from if_pos hlo, Bool.true_and]
    simp only
    cases hp : (putV fs ds flat id).2 with
    | true =>
      obtain ⟨k, hk, _, h5, _, h3, _⟩ := put_is hp
      refine (decide_eq_true ?_).symm
      unfold dfIds
      exact List.mem_map.2 ⟨k, List.mem_filter.2 ⟨List.mem_range.2 hk, h3⟩, by rw [DrV.at_lt hk, h5]⟩
    | false =>
      refine (decide_eq_false ?_).symm
      intro hm
      unfold dfIds at hm
      obtain ⟨k, hk, rfl⟩ := List.mem_map.1 hm
      obtain ⟨h1, h2⟩ := List.mem_filter.1 hk
      have h3 := putV_can hlo (List.mem_range.1 h1)
      rw [h2, hp] at h3
      cases h3
theorem put_law {fs : List SFlat} {ds : List DrV} {flat id : Int} (hf : fitG fs) (h : (putV fs ds flat id).2 = true) :
    drOfV fs (putV fs ds flat id).1 flat = (id, true) ∧ (gramsInV fs ds id).2 = true ∧ (gramsInV fs (putV fs ds flat id).1 id).2 = true ∧ takeV fs (putV fs ds flat id).1 flat = (ds, true) ∧
    (-2000000 ≤ (gramsInV fs ds id).1 ∧ (gramsInV fs ds id).1 ≤ 2000000) ∧ (-2000000 ≤ (gramsInV fs (putV fs ds flat id).1 id).1 ∧ (gramsInV fs (putV fs ds flat id).1 id).1 ≤ 2000000) ∧
    ∀ i, ∀ hi : i < fs.length, fs[i].ident = flat → (gramsInV fs (putV fs ds flat id).1 id).1 - (gramsInV fs ds id).1 = fs[i].grams := by
  obtain ⟨k, hk, hik, hid, hlo, hgn, hpv⟩ := put_is h
  obtain ⟨hg, hfi, hwh⟩ := looseB_iff.1 hlo
  rw [hpv]
  simp only
  have hat := at_put (flat := flat) hk
  have hwp := whereD_put hk hwh
  have hl : (putK ds flat k).length = ds.length := setFl_len _ _ _
  have hix : idxD (putK ds flat k) id = (k : Int) := by
    have := idxD_self hgn (i := k) (by omega)
    rw [hat] at this
    rw [← hid]; exact this
  have hlen := goodDs_fl hg _ (List.getElem_mem hk)
  have e1 : gramsInV fs ds id = (sumW fs ds[k].fl, true) := by
    unfold gramsInV
    rw [hik, Int.toNat_natCast, if_pos ⟨hg, by omega⟩, DrV.at_lt hk]
  have e2 : gramsInV fs (putK ds flat k) id = (sumW fs ds[k].fl + (gOf fs flat).grams, true) := by
    unfold gramsInV
    rw [hix, Int.toNat_natCast, if_pos ⟨hgn, by omega⟩, hat, sumW_insL]
  have hb := sumW_small hf ds[k].fl
  have hc := gOf_small hf flat
  refine ⟨?_, by rw [e1], by rw [e2], ?_, ?_, ?_, ?_⟩
  · unfold drOfV
    rw [hwp, Int.toNat_natCast, if_pos ⟨hgn, hfi⟩, if_pos (by omega), hat, hid]
  · unfold takeV
    rw [hwp, Int.toNat_natCast, if_pos ⟨hgn, by omega⟩, take_put hk hwh]
  · rw [e1]; simp only; omega
  · rw [e2]; simp only; omega
  · intro i hi he
    rw [e1, e2]
    simp only
    rw [← he, gOf_self (goodDs_F hg) hi]
    omega
end Go.Proofs.Ytdbcilinoieabaa
