/- What the law FnStored asks of StoreAll, from the plain law. Condition: small grams. -/
import Derived.Test.YtdbcilinoieabaaL6F
namespace Go.Proofs.Ytdbcilinoieabaa
open Go.RowKit Go.Sort
set_option linter.unusedVariables false
theorem notin_ids {fs : List SFlat} {ds : List DrV} {y : Int} (h : 0 ≤ whereD ds y) : y ∉ (looseL fs ds).map SFlat.ident := fun hm => by
  obtain ⟨z, hz, rfl⟩ := List.mem_map.1 hm
  have := (List.mem_filter.1 hz).2
  simp at this; omega
theorem store_law {fs : List SFlat} {ds : List DrV} (hg : goodDs fs ds = true) :
    goodDs fs (stV fs ds) = true ∧ (∀ id ∈ looseIds fs (stV fs ds), dfV fs (stV fs ds) id = ([], true)) ∧
    ∀ i, ∀ hi : i < fs.length, ∃ a b : Int, drOfV fs ds fs[i].ident = (a, true) ∧ drOfV fs (stV fs ds) fs[i].ident = (b, true) ∧ (0 < a → a = b) ∧ ((b = 0) ↔ fs[i].ident ∈ looseIds fs (stV fs ds)) := by
  have hF := goodDs_F hg
  have hgs : goodDs fs (stV fs ds) = true := fold_good _ hg
  have hperm := stD_perm (ltOf Go.Proofs.Ytdbcilinoieabaa.cfF) (looseL fs ds)
  obtain ⟨k1, k2, k3, k4⟩ := store_keeps (orderV fs ds) ds [] hg (fun z hz => (looseB_iff.1 (order_loose hg z hz)).2.2) (order_apart hF ds) (fun z _ h => by cases h) (fun y h => by cases h)
  have hids : ∀ y, y ∈ (orderV fs ds).map SFlat.ident ↔ y ∈ (looseL fs ds).map SFlat.ident := fun y => by
    constructor
    · intro h
      obtain ⟨z, hz, rfl⟩ := List.mem_map.1 h
      exact List.mem_map.2 ⟨z, hperm.mem_iff.1 hz, rfl⟩
    · intro h
      obtain ⟨z, hz, rfl⟩ := List.mem_map.1 h
      exact List.mem_map.2 ⟨z, hperm.mem_iff.2 hz, rfl⟩
  have hold : ∀ y, 0 ≤ whereD ds y → whereD (stV fs ds) y = whereD ds y := fun y hy => k3 y (fun h => notin_ids hy ((hids y).1 h))
  have hmem : ∀ (d : List DrV) i, (hi : i < fs.length) → (fs[i].ident ∈ looseIds fs d ↔ whereD d fs[i].ident < 0) := fun d i hi => by
    constructor
    · intro h
      obtain ⟨z, hz, he⟩ := List.mem_map.1 h
      have := (List.mem_filter.1 hz).2
      rw [he] at this
      simpa using this
    · intro h
      exact List.mem_map.2 ⟨fs[i], List.mem_filter.2 ⟨List.getElem_mem hi, by simpa using h⟩, rfl⟩
  refine ⟨hgs, fun id hid => ?_, fun i hi => ?_⟩
  · obtain ⟨z, hz, rfl⟩ := List.mem_map.1 hid
    have hlo := loose_mem hgs hz
    have hw := (looseB_iff.1 hlo).2.2
    have hwo : whereD ds z.ident < 0 := by
      by_cases h : 0 ≤ whereD ds z.ident
      · rw [hold _ h] at hw; omega
      · omega
    have hzl : z ∈ looseL fs ds := List.mem_filter.2 ⟨(List.mem_filter.1 hz).1, by simpa using hwo⟩
    have hno := k2 z.ident (.inr ((hids _).2 (List.mem_map.2 ⟨z, hzl, rfl⟩))) hw
    have hl : (stV fs ds).length = ds.length := k1
    unfold dfV
    rw [if_pos hlo]
    have : dfIds fs (stV fs ds) z.ident (stV fs ds).length = [] := by
      unfold dfIds
      rw [List.map_eq_nil_iff, List.filter_eq_nil_iff]
      intro k hk
      rw [List.mem_range, hl] at hk
      have := hno k hk
      show ¬ canB fs (stV fs ds) z.ident k = true
      rw [show canB fs (stV fs ds) z.ident k = false from this]
      simp
    rw [this]
  · have hfi := findF_self hF hi
    have ho : ∀ d, goodDs fs d = true → drOfV fs d fs[i].ident = (if 0 ≤ whereD d fs[i].ident then (DrV.at d (whereD d fs[i].ident).toNat).ident else 0, true) := fun d hd => by
      unfold drOfV
      rw [if_pos ⟨hd, by omega⟩]
    have hpos : ∀ d, goodDs fs d = true → 0 ≤ whereD d fs[i].ident → 1 ≤ (DrV.at d (whereD d fs[i].ident).toNat).ident := fun d hd h => by
      rcases whereD_place d fs[i].ident with ⟨h1, _⟩ | ⟨k, hk, h1, _⟩
      · omega
      · rw [h1, Int.toNat_natCast]; exact ident_pos hd hk
    refine ⟨_, _, ho ds hg, ho _ hgs, fun ha => ?_, ?_⟩
    · by_cases h : 0 ≤ whereD ds fs[i].ident
      · rw [hold _ h, if_pos h, if_pos h]
        exact (k4 _).symm
      · rw [if_neg h] at ha; omega
    · rw [hmem _ i hi]
      by_cases h : 0 ≤ whereD (stV fs ds) fs[i].ident
      · have := hpos _ hgs h
        rw [if_pos h]
        constructor <;> intro <;> omega
      · rw [if_neg h]
        constructor <;> intro <;> omega
end Go.Proofs.Ytdbcilinoieabaa
