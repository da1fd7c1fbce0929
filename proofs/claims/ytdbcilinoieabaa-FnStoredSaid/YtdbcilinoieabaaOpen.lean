/- How the slices among a law's arguments read as lists of elements (from the row's own reading of the arguments). No condition; nothing here speaks of the program. -/
import Derived.Test.YtdbcilinoieabaaBase
import Derived.ProofKit
import Derived.OpenShut
import Derived.Deep.Slices
import Derived.Deep.Fields
import Derived.ChangeOld
namespace Go.Proofs.Ytdbcilinoieabaa
open Go.RowKit Go.ChangeShapes Go.WideShapes Go.Deep

section
variable {H : Type} {enc' : TypeId × Value → H} {P : Program} {w : World} {sp : Nat → Bool} {held : Bool}

theorem row_of_slice {α : Type} {k : Nat} {enc : α → Nat → Value} {ok : α → Prop} {t e : TypeId} (hk0 : 0 < k) (ht : P.underlying t = some (.slice e)) (hk : P.cellsOf e = k)
    (hel : ∀ n cs' y, DataW.trod enc' P w 0 sp held n e cs' = some y → cs'.length = k → ∃ x, ok x ∧ ∀ j, j < k → cs'[j]? = some (enc x j))
    {A : Option Addr} {len cap : Nat} {d : DataW H} {p : List MemPlace} (h : DataW.Trod enc' P w 0 sp held t (.slice A len cap) d p) :
    ∃ zs : List α, zs.length = len ∧ (∀ z ∈ zs, ok z) ∧ len ≤ cap ∧ cap ≤ maxLen ∧ Row k enc w w.heap.size A zs := by
  obtain ⟨fuel, hf⟩ := h
  rcases open_slice ht hf with ⟨hcs, _⟩ | ⟨a, l, c, m, n, D, Pl, hcs, _, hl, hm, hmm, _, hi⟩
  · simp [Value.cells] at hcs
    obtain ⟨rfl, rfl, rfl⟩ := hcs
    exact ⟨[], rfl, by simp, Nat.le_refl _, Nat.zero_le _, .inl rfl⟩
  · simp [Value.cells] at hcs
    obtain ⟨rfl, rfl, rfl⟩ := hcs
    have hlm : len ≤ m := by rw [hmm]; split <;> omega
    have hch : ∀ i : Fin len, ∃ x, ok x ∧ ∀ j, j < k → w.cell? (a.add (i.1 * k + j)) = some (enc x j) := by
      intro i
      obtain ⟨cs', hc, htr⟩ := hi i.1 (by have := i.2; omega)
      obtain ⟨_, hcl, hat⟩ := World.cells?_some hc
      obtain ⟨x, hox, hx⟩ := hel _ _ _ htr (by rw [hcl, hk])
      refine ⟨x, hox, fun j hj => ?_⟩
      have := hat j (by rw [hk]; exact hj)
      rw [hx j hj, Go.Deep.add_add, hk] at this
      exact this
    let f : Fin len → α := fun i => (hch i).choose
    have hf1 : ∀ i, ok (f i) := fun i => (hch i).choose_spec.1
    have hf2 : ∀ i j, j < k → w.cell? (a.add (i.1 * k + j)) = some (enc (f i) j) := fun i => (hch i).choose_spec.2
    refine ⟨List.ofFn f, by simp, fun z hz => by obtain ⟨i, rfl⟩ := List.mem_ofFn.1 hz; exact hf1 i, hl, hm, ?_⟩
    by_cases h0 : len = 0
    · subst h0
      exact .inl (by simp)
    · have hc0 := hf2 ⟨0, by omega⟩ 0 hk0
      obtain ⟨b, off, spot⟩ := a
      have hspot : spot = none := by simpa [Addr.add] using World.cell?_spot (by simpa [Addr.add] using hc0)
      subst hspot
      refine .inr ⟨b, off, rfl, by simpa [Addr.add] using World.block_lt_of_cell? w _ hc0, fun i x hx j hj => ?_⟩
      obtain ⟨hil, rfl⟩ := List.getElem?_eq_some_iff.1 hx
      have hil' : i < len := by simpa using hil
      have := hf2 ⟨i, hil'⟩ j hj
      rw [List.getElem_ofFn]
      rw [Addr.add_lit, ← Nat.add_assoc] at this
      exact this

/-- the cells of a struct of one-cell fields, field by field -/
theorem fields_of_struct {e : TypeId} {fs : Array Field} {n : Nat} {cs : List Value} {y : DataW H × List MemPlace} (he : P.underlying e = some (.struct fs)) (hone : oneCellFields P fs = true)
    (h : DataW.trod enc' P w 0 sp held n e cs = some y) (hl : cs.length = fs.size) :
    ∃ m, ∀ (j : Nat) (f : Field), fs[j]? = some f → ∃ v z, cs[j]? = some v ∧ DataW.trod enc' P w 0 sp held m f.type [v] = some z := by
  obtain ⟨xs, m, _, _, _, hxl, hf⟩ := DataW.trod_struct he h
  refine ⟨m, fun j f hj => ?_⟩
  obtain ⟨ho, hk⟩ := hone_of hone j f hj
  have hjl : j < fs.size := (Array.getElem?_eq_some_iff.1 hj).1
  have hjc : j < cs.length := by omega
  have h1 := hf j f hj
  rw [ho, hk] at h1
  have hone' : (cs.drop j).take 1 = [cs[j]] := by
    rw [List.drop_eq_getElem_cons hjc]
    rfl
  rw [hone'] at h1
  exact ⟨cs[j], xs[j]'(by omega), List.getElem?_eq_getElem hjc, h1.trans (List.getElem?_eq_getElem (by omega))⟩
end

theorem ok_int {H : Type} {enc' : TypeId × Value → H} {P : Program} {w : World} {sp : Nat → Bool} {held : Bool} {t : TypeId} {k : IntKind} {n : Nat} {cs : List Value} {y : DataW H × List MemPlace} (ht : P.underlying t = some (.int k))
    (h : DataW.trod enc' P w 0 sp held n t cs = some y) : ∃ x : Int, (Lit.int k x).wf = true ∧ ∀ j, j < 1 → cs[j]? = some (.int k x) := by
  obtain ⟨x, rfl, _, hw⟩ := DataW.trod_int ht h
  exact ⟨x, hw, fun j hj => by
    have h0 : j = 0 := by omega
    subst h0; rfl⟩
end Go.Proofs.Ytdbcilinoieabaa
