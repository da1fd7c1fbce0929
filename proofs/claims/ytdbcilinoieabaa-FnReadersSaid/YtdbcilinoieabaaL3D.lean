/- Helpers on own rows of readers (clone, an element written), and plain facts of good lists of readers. Condition: lengths up to 1048576 where a list is cloned. (Printed by mkr3d.py.) -/
import Derived.Test.YtdbcilinoieabaaL3C
namespace Go.Proofs.Ytdbcilinoieabaa
open Go.RowKit Go.Lib
set_option linter.unusedVariables false
/-- an own row with elements lies in a block -/
theorem own_blk {α : Type} {k : Nat} {enc : α → Nat → Value} {e : TypeId} {w : World} {base : Nat} {v : Value} {xs : List α} (h : Own k enc e w base v xs) (hp : 0 < xs.length) :
    ∃ g cap cs, v = .slice (some ⟨g, 0, none⟩) xs.length cap ∧ base ≤ g ∧ Blk w g e cs ∧ xs.length ≤ cap ∧ cap ≤ maxLen ∧ cs.size = cap * k ∧ Filled k enc cs xs.length xs := by
  rcases h with ⟨_, rfl⟩ | h
  · simp at hp
  · exact h
theorem src_row {α : Type} {k : Nat} {enc : α → Nat → Value} {ys : List α} {w : World} {B : Nat} {ad : Addr} (h : Row k enc w B (some ad) ys) (hk : 0 < k) :
    ∀ j u, (flat k enc ys)[j]? = some u → w.cell? (ad.add j) = some u := by
  intro j u hu
  have hlt : j < (flat k enc ys).length := (List.getElem?_eq_some_iff.1 hu).1
  rw [flat_length] at hlt
  have hi : j / k < ys.length := Nat.div_lt_of_lt_mul (by rw [Nat.mul_comm]; exact hlt)
  have hj : j % k < k := Nat.mod_lt _ hk
  have he : j / k * k + j % k = j := Nat.div_add_mod' j k
  have h2 := flat_get (enc := enc) (List.getElem?_eq_getElem hi) hj
  rw [he, hu] at h2
  obtain ⟨b, off, hA, _, hc⟩ := h.get hi
  injection hA with hA; subst hA
  have h1 := hc _ hj
  rw [Nat.add_assoc, he] at h1
  rw [Addr.add_lit, h1, h2]
theorem get5 (cs : Array Value) (a m : Nat) (u0 u1 u2 u3 u4 : Value) (hs : a + 4 < cs.size) :
    (((((cs.setIfInBounds a u0).setIfInBounds (a + 1) u1).setIfInBounds (a + 2) u2).setIfInBounds (a + 3) u3).setIfInBounds (a + 4) u4)[m]? = if m = a then some u0 else if m = a + 1 then some u1 else if m = a + 2 then some u2 else if m = a + 3 then some u3 else if m = a + 4 then some u4 else cs[m]? := by
  simp only [Array.getElem?_setIfInBounds, Array.size_setIfInBounds]
  by_cases h4 : a + 4 = m
  · subst h4; rw [if_pos rfl, if_pos hs, if_neg (by omega), if_neg (by omega), if_neg (by omega), if_neg (by omega), if_pos rfl]
  by_cases h3 : a + 3 = m
  · subst h3; rw [if_neg (by omega), if_pos rfl, if_pos (by omega), if_neg (by omega), if_neg (by omega), if_neg (by omega), if_pos rfl]
  by_cases h2 : a + 2 = m
  · subst h2; rw [if_neg (by omega), if_neg (by omega), if_pos rfl, if_pos (by omega), if_neg (by omega), if_neg (by omega), if_pos rfl]
  by_cases h1 : a + 1 = m
  · subst h1; rw [if_neg (by omega), if_neg (by omega), if_neg (by omega), if_pos rfl, if_pos (by omega), if_neg (by omega), if_pos rfl]
  by_cases h0 : a = m
  · subst h0; rw [if_neg (by omega), if_neg (by omega), if_neg (by omega), if_neg (by omega), if_pos rfl, if_pos (by omega), if_pos rfl]
  rw [if_neg h4, if_neg h3, if_neg h2, if_neg h1, if_neg h0, if_neg (by omega), if_neg (by omega), if_neg (by omega), if_neg (by omega), if_neg (by omega)]
theorem filled_set5 {α : Type} {enc : α → Nat → Value} {cs : Array Value} {xs : List α} (h : Filled 5 enc cs xs.length xs) {j a : Nat} (ha : a = j * 5) (hs : a + 4 < cs.size) (x : α) {u0 u1 u2 u3 u4 : Value} (h0 : enc x 0 = u0) (h1 : enc x 1 = u1) (h2 : enc x 2 = u2) (h3 : enc x 3 = u3) (h4 : enc x 4 = u4) :
    Filled 5 enc (((((cs.setIfInBounds a u0).setIfInBounds (a + 1) u1).setIfInBounds (a + 2) u2).setIfInBounds (a + 3) u3).setIfInBounds (a + 4) u4) (xs.set j x).length (xs.set j x) := by
  intro i y hi hy c hc
  rw [List.length_set] at hi
  rw [get5 cs a (i * 5 + c) u0 u1 u2 u3 u4 hs]
  by_cases hij : j = i
  · subst hij
    rw [List.getElem?_set_self hi] at hy
    have hy2 := Option.some.inj hy
    subst hy2
    by_cases c0 : c = 0
    · subst c0; rw [if_pos (by omega), h0]
    by_cases c1 : c = 1
    · subst c1; rw [if_neg (by omega), if_pos (by omega), h1]
    by_cases c2 : c = 2
    · subst c2; rw [if_neg (by omega), if_neg (by omega), if_pos (by omega), h2]
    by_cases c3 : c = 3
    · subst c3; rw [if_neg (by omega), if_neg (by omega), if_neg (by omega), if_pos (by omega), h3]
    have c4 : c = 4 := by omega
    subst c4; rw [if_neg (by omega), if_neg (by omega), if_neg (by omega), if_neg (by omega), if_pos (by omega), h4]
  · rw [List.getElem?_set_ne hij] at hy
    rw [if_neg (by omega), if_neg (by omega), if_neg (by omega), if_neg (by omega), if_neg (by omega)]
    exact h i y hi hy c hc
/-- an element of five cells of an own row is written -/
theorem Own.set5 {α : Type} {enc : α → Nat → Value} {e : TypeId} {w : World} {base g cap n : Nat} {xs : List α} (h : Own 5 enc e w base (.slice (some ⟨g, 0, none⟩) n cap) xs) {j a : Nat} (ha : a = j * 5) (hj : j < xs.length) (x : α) {u0 u1 u2 u3 u4 : Value} (h0 : enc x 0 = u0) (h1 : enc x 1 = u1) (h2 : enc x 2 = u2) (h3 : enc x 3 = u3) (h4 : enc x 4 = u4) :
    Own 5 enc e (((((w.setCell ⟨g, a, none⟩ u0).setCell ⟨g, a + 1, none⟩ u1).setCell ⟨g, a + 2, none⟩ u2).setCell ⟨g, a + 3, none⟩ u3).setCell ⟨g, a + 4, none⟩ u4) base (.slice (some ⟨g, 0, none⟩) n cap) (xs.set j x) := by
  obtain ⟨g', cap', cs, he, a1, a2, a3, a4, a5, a6⟩ := own_blk h (by omega)
  simp only [Value.slice.injEq, Option.some.injEq, Addr.mk.injEq, true_and, and_true] at he
  obtain ⟨rfl, rfl, rfl⟩ := he
  have hsz : a + 4 < cs.size := by rw [a5]; omega
  have hb := ((((a2.set a u0).set (a + 1) u1).set (a + 2) u2).set (a + 3) u3).set (a + 4) u4
  have hf := filled_set5 a6 ha hsz x h0 h1 h2 h3 h4
  have hs : (((((cs.setIfInBounds a u0).setIfInBounds (a + 1) u1).setIfInBounds (a + 2) u2).setIfInBounds (a + 3) u3).setIfInBounds (a + 4) u4).size = cap * 5 := by simp only [Array.size_setIfInBounds]; exact a5
  generalize ((((cs.setIfInBounds a u0).setIfInBounds (a + 1) u1).setIfInBounds (a + 2) u2).setIfInBounds (a + 3) u3).setIfInBounds (a + 4) u4 = cs5 at hb hf hs
  have hl : (xs.set j x).length = xs.length := List.length_set
  refine Or.inr ⟨g, cap, cs5, ?_, a1, hb, ?_, a4, hs, hf⟩
  · rw [hl]
  · rw [hl]; exact a3
theorem filled_set1 {α : Type} {enc : α → Nat → Value} {cs : Array Value} {xs : List α} (h : Filled 5 enc cs xs.length xs) {j a c0 : Nat} (ha : a = j * 5 + c0) (hc0 : c0 < 5) (hs : a < cs.size) (x y : α) (hj : xs[j]? = some y) {u : Value} (hu : enc x c0 = u) (hne : ∀ c, c < 5 → c ≠ c0 → enc x c = enc y c) :
    Filled 5 enc (cs.setIfInBounds a u) (xs.set j x).length (xs.set j x) := by
  intro i z hi hz c hc
  rw [List.length_set] at hi
  by_cases hij : j = i
  · subst hij
    rw [List.getElem?_set_self hi] at hz
    have hz2 := Option.some.inj hz
    subst hz2
    by_cases c1 : c = c0
    · subst c1; rw [← ha, Array.getElem?_setIfInBounds_self_of_lt hs, hu]
    · rw [Array.getElem?_setIfInBounds_ne (by omega), h j y hi hj c hc, hne c hc c1]
  · rw [List.getElem?_set_ne hij] at hz
    rw [Array.getElem?_setIfInBounds_ne (by omega)]
    exact h i z hi hz c hc
/-- one cell of an element of an own row is written -/
theorem Own.set1 {α : Type} {enc : α → Nat → Value} {e : TypeId} {w : World} {base g cap n : Nat} {xs : List α} (h : Own 5 enc e w base (.slice (some ⟨g, 0, none⟩) n cap) xs) {j a c0 : Nat} (ha : a = j * 5 + c0) (hc0 : c0 < 5) (hj : j < xs.length) (x y : α) (hy : xs[j]? = some y) {u : Value} (hu : enc x c0 = u) (hne : ∀ c, c < 5 → c ≠ c0 → enc x c = enc y c) :
    Own 5 enc e (w.setCell ⟨g, a, none⟩ u) base (.slice (some ⟨g, 0, none⟩) n cap) (xs.set j x) := by
  obtain ⟨g', cap', cs, he, a1, a2, a3, a4, a5, a6⟩ := own_blk h (by omega)
  simp only [Value.slice.injEq, Option.some.injEq, Addr.mk.injEq, true_and, and_true] at he
  obtain ⟨rfl, rfl, rfl⟩ := he
  have hsz : a < cs.size := by rw [a5]; omega
  have hb := a2.set a u
  have hf := filled_set1 a6 ha hc0 hsz x y hy hu hne
  have hs : (cs.setIfInBounds a u).size = cap * 5 := by simp only [Array.size_setIfInBounds]; exact a5
  generalize cs.setIfInBounds a u = cs5 at hb hf hs
  have hl : (xs.set j x).length = xs.length := List.length_set
  refine Or.inr ⟨g, cap, cs5, ?_, a1, hb, ?_, a4, hs, hf⟩
  · rw [hl]
  · rw [hl]; exact a3
theorem own_emptyR (w : World) {B : Nat} (hB : B ≤ w.heap.size) : Own 5 SReader.enc 49 (w.alloc (.cells #[] 49)) B (.slice (some ⟨w.heap.size, 0, none⟩) 0 0) ([] : List SReader) :=
  Own.made (cs := #[]) rfl hB (Blk.new _ _ _) rfl (Nat.zero_le _) Filled.zero
theorem src_any {α : Type} {k : Nat} {enc : α → Nat → Value} {ys : List α} {w : World} {B : Nat} {ad : Addr} (h : Row k enc w B (some ad) ys) (hk : 0 < k) :
    ∀ j u, (flat k enc ys)[j]? = some u → w.cell? (ad.add j) = some u := src_row h hk
set_option maxRecDepth 10000 in
theorem cloneR_any (v : Value) (xs : List SReader) (w : World) (h : Is 5 SReader.enc w v xs) (h1 : xs.length ≤ 1048576) :
    Calls Try.prog 88 #[v] w fun e w' => ∃ r, e = .returned r ∧ Own 5 SReader.enc 49 w' w.heap.size r xs ∧ Below w.heap.size w w' := by
  obtain ⟨A, cap, rfl, hr, _, _⟩ := h
  have hnil := fun W => Go.Lib.run_eql_slice_nil (P := Try.prog) W 37 49 A xs.length cap 0 0 Try.underlying37
  cases A with
  | none =>
    have hx : xs = [] := by
      rcases hr with h | ⟨b, off, h, _⟩
      · exact h
      · cases h
    subst hx
    clear hr hnil
    rw [List.length_nil]
    have hnil := fun W => Go.Lib.run_eql_slice_nil (P := Try.prog) W 37 49 none 0 cap 0 0 Try.underlying37
    go_enter Try.func88, Try.ntmps88
    go_wp2_with fail
    go_ret
    exact ⟨_, rfl, Own.nil, Below.refl _ _⟩
  | some ad =>
    have HR := hide hr; clear hr
    go_enter Try.func88, Try.ntmps88
    have HO := hide (own_emptyR w (Nat.le_refl w.heap.size))
    have B1 := below_alloc w (.cells #[] 49)
    go_wp2_with (at_builtin; refine wpList_push (k := 5) (enc := SReader.enc) _ rfl _ _ 37 rfl 49 (.agg #[.int .i64 0, .string ⟨#[]⟩, .int .i64 0, .int .i64 0, .int .i64 0]) 48 Try.underlying37 SReader.info rfl (by omega) SReader.one w.heap.size _ [] rfl HO.out ad cap xs rfl (src_row (HR.out.below B1 (Nat.le_refl _) B1.size) (by omega)) (by simp; omega) (by simp; omega) B1.size ?_; intro v1 w1 ho1 hg1 _; have hb1 := HO.out.belowGrown B1 hg1 (Nat.le_refl _) B1.size; rw [List.nil_append] at ho1; have HO1 := hide ho1; clear ho1 hg1)
    go_ret
    exact ⟨_, rfl, HO1.out, hb1⟩
/-! ### plain facts -/
theorem idxF_three {α : Type} (p : α → Bool) (xs : List α) : (idxF p xs = -1 ∧ ∀ c ∈ xs, p c = false) ∨ ∃ i, ∃ h : i < xs.length, idxF p xs = (i : Int) ∧ p xs[i] = true ∧ ∀ c ∈ xs.take i, p c = false := by
  unfold idxF
  rcases h : xs.findIdx? p with _ | i
  · exact .inl ⟨rfl, by simpa [List.findIdx?_eq_none_iff] using h⟩
  · right
    rw [List.findIdx?_eq_some_iff_getElem] at h
    obtain ⟨hi, hp, hn⟩ := h
    refine ⟨i, hi, rfl, hp, fun c hc => ?_⟩
    obtain ⟨j, hj, rfl⟩ := List.mem_iff_getElem.1 hc
    rw [List.length_take] at hj
    rw [List.getElem_take]
    simpa using hn j (by omega)
theorem findR_cases (xs : List SReader) (id : Int) : (findR xs id = -1 ∧ ∀ c ∈ xs, c.ident ≠ id) ∨ ∃ k, k < xs.length ∧ findR xs id = (k : Int) ∧ (SReader.at xs k).ident = id := by
  rcases idxF_three (fun c : SReader => c.ident == id) xs with ⟨h1, h2⟩ | ⟨i, hi, h1, h2, _⟩
  · exact .inl ⟨h1, fun c hc => by simpa using h2 c hc⟩
  · exact .inr ⟨i, hi, h1, by rw [SReader.at_lt hi]; simpa using h2⟩
theorem goodR_len {xs : List SReader} (h : goodR xs = true) : xs.length ≤ 10 := by
  unfold goodR at h
  rw [Bool.and_eq_true, decide_eq_true_eq] at h
  exact h.2
theorem goodR_ok {xs : List SReader} (h : goodR xs = true) {i : Nat} (hi : i < xs.length) : (SReader.at xs i).okB = true ∧ (i = 0 ∨ (SReader.at xs (i - 1)).ident < (SReader.at xs i).ident) := by
  unfold goodR at h
  rw [Bool.and_eq_true, List.all_eq_true] at h
  have := h.1 i (List.mem_range.2 hi)
  unfold okR at this
  rw [Bool.and_eq_true, Bool.or_eq_true, decide_eq_true_eq, decide_eq_true_eq] at this
  exact this
theorem goodR_mk {xs : List SReader} (h1 : xs.length ≤ 10) (h : ∀ i, i < xs.length → (SReader.at xs i).okB = true ∧ (i = 0 ∨ (SReader.at xs (i - 1)).ident < (SReader.at xs i).ident)) : goodR xs = true := by
  unfold goodR
  rw [Bool.and_eq_true, List.all_eq_true, decide_eq_true_eq]
  refine ⟨fun i hi => ?_, h1⟩
  unfold okR
  rw [Bool.and_eq_true, Bool.or_eq_true, decide_eq_true_eq, decide_eq_true_eq]
  exact h i (List.mem_range.1 hi)
theorem goodR_asc {xs : List SReader} (h : goodR xs = true) {i j : Nat} (hij : i < j) (hj : j < xs.length) : (SReader.at xs i).ident < (SReader.at xs j).ident := by
  induction j with
  | zero => omega
  | succ j ih =>
    have h1 := (goodR_ok h hj).2
    rw [show j + 1 - 1 = j by omega] at h1
    have h2 : (SReader.at xs j).ident < (SReader.at xs (j + 1)).ident := h1.resolve_left (by omega)
    by_cases hx : i = j
    · subst hx; exact h2
    · have := ih (by omega) (by omega); omega
theorem goodR_one {xs : List SReader} (h : goodR xs = true) {i j : Nat} (hi : i < xs.length) (hj : j < xs.length) (he : (SReader.at xs i).ident = (SReader.at xs j).ident) : i = j := by
  rcases Nat.lt_trichotomy i j with h1 | h1 | h1
  · have := goodR_asc h h1 hj; omega
  · exact h1
  · have := goodR_asc h h1 hi; omega
theorem SReader.at_set {xs : List SReader} {k i : Nat} (x : SReader) (hk : k < xs.length) : SReader.at (xs.set k x) i = if i = k then x else SReader.at xs i := by
  unfold SReader.at
  rw [List.getD_eq_getElem?_getD, List.getD_eq_getElem?_getD, List.getElem?_set]
  by_cases h : k = i
  · subst h; rw [if_pos rfl, if_pos hk, if_pos rfl]; rfl
  · rw [if_neg h, if_neg (fun e => h e.symm)]
theorem goodR_set {xs : List SReader} (h : goodR xs = true) {k : Nat} (hk : k < xs.length) {x : SReader} (hx : x.okB = true) (hid : x.ident = (SReader.at xs k).ident) : goodR (xs.set k x) = true := by
  refine goodR_mk (by rw [List.length_set]; exact goodR_len h) fun i hi => ?_
  rw [List.length_set] at hi
  have h0 := goodR_ok h hi
  rw [SReader.at_set x hk, SReader.at_set x hk]
  refine ⟨?_, ?_⟩
  · split
    · exact hx
    · exact h0.1
  · rcases h0.2 with h1 | h1
    · exact .inl h1
    · right
      by_cases e1 : i - 1 = k
      · by_cases e2 : i = k
        · rw [e1, e2] at h1; omega
        · rw [if_pos e1, if_neg e2, hid, ← e1]; exact h1
      · by_cases e2 : i = k
        · rw [if_neg e1, if_pos e2, hid, ← e2]; exact h1
        · rw [if_neg e1, if_neg e2]; exact h1
theorem wf_set {xs : List SReader} {k : Nat} {x : SReader} (h : ∀ z ∈ xs, z.wf) (hx : x.wf) : ∀ z ∈ xs.set k x, z.wf := fun z hz => by
  rcases List.mem_or_eq_of_mem_set hz with h1 | h1
  · exact h z h1
  · rw [h1]; exact hx
theorem ident_fit {x : Int} (h : -1000000 ≤ x ∧ x ≤ 1000000) : (Lit.int .i64 x).wf = true := by
  simp [Lit.wf, IntKind.min, IntKind.max, IntKind.signed, IntKind.bits]; omega
end Go.Proofs.Ytdbcilinoieabaa
