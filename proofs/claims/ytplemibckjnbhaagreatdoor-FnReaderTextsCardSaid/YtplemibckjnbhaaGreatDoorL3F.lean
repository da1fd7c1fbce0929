import Derived.Test.YtplemibckjnbhaaGreatDoorL3C
/- Helpers on own rows of readers (clone, an element written), and plain facts of good lists of readers. Condition: lengths up to 1048576 where a list is cloned. (Printed by mkr3d.py.) -/
namespace Go.Proofs.YtplemibckjnbhaaGreatDoor
open Go.RowKit Go.Lib
set_option linter.unusedVariables false
/-- an own row with elements lies in a block -/
theorem own_blk {α : Type} {k : Nat} {enc : α → Nat → Value} {e : TypeId} {w : World} {base : Nat} {v : Value} {xs : List α} (h : Own k enc e w base v xs) (hp : 0 < xs.length) :
    ∃ g cap cs, v = .slice (some ⟨g, 0, none⟩) xs.length cap ∧ base ≤ g ∧ Blk w g e cs ∧ xs.length ≤ cap ∧ cap ≤ maxLen ∧ cs.size = cap * k ∧ Filled k enc cs xs.length xs := by
  rcases h with ⟨_, rfl⟩ | h
  · simp at hp
  · exact h
theorem src_row {α : Type} {k : Nat} {enc : α → Nat → Value} {ys : List α} {w : World} {B : Nat} {ad : Addr} (h : Row k enc w B (some ad) ys) (hk : 0 < k) :
    ∀ j u, (flat k enc ys)[j]? = some u → w.cell? (ad.add j) = some u := by
  intro j u hu
  have hlt : j < (flat k enc ys).length := (List.getElem?_eq_some_iff.1 hu).1
  rw [flat_length] at hlt
  have hi : j / k < ys.length := Nat.div_lt_of_lt_mul (by rw [Nat.mul_comm]; exact hlt)
  have hj : j % k < k := Nat.mod_lt _ hk
  have he : j / k * k + j % k = j := Nat.div_add_mod' j k
  have h2 := flat_get (enc := enc) (List.getElem?_eq_getElem hi) hj
  rw [he, hu] at h2
  obtain ⟨b, off, hA, _, hc⟩ := h.get hi
  injection hA with hA; subst hA
  have h1 := hc _ hj
  rw [Nat.add_assoc, he] at h1
  rw [Addr.add_lit, h1, h2]
theorem get5 (cs : Array Value) (a m : Nat) (u0 u1 u2 u3 u4 : Value) (hs : a + 4 < cs.size) :
    (((((cs.setIfInBounds a u0).setIfInBounds (a + 1) u1).setIfInBounds (a + 2) u2).setIfInBounds (a + 3) u3).setIfInBounds (a + 4) u4)[m]? = if m = a then some u0 else if m = a + 1 then some u1 else if m = a + 2 then some u2 else if m = a + 3 then some u3 else if m = a + 4 then some u4 else cs[m]? := by
  simp only [Array.getElem?_setIfInBounds, Array.size_setIfInBounds]
  by_cases h4 : a + 4 = m
  · subst h4; rw [if_pos rfl, if_pos hs, if_neg (by omega), if_neg (by omega), if_neg (by omega), if_neg (by omega), if_pos rfl]
  by_cases h3 : a + 3 = m
  · subst h3; rw [if_neg (by omega), if_pos rfl, if_pos (by omega), if_neg (by omega), if_neg (by omega), if_neg (by omega), if_pos rfl]
  by_cases h2 : a + 2 = m
  · subst h2; rw [if_neg (by omega), if_neg (by omega), if_pos rfl, if_pos (by omega), if_neg (by omega), if_neg (by omega), if_pos rfl]
  by_cases h1 : a + 1 = m
  · subst h1; rw [if_neg (by omega), if_neg (by omega), if_neg (by omega), if_pos rfl, if_pos (by omega), if_neg (by omega), if_pos rfl]
  by_cases h0 : a = m
  · subst h0; rw [if_neg (by omega), if_neg (by omega), if_neg (by omega), if_neg (by omega), if_pos rfl, if_pos (by omega), if_pos rfl]
  rw [if_neg h4, if_neg h3, if_neg h2, if_neg h1, if_neg h0, if_neg (by omega), if_neg (by omega), if_neg (by omega), if_neg (by omega), if_neg (by omega)]
theorem filled_set5 {α : Type} {enc : α → Nat → Value} {cs : Array Value} {xs : List α} (h : Filled 5 enc cs xs.length xs) {j a : Nat} (ha : a = j * 5) (hs : a + 4 < cs.size) (x : α) {u0 u1 u2 u3 u4 : Value} (h0 : enc x 0 = u0) (h1 : enc x 1 = u1) (h2 : enc x 2 = u2) (h3 : enc x 3 = u3) (h4 : enc x 4 = u4) :
    Filled 5 enc (((((cs.setIfInBounds a u0).setIfInBounds (a + 1) u1).setIfInBounds (a + 2) u2).setIfInBounds (a + 3) u3).setIfInBounds (a + 4) u4) (xs.set j x).length (xs.set j x) := by
  intro i y hi hy c hc
  rw [List.length_set] at hi
  rw [get5 cs a (i * 5 + c) u0 u1 u2 u3 u4 hs]
  by_cases hij : j = i
  · subst hij
    rw [List.getElem?_set_self hi] at hy
    have hy2 := Option.some.inj hy
    subst hy2
    by_cases c0 : c = 0
    · subst c0; rw [if_pos (by omega), h0]
    by_cases c1 : c = 1
    · subst c1; rw [if_neg (by omega), if_pos (by omega), h1]
    by_cases c2 : c = 2
    · subst c2; rw [if_neg (by omega), if_neg (by omega), if_pos (by omega), h2]
    by_cases c3 : c = 3
    · subst c3; rw [if_neg (by omega), if_neg (by omega), if_neg (by omega), if_pos (by omega), h3]
    have c4 : c = 4 := by omega
    subst c4; rw [if_neg (by omega), if_neg (by omega), if_neg (by omega), if_neg (by omega), if_pos (by omega), h4]
  · rw [List.getElem?_set_ne hij] at hy
    rw [if_neg (by omega), if_neg (by omega), if_neg (by omega), if_neg (by omega), if_neg (by omega)]
    exact h i y hi hy c hc
/-- an element of five cells of an own row is written -/
theorem Own.set5 {α : Type} {enc : α → Nat → Value} {e : TypeId} {w : World} {base g cap n : Nat} {xs : List α} (h : Own 5 enc e w base (.slice (some ⟨g, 0, none⟩) n cap) xs) {j a : Nat} (ha : a = j * 5) (hj : j < xs.length) (x : α) {u0 u1 u2 u3 u4 : Value} (h0 : enc x 0 = u0) (h1 : enc x 1 = u1) (h2 : enc x 2 = u2) (h3 : enc x 3 = u3) (h4 : enc x 4 = u4) :
    Own 5 enc e (((((w.setCell ⟨g, a, none⟩ u0).setCell ⟨g, a + 1, none⟩ u1).setCell ⟨g, a + 2, none⟩ u2).setCell ⟨g, a + 3, none⟩ u3).setCell ⟨g, a + 4, none⟩ u4) base (.slice (some ⟨g, 0, none⟩) n cap) (xs.set j x) := by
  obtain ⟨g', cap', cs, he, a1, a2, a3, a4, a5, a6⟩ := own_blk h (by omega)
  simp only [Value.slice.injEq, Option.some.injEq, Addr.mk.injEq, true_and, and_true] at he
  obtain ⟨rfl, rfl, rfl⟩ := he
  have hsz : a + 4 < cs.size := by rw [a5]; omega
  have hb := ((((a2.set a u0).set (a + 1) u1).set (a + 2) u2).set (a + 3) u3).set (a + 4) u4
  have hf := filled_set5 a6 ha hsz x h0 h1 h2 h3 h4
  have hs : (((((cs.setIfInBounds a u0).setIfInBounds (a + 1) u1).setIfInBounds (a + 2) u2).setIfInBounds (a + 3) u3).setIfInBounds (a + 4) u4).size = cap * 5 := by simp only [Array.size_setIfInBounds]; exact a5
  generalize ((((cs.setIfInBounds a u0).setIfInBounds (a + 1) u1).setIfInBounds (a + 2) u2).setIfInBounds (a + 3) u3).setIfInBounds (a + 4) u4 = cs5 at hb hf hs
  have hl : (xs.set j x).length = xs.length := List.length_set
  refine Or.inr ⟨g, cap, cs5, ?_, a1, hb, ?_, a4, hs, hf⟩
  · rw [hl]
  · rw [hl]; exact a3
theorem filled_set1 {α : Type} {enc : α → Nat → Value} {cs : Array Value} {xs : List α} (h : Filled 5 enc cs xs.length xs) {j a c0 : Nat} (ha : a = j * 5 + c0) (hc0 : c0 < 5) (hs : a < cs.size) (x y : α) (hj : xs[j]? = some y) {u : Value} (hu : enc x c0 = u) (hne : ∀ c, c < 5 → c ≠ c0 → enc x c = enc y c) :
    Filled 5 enc (cs.setIfInBounds a u) (xs.set j x).length (xs.set j x) := by
  intro i z hi hz c hc
  rw [List.length_set] at hi
  by_cases hij : j = i
  · subst hij
    rw [List.getElem?_set_self hi] at hz
    have hz2 := Option.some.inj hz
    subst hz2
    by_cases c1 : c = c0
    · subst c1; rw [← ha, Array.getElem?_setIfInBounds_self_of_lt hs, hu]
    · rw [Array.getElem?_setIfInBounds_ne (by omega), h j y hi hj c hc, hne c hc c1]
  · rw [List.getElem?_set_ne hij] at hz
    rw [Array.getElem?_setIfInBounds_ne (by omega)]
    exact h i z hi hz c hc
/-- one cell of an element of an own row is written -/
theorem Own.set1 {α : Type} {enc : α → Nat → Value} {e : TypeId} {w : World} {base g cap n : Nat} {xs : List α} (h : Own 5 enc e w base (.slice (some ⟨g, 0, none⟩) n cap) xs) {j a c0 : Nat} (ha : a = j * 5 + c0) (hc0 : c0 < 5) (hj : j < xs.length) (x y : α) (hy : xs[j]? = some y) {u : Value} (hu : enc x c0 = u) (hne : ∀ c, c < 5 → c ≠ c0 → enc x c = enc y c) :
    Own 5 enc e (w.setCell ⟨g, a, none⟩ u) base (.slice (some ⟨g, 0, none⟩) n cap) (xs.set j x) := by
  obtain ⟨g', cap', cs, he, a1, a2, a3, a4, a5, a6⟩ := own_blk h (by omega)
  simp only [Value.slice.injEq, Option.some.injEq, Addr.mk.injEq, true_and, and_true] at he
  obtain ⟨rfl, rfl, rfl⟩ := he
  have hsz : a < cs.size := by rw [a5]; omega
  have hb := a2.set a u
  have hf := filled_set1 a6 ha hc0 hsz x y hy hu hne
  have hs : (cs.setIfInBounds a u).size = cap * 5 := by simp only [Array.size_setIfInBounds]; exact a5
  generalize cs.setIfInBounds a u = cs5 at hb hf hs
  have hl : (xs.set j x).length = xs.length := List.length_set
  refine Or.inr ⟨g, cap, cs5, ?_, a1, hb, ?_, a4, hs, hf⟩
  · rw [hl]
  · rw [hl]; exact a3
theorem own_emptyR (w : World) {B : Nat} (hB : B ≤ w.heap.size) : Own 5 SReader.enc 25 (w.alloc (.cells #[] 25)) B (.slice (some ⟨w.heap.size, 0, none⟩) 0 0) ([] : List SReader) :=
  Own.made (cs := #[]) rfl hB (Blk.new _ _ _) rfl (Nat.zero_le _) Filled.zero
theorem src_any {α : Type} {k : Nat} {enc : α → Nat → Value} {ys : List α} {w : World} {B : Nat} {ad : Addr} (h : Row k enc w B (some ad) ys) (hk : 0 < k) :
    ∀ j u, (flat k enc ys)[j]? = some u → w.cell? (ad.add j) = some u := src_row h hk
set_option maxRecDepth 10000 in
theorem cloneR_any (v : Value) (xs : List SReader) (w : World) (h : Is 5 SReader.enc w v xs) (h1 : xs.length ≤ 1048576) :
    Calls Tryz.prog 65 #[v] w fun e w' => ∃ r, e = .returned r ∧ Own 5 SReader.enc 25 w' w.heap.size r xs ∧ Below w.heap.size w w' := by
  obtain ⟨A, cap, rfl, hr, _, _⟩ := h
  have hnil := fun W => Go.Lib.run_eql_slice_nil (P := Tryz.prog) W 33 25 A xs.length cap 0 0 Tryz.underlying33
  cases A with
  | none =>
    have hx : xs = [] := by
      rcases hr with h | ⟨b, off, h, _⟩
      · exact h
      · cases h
    subst hx
    clear hr hnil
    rw [List.length_nil]
    have hnil := fun W => Go.Lib.run_eql_slice_nil (P := Tryz.prog) W 33 25 none 0 cap 0 0 Tryz.underlying33
    go_enter Tryz.func65, Tryz.ntmps65
    go_wp2_with fail
    go_ret
    exact ⟨_, rfl, Own.nil, Below.refl _ _⟩
  | some ad =>
    have HR := hide hr; clear hr
    go_enter Tryz.func65, Tryz.ntmps65
    have HO := hide (own_emptyR w (Nat.le_refl w.heap.size))
    have B1 := below_alloc w (.cells #[] 25)
    go_wp2_with (at_builtin; refine wpList_push (k := 5) (enc := SReader.enc) _ rfl _ _ 33 rfl 25 (.agg #[.int .i64 0, .string ⟨#[]⟩, .int .i64 0, .int .i64 0, .int .i64 0]) 48 Tryz.underlying33 SReader.info rfl (by omega) SReader.one w.heap.size _ [] rfl HO.out ad cap xs rfl (src_row (HR.out.below B1 (Nat.le_refl _) B1.size) (by omega)) (by simp; omega) (by simp; omega) B1.size ?_; intro v1 w1 ho1 hg1 _; have hb1 := HO.out.belowGrown B1 hg1 (Nat.le_refl _) B1.size; rw [List.nil_append] at ho1; have HO1 := hide ho1; clear ho1 hg1)
    go_ret
    exact ⟨_, rfl, HO1.out, hb1⟩
/-! ### plain facts -/
theorem idxF_three {α : Type} (p : α → Bool) (xs : List α) : (idxF p xs = -1 ∧ ∀ c ∈ xs, p c = false) ∨ ∃ i, ∃ h : i < xs.length, idxF p xs = (i : Int) ∧ p xs[i] = true ∧ ∀ c ∈ xs.take i, p c = false := by
  unfold idxF
  rcases h : xs.findIdx? p with _ | i
  · exact .inl ⟨rfl, by simpa [List.findIdx?_eq_none_iff] using h⟩
  · right
    rw [List.findIdx?_eq_some_iff_getElem] at h
    obtain ⟨hi, hp, hn⟩ := h
    refine ⟨i, hi, rfl, hp, fun c hc => ?_⟩
    obtain ⟨j, hj, rfl⟩ := List.mem_iff_getElem.1 hc
    rw [List.length_take] at hj
    rw [List.getElem_take]
    simpa using hn j (by omega)
theorem findR_cases (xs : List SReader) (id : Int) : (findR xs id = -1 ∧ ∀ c ∈ xs, c.ident ≠ id) ∨ ∃ k, k < xs.length ∧ findR xs id = (k : Int) ∧ (SReader.at xs k).ident = id := by
  rcases idxF_three (fun c : SReader => c.ident == id) xs with ⟨h1, h2⟩ | ⟨i, hi, h1, h2, _⟩
  · exact .inl ⟨h1, fun c hc => by simpa using h2 c hc⟩
  · exact .inr ⟨i, hi, h1, by rw [SReader.at_lt hi]; simpa using h2⟩
theorem goodR_len {xs : List SReader} (h : goodR xs = true) : xs.length ≤ 10 := by
  unfold goodR at h
  rw [Bool.and_eq_true, decide_eq_true_eq] at h
  exact h.2
theorem goodR_ok {xs : List SReader} (h : goodR xs = true) {i : Nat} (hi : i < xs.length) : (SReader.at xs i).okB = true ∧ (i = 0 ∨ (SReader.at xs (i - 1)).ident < (SReader.at xs i).ident) := by
  unfold goodR at h
  rw [Bool.and_eq_true, List.all_eq_true] at h
  have := h.1 i (List.mem_range.2 hi)
  unfold okR at this
  rw [Bool.and_eq_true, Bool.or_eq_true, decide_eq_true_eq, decide_eq_true_eq] at this
  exact this
theorem goodR_mk {xs : List SReader} (h1 : xs.length ≤ 10) (h : ∀ i, i < xs.length → (SReader.at xs i).okB = true ∧ (i = 0 ∨ (SReader.at xs (i - 1)).ident < (SReader.at xs i).ident)) : goodR xs = true := by
  unfold goodR
  rw [Bool.and_eq_true, List.all_eq_true, decide_eq_true_eq]
  refine ⟨fun i hi => ?_, h1⟩
  unfold okR
  rw [Bool.and_eq_true, Bool.or_eq_true, decide_eq_true_eq, decide_eq_true_eq]
  exact h i (List.mem_range.1 hi)
theorem goodR_asc {xs : List SReader} (h : goodR xs = true) {i j : Nat} (hij : i < j) (hj : j < xs.length) : (SReader.at xs i).ident < (SReader.at xs j).ident := by
  induction j with
  | zero => omega
  | succ j ih =>
    have h1 := (goodR_ok h hj).2
    rw [show j + 1 - 1 = j by omega] at h1
    have h2 : (SReader.at xs j).ident < (SReader.at xs (j + 1)).ident := h1.resolve_left (by omega)
    by_cases hx : i = j
    · subst hx; exact h2
    · have := ih (by omega) (by omega); omega
theorem goodR_one {xs : List SReader} (h : goodR xs = true) {i j : Nat} (hi : i < xs.length) (hj : j < xs.length) (he : (SReader.at xs i).ident = (SReader.at xs j).ident) : i = j := by
  rcases Nat.lt_trichotomy i j with h1 | h1 | h1
  · have := goodR_asc h h1 hj; omega
  · exact h1
  · have := goodR_asc h h1 hi; omega
theorem SReader.at_set {xs : List SReader} {k i : Nat} (x : SReader) (hk : k < xs.length) : SReader.at (xs.set k x) i = if i = k then x else SReader.at xs i := by
  unfold SReader.at
  rw [List.getD_eq_getElem?_getD, List.getD_eq_getElem?_getD, List.getElem?_set]
  by_cases h : k = i
  · subst h; rw [if_pos rfl, if_pos hk, if_pos rfl]; rfl
  · rw [if_neg h, if_neg (fun e => h e.symm)]
theorem goodR_set {xs : List SReader} (h : goodR xs = true) {k : Nat} (hk : k < xs.length) {x : SReader} (hx : x.okB = true) (hid : x.ident = (SReader.at xs k).ident) : goodR (xs.set k x) = true := by
  refine goodR_mk (by rw [List.length_set]; exact goodR_len h) fun i hi => ?_
  rw [List.length_set] at hi
  have h0 := goodR_ok h hi
  rw [SReader.at_set x hk, SReader.at_set x hk]
  refine ⟨?_, ?_⟩
  · split
    · exact hx
    · exact h0.1
  · rcases h0.2 with h1 | h1
    · exact .inl h1
    · right
      by_cases e1 : i - 1 = k
      · by_cases e2 : i = k
        · rw [e1, e2] at h1; omega
        · rw [if_pos e1, if_neg e2, hid, ← e1]; exact h1
      · by_cases e2 : i = k
        · rw [if_neg e1, if_pos e2, hid, ← e2]; exact h1
        · rw [if_neg e1, if_neg e2]; exact h1
theorem wf_set {xs : List SReader} {k : Nat} {x : SReader} (h : ∀ z ∈ xs, z.wf) (hx : x.wf) : ∀ z ∈ xs.set k x, z.wf := fun z hz => by
  rcases List.mem_or_eq_of_mem_set hz with h1 | h1
  · exact h z h1
  · rw [h1]; exact hx
theorem ident_fit {x : Int} (h : -1000000 ≤ x ∧ x ≤ 1000000) : (Lit.int .i64 x).wf = true := by
  simp [Lit.wf, IntKind.min, IntKind.max, IntKind.signed, IntKind.bits]; omega
end Go.Proofs.YtplemibckjnbhaaGreatDoor

/- Contracts of the tests of ripeness and of cents, of what a reader may have, and of l3With. Conditions: valid readers; small numbers. -/
namespace Go.Proofs.YtplemibckjnbhaaGreatDoor
open Go.RowKit Go.Lib
set_option linter.unusedVariables false
theorem cells5 {w : World} {g : Nat} {t : TypeId} {a b c d e : Value} (h : Blk w g t #[a, b, c, d, e]) : w.cell? ⟨g, 0, none⟩ = some a ∧ w.cell? ⟨g, 1, none⟩ = some b ∧ w.cell? ⟨g, 2, none⟩ = some c ∧ w.cell? ⟨g, 3, none⟩ = some d ∧ w.cell? ⟨g, 4, none⟩ = some e :=
  ⟨by rw [h.cell]; rfl, by rw [h.cell]; rfl, by rw [h.cell]; rfl, by rw [h.cell]; rfl, by rw [h.cell]; rfl⟩
def ripeB (c : SReader) (day : Int) : Bool := decide (c.cls < 3 ∧ c.fines = 0 ∧ c.joined + 365 * c.cls ≤ day)
theorem isCents_any (n : Int) (w : World) : Calls Tryz.prog 64 #[.int .i64 n] w fun e w' => e = .returned (.bool (inB n 1 10000)) ∧ w = w' := by
  go_enter Tryz.func64, Tryz.ntmps64
  go_wp2_with (first | (go_at_call 51; refine (within_any _ _ _ _).mono ?_; rintro e w' ⟨rfl, rfl⟩))
  go_ret
  exact ⟨rfl, rfl⟩
set_option maxHeartbeats 1000000 in
set_option maxRecDepth 10000 in
theorem l3With_any (v : Value) (xs : List SReader) (k : Nat) (x0 : Int) (x1 : ByteArray) (x2 x3 x4 : Int) (w : World) (h : Is 5 SReader.enc w v xs) (hw : ∀ z ∈ xs, z.wf) (hx : (⟨x0, x1, x2, x3, x4⟩ : SReader).wf) (hk : k < xs.length) (hl : xs.length ≤ 10) (hg : goodR (xs.set k ⟨x0, x1, x2, x3, x4⟩) = true) :
    Calls Tryz.prog 68 #[v, .int .i64 (k : Int), .agg #[.int .i64 x0, .string x1, .int .i64 x2, .int .i64 x3, .int .i64 x4]] w fun e w' => ∃ r, e = .returned (.tuple #[r, .bool true]) ∧ Own 5 SReader.enc 25 w' w.heap.size r (xs.set k ⟨x0, x1, x2, x3, x4⟩) ∧ Below w.heap.size w w' := by
  have hgg := fun W v' (hi : Is 5 SReader.enc W v' (xs.set k ⟨x0, x1, x2, x3, x4⟩)) => l3Good_is v' _ W hi (wf_set hw hx)
  rw [hg] at hgg
  have HGG := hide hgg; clear hgg hw hx hg
  have hk' : (k : Int) < xs.length := by omega
  have HBX := hide (Blk.new w 25 #[.int .i64 x0, .string x1, .int .i64 x2, .int .i64 x3, .int .i64 x4])
  have B1 := below_alloc w (.cells #[.int .i64 x0, .string x1, .int .i64 x2, .int .i64 x3, .int .i64 x4] 25)
  have HI := hide (h.below B1 (Nat.le_refl _)); clear h
  have hs1 : w.heap.size < (w.alloc (.cells #[.int .i64 x0, .string x1, .int .i64 x2, .int .i64 x3, .int .i64 x4] 25)).heap.size := by simp
  go_enter Tryz.func68, Tryz.ntmps68
  go_upto_region 1 with fail
  generalize hb0 : w.heap.size = b0 at *
  generalize w.alloc (.cells #[.int .i64 x0, .string x1, .int .i64 x2, .int .i64 x3, .int .i64 x4] 25) = w1 at *
  obtain ⟨A, cap, rfl, hr, _, _⟩ := HI.out
  clear HI
  obtain ⟨b, off, rfl, _, _⟩ := hr.get (show 0 < xs.length by omega)
  have HR := hide hr; clear hr
  have HE := hide (own_emptyR w1 (Nat.le_refl w1.heap.size))
  have B1e := below_alloc w1 (.cells #[] 25)
  go_wp2_with (at_builtin; refine wpList_push (k := 5) (enc := SReader.enc) _ rfl _ _ 33 rfl 25 (.agg #[.int .i64 0, .string ⟨#[]⟩, .int .i64 0, .int .i64 0, .int .i64 0]) 48 Tryz.underlying33 SReader.info rfl (by omega) SReader.one w1.heap.size _ [] rfl HE.out ⟨b, off, none⟩ cap xs rfl (src_row (HR.out.below B1e (Nat.le_refl _) B1e.size) (by omega)) (by simp; omega) (by simp; omega) B1e.size ?_; intro v1 w2 ho hg1 _; have hb2 := HE.out.belowGrown B1e hg1 (Nat.le_refl _) B1e.size; rw [List.nil_append] at ho; clear hg1; obtain ⟨g, gc, cs, rfl, hgb, hblk, hle, hcm, hs, hfi⟩ := own_blk ho (by omega); have HO := hide ho; clear ho; obtain ⟨t0, t1, t2, t3, t4⟩ := cells5 (HBX.out.below hb2 hs1); have qf := (fun o => hblk.frozen o); have g0 := hblk.some (i := k * 5) (by omega); have g1 := hblk.some (i := k * 5 + 1) (by omega); have g2 := hblk.some (i := k * 5 + 2) (by omega); have g3 := hblk.some (i := k * 5 + 3) (by omega); have g4 := hblk.some (i := k * 5 + 4) (by omega); clear hblk hfi)
  have hset := HO.out.set5 (a := k * 5) rfl hk (⟨x0, x1, x2, x3, x4⟩ : SReader) rfl rfl rfl rfl rfl
  have hbs := ((((hb2.setCell (p := ⟨g, k * 5, none⟩) hgb (.int .i64 x0)).setCell (p := ⟨g, k * 5 + 1, none⟩) hgb (.string x1)).setCell (p := ⟨g, k * 5 + 2, none⟩) hgb (.int .i64 x2)).setCell (p := ⟨g, k * 5 + 3, none⟩) hgb (.int .i64 x3)).setCell (p := ⟨g, k * 5 + 4, none⟩) hgb (.int .i64 x4)
  have HS := hide hset; have HBS := hide hbs; clear hset hbs
  have hlen : (xs.set k (⟨x0, x1, x2, x3, x4⟩ : SReader)).length = xs.length := List.length_set
  refine (HGG.out _ _ (by have := HS.out.is; exact this)).mono ?_; rintro e w4 ⟨rfl, hb4⟩
  have HO4 := hide (HS.out.below hb4)
  have B4 := hide (B1.trans ((bstep HBS.out hb4 HBS.out.size).mono (Nat.le_of_lt hs1)))
  go_wp2_with fail
  go_ret2
  subst hb0
  exact ⟨_, rfl, HO4.out.mono (Nat.le_of_lt hs1), B4.out⟩
end Go.Proofs.YtplemibckjnbhaaGreatDoor

/- Contracts of PayFines, in impl and spec: the Lean function payV. Condition: the readers fit. -/
namespace Go.Proofs.YtplemibckjnbhaaGreatDoor
open Go.RowKit Go.Lib
set_option linter.unusedVariables false
def payV (xs : List SReader) (id cents : Int) : List SReader × Int × Bool :=
  if goodR xs = true ∧ 0 ≤ findR xs id ∧ inB cents 1 10000 = true then
    (xs.set (findR xs id).toNat ⟨(SReader.at xs (findR xs id).toNat).ident, (SReader.at xs (findR xs id).toNat).name, (SReader.at xs (findR xs id).toNat).joined, (SReader.at xs (findR xs id).toNat).cls, (SReader.at xs (findR xs id).toNat).fines - min cents (SReader.at xs (findR xs id).toNat).fines⟩,
      cents - min cents (SReader.at xs (findR xs id).toNat).fines, true)
  else ([], 0, false)
theorem payV_no {xs : List SReader} {id cents : Int} (h : ¬ (goodR xs = true ∧ 0 ≤ findR xs id ∧ inB cents 1 10000 = true)) : payV xs id cents = ([], 0, false) := if_neg h
theorem payV_yes {xs : List SReader} {id cents : Int} (h : goodR xs = true ∧ 0 ≤ findR xs id ∧ inB cents 1 10000 = true) {k : Nat} (hk : findR xs id = (k : Int)) {y0 : Int} {y1 : ByteArray} {y2 y3 y4 : Int} (hy : SReader.at xs k = ⟨y0, y1, y2, y3, y4⟩) :
    payV xs id cents = (xs.set k ⟨y0, y1, y2, y3, y4 - min cents y4⟩, cents - min cents y4, true) := by
  unfold payV
  rw [if_pos h, hk, Int.toNat_natCast, hy]
/-- a reader that is found in a valid list -/
theorem found_k {xs : List SReader} {id : Int} (hg : goodR xs = true) (h : 0 ≤ findR xs id) : ∃ k, k < xs.length ∧ findR xs id = (k : Int) ∧ ∃ y0 y1 y2 y3 y4, SReader.at xs k = ⟨y0, y1, y2, y3, y4⟩ ∧ xs[k]? = some ⟨y0, y1, y2, y3, y4⟩ ∧ y0 = id ∧ SReader.okB ⟨y0, y1, y2, y3, y4⟩ = true := by
  rcases findR_cases xs id with ⟨h1, _⟩ | ⟨k, hk, hf, hi⟩
  · omega
  · have hok := (goodR_ok hg hk).1
    have hat := SReader.at_lt hk
    refine ⟨k, hk, hf, (SReader.at xs k).ident, (SReader.at xs k).name, (SReader.at xs k).joined, (SReader.at xs k).cls, (SReader.at xs k).fines, rfl, ?_, hi, hok⟩
    rw [List.getElem?_eq_getElem hk, ← hat]
set_option maxHeartbeats 2000000 in
set_option maxRecDepth 10000 in
theorem PayFines_is (v : Value) (xs : List SReader) (id cents : Int) (w : World) (h : Is 5 SReader.enc w v xs) (hw : ∀ z ∈ xs, z.wf) :
    Calls Tryz.prog 17 #[v, .int .i64 id, .int .i64 cents] w fun e w' => ∃ r, e = .returned (.tuple #[r, .int .i64 (payV xs id cents).2.1, .bool (payV xs id cents).2.2]) ∧ Own 5 SReader.enc 25 w' w.heap.size r (payV xs id cents).1 ∧ Below w.heap.size w w' := by
  have HF := hide (readerAt_any v xs id w h)
  have hA := fun W hi => AreReaders_is v xs W hi hw
  have HI := hide h
  by_cases hall : goodR xs = true ∧ 0 ≤ findR xs id ∧ inB cents 1 10000 = true
  · obtain ⟨hg, hf0, hic⟩ := hall
    have hlen := goodR_len hg
    obtain ⟨k, hk, hfk, y0, y1, y2, y3, y4, hat, hsome, hyid, hok⟩ := found_k hg hf0
    clear hyid
    have hpv := payV_yes ⟨hg, hf0, hic⟩ hfk hat
    rw [hpv]
    rw [hg] at hA
    obtain ⟨_, _, _, _, _, _, _, h40, h41⟩ := SReader.okB_iff.1 hok
    obtain ⟨hc0, hc1⟩ := inB_iff.1 hic
    have HA := hide hA; have HC := hide (fun W => isCents_any cents W); have HIC := hide hic; have HSOME := hide hsome
    rw [hfk] at HF
    clear hA hg hf0 hic hfk hat hpv hok hsome hw h
    have hk' : (k : Int) < xs.length := by omega
    go_enter Tryz.func17, Tryz.ntmps17
    go_wp2_with fail
    refine HF.out.mono ?_; rintro e w1 ⟨rfl, hb1⟩
    have I1 := hide (HI.out.below hb1 (Nat.le_refl _))
    go_wp2_with fail
    refine (HA.out _ I1.out).mono ?_; rintro e w2 ⟨rfl, hb2⟩
    have B2 := hide (bstep hb1 hb2 hb1.size)
    have I2 := hide (I1.out.below hb2 (Nat.le_refl _))
    clear hb1 hb2
    go_wp2_with fail
    refine (HC.out _).mono ?_; rintro e w3 ⟨rfl, rfl⟩
    rw [HIC.out]
    go_wp2_with fail
    refine (cloneR_any v xs w2 I2.out (by omega)).mono ?_; rintro e w3 ⟨r, rfl, ho, hb3⟩
    have B3 := hide (bstep B2.out hb3 B2.out.size)
    obtain ⟨g, cap, cs, rfl, hgb, hblk, hle, hcm, hs, hfi⟩ := own_blk ho (by omega)
    have HO := hide ho
    have qf := hblk.frozen (k * 5 + 4)
    have c4 : w3.cell? ⟨g, k * 5 + 4, none⟩ = some (.int .i64 y4) := by
      rw [hblk.cell, hfi k _ hk HSOME.out 4 (by omega)]; rfl
    have HS := hide (ho.set1 (c0 := 4) (a := k * 5 + 4) rfl (by omega) hk (⟨y0, y1, y2, y3, y4 - min cents y4⟩ : SReader) ⟨y0, y1, y2, y3, y4⟩ HSOME.out rfl (fun c hc hne => by rcases (show c = 0 ∨ c = 1 ∨ c = 2 ∨ c = 3 by omega) with rfl | rfl | rfl | rfl <;> rfl))
    have HBS := hide (B3.out.setCell (p := ⟨g, k * 5 + 4, none⟩) (Nat.le_trans B2.out.size hgb) (.int .i64 (y4 - min cents y4)))
    clear hblk hfi ho hb3
    have hmn : min cents y4 = min cents y4 := rfl
    go_wp2_with fail
    go_ret3
    exact ⟨_, rfl, HS.out.mono B2.out.size, HBS.out⟩
  · rw [payV_no hall]
    generalize goodR xs = gd at hall hA
    generalize findR xs id = kk at hall HF
    have HA := hide hA; have HC := hide (fun W => isCents_any cents W); clear hA
    generalize inB cents 1 10000 = ib at hall HC
    have HALL := hide hall; clear hall
    cases gd with
    | false =>
      go_enter Tryz.func17, Tryz.ntmps17
      go_wp2_with fail
      refine HF.out.mono ?_; rintro e w1 ⟨rfl, hb1⟩
      have I1 := hide (HI.out.below hb1 (Nat.le_refl _))
      go_wp2_with fail
      refine (HA.out _ I1.out).mono ?_; rintro e w2 ⟨rfl, hb2⟩
      have B2 := hide (bstep hb1 hb2 hb1.size)
      clear hb1 hb2
      go_wp2_with fail
      go_ret3
      exact ⟨_, rfl, Own.nil, B2.out⟩
    | true =>
      by_cases hk : kk < 0
      · go_enter Tryz.func17, Tryz.ntmps17
        go_wp2_with fail
        refine HF.out.mono ?_; rintro e w1 ⟨rfl, hb1⟩
        have I1 := hide (HI.out.below hb1 (Nat.le_refl _))
        go_wp2_with fail
        refine (HA.out _ I1.out).mono ?_; rintro e w2 ⟨rfl, hb2⟩
        have B2 := hide (bstep hb1 hb2 hb1.size)
        clear hb1 hb2
        go_wp2_with fail
        go_ret3
        exact ⟨_, rfl, Own.nil, B2.out⟩
      · cases ib with
        | true => exact absurd ⟨rfl, by omega, rfl⟩ HALL.out
        | false =>
          go_enter Tryz.func17, Tryz.ntmps17
          go_wp2_with fail
          refine HF.out.mono ?_; rintro e w1 ⟨rfl, hb1⟩
          have I1 := hide (HI.out.below hb1 (Nat.le_refl _))
          go_wp2_with fail
          refine (HA.out _ I1.out).mono ?_; rintro e w2 ⟨rfl, hb2⟩
          have B2 := hide (bstep hb1 hb2 hb1.size)
          clear hb1 hb2
          go_wp2_with fail
          refine (HC.out _).mono ?_; rintro e w3 ⟨rfl, rfl⟩
          go_wp2_with fail
          go_ret3
          exact ⟨_, rfl, Own.nil, B2.out⟩
theorem findGR_good {xs : List SReader} {id : Int} (h : goodR xs = true) : findGR xs id = findR xs id := by unfold findGR; rw [h]; rfl
theorem findGR_iff {xs : List SReader} {id : Int} : 0 ≤ findGR xs id ↔ (goodR xs = true ∧ 0 ≤ findR xs id) := by
  unfold findGR
  cases goodR xs <;> simp
end Go.Proofs.YtplemibckjnbhaaGreatDoor
