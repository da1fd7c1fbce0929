/- Catchments, in plain Lean: catN (how many squares' water runs over a square), the grid of rivers, and the greatest one. Nothing here speaks of the program. Condition: a relief. -/
import Derived.Test.YtomcdkkjknphpaaL9N
namespace Go.Proofs.Ytomcdkkjknphpaa
open Go.RowKit
set_option linter.unusedVariables false
section
variable {xss : List (List Int)}
theorem RunFrom.lower {p : SA2} {l : List SA2} (h : RunFrom xss p l) : ∀ q ∈ l, cellS xss q < cellS xss p := by
  induction h with
  | stop _ => simp
  | go hr _ ih =>
    have h1 := runN_lt hr
    intro q hq
    rcases List.mem_cons.1 hq with rfl | hq
    · exact h1
    · have := ih q hq; omega
theorem RunFrom.nodup {p : SA2} {l : List SA2} (h : RunFrom xss p l) : (p :: l).Nodup := by
  induction h with
  | stop _ => simp
  | go hr hf ih =>
    rw [List.nodup_cons]
    refine ⟨fun hm => ?_, ih⟩
    have := (RunFrom.go hr hf).lower _ hm
    omega
theorem RunFrom.inS {p : SA2} {l : List SA2} (h : RunFrom xss p l) (hp : InS xss p) : ∀ q ∈ p :: l, InS xss q := by
  induction h with
  | stop _ => intro q hq; rw [List.mem_singleton.1 hq]; exact hp
  | go hr hf ih =>
    intro q hq
    rcases List.mem_cons.1 hq with rfl | hq
    · exact hp
    · exact ih (bestN_in hp) q hq
theorem runL_in (h : reliefB xss = true) {p : SA2} (hp : InS xss p) : ∀ q ∈ runL xss p, InS xss q := (runL_from h hp).inS hp
theorem runL_nodup (h : reliefB xss = true) {p : SA2} (hp : InS xss p) : (runL xss p).Nodup := (runL_from h hp).nodup
/-- whether water from s runs over q -/
def overB (xss : List (List Int)) (q s : SA2) : Bool := decide (q ∈ runL xss s)
def catTo (xss : List (List Int)) (q : SA2) (k : Nat) : Nat := (((allS xss).take k).filter (overB xss q)).length
def catN (xss : List (List Int)) (q : SA2) : Nat := ((allS xss).filter (overB xss q)).length
theorem catTo_succ {q : SA2} {k : Nat} (h : k < (allS xss).length) : catTo xss q (k + 1) = catTo xss q k + if overB xss q (allS xss)[k] then 1 else 0 := by
  unfold catTo
  rw [take_snoc' h, List.filter_append, List.length_append]
  congr 1
  cases hq : overB xss q (allS xss)[k] <;> simp [hq]
theorem catTo_all (q : SA2) : catTo xss q (allS xss).length = catN xss q := by unfold catTo catN; rw [List.take_length]
theorem catTo_le (q : SA2) (k : Nat) : catTo xss q k ≤ (allS xss).length := by
  unfold catTo
  exact Nat.le_trans (List.length_filter_le _ _) (by simp; omega)
theorem catN_le (h : reliefB xss = true) (q : SA2) : catN xss q ≤ 64 := by
  have h1 := allS_len h
  have h2 := List.length_filter_le (overB xss q) (allS xss)
  unfold catN; omega
theorem catN_pos {q : SA2} (hq : InS xss q) : 1 ≤ catN xss q := by
  unfold catN
  have : q ∈ (allS xss).filter (overB xss q) := List.mem_filter.2 ⟨allS_mem hq, by unfold overB runL; simp⟩
  exact List.length_pos_of_mem this
/-! ### the grid of rivers -/
def bump (G : List (List Int)) (p : SA2) : List (List Int) := setS G p (cellS G p + 1)
theorem bump_shape {G : List (List Int)} (h : Shape xss G) (p : SA2) : Shape xss (bump G p) := h.set _ _
theorem bumps_shape : ∀ (l : List SA2) {G : List (List Int)}, Shape xss G → Shape xss (l.foldl bump G)
  | [], _, h => h
  | p :: l, _, h => bumps_shape l (bump_shape h p)
def cntL (q : SA2) (l : List SA2) : Nat := (l.filter fun p => decide (p = q)).length
theorem cntL_nodup {q : SA2} : ∀ {l : List SA2}, l.Nodup → cntL q l = if q ∈ l then 1 else 0
  | [], _ => rfl
  | p :: l, h => by
    rw [List.nodup_cons] at h
    have ih := cntL_nodup (q := q) h.2
    unfold cntL at ih ⊢
    by_cases hp : p = q
    · subst hp
      rw [if_neg h.1] at ih
      simp [ih]
    · have hp2 : ¬ q = p := fun e => hp e.symm
      rw [List.filter_cons_of_neg (by simpa using hp), ih]
      simp [hp2]
theorem bumps_cell : ∀ (l : List SA2) {G : List (List Int)}, Shape xss G → (∀ p ∈ l, InS xss p) → ∀ {q : SA2}, InS xss q → cellS (l.foldl bump G) q = cellS G q + (cntL q l : Int)
  | [], _, _, _, _, _ => by simp [cntL]
  | p :: l, G, h, hl, q, hq => by
    have ih := bumps_cell l (bump_shape h p) (fun t ht => hl t (List.mem_cons_of_mem _ ht)) hq
    have hp := hl p List.mem_cons_self
    show cellS (l.foldl bump (bump G p)) q = _
    rw [ih]
    unfold bump
    rw [cellS_set h hp _ hq]
    by_cases he : p = q
    · subst he
      rw [if_pos rfl]
      have : cntL p (p :: l) = cntL p l + 1 := by simp [cntL]
      rw [this]; omega
    · rw [if_neg (fun e => he e.symm)]
      have : cntL q (p :: l) = cntL q l := by unfold cntL; rw [List.filter_cons_of_neg (by simpa using he)]
      rw [this]
def zeroG (xss : List (List Int)) : List (List Int) := (List.range xss.length).map fun _ => (List.range (hdLen xss)).map fun _ => (0 : Int)
theorem zeroG_shape : Shape xss (zeroG xss) := by
  refine ⟨by simp [zeroG], fun i hi => ?_⟩
  simp [zeroG, List.getD_eq_getElem?_getD, hi]
theorem zeroG_cell (q : SA2) : cellS (zeroG xss) q = 0 := by
  unfold cellS zeroG
  by_cases hi : q.x.toNat < xss.length
  · by_cases hj : q.y.toNat < hdLen xss
    · simp [List.getD_eq_getElem?_getD, hi, hj]
    · simp [List.getD_eq_getElem?_getD, hi, hj]
  · simp [List.getD_eq_getElem?_getD, hi]
/-- the rivers of the squares of l -/
def rivTo (xss : List (List Int)) (l : List SA2) : List (List Int) := l.foldl (fun G s => (runL xss s).foldl bump G) (zeroG xss)
theorem rivTo_snoc (l : List SA2) (s : SA2) : rivTo xss (l ++ [s]) = (runL xss s).foldl bump (rivTo xss l) := by unfold rivTo; rw [List.foldl_append]; rfl
theorem rivTo_shape (l : List SA2) : Shape xss (rivTo xss l) := by
  unfold rivTo
  generalize hz : zeroG xss = G
  have hG : Shape xss G := hz ▸ zeroG_shape
  clear hz
  induction l generalizing G with
  | nil => exact hG
  | cons s l ih => exact ih _ (bumps_shape _ hG)
theorem rivTo_cell (h : reliefB xss = true) : ∀ (l : List SA2), (∀ s ∈ l, InS xss s) → ∀ {q : SA2}, InS xss q → cellS (rivTo xss l) q = ((l.filter (overB xss q)).length : Int) := by
  have key : ∀ (l : List SA2) (G : List (List Int)), Shape xss G → (∀ s ∈ l, InS xss s) → ∀ {q : SA2}, InS xss q → cellS (l.foldl (fun G s => (runL xss s).foldl bump G) G) q = cellS G q + ((l.filter (overB xss q)).length : Int) := by
    intro l
    induction l with
    | nil => intro G _ _ q _; simp
    | cons s l ih =>
      intro G hG hl q hq
      have hs := hl s List.mem_cons_self
      show cellS (l.foldl _ ((runL xss s).foldl bump G)) q = _
      rw [ih _ (bumps_shape _ hG) (fun t ht => hl t (List.mem_cons_of_mem _ ht)) hq, bumps_cell _ hG (runL_in h hs) hq, cntL_nodup (runL_nodup h hs)]
      by_cases hm : q ∈ runL xss s
      · rw [if_pos hm, List.filter_cons_of_pos (by unfold overB; simpa using hm)]
        simp only [List.length_cons]; omega
      · rw [if_neg hm, List.filter_cons_of_neg (by unfold overB; simpa using hm)]
        omega
  intro l hl q hq
  unfold rivTo
  rw [key l _ zeroG_shape hl hq, zeroG_cell, Int.zero_add]
def rivG (xss : List (List Int)) : List (List Int) := rivTo xss (allS xss)
theorem rivG_cell (h : reliefB xss = true) {q : SA2} (hq : InS xss q) : cellS (rivG xss) q = (catN xss q : Int) := rivTo_cell h _ (fun s hs => allS_in hs) hq
/-- counts are small -/
theorem rivTo_small (h : reliefB xss = true) {l : List SA2} (hl : ∀ s ∈ l, InS xss s) (k : Nat) (hk : l.length ≤ 64) {s : SA2} (hs : InS xss s) {q : SA2} (hq : InS xss q) : 0 ≤ cellS (((runL xss s).take k).foldl bump (rivTo xss l)) q ∧ cellS (((runL xss s).take k).foldl bump (rivTo xss l)) q ≤ 10064 := by
  rw [bumps_cell _ (rivTo_shape l) (fun t ht => runL_in h hs t (List.mem_of_mem_take ht)) hq, rivTo_cell h l hl hq]
  have h1 := List.length_filter_le (overB xss q) l
  have h2 : cntL q ((runL xss s).take k) ≤ 10000 := by
    unfold cntL
    have := List.length_filter_le (fun p => decide (p = q)) ((runL xss s).take k)
    have h3 := runL_len h hs
    simp only [List.length_take] at this
    omega
  omega
/-! ### the greatest river -/
def grTo (xss : List (List Int)) (l : List SA2) : Nat → SA2 × Nat
  | 0 => (⟨0, 0⟩, 0)
  | k + 1 => if (grTo xss l k).2 < catN xss (l.getD k SA2.zero) then (l.getD k SA2.zero, catN xss (l.getD k SA2.zero)) else grTo xss l k
theorem grTo_next (l : List SA2) {k : Nat} (hk : k < l.length) : grTo xss l (k + 1) = if (grTo xss l k).2 < catN xss l[k] then (l[k], catN xss l[k]) else grTo xss l k := by
  show (if _ then _ else _) = _
  simp only [List.getD_eq_getElem?_getD, List.getElem?_eq_getElem hk, Option.getD_some]
theorem grTo_in (h : reliefB xss = true) {l : List SA2} (hl : ∀ p ∈ l, InS xss p) : ∀ k, k ≤ l.length → InS xss (grTo xss l k).1 ∧ (grTo xss l k).2 ≤ 64 ∧ (1 ≤ k → (grTo xss l k).2 = catN xss (grTo xss l k).1)
  | 0, _ => by
    have hdm := relief_dims h
    refine ⟨⟨⟨by simp [grTo], by simp only [grTo]; omega⟩, by simp [grTo], by simp only [grTo]; omega⟩, by simp [grTo], by omega⟩
  | k + 1, hk => by
    obtain ⟨h1, h2, h3⟩ := grTo_in h hl k (by omega)
    have hkl : k < l.length := by omega
    have h4 := hl l[k] (List.getElem_mem hkl)
    rw [grTo_next l hkl]
    split
    · exact ⟨h4, catN_le h _, fun _ => rfl⟩
    · rename_i hn
      refine ⟨h1, h2, fun _ => ?_⟩
      by_cases hk1 : 1 ≤ k
      · exact h3 hk1
      · have hk0 : k = 0 := by omega
        subst hk0
        have := catN_pos h4
        simp only [grTo] at hn
        omega
/-- the same by the comparison with the best one so far, where the first square is the first of the list -/
theorem grTo_best (h : reliefB xss = true) {l : List SA2} (hl : ∀ p ∈ l, InS xss p) {k : Nat} (hk : k < l.length) (h0 : ∀ (h : 0 < l.length), l[0] = ⟨0, 0⟩) : (grTo xss l (k + 1)).1 = if catN xss (grTo xss l k).1 < catN xss l[k] then l[k] else (grTo xss l k).1 := by
  obtain ⟨h1, h2, h3⟩ := grTo_in h hl k (by omega)
  rw [grTo_next l hk]
  by_cases hk1 : 1 ≤ k
  · rw [h3 hk1]; split <;> rfl
  · have hk0 : k = 0 := by omega
    subst hk0
    have h4 := h0 hk
    have := catN_pos (hl l[0] (List.getElem_mem hk))
    rw [h4] at this ⊢
    have hg0 : (grTo xss l 0).2 = 0 := rfl
    have hg1 : (grTo xss l 0).1 = ⟨0, 0⟩ := rfl
    rw [if_pos (by rw [hg0]; omega), hg1, if_neg (by omega)]
def riverV (xss : List (List Int)) : (Int × Int) × Bool := if reliefB xss then (((grTo xss (allS xss) (allS xss).length).1.x, (grTo xss (allS xss) (allS xss).length).1.y), true) else ((0, 0), false)
def catV (xss : List (List Int)) (r c : Int) : Int × Bool := if listedG xss r c then ((catN xss ⟨r, c⟩ : Int), true) else (0, false)
end
end Go.Proofs.Ytomcdkkjknphpaa
