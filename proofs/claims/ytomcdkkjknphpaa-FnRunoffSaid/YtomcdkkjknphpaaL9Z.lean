/- Plain laws of water: a filled relief is a relief that is filled already; what was lifted is the lakes' sum; levels lie above the relief; the steepest square; a run ends in a pit, and every square's water in exactly one. Nothing here speaks of the program. -/
import Derived.Test.YtomcdkkjknphpaaL9Y
import Derived.Test.YtomcdkkjknphpaaL9Q
import Derived.Test.YtomcdkkjknphpaaL9I
namespace Go.Proofs.Ytomcdkkjknphpaa
open Go.RowKit
set_option linter.unusedVariables false
section
variable {xss G : List (List Int)}
theorem shape_hd (hs : Shape xss G) (h0 : 0 < xss.length) : hdLen G = hdLen xss := by
  have h1 := hs.2 0 h0
  have hg : 0 < G.length := by rw [hs.1]; exact h0
  rw [hdLen_eq hg]
  rw [List.getD_eq_getElem?_getD, List.getElem?_eq_getElem hg, Option.getD_some] at h1
  exact h1
theorem shape_inS (hs : Shape xss G) (h0 : 0 < xss.length) {q : SA2} : InS G q ↔ InS xss q := by
  unfold InS
  rw [hs.1, shape_hd hs h0]
theorem shape_near (hs : Shape xss G) (h0 : 0 < xss.length) (r c : Int) : nearS G r c = nearS xss r c := by
  unfold nearS hasSq
  rw [hs.1, shape_hd hs h0]
theorem shape_all (hs : Shape xss G) (h0 : 0 < xss.length) : allS G = allS xss := by
  unfold allS
  rw [hs.1, shape_hd hs h0]
theorem shape_relief (h : reliefB xss = true) (hs : Shape xss G) (hr : InR xss G 9999) : reliefB G = true := by
  obtain ⟨d1, d2, d3, d4⟩ := relief_dims h
  have hh := shape_hd hs (by omega)
  unfold reliefB
  rw [Bool.and_eq_true, inB_iff, hs.1, hh, List.all_eq_true]
  refine ⟨by omega, fun r hr' => ?_⟩
  obtain ⟨i, hi, rfl⟩ := List.getElem_of_mem hr'
  have hi' : i < xss.length := by rw [← hs.1]; exact hi
  have hl := hs.2 i hi'
  rw [List.getD_eq_getElem?_getD, List.getElem?_eq_getElem hi, Option.getD_some] at hl
  unfold rowB
  rw [Bool.and_eq_true, Bool.and_eq_true, inB_iff, List.all_eq_true]
  refine ⟨by simp [hl], by omega, fun x hx => ?_⟩
  obtain ⟨j, hj, rfl⟩ := List.getElem_of_mem hx
  have hc := hr ⟨(i : Int), (j : Int)⟩ ⟨⟨by simp, by simpa using hi'⟩, by simp, by simp only; omega⟩
  unfold cellS at hc
  simp only [Int.toNat_natCast, List.getD_eq_getElem?_getD, List.getElem?_eq_getElem hi, Option.getD_some, List.getElem?_eq_getElem hj] at hc
  exact inB_iff.2 hc
theorem lev_relief (h : reliefB xss = true) : reliefB (levF xss) = true := shape_relief h lev_shape (lev_in h)
/-! ### levels lie above the relief -/
def Above (xss G F : List (List Int)) : Prop := ∀ q, InS xss q → cellS F q ≤ cellS G q
/-- F stays below the sweeps of a grid that lies above it, where F is no more than what a step gives -/
theorem above_step {F : List (List Int)} (hF : ∀ s, InS xss s → ∀ n, n ∈ nearS xss s.x s.y → cellS F s ≤ max (cellS xss s) (cellS F n)) {a : List (List Int) × Bool} (ha : Shape xss a.1) (h : Above xss a.1 F) {s n : SA2} (hs : InS xss s) (hn : n ∈ nearS xss s.x s.y) : Above xss (stepP xss s a n).1 F := by
  intro q hq
  rw [stepP_cell ha hs hq]
  have h1 := h q hq
  split
  · rename_i e; subst e
    have h2 := hF q hs n hn
    have h3 := h n (near_in hn)
    omega
  · exact h1
theorem above_sweep {F : List (List Int)} (hF : ∀ s, InS xss s → ∀ n, n ∈ nearS xss s.x s.y → cellS F s ≤ max (cellS xss s) (cellS F n)) (ha : Shape xss G) (h : Above xss G F) : Above xss (sweepP xss G).1 F :=
  (fold_keep (xss := xss) (P := fun b => Shape xss b.1 ∧ Above xss b.1 F) (l := allS xss) (fun b s hs hb => sqP_keep (P := fun b => Shape xss b.1 ∧ Above xss b.1 F) (fun b n hn hb => ⟨stepP_shape n hb.1, above_step hF hb.1 hb.2 (allS_in hs) hn⟩) hb) (a := (G, false)) ⟨ha, h⟩).2
theorem above_sweeps {F : List (List Int)} (hF : ∀ s, InS xss s → ∀ n, n ∈ nearS xss s.x s.y → cellS F s ≤ max (cellS xss s) (cellS F n)) : ∀ (n : Nat) {G : List (List Int)}, Shape xss G → Above xss G F → Above xss (sweeps9 xss n G) F
  | 0, _, _, h => h
  | n + 1, _, hs, h => above_sweeps hF n (sweepP_shape hs) (above_sweep hF hs h)
theorem lev_above (h : reliefB xss = true) : Above xss (levF xss) xss := by
  refine above_sweeps (fun s hs n hn => by omega) _ (initG_shape _) fun q hq => ?_
  rw [initG_cell _ hq]
  have := relief_inR h q hq
  split <;> omega
/-- one sweep that makes nothing less: each step makes nothing less -/
theorem fix_step (hs : Shape xss G) (hf : (sweepP xss G).1 = G) : ∀ s, InS xss s → ∀ n, n ∈ nearS xss s.x s.y → cellS G s ≤ max (cellS xss s) (cellS G n) := by
  have hflag : (sweepP xss G).2 = false := by
    cases hb : (sweepP xss G).2 with
    | false => rfl
    | true =>
      have := (sweep_flag hs).2 hb
      rw [hf] at this
      omega
  -- a flag that is false at the end was false all the way
  have mono1 : ∀ (s : SA2) (l : List SA2) (b : List (List Int) × Bool), (l.foldl (stepP xss s) b).2 = false → b.2 = false ∧ (l.foldl (stepP xss s) b) = b ∧ ∀ n ∈ l, cellS b.1 s ≤ max (cellS xss s) (cellS b.1 n) := by
    intro s l
    induction l with
    | nil => intro b h; exact ⟨h, rfl, by simp⟩
    | cons n l ih =>
      intro b h
      obtain ⟨h1, h2, h3⟩ := ih _ h
      have hst : stepP xss s b n = b := by
        unfold stepP at h1 ⊢
        split
        · rename_i hc; rw [if_pos hc] at h1; simp at h1
        · rfl
      have hle : ¬ max (cellS xss s) (cellS b.1 n) < cellS b.1 s := by
        intro hc
        unfold stepP at h1
        rw [if_pos hc] at h1; simp at h1
      rw [hst] at h1 h2 h3
      refine ⟨h1, by rw [List.foldl_cons, hst]; exact h2, fun k hk => ?_⟩
      rcases List.mem_cons.1 hk with rfl | hk
      · omega
      · exact h3 k hk
  have mono2 : ∀ (l : List SA2) (b : List (List Int) × Bool), (l.foldl (sqP xss) b).2 = false → b.2 = false ∧ (l.foldl (sqP xss) b) = b ∧ ∀ s ∈ l, ∀ n ∈ nearS xss s.x s.y, cellS b.1 s ≤ max (cellS xss s) (cellS b.1 n) := by
    intro l
    induction l with
    | nil => intro b h; exact ⟨h, rfl, by simp⟩
    | cons s l ih =>
      intro b h
      obtain ⟨h1, h2, h3⟩ := ih _ h
      obtain ⟨g1, g2, g3⟩ := mono1 s _ b h1
      have hsq : sqP xss b s = b := g2
      rw [hsq] at h2 h3
      refine ⟨g1, by rw [List.foldl_cons, hsq]; exact h2, fun k hk => ?_⟩
      rcases List.mem_cons.1 hk with rfl | hk
      · exact g3
      · exact h3 k hk
  obtain ⟨_, _, h3⟩ := mono2 _ _ hflag
  exact fun s hs n hn => h3 s (allS_mem hs) n hn
theorem lev_lev (h : reliefB xss = true) : levF (levF xss) = levF xss := by
  have d := relief_dims h
  have hF := lev_relief h
  have sF : Shape xss (levF xss) := lev_shape
  have h0 : 0 < xss.length := by omega
  have h1 := lev_above h
  have h2 := lev_above hF
  have sH : Shape xss (levF (levF xss)) := by
    have := lev_shape (xss := levF xss)
    refine ⟨this.1.trans sF.1, fun i hi => ?_⟩
    rw [this.2 i (by rw [sF.1]; exact hi), shape_hd sF h0]
  refine grid_ext sH sF fun q hq => ?_
  have hge := h2 q ((shape_inS sF h0).2 hq)
  -- the second filling stays below every sweep of the first
  have hfix := fix_step sF (lev_stop h)
  have hfix2 : ∀ s, InS xss s → ∀ n, n ∈ nearS xss s.x s.y → cellS (levF (levF xss)) s ≤ max (cellS (levF xss) s) (cellS (levF (levF xss)) n) := fun s hs n hn => by
    have := fix_step lev_shape (lev_stop hF) s ((shape_inS sF h0).2 hs) n (by rw [shape_near sF h0]; exact hn)
    exact this
  have key : ∀ (n : Nat) {G : List (List Int)}, Shape xss G → Above xss G (levF xss) → Above xss G (levF (levF xss)) → Above xss (sweeps9 xss n G) (levF (levF xss)) := by
    intro n
    induction n with
    | zero => intro G _ _ h; exact h
    | succ n ih =>
      intro G hG a1 a2
      have hP := fold_keep (xss := xss) (P := fun b => Shape xss b.1 ∧ Above xss b.1 (levF xss) ∧ Above xss b.1 (levF (levF xss))) (l := allS xss) (fun b s hs hb => sqP_keep (P := fun b => Shape xss b.1 ∧ Above xss b.1 (levF xss) ∧ Above xss b.1 (levF (levF xss))) (fun b n hn hb => ⟨stepP_shape n hb.1, above_step hfix hb.1 hb.2.1 (allS_in hs) hn, fun q hq => by
        have e1 := above_step hfix hb.1 hb.2.1 (allS_in hs) hn q hq
        rw [stepP_cell hb.1 (allS_in hs) hq] at e1 ⊢
        have e2 := hb.2.2 q hq
        split
        · rename_i e; subst e
          rw [if_pos rfl] at e1
          have e3 := hfix2 q hq n hn
          have e4 := hb.2.2 n (near_in hn)
          omega
        · exact e2⟩) hb) (a := (G, false)) ⟨hG, a1, a2⟩
      exact ih hP.1 hP.2.1 hP.2.2
  have i1 : Above xss (initG xss 10000) (levF xss) := fun q hq => by
    have mono : ∀ (n : Nat) (G : List (List Int)), Shape xss G → cellS (sweeps9 xss n G) q ≤ cellS G q := by
      intro n
      induction n with
      | zero => intro G _; exact Int.le_refl _
      | succ n ih => intro G hG; exact Int.le_trans (ih _ (sweepP_shape hG)) (fold_le (fun s hs => allS_in hs) hG hq)
    exact mono _ _ (initG_shape _)
  have i2 : Above xss (initG xss 10000) (levF (levF xss)) := fun q hq => by
    have hq2 : InS (levF xss) q := (shape_inS sF h0).2 hq
    have mono : ∀ (n : Nat) (G : List (List Int)), Shape (levF xss) G → cellS (sweeps9 (levF xss) n G) q ≤ cellS G q := by
      intro n
      induction n with
      | zero => intro G _; exact Int.le_refl _
      | succ n ih => intro G hG; exact Int.le_trans (ih _ (sweepP_shape hG)) (fold_le (fun s hs => allS_in hs) hG hq2)
    have e1 := mono (sumS (levF xss) (initG (levF xss) 10000)).toNat (initG (levF xss) 10000) (initG_shape 10000)
    refine Int.le_trans e1 ?_
    rw [initG_cell _ hq2, initG_cell _ hq]
    have he : isEdge (levF xss) q.x.toNat q.y.toNat = isEdge xss q.x.toNat q.y.toNat := by unfold isEdge; rw [sF.1, shape_hd sF h0]
    rw [he]
    by_cases hed : isEdge xss q.x.toNat q.y.toNat = true
    · rw [if_pos hed, if_pos hed]
      have := i1 q hq
      rw [initG_cell _ hq, if_pos hed] at this
      exact this
    · rw [if_neg hed, if_neg hed]; exact Int.le_refl _
  have hle := key (sumS xss (initG xss 10000)).toNat (initG_shape _) i1 i2 q hq
  have hle' : cellS (levF (levF xss)) q ≤ cellS (levF xss) q := hle
  omega
theorem fill_two (xss : List (List Int)) : (fillV xss).2 = reliefB xss := by unfold fillV; cases reliefB xss <;> rfl
theorem fill_one (h : reliefB xss = true) : (fillV xss).1 = levF xss := by unfold fillV; rw [h]; rfl
theorem fill_fill (h : reliefB xss = true) : fillV (levF xss) = (levF xss, true) := by unfold fillV; rw [lev_relief h, if_pos rfl, lev_lev h]
/-! ### lakes -/
theorem lk_none (h : reliefB xss = true) : ∀ k, k ≤ (allS (levF xss)).length → lkTo (levF xss) (allS (levF xss)) k = (0, 0)
  | 0, _ => rfl
  | k + 1, hk => by
    rw [lkTo_next _ _ (show k < _ by omega), lev_lev h, if_neg (by omega)]
    exact lk_none h k (by omega)
theorem lakes_two (xss : List (List Int)) : (lakesV xss).2 = reliefB xss := by unfold lakesV; cases reliefB xss <;> rfl
theorem lakes_full (h : reliefB xss = true) : lakesV (levF xss) = ((0, 0), true) := by
  unfold lakesV; rw [lev_relief h, if_pos rfl, lk_none h _ (Nat.le_refl _)]
theorem lk_le : ∀ (l : List SA2) (k : Nat), k ≤ l.length → (lkTo xss l k).1 ≤ (lkTo xss l k).2
  | l, 0, _ => by simp [lkTo]
  | l, k + 1, hk => by
    have ih := lk_le l k (by omega)
    rw [lkTo_next _ _ (show k < _ by omega)]
    split
    · simp only; omega
    · exact ih
theorem lakes_le (xss : List (List Int)) : (lakesV xss).1.1 ≤ (lakesV xss).1.2 := by
  unfold lakesV
  split
  · exact lk_le _ _ (Nat.le_refl _)
  · simp
theorem lk_sum (h : reliefB xss = true) : ∀ (k : Nat), k ≤ (allS xss).length → (lkTo xss (allS xss) k).2 = (((allS xss).take k).map fun q => cellS (levF xss) q - cellS xss q).sum
  | 0, _ => by simp [lkTo]
  | k + 1, hk => by
    have hkl : k < (allS xss).length := by omega
    have ih := lk_sum h k (by omega)
    have hge := lev_above h _ (allS_in (List.getElem_mem hkl))
    rw [lkTo_next _ _ hkl, take_snoc' hkl, List.map_append, List.sum_append, ← ih]
    simp only [List.map_cons, List.map_nil, List.sum_cons, List.sum_nil]
    split
    · simp only; omega
    · omega
theorem sum_map_sub (f g : SA2 → Int) : ∀ l : List SA2, (l.map fun q => f q - g q).sum = (l.map f).sum - (l.map g).sum
  | [] => rfl
  | a :: l => by
    have := sum_map_sub f g l
    simp only [List.map_cons, List.sum_cons]
    omega
/-- the rows' sums, taken together, are the squares' -/
theorem row_sum (hs : Shape xss G) {r : Nat} (hr : r < xss.length) : ((sqRow r (hdLen xss)).map (cellS G)).sum = (G.getD r []).sum := by
  congr 1
  have hl := hs.2 r hr
  apply List.ext_getElem (by rw [hl]; simp [sqRow])
  intro j h1 h2
  unfold sqRow cellS
  simp only [List.map_map, List.getElem_map, List.getElem_range, Function.comp, Int.toNat_natCast]
  rw [List.getD_eq_getElem?_getD (l := G.getD r []), List.getElem?_eq_getElem h2, Option.getD_some]
theorem rows_sum (hs : Shape xss G) : ∀ n, n ≤ xss.length → ((sqTo (hdLen xss) n).map (cellS G)).sum = ((G.take n).map List.sum).sum
  | 0, _ => by simp [sqTo]
  | n + 1, hn => by
    have ih := rows_sum hs n (by omega)
    have hg : n < G.length := by rw [hs.1]; omega
    rw [sqTo_succ, List.map_append, List.sum_append, ih, row_sum hs (by omega), take_snoc' hg, List.map_append, List.sum_append]
    simp [List.getD_eq_getElem?_getD, hg]
/-- how much the first n rows were lifted -/
def liftTo (xss G : List (List Int)) (n : Nat) : Int := ((G.take n).map List.sum).sum - ((xss.take n).map List.sum).sum
theorem liftTo_succ {n : Nat} (h1 : n < xss.length) (h2 : n < G.length) : liftTo xss G (n + 1) = liftTo xss G n + G[n].sum - xss[n].sum := by
  unfold liftTo
  rw [take_snoc' h1, take_snoc' h2, List.map_append, List.map_append, List.sum_append, List.sum_append]
  simp only [List.map_cons, List.map_nil, List.sum_cons, List.sum_nil]
  omega
theorem lift_all (h : reliefB xss = true) : liftTo xss (levF xss) xss.length = (lakesV xss).1.2 := by
  unfold lakesV
  rw [h, if_pos rfl]
  simp only
  rw [lk_sum h _ (Nat.le_refl _), List.take_length, sum_map_sub]
  have e1 := rows_sum (lev_shape (xss := xss)) xss.length (Nat.le_refl _)
  have e2 := rows_sum (relief_shape h) xss.length (Nat.le_refl _)
  unfold liftTo
  rw [← e1, ← e2]
  rfl
/-! ### a level, the steepest square -/
theorem levAt_ge {r c : Int} (h : (levAtV xss r c).2 = true) : (0 ≤ r ∧ r < xss.length) ∧ (0 ≤ c ∧ c < hdLen xss) ∧ reliefB xss = true ∧ cellS xss ⟨r, c⟩ ≤ (levAtV xss r c).1 := by
  unfold levAtV at h ⊢
  split at h
  · rename_i hl
    obtain ⟨h1, h2, h3⟩ := listed_parts hl
    rw [if_pos hl]
    exact ⟨h2, h3, h1, lev_above h1 _ ⟨h2, h3⟩⟩
  · simp at h
theorem stTo_at (h : reliefB xss = true) {l : List SA2} (hl : ∀ p ∈ l, InS xss p) : ∀ k, k ≤ l.length → (stTo xss l k).2 = 0 ∨ (InS xss (stTo xss l k).1 ∧ (stTo xss l k).2 = dropS xss (stTo xss l k).1)
  | 0, _ => .inl rfl
  | k + 1, hk => by
    have ih := stTo_at h hl k (by omega)
    have hkl : k < l.length := by omega
    have he : l.getD k SA2.zero = l[k] := by simp [List.getD_eq_getElem?_getD, hkl]
    unfold stTo
    rw [he]
    split
    · exact .inr ⟨hl _ (List.getElem_mem hkl), rfl⟩
    · exact ih
theorem steep_law (h : (steepV xss).2 = true) : reliefB xss = true ∧ InS xss ⟨(steepV xss).1.1, (steepV xss).1.2.1⟩ ∧ InS xss (bestN xss (steepV xss).1.1 (steepV xss).1.2.1) ∧ nextV xss (steepV xss).1.1 (steepV xss).1.2.1 = (((bestN xss (steepV xss).1.1 (steepV xss).1.2.1).x, (bestN xss (steepV xss).1.1 (steepV xss).1.2.1).y), true) ∧ cellS xss ⟨(steepV xss).1.1, (steepV xss).1.2.1⟩ - cellS xss (bestN xss (steepV xss).1.1 (steepV xss).1.2.1) = (steepV xss).1.2.2 := by
  unfold steepV at h ⊢
  split at h
  · rename_i hc
    rw [if_pos hc]
    rw [Bool.and_eq_true, Bool.not_eq_true', decide_eq_false_iff_not] at hc
    obtain ⟨hr, hd⟩ := hc
    have hl : ∀ p ∈ sqTo (hdLen xss) xss.length, InS xss p := fun p hp => sqTo_mem hp
    have h1 := (stTo_at hr hl _ (Nat.le_refl _)).resolve_left hd
    have h2 := (stTo_in hr hl _ (Nat.le_refl _)).1
    generalize stTo xss (sqTo (hdLen xss) xss.length) (sqTo (hdLen xss) xss.length).length = s at *
    obtain ⟨⟨x, y⟩, d⟩ := s
    simp only at *
    obtain ⟨hin, rfl⟩ := h1
    have hb : InS xss (bestN xss x y) := bestN_in (p := ⟨x, y⟩) hin
    refine ⟨hr, hin, hb, ?_, rfl⟩
    have hrun : runN xss x y = true := by
      show decide (cellS xss (bestN xss x y) < cellS xss ⟨x, y⟩) = true
      rw [decide_eq_true_eq]
      unfold dropS at h2 hd
      simp only at h2 hd
      omega
    have hlist : listedG xss x y = true := by
      unfold listedG
      rw [hr, hasSq_of.2 ⟨hin.1, hin.2⟩]; rfl
    unfold nextV
    rw [hrun, hlist]; rfl
  · simp at h
/-! ### runs and pits -/
theorem run_next (h : reliefB xss = true) : ∀ {p : SA2} {l : List SA2}, RunFrom xss p l → InS xss p → ∀ i, (hi : i < (p :: l).length) → nextV xss (p :: l)[i].x (p :: l)[i].y = if hn : i + 1 < (p :: l).length then (((p :: l)[i + 1].x, (p :: l)[i + 1].y), true) else ((0, 0), false) := by
  intro p l hl
  induction hl with
  | @stop p hr =>
    intro hp i hi
    have h0 : i = 0 := by simp at hi; exact hi
    subst h0
    simp only [List.getElem_cons_zero, List.length_singleton, Nat.lt_irrefl, Nat.zero_add, dite_false]
    unfold nextV
    rw [hr]; simp
  | @go p l hr hf ih =>
    intro hp i hi
    cases i with
    | zero =>
      simp only [List.getElem_cons_zero, List.getElem_cons_succ]
      rw [dif_pos (by simp)]
      unfold nextV listedG
      rw [hr, h, hasSq_of.2 ⟨hp.1, hp.2⟩]; rfl
    | succ i =>
      have := ih (bestN_in hp) i (by simpa using hi)
      simp only [List.getElem_cons_succ] at this ⊢
      rw [this]
      have e : i + 1 < (bestN xss p.x p.y :: l).length ↔ i + 1 + 1 < (p :: bestN xss p.x p.y :: l).length := by simp
      by_cases hn : i + 1 < (bestN xss p.x p.y :: l).length
      · rw [dif_pos hn, dif_pos (e.1 hn)]
      · rw [dif_neg hn, dif_neg (fun h => hn (e.2 h))]
theorem runV_ok {r c : Int} (h : (runV xss r c).2 = true) : reliefB xss = true ∧ InS xss ⟨r, c⟩ ∧ (runV xss r c).1 = runL xss ⟨r, c⟩ := by
  unfold runV at h ⊢
  split at h
  · rename_i hl
    obtain ⟨h1, h2, h3⟩ := listed_parts hl
    rw [if_pos hl]
    exact ⟨h1, ⟨h2, h3⟩, rfl⟩
  · simp at h
theorem runV_next {r c : Int} (h : (runV xss r c).2 = true) (i : Nat) (hi : i < (runV xss r c).1.length) : nextV xss (runV xss r c).1[i].x (runV xss r c).1[i].y = if hn : i + 1 < (runV xss r c).1.length then (((runV xss r c).1[i + 1].x, (runV xss r c).1[i + 1].y), true) else ((0, 0), false) := by
  obtain ⟨h1, h2, h3⟩ := runV_ok h
  revert hi
  rw [h3]
  intro hi
  exact run_next h1 (runL_from h1 h2) h2 i hi
theorem runV_nodup {r c : Int} (h : (runV xss r c).2 = true) {i k : Nat} (hk : k < i) {p q : SA2} (hp : (runV xss r c).1[k]? = some p) (hq : (runV xss r c).1[i]? = some q) : p ≠ q := by
  obtain ⟨h1, h2, h3⟩ := runV_ok h
  rw [h3] at hp hq
  intro he
  subst he
  obtain ⟨a1, a2⟩ := List.getElem?_eq_some_iff.1 hp
  obtain ⟨b1, b2⟩ := List.getElem?_eq_some_iff.1 hq
  have := (List.getElem_inj (h₀ := a1) (h₁ := b1) (runL_nodup h1 h2)).1 (a2.trans b2.symm)
  omega
/-- exactly one square of a run is a pit -/
theorem run_pits : ∀ {p : SA2} {l : List SA2}, RunFrom xss p l → ((p :: l).filter fun q => !runN xss q.x q.y).length = 1 := by
  intro p l hl
  induction hl with
  | stop hr => simp [hr]
  | go hr hf ih =>
    rw [List.filter_cons_of_neg (by simp [hr])]
    exact ih
theorem sum_swap (f : SA2 → SA2 → Nat) (ps : List SA2) : ∀ l : List SA2, (ps.map fun p => (l.map (f p)).sum).sum = (l.map fun s => (ps.map fun p => f p s).sum).sum
  | [] => by
    simp only [List.map_nil, List.sum_nil]
    induction ps with
    | nil => rfl
    | cons p ps ih => rw [List.map_cons, List.sum_cons, ih]; rfl
  | s :: l => by
    have ih := sum_swap f ps l
    simp only [List.map_cons, List.sum_cons]
    rw [← ih]
    clear ih
    induction ps with
    | nil => rfl
    | cons p ps ih => simp only [List.map_cons, List.sum_cons] at ih ⊢; omega
theorem filt_sum (p : SA2 → Bool) : ∀ l : List SA2, (l.filter p).length = (l.map fun s => if p s then 1 else 0).sum
  | [] => rfl
  | a :: l => by
    have := filt_sum p l
    rw [List.filter_cons, List.map_cons, List.sum_cons, ← this]
    by_cases h : p a = true
    · rw [if_pos h, if_pos h, List.length_cons]; omega
    · rw [if_neg h, if_neg h]; omega
theorem mem_count {ps l : List SA2} (hl : l.Nodup) (hp : ps.Nodup) : (ps.filter fun p => decide (p ∈ l)).length = (l.filter fun q => decide (q ∈ ps)).length := by
  have h1 : (ps.filter fun p => decide (p ∈ l)).length = ((ps.map fun p => (l.map fun s => if s = p then 1 else 0).sum).sum) := by
    rw [filt_sum]
    congr 1
    refine List.map_congr_left fun p hp' => ?_
    have := cntL_nodup (q := p) hl
    unfold cntL at this
    rw [filt_sum] at this
    simp only [decide_eq_true_eq] at this ⊢
    exact this.symm
  have h2 : (l.filter fun q => decide (q ∈ ps)).length = ((l.map fun s => (ps.map fun p => if s = p then 1 else 0).sum).sum) := by
    rw [filt_sum]
    congr 1
    refine List.map_congr_left fun s hs' => ?_
    have := cntL_nodup (q := s) hp
    unfold cntL at this
    rw [filt_sum] at this
    simp only [decide_eq_true_eq] at this ⊢
    rw [← this]
    congr 1
    refine List.map_congr_left fun p _ => ?_
    by_cases h : p = s
    · rw [if_pos h, if_pos h.symm]
    · rw [if_neg h, if_neg (fun e => h e.symm)]
  rw [h1, h2, sum_swap]
theorem sqTo_nodup (m : Nat) : ∀ n, (sqTo m n).Nodup
  | 0 => by simp [sqTo]
  | n + 1 => by
    rw [sqTo_succ, List.nodup_append]
    refine ⟨sqTo_nodup m n, ?_, ?_⟩
    · unfold sqRow
      rw [List.nodup_iff_pairwise_ne, List.pairwise_map]
      refine (List.pairwise_lt_range).imp fun {a b} hab he => ?_
      injection he with _ he
      omega
    · intro a ha b hb he
      subst he
      have := (sqTo_mem ha).1.2
      unfold sqRow at hb
      obtain ⟨c, _, rfl⟩ := List.mem_map.1 hb
      simp only at this
      omega
theorem pits_nodup (xss : List (List Int)) : (pits xss (allS xss)).Nodup := by
  unfold pits
  exact List.Pairwise.filter _ (sqTo_nodup _ _)
/-- the catchments of the pits, taken together, are all squares -/
theorem pits_sum (h : reliefB xss = true) : ((pits xss (allS xss)).map (catN xss)).sum = (allS xss).length := by
  have h1 : ((pits xss (allS xss)).map (catN xss)) = (pits xss (allS xss)).map fun p => ((allS xss).map fun s => if overB xss p s then 1 else 0).sum := by
    refine List.map_congr_left fun p _ => ?_
    unfold catN
    exact filt_sum _ _
  rw [h1, sum_swap]
  have h2 : ((allS xss).map fun s => ((pits xss (allS xss)).map fun p => if overB xss p s then 1 else 0).sum) = (allS xss).map fun _ => 1 := by
    refine List.map_congr_left fun s hs => ?_
    have hin := allS_in hs
    rw [← filt_sum (fun p => overB xss p s)]
    have e1 : ((pits xss (allS xss)).filter fun p => overB xss p s) = (pits xss (allS xss)).filter fun p => decide (p ∈ runL xss s) := rfl
    rw [e1, mem_count (runL_nodup h hin) (pits_nodup xss)]
    have e2 : ((runL xss s).filter fun q => decide (q ∈ pits xss (allS xss))) = (runL xss s).filter fun q => !runN xss q.x q.y := by
      refine List.filter_congr fun q hq => ?_
      have hq2 := runL_in h hin q hq
      unfold pits
      by_cases hr : runN xss q.x q.y = true
      · rw [hr]
        simp [hr]
      · rw [Bool.not_eq_true] at hr
        rw [hr]
        simp [hr, allS_mem hq2]
    rw [e2]
    exact run_pits (runL_from h hin)
  rw [h2]
  induction (allS xss) with
  | nil => rfl
  | cons a l ih => simp only [List.map_cons, List.sum_cons, List.length_cons]; omega
theorem rows_len (h : reliefB xss = true) : (xss.map List.length).sum = (allS xss).length := by
  have hr := fun i (hi : i < xss.length) => relief_row h hi
  unfold allS
  rw [sqTo_len]
  have key : ∀ (l : List (List Int)) (m : Nat), (∀ r ∈ l, r.length = m) → (l.map List.length).sum = l.length * m := by
    intro l m
    induction l with
    | nil => intro _; simp
    | cons a l ih =>
      intro hl
      have h1 := hl a List.mem_cons_self
      have h2 := ih fun r hr => hl r (List.mem_cons_of_mem _ hr)
      simp only [List.map_cons, List.sum_cons, List.length_cons]
      rw [h1, h2, Nat.add_mul, Nat.one_mul]; omega
  exact key xss _ fun r hr' => by
    obtain ⟨i, hi, rfl⟩ := List.getElem_of_mem hr'
    exact hr i hi
theorem pit_cat (h : reliefB xss = true) {p : SA2} (hp : p ∈ pits xss (allS xss)) : catV xss p.x p.y = ((catN xss p : Int), true) ∧ 1 ≤ catN xss p ∧ catN xss p ≤ 64 := by
  have hin := allS_in (List.mem_filter.1 hp).1
  refine ⟨?_, catN_pos hin, catN_le h p⟩
  unfold catV listedG
  rw [h, hasSq_of.2 ⟨hin.1, hin.2⟩]; rfl
/-- the sum of the catchments of the first k pits -/
def catSum (xss : List (List Int)) (k : Nat) : Nat := (((pits xss (allS xss)).take k).map (catN xss)).sum
theorem catSum_succ {k : Nat} (hk : k < (pits xss (allS xss)).length) : catSum xss (k + 1) = catSum xss k + catN xss (pits xss (allS xss))[k] := by
  unfold catSum
  rw [take_snoc' hk, List.map_append, List.sum_append]
  simp
theorem catSum_all (h : reliefB xss = true) : catSum xss (pits xss (allS xss)).length = (xss.map List.length).sum := by
  unfold catSum
  rw [List.take_length, pits_sum h, rows_len h]
end
end Go.Proofs.Ytomcdkkjknphpaa
