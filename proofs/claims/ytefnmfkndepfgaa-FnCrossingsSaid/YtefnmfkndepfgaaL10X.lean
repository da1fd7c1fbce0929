/- Plain laws of roads: a road turned around has its length; a plain road goes straight on nowhere and is a road; a part of a road and the rest; crossings from both sides; joined roads. Nothing here speaks of the program. -/
import Derived.Test.YtefnmfkndepfgaaL10V
import Derived.Test.YtefnmfkndepfgaaL10M
import Derived.Test.YtefnmfkndepfgaaL10I
namespace Go.Proofs.Ytefnmfkndepfgaa
open Go.RowKit
set_option linter.unusedVariables false
abbrev cAt (xs : List SCorner) (i : Nat) : SCorner := xs.getD i SCorner.zero
theorem cAt_lt {xs : List SCorner} {i : Nat} (h : i < xs.length) : cAt xs i = xs[i] := by
  simp [cAt, List.getD_eq_getElem?_getD, List.getElem?_eq_getElem h]
theorem cAt_left {xs ys : List SCorner} {i : Nat} (h : i < xs.length) : cAt (xs ++ ys) i = cAt xs i := by
  simp [cAt, List.getD_eq_getElem?_getD, List.getElem?_append_left h]
theorem cAt_right {xs ys : List SCorner} {i : Nat} (h : xs.length ≤ i) : cAt (xs ++ ys) i = cAt ys (i - xs.length) := by
  simp [cAt, List.getD_eq_getElem?_getD, List.getElem?_append_right h]
def inRng (c : SCorner) : Prop := (0 ≤ c.x ∧ c.x ≤ 9999) ∧ 0 ≤ c.y ∧ c.y ≤ 9999
theorem road_iff {xs : List SCorner} : roadB xs = true ↔ (∀ i, i < xs.length → inRng (cAt xs i)) ∧ (∀ i, i + 1 < xs.length → cAt xs i ≠ cAt xs (i + 1)) ∧ 2 ≤ xs.length ∧ xs.length ≤ 12 := by
  unfold roadB
  rw [Bool.and_eq_true, List.all_eq_true, inB_iff]
  constructor
  · rintro ⟨h, h1, h2⟩
    have hc : ∀ i, i < xs.length → cornB xs i = true := fun i hi => h i (List.mem_range.2 hi)
    refine ⟨fun i hi => ?_, fun i hi he => ?_, by omega, by omega⟩
    · have := hc i hi
      unfold cornB at this
      rw [Bool.and_eq_true, Bool.and_eq_true, inB_iff, inB_iff] at this
      exact this.1
    · have := hc (i + 1) hi
      unfold cornB at this
      rw [Bool.and_eq_true, Bool.not_eq_true', Bool.and_eq_false_iff] at this
      rcases this.2 with h3 | h3
      · simp at h3
      · rw [Nat.add_sub_cancel] at h3
        have he' : xs.getD i SCorner.zero = xs.getD (i + 1) SCorner.zero := he
        rw [he'] at h3
        simp [sameC] at h3
  · rintro ⟨h1, h2, h3, h4⟩
    refine ⟨fun i hi => ?_, by omega, by omega⟩
    rw [List.mem_range] at hi
    unfold cornB
    rw [Bool.and_eq_true, Bool.and_eq_true, inB_iff, inB_iff]
    refine ⟨h1 i hi, ?_⟩
    rw [Bool.not_eq_true', Bool.and_eq_false_iff]
    by_cases h0 : 0 < i
    · right
      obtain ⟨j, rfl⟩ : ∃ j, i = j + 1 := ⟨i - 1, by omega⟩
      have := h2 j hi
      rw [Nat.add_sub_cancel]
      refine decide_eq_false_iff_not.2 fun hx => this ?_
      cases ha : xs.getD j SCorner.zero; cases hb : xs.getD (j + 1) SCorner.zero
      rw [ha, hb] at hx
      simp only [cAt, ha, hb] at *
      rw [hx.1, hx.2]
    · left; simp; omega

/-! ### lengths -/
def chainS : List SCorner → Int
  | [] => 0
  | [_] => 0
  | a :: b :: r => partI a.x a.y b.x b.y + chainS (b :: r)
theorem sum_chain : ∀ xs : List SCorner, (lensL xs).sum = chainS xs
  | [] => rfl
  | [a] => rfl
  | a :: b :: r => by
    have ih := sum_chain (b :: r)
    unfold lensL lensN at ih ⊢
    simp only [List.length_cons, Nat.add_sub_cancel] at ih ⊢
    rw [List.range_succ_eq_map, List.map_cons, List.sum_cons, List.map_map]
    show _ = partI a.x a.y b.x b.y + chainS (b :: r)
    rw [← ih]
    rfl
theorem chainS_app (a : SCorner) (ys : List SCorner) : ∀ xs : List SCorner, chainS (xs ++ a :: ys) = chainS (xs ++ [a]) + chainS (a :: ys)
  | [] => by simp [chainS]
  | [x] => by simp [chainS]
  | x :: y :: r => by
    have ih := chainS_app a ys (y :: r)
    simp only [List.cons_append, chainS] at ih ⊢
    rw [ih]; omega
theorem partI_comm (ax ay bx b_ : Int) : partI ax ay bx b_ = partI bx b_ ax ay := by
  unfold partI; congr 1; grind
theorem chainS_rev : ∀ xs : List SCorner, chainS xs.reverse = chainS xs
  | [] => rfl
  | [a] => rfl
  | a :: b :: r => by
    have ih := chainS_rev (b :: r)
    rw [List.reverse_cons] at ih
    rw [List.reverse_cons, List.reverse_cons, List.append_assoc]
    show chainS (r.reverse ++ b :: [a]) = _
    rw [chainS_app, ih]
    simp only [chainS]
    rw [partI_comm b.x]; omega
theorem cAt_rev {xs : List SCorner} {i : Nat} (h : i < xs.length) : cAt xs.reverse i = cAt xs (xs.length - 1 - i) := by
  simp [cAt, List.getD_eq_getElem?_getD, List.getElem?_reverse h]
theorem road_rev {xs : List SCorner} (h : roadB xs = true) : roadB xs.reverse = true := by
  obtain ⟨h1, h2, h3, h4⟩ := road_iff.1 h
  refine road_iff.2 ⟨fun i hi => ?_, fun i hi => ?_, by simpa, by simpa⟩
  · rw [List.length_reverse] at hi
    rw [cAt_rev hi]
    exact h1 _ (by omega)
  · rw [List.length_reverse] at hi
    rw [cAt_rev (by omega), cAt_rev hi]
    have := h2 (xs.length - 1 - (i + 1)) (by omega)
    rw [show xs.length - 1 - (i + 1) + 1 = xs.length - 1 - i by omega] at this
    exact fun e => this e.symm
theorem rl_rev (xs : List SCorner) (h : roadB xs = true) : rlV xs.reverse = rlV xs := by
  unfold rlV
  rw [h, road_rev h, if_pos rfl, if_pos rfl, sum_chain, sum_chain, chainS_rev]
theorem rl_two (xs : List SCorner) : (rlV xs).2 = roadB xs := by unfold rlV; cases roadB xs <;> rfl
theorem rev_two (xs : List SCorner) : (revV xs).2 = roadB xs := by unfold revV; cases roadB xs <;> rfl
theorem rev_one (xs : List SCorner) (h : roadB xs = true) : (revV xs).1 = xs.reverse := by unfold revV; rw [h]; rfl
theorem rev_rev (xs : List SCorner) (h : roadB xs = true) : revV xs.reverse = (xs, true) := by
  unfold revV; rw [road_rev h, if_pos rfl, List.reverse_reverse]

/-! ### joined -/
theorem meets_eq {xs ys : List SCorner} (h : meetsB xs ys = true) : cAt xs (xs.length - 1) = cAt ys 0 := by
  unfold meetsB at h
  rw [sameC_iff] at h
  show xs.getD _ _ = ys.getD _ _
  cases ha : xs.getD (xs.length - 1) SCorner.zero; cases hb : ys.getD 0 SCorner.zero
  rw [ha, hb] at h
  simp only at h
  rw [h.1, h.2]
theorem chain_join {xs ys : List SCorner} (hx : 1 ≤ xs.length) (hy : 1 ≤ ys.length) (h : cAt xs (xs.length - 1) = cAt ys 0) : chainS (xs ++ ys.drop 1) = chainS xs + chainS ys := by
  obtain ⟨b, r, rfl⟩ : ∃ b r, ys = b :: r := List.exists_cons_of_length_pos hy
  have hs : xs = xs.dropLast ++ [b] := by
    have h0 : xs ≠ [] := by intro e; subst e; simp at hx
    have h1 := List.dropLast_concat_getLast h0
    rw [cAt_lt (by omega)] at h
    rw [← h1]
    congr 2
    · rw [h1]
    · rw [List.getLast_eq_getElem, h]; rfl
  rw [hs]
  simp only [List.drop_succ_cons, List.drop_zero, List.append_assoc, List.singleton_append]
  rw [chainS_app]
theorem join_parts {xs ys : List SCorner} (h : (joinV xs ys).2 = true) : (rlV xs).2 = true ∧ (rlV ys).2 = true ∧ (rlV (joinV xs ys).1).2 = true ∧ (rlV (joinV xs ys).1).1 = (rlV xs).1 + (rlV ys).1 := by
  unfold joinV at h ⊢
  split at h
  · rename_i hc
    rw [if_pos hc]
    rw [Bool.and_eq_true, Bool.and_eq_true, Bool.and_eq_true] at hc
    obtain ⟨h1, h2, h3, h4⟩ := hc
    have l1 := road_len h1
    have l2 := road_len h2
    rw [rl_two, rl_two, rl_two]
    refine ⟨h1, h2, h4, ?_⟩
    unfold rlV
    rw [h1, h2]
    simp only [h4, if_true]
    rw [sum_chain, sum_chain, sum_chain]
    exact chain_join (by omega) (by omega) (meets_eq h3)
  · exact absurd h (by simp)

/-! ### along -/
theorem along_sum : ∀ (L : List Int) (n : Int), (along L n).1 ≤ L.length ∧ (L.take (along L n).1).sum + (along L n).2 = n
  | [], n => by simp [along]
  | [_], n => by simp [along]
  | p :: q :: r, n => by
    have ih := along_sum (q :: r) (n - p)
    simp only [along]
    split
    · simp only [List.length_cons, List.take_succ_cons, List.sum_cons] at ih ⊢
      omega
    · simp
theorem along_lt : ∀ (L : List Int) (n : Int), 1 ≤ L.length → (along L n).1 < L.length
  | [], n, h => by simp at h
  | [_], n, _ => by simp [along]
  | p :: q :: r, n, _ => by
    have ih := along_lt (q :: r) (n - p) (by simp)
    simp only [along]
    split
    · simp only [List.length_cons] at ih ⊢; omega
    · simp
theorem lens_take (xs : List SCorner) (p : Nat) (h : p + 1 ≤ xs.length) : lensL (xs.take (p + 1)) = (lensL xs).take p := by
  unfold lensL lensN
  rw [List.length_take, Nat.min_eq_left h, Nat.add_sub_cancel, ← List.map_take, List.take_range, Nat.min_eq_left (by omega)]
  refine List.map_congr_left fun i hi => ?_
  rw [List.mem_range] at hi
  unfold partAt
  simp only [List.getD_eq_getElem?_getD]
  rw [List.getElem?_take_of_lt (by omega), List.getElem?_take_of_lt (by omega)]
theorem road_take {xs : List SCorner} (h : roadB xs = true) {p : Nat} (h0 : 0 < p) (h1 : p + 1 ≤ xs.length) : roadB (xs.take (p + 1)) = true := by
  obtain ⟨r1, r2, r3, r4⟩ := road_iff.1 h
  have hg : ∀ i, i < p + 1 → cAt (xs.take (p + 1)) i = cAt xs i := fun i hi => by
    simp only [cAt, List.getD_eq_getElem?_getD]
    rw [List.getElem?_take_of_lt hi]
  have hl : (xs.take (p + 1)).length = p + 1 := by rw [List.length_take]; omega
  refine road_iff.2 ⟨fun i hi => ?_, fun i hi => ?_, by omega, by omega⟩
  · rw [hl] at hi; rw [hg i hi]; exact r1 i (by omega)
  · rw [hl] at hi; rw [hg i (by omega), hg _ hi]; exact r2 i (by omega)
theorem rl_bd (xs : List SCorner) : 0 ≤ (rlV xs).1 ∧ (rlV xs).1 ≤ 24000000 := by
  unfold rlV
  split
  · rename_i h
    have l := road_len h
    have := sumN_bd h (xs.length - 1) (by omega)
    show 0 ≤ (lensN xs (xs.length - 1)).sum ∧ (lensN xs (xs.length - 1)).sum ≤ 24000000
    omega
  · simp
theorem along_bd {xs : List SCorner} {n : Int} (h : (alongV xs n).2.2 = true) : 0 ≤ n ∧ n ≤ 24000000 := by
  unfold alongV at h
  split at h
  · rename_i hc
    rw [Bool.and_eq_true, inB_iff] at hc
    have l := road_len hc.1
    have := sumN_bd hc.1 (xs.length - 1) (by omega)
    have e : (lensL xs).sum = (lensN xs (xs.length - 1)).sum := rfl
    omega
  · exact absurd h (by simp)
/-- the part and the rest: the road up to the part is as long as what is gone -/
theorem along_law {xs : List SCorner} {n : Int} (h : (alongV xs n).2.2 = true) : ∃ p : Nat, (alongV xs n).1 = (p : Int) ∧ p + 1 < xs.length ∧ (p = 0 → (alongV xs n).2.1 = n) ∧ (0 < p → (rlV (xs.take (p + 1))).2 = true ∧ (rlV (xs.take (p + 1))).1 + (alongV xs n).2.1 = n) := by
  unfold alongV at h ⊢
  split at h
  · rename_i hc
    rw [if_pos hc]
    rw [Bool.and_eq_true] at hc
    have l1 := road_len hc.1
    have hlen : (lensL xs).length = xs.length - 1 := by simp [lensL, lensN]
    have a1 := along_sum (lensL xs) n
    have a2 := along_lt (lensL xs) n (by omega)
    rw [hlen] at a2
    refine ⟨(along (lensL xs) n).1, rfl, by omega, fun h0 => ?_, fun h0 => ?_⟩
    · have := a1.2
      rw [h0] at this
      simpa using this
    · have hr := road_take hc.1 h0 (show (along (lensL xs) n).1 + 1 ≤ xs.length by omega)
      rw [rl_two]
      refine ⟨hr, ?_⟩
      unfold rlV
      rw [hr, if_pos rfl, lens_take _ _ (by omega)]
      exact a1.2
  · exact absurd h (by simp)

/-! ### a plain road -/
def par (ux uy vx vy : Int) : Prop := ux * vy - uy * vx = 0 ∧ 0 < ux * vx + uy * vy
theorem par_pos {ux uy vx vy : Int} (h : par ux uy vx vy) : 0 < vx * vx + vy * vy := by
  have h1 := sq_nonneg' vx
  have h2 := sq_nonneg' vy
  by_cases h0 : vx * vx + vy * vy ≤ 0
  · have hx := sq_zero (x := vx) (by omega)
    have hy := sq_zero (x := vy) (by omega)
    subst hx hy
    have := h.2
    simp at this
  · omega
theorem par_symm {ux uy vx vy : Int} (h : par ux uy vx vy) : par vx vy ux uy := by
  obtain ⟨h1, h2⟩ := h
  refine ⟨by grind, by grind⟩
theorem par_trans {ux uy vx vy wx wy : Int} (h : par ux uy vx vy) (k : par vx vy wx wy) : par ux uy wx wy := by
  have hv := par_pos h
  obtain ⟨h1, h2⟩ := h
  obtain ⟨k1, k2⟩ := k
  have e1 : (ux * wy - uy * wx) * (vx * vx + vy * vy) = (ux * vy - uy * vx) * (vx * wx + vy * wy) + (ux * vx + uy * vy) * (vx * wy - vy * wx) := by grind
  have e2 : (ux * wx + uy * wy) * (vx * vx + vy * vy) = (ux * vx + uy * vy) * (vx * wx + vy * wy) - (ux * vy - uy * vx) * (vx * wy - vy * wx) := by grind
  rw [h1, k1] at e1
  rw [h1, k1] at e2
  refine ⟨?_, ?_⟩
  · have : (ux * wy - uy * wx) * (vx * vx + vy * vy) = 0 := by rw [e1]; simp
    rcases Int.mul_eq_zero.1 this with h | h
    · exact h
    · omega
  · by_cases hn : ux * wx + uy * wy ≤ 0
    · have h3 := Int.mul_le_mul_of_nonneg_right hn (show 0 ≤ vx * vx + vy * vy by omega)
      have h4 := Int.mul_pos h2 k2
      rw [e2] at h3
      simp at h3
      omega
    · omega
theorem par_add {ux uy vx vy : Int} (h : par ux uy vx vy) : par (ux + vx) (uy + vy) vx vy := by
  have hv := par_pos h
  obtain ⟨h1, h2⟩ := h
  refine ⟨by grind, ?_⟩
  have : (ux + vx) * vx + (uy + vy) * vy = (ux * vx + uy * vy) + (vx * vx + vy * vy) := by grind
  omega
/-- the way from a to b goes as the way from c to d -/
def way (a b c d : SCorner) : Prop := par (b.x - a.x) (b.y - a.y) (d.x - c.x) (d.y - c.y)
theorem way_symm {a b c d : SCorner} (h : way a b c d) : way c d a b := par_symm h
theorem way_trans {a b c d e f : SCorner} (h : way a b c d) (k : way c d e f) : way a b e f := par_trans h k
theorem way_add {a b c : SCorner} (h : way a b b c) : way a c b c := by
  have := par_add h
  unfold way
  rwa [show b.x - a.x + (c.x - b.x) = c.x - a.x by omega, show b.y - a.y + (c.y - b.y) = c.y - a.y by omega] at this
theorem way_ne {a b c d : SCorner} (h : way a b c d) : a ≠ b := by
  intro e; subst e
  have := h.2
  simp at this
theorem way_self {a b : SCorner} (h : a ≠ b) : way a b a b := by
  unfold way par
  refine ⟨by grind, ?_⟩
  have h1 := sq_nonneg' (b.x - a.x)
  have h2 := sq_nonneg' (b.y - a.y)
  by_cases h0 : (b.x - a.x) * (b.x - a.x) + (b.y - a.y) * (b.y - a.y) ≤ 0
  · have hx := sq_zero (x := b.x - a.x) (by omega)
    have hy := sq_zero (x := b.y - a.y) (by omega)
    exfalso; apply h
    have e1 : a.x = b.x := by omega
    have e2 : a.y = b.y := by omega
    cases a; cases b
    simp only at e1 e2
    subst e1 e2
    rfl
  · omega
theorem bend_way (a b c : SCorner) : bendU a.x a.y b.x b.y c.x c.y = 115 ↔ way a b b c := by
  unfold bendU way par sideI aheadI
  constructor
  · intro h
    split at h
    · exact absurd h (by decide)
    · split at h
      · exact absurd h (by decide)
      · split at h
        · exact ⟨by omega, by omega⟩
        · exact absurd h (by decide)
  · rintro ⟨h1, h2⟩
    rw [if_neg (by omega), if_neg (by omega), if_pos (by omega)]
theorem bendAt_way (xs : List SCorner) (i : Nat) : bendAt xs i = 115 ↔ way (cAt xs i) (cAt xs (i + 1)) (cAt xs (i + 1)) (cAt xs (i + 2)) := bend_way _ _ _
structure PlainI (xs : List SCorner) (m : Nat) (P : List SCorner) (l : Nat) : Prop where
  len : 1 ≤ P.length
  last : cAt P (P.length - 1) = cAt xs l
  lt : l < m
  st : stays xs l = true
  dist : ∀ i, i + 1 < P.length → cAt P i ≠ cAt P (i + 1)
  nos : ∀ i, i + 2 < P.length → ¬ way (cAt P i) (cAt P (i + 1)) (cAt P (i + 1)) (cAt P (i + 2))
  inn : 2 ≤ P.length → 0 < l ∧ way (cAt P (P.length - 2)) (cAt xs l) (cAt xs (l - 1)) (cAt xs l)
  out : m < xs.length → way (cAt xs l) (cAt xs m) (cAt xs (m - 1)) (cAt xs m) ∧ way (cAt xs l) (cAt xs m) (cAt xs l) (cAt xs (l + 1))
theorem plainI_one {xs : List SCorner} (h : roadB xs = true) : PlainI xs 1 (plainN xs 1) 0 := by
  obtain ⟨r1, r2, r3, r4⟩ := road_iff.1 h
  have hs : stays xs 0 = true := by simp [stays]
  have hp : plainN xs 1 = [cAt xs 0] := by rw [plainN_succ, hs]; rfl
  rw [hp]
  refine ⟨by simp, rfl, by omega, hs, fun i hi => by simp at hi, fun i hi => by simp at hi, fun h2 => by simp at h2, fun hm => ?_⟩
  have := way_self (r2 0 hm)
  exact ⟨this, this⟩
theorem plainI_step {xs : List SCorner} (h : roadB xs = true) {m l : Nat} {P : List SCorner} (hm : m < xs.length) (h0 : 0 < m) (hP : PlainI xs m P l) : ∃ l', PlainI xs (m + 1) (P ++ if stays xs m then [cAt xs m] else []) l' := by
  obtain ⟨r1, r2, r3, r4⟩ := road_iff.1 h
  obtain ⟨hlen, hlast, hlt, hst, hdist, hnos, hinn, hout⟩ := hP
  obtain ⟨o1, o2⟩ := hout hm
  by_cases hs : stays xs m = true
  · refine ⟨m, ?_⟩
    rw [if_pos hs]
    have hL : (P ++ [cAt xs m]).length = P.length + 1 := by simp
    have hl1 : cAt (P ++ [cAt xs m]) P.length = cAt xs m := by rw [cAt_right (Nat.le_refl _), Nat.sub_self]; rfl
    have hl2 : cAt (P ++ [cAt xs m]) (P.length - 1) = cAt xs l := by rw [cAt_left (by omega), hlast]
    refine ⟨by omega, ?_, by omega, hs, fun i hi => ?_, fun i hi => ?_, fun h2 => ⟨h0, ?_⟩, fun hm1 => ?_⟩
    · rw [hL, Nat.add_sub_cancel, hl1]
    · rw [hL] at hi
      by_cases he : i + 1 = P.length
      · rw [he, hl1, show i = P.length - 1 by omega, hl2]
        exact way_ne o1
      · rw [cAt_left (by omega), cAt_left (by omega)]
        exact hdist i (by omega)
    · rw [hL] at hi
      by_cases he : i + 2 = P.length
      · rw [he, hl1, show i + 1 = P.length - 1 by omega, hl2, show i = P.length - 2 by omega, cAt_left (by omega)]
        obtain ⟨i0, i1⟩ := hinn (by omega)
        intro hw
        have hb : bendAt xs (l - 1) = 115 := by
          rw [bendAt_way, show l - 1 + 1 = l by omega, show l - 1 + 2 = l + 1 by omega]
          exact way_trans (way_symm i1) (way_trans hw o2)
        unfold stays at hst
        rw [hb] at hst
        simp at hst
        omega
      · rw [cAt_left (by omega), cAt_left (by omega), cAt_left (by omega)]
        exact hnos i (by omega)
    · rw [hL, show P.length + 1 - 2 = P.length - 1 by omega, hl2]
      exact o1
    · have := way_self (r2 m hm1)
      rw [Nat.add_sub_cancel]
      exact ⟨this, this⟩
  · refine ⟨l, ?_⟩
    rw [if_neg hs, List.append_nil]
    refine ⟨hlen, hlast, by omega, hst, hdist, hnos, hinn, fun hm1 => ?_⟩
    unfold stays at hs
    simp only [Bool.or_eq_true, decide_eq_true_eq, Bool.not_eq_true', decide_eq_false_iff_not, not_or, Decidable.not_not] at hs
    have hb := (bendAt_way _ _).1 hs.2.2
    rw [show m - 1 + 1 = m by omega, show m - 1 + 2 = m + 1 by omega] at hb
    have t1 := way_trans o1 hb
    have t2 := way_add t1
    rw [Nat.add_sub_cancel]
    exact ⟨t2, way_trans t2 (way_trans (way_symm t1) o2)⟩
theorem plainI_all {xs : List SCorner} (h : roadB xs = true) : ∀ m, m + 1 ≤ xs.length → ∃ l, PlainI xs (m + 1) (plainN xs (m + 1)) l
  | 0, _ => ⟨0, plainI_one h⟩
  | m + 1, hm => by
    obtain ⟨l, hl⟩ := plainI_all h m (by omega)
    rw [plainN_succ xs (m + 1)]
    exact plainI_step h (by omega) (by omega) hl
theorem plain_road {xs : List SCorner} (h : roadB xs = true) : roadB (plainN xs xs.length) = true ∧ ∀ i, i + 2 < (plainN xs xs.length).length → bendAt (plainN xs xs.length) i ≠ 115 := by
  obtain ⟨r1, r2, r3, r4⟩ := road_iff.1 h
  obtain ⟨l, hl⟩ := plainI_all h (xs.length - 1) (by omega)
  obtain ⟨l2, hl2⟩ := plainI_all h (xs.length - 2) (by omega)
  rw [show xs.length - 1 + 1 = xs.length by omega] at hl
  rw [show xs.length - 2 + 1 = xs.length - 1 by omega] at hl2
  have hn : (plainN xs xs.length).length = (plainN xs (xs.length - 1)).length + 1 := by
    have : plainN xs (xs.length - 1 + 1) = plainN xs (xs.length - 1) ++ _ := plainN_succ xs (xs.length - 1)
    rw [show xs.length - 1 + 1 = xs.length by omega] at this
    rw [this, if_pos (by unfold stays; simp; omega)]
    simp
  have h1 := hl2.len
  refine ⟨road_iff.2 ⟨fun i hi => ?_, hl.dist, by omega, Nat.le_trans (plainN_le _ _) r4⟩, fun i hi hb => hl.nos i hi ((bendAt_way _ _).1 hb)⟩
  have hmem : cAt (plainN xs xs.length) i ∈ plainN xs xs.length := by rw [cAt_lt hi]; exact List.getElem_mem hi
  generalize cAt (plainN xs xs.length) i = c at hmem
  unfold plainN at hmem
  rw [List.mem_map] at hmem
  obtain ⟨k, hk, rfl⟩ := hmem
  exact r1 k (List.mem_range.1 (List.mem_filter.1 hk).1)
/-- how often the road goes straight on in the first n bends -/
def straightN (xs : List SCorner) (n : Nat) : Nat := ((List.range n).filter fun i => decide (bendAt xs i = 115)).length
theorem straightN_succ (xs : List SCorner) (n : Nat) : straightN xs (n + 1) = straightN xs n + if bendAt xs n = 115 then 1 else 0 := by
  unfold straightN
  rw [List.range_succ, List.filter_append, List.length_append]
  congr 1
  by_cases h : bendAt xs n = 115 <;> simp [h]
theorem straightN_le (xs : List SCorner) (n : Nat) : straightN xs n ≤ n := by
  unfold straightN
  exact Nat.le_trans (List.length_filter_le _ _) (by simp)
theorem plain_count {xs : List SCorner} : ∀ m, m + 2 ≤ xs.length → (plainN xs (m + 1)).length + straightN xs m = m + 1
  | 0, _ => by
    rw [plainN_succ, if_pos (by simp [stays])]
    simp [plainN, straightN]
  | m + 1, h => by
    have ih := plain_count (xs := xs) m (by omega)
    rw [plainN_succ, straightN_succ, List.length_append]
    have hs : stays xs (m + 1) = !decide (bendAt xs m = 115) := by
      unfold stays
      have a1 : decide (m + 1 = 0) = false := by simp
      have a2 : decide (m + 1 + 1 = xs.length) = false := decide_eq_false (by omega)
      rw [a1, a2, Nat.add_sub_cancel]; simp
    rw [hs]
    by_cases hb : bendAt xs m = 115 <;> simp [hb] <;> omega
theorem plain_all {xs : List SCorner} (h : 2 ≤ xs.length) : (plainN xs xs.length).length + straightN xs (xs.length - 2) = xs.length := by
  have h1 := plain_count (xs := xs) (xs.length - 2) (by omega)
  rw [show xs.length - 2 + 1 = xs.length - 1 by omega] at h1
  have : plainN xs (xs.length - 1 + 1) = plainN xs (xs.length - 1) ++ _ := plainN_succ xs (xs.length - 1)
  rw [show xs.length - 1 + 1 = xs.length by omega] at this
  rw [this, if_pos (by unfold stays; simp; omega), List.length_append, List.length_singleton]
  omega
theorem plain_law {xs : List SCorner} (h : roadB xs = true) : (plainV xs).2 = true ∧ (bendsV xs).2 = true ∧ (bendsV (plainV xs).1).2 = true ∧ (bendsV xs).1 = ⟨(bendsL xs).toArray⟩ ∧ (bendsV (plainV xs).1).1 = ⟨(bendsL (plainV xs).1).toArray⟩ ∧ (∀ c ∈ bendsL (plainV xs).1, c ≠ 115) ∧ (plainV xs).1.length + straightN xs (bendsL xs).length = xs.length := by
  have hp := plain_road h
  have e1 : plainV xs = (plainN xs xs.length, true) := by unfold plainV; rw [h]; rfl
  have hl := road_len h
  rw [e1]
  unfold bendsV
  simp only [h, hp.1, if_true]
  refine ⟨trivial, trivial, trivial, trivial, trivial, fun c hc => ?_, ?_⟩
  · unfold bendsL bendsN at hc
    rw [List.mem_map] at hc
    obtain ⟨i, hi, rfl⟩ := hc
    rw [List.mem_range] at hi
    exact hp.2 i (by omega)
  · have : (bendsL xs).length = xs.length - 2 := by simp [bendsL, bendsN]
    rw [this]
    exact plain_all hl.1
theorem plain_no {xs : List SCorner} (h : roadB xs = false) : plainV xs = ([], false) ∧ bendsV xs = (⟨#[]⟩, false) := by
  unfold plainV bendsV; rw [h]; exact ⟨rfl, rfl⟩

theorem plain_two (xs : List SCorner) : (plainV xs).2 = roadB xs := by unfold plainV; cases roadB xs <;> rfl
theorem bends_two (xs : List SCorner) : (bendsV xs).2 = roadB xs := by unfold bendsV; cases roadB xs <;> rfl
theorem Is.take {α : Type} {k : Nat} {enc : α → Nat → Value} {w : World} {A : Option Addr} {n cap m : Nat} {xs : List α} (h : Is k enc w (.slice A n cap) xs) (hm : m ≤ xs.length) : Is k enc w (.slice A m cap) (xs.take m) := by
  obtain ⟨A', cap', he, hr, h1, h2⟩ := h
  injection he with e1 e2 e3
  subst e1 e3
  have hl : (xs.take m).length = m := by rw [List.length_take]; omega
  refine ⟨A, cap, by rw [hl], ?_, by omega, h2⟩
  rcases hr with rfl | ⟨b, off, hA, hb, hc⟩
  · exact .inl (by simp)
  · refine .inr ⟨b, off, hA, hb, fun i x hx j hj => hc i x ?_ j hj⟩
    rw [List.getElem?_take] at hx
    split at hx
    · exact hx
    · simp at hx

/-! ### crossings from both sides -/
theorem crossB_comm (ax ay bx b_ px py qx qy : Int) : crossB ax ay bx b_ px py qx qy = crossB px py qx qy ax ay bx b_ := by
  unfold crossB
  generalize onB ax ay bx b_ px py = a1
  generalize onB ax ay bx b_ qx qy = a2
  generalize onB px py qx qy ax ay = a3
  generalize onB px py qx qy bx b_ = a4
  generalize splitB ax ay bx b_ px py qx qy = a5
  generalize splitB px py qx qy ax ay bx b_ = a6
  cases a1 <;> cases a2 <;> cases a3 <;> cases a4 <;> cases a5 <;> cases a6 <;> rfl
theorem pairC_comm (xs ys : List SCorner) (i k : Nat) : pairC xs ys i k = pairC ys xs k i := crossB_comm _ _ _ _ _ _ _ _
theorem crossRow_mem {xs ys : List SCorner} {i n : Nat} {c : SA2} : c ∈ crossRow xs ys i n ↔ ∃ k, k < n ∧ pairC xs ys i k = true ∧ c = ⟨(i : Int), (k : Int)⟩ := by
  unfold crossRow
  rw [List.mem_map]
  constructor
  · rintro ⟨k, hk, rfl⟩
    obtain ⟨h1, h2⟩ := List.mem_filter.1 hk
    exact ⟨k, List.mem_range.1 h1, h2, rfl⟩
  · rintro ⟨k, h1, h2, rfl⟩
    exact ⟨k, List.mem_filter.2 ⟨List.mem_range.2 h1, h2⟩, rfl⟩
theorem crossN_mem {xs ys : List SCorner} {m : Nat} {c : SA2} : c ∈ crossN xs ys m ↔ ∃ i k, i < m ∧ k < ys.length - 1 ∧ pairC xs ys i k = true ∧ c = ⟨(i : Int), (k : Int)⟩ := by
  unfold crossN
  rw [List.mem_flatMap]
  constructor
  · rintro ⟨i, hi, hc⟩
    obtain ⟨k, h1, h2, h3⟩ := crossRow_mem.1 hc
    exact ⟨i, k, List.mem_range.1 hi, h1, h2, h3⟩
  · rintro ⟨i, k, h0, h1, h2, h3⟩
    exact ⟨i, List.mem_range.2 h0, crossRow_mem.2 ⟨k, h1, h2, h3⟩⟩
/-- how many of the pairs below m and n hold -/
def grd (p : Nat → Nat → Bool) (m n : Nat) : Nat := ((List.range m).map fun i => ((List.range n).filter (p i)).length).sum
theorem sum_map_add (f g : Nat → Nat) : ∀ l : List Nat, (l.map fun i => f i + g i).sum = (l.map f).sum + (l.map g).sum
  | [] => rfl
  | a :: l => by
    have := sum_map_add f g l
    simp only [List.map_cons, List.sum_cons]
    omega
theorem filter_len (p : Nat → Bool) : ∀ l : List Nat, (l.filter p).length = (l.map fun i => if p i then 1 else 0).sum
  | [] => rfl
  | a :: l => by
    have := filter_len p l
    rw [List.filter_cons, List.map_cons, List.sum_cons, ← this]
    by_cases h : p a = true
    · rw [if_pos h, if_pos h, List.length_cons]; omega
    · rw [if_neg h, if_neg h]; omega
theorem grd_swap (p : Nat → Nat → Bool) (m : Nat) : ∀ n, grd p m n = grd (fun k i => p i k) n m
  | 0 => by
    unfold grd
    simp only [List.range_zero, List.filter_nil, List.length_nil, List.map_nil, List.sum_nil]
    induction m with
    | zero => rfl
    | succ m ih => rw [List.range_succ, List.map_append, List.sum_append, ih]; rfl
  | n + 1 => by
    have ih := grd_swap p m n
    unfold grd at ih ⊢
    rw [List.range_succ, List.map_append, List.sum_append, ← ih]
    simp only [List.map_cons, List.map_nil, List.sum_cons, List.sum_nil, Nat.add_zero, List.filter_append, List.length_append]
    rw [sum_map_add, filter_len]
    congr 2
    refine List.map_congr_left fun i _ => ?_
    by_cases h : p i n = true <;> simp [h]
theorem crossN_len (xs ys : List SCorner) : ∀ m, (crossN xs ys m).length = grd (pairC xs ys) m (ys.length - 1)
  | 0 => rfl
  | m + 1 => by
    have ih := crossN_len xs ys m
    rw [crossN_succ, List.length_append, ih]
    unfold grd
    rw [List.range_succ, List.map_append, List.sum_append]
    simp [crossRow]
theorem cross_len (xs ys : List SCorner) : (crossV ys xs).1.length = (crossV xs ys).1.length := by
  unfold crossV
  rw [Bool.and_comm]
  split
  · simp only
    rw [crossN_len, crossN_len, grd_swap (pairC xs ys)]
    congr 1
    funext i k
    exact pairC_comm ys xs i k
  · rfl
theorem cross_two (xs ys : List SCorner) : (crossV ys xs).2 = (crossV xs ys).2 := by
  unfold crossV
  rw [Bool.and_comm]
  split <;> rfl
theorem cross_found {xs ys : List SCorner} {c : SA2} (h : c ∈ (crossV xs ys).1) : (⟨c.y, c.x⟩ : SA2) ∈ (crossV ys xs).1 := by
  unfold crossV at h ⊢
  rw [Bool.and_comm (roadB ys)]
  split at h
  · rename_i hc
    rw [if_pos hc]
    obtain ⟨i, k, h1, h2, h3, rfl⟩ := crossN_mem.1 h
    exact crossN_mem.2 ⟨k, i, h2, h1, by rw [pairC_comm]; exact h3, rfl⟩
  · simp at h
end Go.Proofs.Ytefnmfkndepfgaa
