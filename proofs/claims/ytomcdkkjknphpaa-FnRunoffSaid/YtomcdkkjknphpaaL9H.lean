/- SteepestSquare: the Lean function steepV; contract of impl's. No condition. -/
import Derived.Test.YtomcdkkjknphpaaL9G
namespace Go.Proofs.Ytomcdkkjknphpaa
open Go.RowKit
set_option linter.unusedVariables false
theorem results_tmp4 {fn : Func} {t u v x : Tmp} (h : fn.results = #[.tmp t, .tmp u, .tmp v, .tmp x]) (tmps : Array Value) (P : Program) (w : World) :
    (results fn tmps).run P w = .ok (.tuple #[tmps.getD t undef, tmps.getD u undef, tmps.getD v undef, tmps.getD x undef]) w := by
  simp [results, h]
def dropS (xss : List (List Int)) (p : SA2) : Int := cellS xss p - cellS xss (bestN xss p.x p.y)
def stTo (xss : List (List Int)) (l : List SA2) : Nat → SA2 × Int
  | 0 => (⟨0, 0⟩, 0)
  | k + 1 => if (stTo xss l k).2 < dropS xss (l.getD k SA2.zero) then (l.getD k SA2.zero, dropS xss (l.getD k SA2.zero)) else stTo xss l k
theorem cellS_in {xss : List (List Int)} (h : reliefB xss = true) {p : SA2} (hp : (0 ≤ p.x ∧ p.x < xss.length) ∧ (0 ≤ p.y ∧ p.y < hdLen xss)) : 0 ≤ cellS xss p ∧ cellS xss p ≤ 9999 := by
  obtain ⟨⟨x0, x1⟩, ⟨y0, y1⟩⟩ := hp
  have hi : p.x.toNat < xss.length := by omega
  have hrl := relief_row h hi
  have hj : p.y.toNat < xss[p.x.toNat].length := by omega
  unfold reliefB at h
  rw [Bool.and_eq_true] at h
  have h2 := List.all_eq_true.1 h.2 xss[p.x.toNat] (List.getElem_mem hi)
  unfold rowB at h2
  rw [Bool.and_eq_true, Bool.and_eq_true] at h2
  have h3 := List.all_eq_true.1 h2.2.2 xss[p.x.toNat][p.y.toNat] (List.getElem_mem hj)
  have h4 := inB_iff.1 h3
  unfold cellS
  simp only [List.getD_eq_getElem?_getD, List.getElem?_eq_getElem hi, Option.getD_some, List.getElem?_eq_getElem hj]
  exact h4
theorem bestN_in {xss : List (List Int)} {p : SA2} (hp : (0 ≤ p.x ∧ p.x < xss.length) ∧ (0 ≤ p.y ∧ p.y < hdLen xss)) : (0 ≤ (bestN xss p.x p.y).x ∧ (bestN xss p.x p.y).x < xss.length) ∧ (0 ≤ (bestN xss p.x p.y).y ∧ (bestN xss p.x p.y).y < hdLen xss) :=
  best_in hp.1 hp.2 (Nat.le_refl _)
theorem dropS_in {xss : List (List Int)} (h : reliefB xss = true) {p : SA2} (hp : (0 ≤ p.x ∧ p.x < xss.length) ∧ (0 ≤ p.y ∧ p.y < hdLen xss)) : 0 ≤ dropS xss p ∧ dropS xss p ≤ 9999 := by
  have h1 := cellS_in h hp
  have h2 := cellS_in h (bestN_in hp)
  have h3 := bestTo_le xss (nearS xss p.x p.y) ⟨p.x, p.y⟩ (nearS xss p.x p.y).length
  unfold dropS
  have h4 : cellS xss (bestN xss p.x p.y) ≤ cellS xss p := h3
  omega
theorem sqTo_mem {m n : Nat} {p : SA2} (h : p ∈ sqTo m n) : (0 ≤ p.x ∧ p.x < n) ∧ (0 ≤ p.y ∧ p.y < m) := by
  unfold sqTo sqRow at h
  rw [List.mem_flatMap] at h
  obtain ⟨r, hr, h⟩ := h
  obtain ⟨c, hc, rfl⟩ := List.mem_map.1 h
  rw [List.mem_range] at hr hc
  simp only; omega
theorem stTo_in {xss : List (List Int)} (h : reliefB xss = true) {l : List SA2} (hl : ∀ p ∈ l, (0 ≤ p.x ∧ p.x < xss.length) ∧ (0 ≤ p.y ∧ p.y < hdLen xss)) : ∀ k, k ≤ l.length → 0 ≤ (stTo xss l k).2 ∧ (stTo xss l k).2 ≤ 9999
  | 0, _ => by simp [stTo]
  | k + 1, hk => by
    have h1 := stTo_in h hl k (by omega)
    have h2 := dropS_in h (hl l[k] (List.getElem_mem (show k < l.length by omega)))
    unfold stTo
    simp only [List.getD_eq_getElem?_getD, List.getElem?_eq_getElem (show k < l.length by omega), Option.getD_some]
    split
    · exact h2
    · exact h1
def steepV (xss : List (List Int)) : (Int × Int × Int) × Bool :=
  if reliefB xss && !decide ((stTo xss (sqTo (hdLen xss) xss.length) (sqTo (hdLen xss) xss.length).length).2 = 0) then
    (((stTo xss (sqTo (hdLen xss) xss.length) (sqTo (hdLen xss) xss.length).length).1.x, (stTo xss (sqTo (hdLen xss) xss.length) (sqTo (hdLen xss) xss.length).length).1.y, (stTo xss (sqTo (hdLen xss) xss.length) (sqTo (hdLen xss) xss.length).length).2), true) else ((0, 0, 0), false)
theorem stTo_next (xss : List (List Int)) (l : List SA2) {k : Nat} (hk : k < l.length) : stTo xss l (k + 1) = if (stTo xss l k).2 < cellS xss l[k] - cellS xss (bestN xss l[k].x l[k].y) then (l[k], cellS xss l[k] - cellS xss (bestN xss l[k].x l[k].y)) else stTo xss l k := by
  show (if _ then _ else _) = _
  simp only [List.getD_eq_getElem?_getD, List.getElem?_eq_getElem hk, Option.getD_some]
  rfl
end Go.Proofs.Ytomcdkkjknphpaa
