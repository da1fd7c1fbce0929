/- Contract of spec's l9Near: the same list as impl's around. Condition: the square is one of the relief. -/
import Derived.Test.YtomcdkkjknphpaaL9B
namespace Go.Proofs.Ytomcdkkjknphpaa
open Go.RowKit
set_option linter.unusedVariables false
theorem hasSq_of {xss : List (List Int)} {r c : Int} : hasSq xss r c = true ↔ (0 ≤ r ∧ r < xss.length) ∧ (0 ≤ c ∧ c < hdLen xss) := by
  unfold hasSq; rw [Bool.and_eq_true, inB_iff, inB_iff]; omega
theorem hasSq_dec {xss : List (List Int)} {r c : Int} {p : Prop} [Decidable p] (h : p ↔ (0 ≤ r ∧ r < xss.length) ∧ (0 ≤ c ∧ c < hdLen xss)) : hasSq xss r c = decide p := by
  rw [Bool.eq_iff_iff, hasSq_of, decide_eq_true_eq, h]
theorem nearS_eq {xss : List (List Int)} {r c : Int} (hr : 0 ≤ r ∧ r < xss.length) (hc : 0 ≤ c ∧ c < hdLen xss) :
    nearS xss r c = (if 0 < r then [(⟨r - 1, c⟩ : SA2)] else []) ++ ((if c + 1 < hdLen xss then [(⟨r, c + 1⟩ : SA2)] else []) ++ ((if r + 1 < xss.length then [(⟨r + 1, c⟩ : SA2)] else []) ++ (if 0 < c then [(⟨r, c - 1⟩ : SA2)] else []))) := by
  unfold nearS cands
  have h1 : hasSq xss (r - 1) c = decide (0 < r) := hasSq_dec (by omega)
  have h2 : hasSq xss r (c + 1) = decide (c + 1 < hdLen xss) := hasSq_dec (by omega)
  have h3 : hasSq xss (r + 1) c = decide (r + 1 < xss.length) := hasSq_dec (by omega)
  have h4 : hasSq xss r (c - 1) = decide (0 < c) := hasSq_dec (by omega)
  simp only [List.filter_cons, List.filter_nil, h1, h2, h3, h4, decide_eq_true_eq]
  split <;> split <;> split <;> split <;> rfl
theorem own_emptyP (w : World) {B : Nat} {a : World} (hb : Below B a w) (hB : B ≤ w.heap.size) : Own 2 SA2.enc 50 (w.alloc (.cells #[] 50)) B (.slice (some ⟨w.heap.size, 0, none⟩) 0 0) ([] : List SA2) :=
  Own.made (cs := #[]) rfl hB (Blk.new _ _ _) rfl (Nat.zero_le _) Filled.zero
set_option maxHeartbeats 4000000 in
theorem l9Near_is (v : Value) (xss : List (List Int)) (r c : Int) (w : World) (h : IsG w v xss) (hr : 0 ≤ r ∧ r < xss.length) (hc : 0 ≤ c ∧ c < hdLen xss) (hn : xss.length ≤ 8) (hm : hdLen xss ≤ 8) :
    Calls Try.prog 88 #[v, .int .i64 r, .int .i64 c] w fun e w' => ∃ x, e = .returned x ∧ Own 2 SA2.enc 50 w' w.heap.size x (nearS xss r c) ∧ Below w.heap.size w w' := by
  rw [nearS_eq hr hc]
  obtain ⟨r0, r1⟩ := hr; obtain ⟨c0, c1⟩ := hc
  have hne : 0 < xss.length := by omega
  have hown := own_emptyP w (Below.refl w.heap.size w) (Nat.le_refl _)
  have hbel := below_alloc w (.cells #[] 50)
  have hsz := hbel.size
  obtain ⟨rs, hmap, his, hrs⟩ := h
  obtain ⟨A, cap, rfl, hrow, _, _⟩ := his
  have hxl : xss.length = rs.length := by rw [← hmap]; simp
  have hpos : 0 < rs.length := by omega
  have hpos' : (0 : Int) < rs.length := by omega
  have hd : hdLen xss = rs[0].xs.length := by rw [hdLen_eq hne]; simp [← hmap]
  obtain ⟨b0, off, rfl, hb, _⟩ := SRow.cell hrow hpos (Below.refl _ _)
  have hcell : ∀ W, Below w.heap.size w W → W.cell? ⟨b0, off, none⟩ = some (.slice rs[0].A rs[0].xs.length rs[0].cap) := fun W hW => by
    obtain ⟨b', off', hA, _, d⟩ := SRow.cell hrow hpos hW
    injection hA with hA; injection hA with h1 h2; subst h1 h2
    exact d
  rw [hxl] at r1 hn
  rw [hd] at c1 hm
  rw [hxl, hd]
  generalize rs[0].A = A0 at *; generalize rs[0].xs = ys0 at *; generalize rs[0].cap = cp0 at *
  clear hrow hrs hmap hxl hd hne
  generalize hB : w.heap.size = B at hown hbel hsz hcell hb
  have d0 := hcell _ hbel
  have HCL := hide hcell; have HO := hide hown; clear hcell hown
  by_cases p1 : 0 < r <;> by_cases p2 : c + 1 < ys0.length <;> by_cases p3 : r + 1 < rs.length <;> by_cases p4 : 0 < c
  all_goals
    simp only [p1, p2, p3, p4, if_true, if_false, List.nil_append, List.append_nil]
    go_enter Try.func88, Try.ntmps88
    go_wp2_with (first
      | (at_builtin; refine wpList_push1s (k := 2) (enc := SA2.enc) _ rfl _ _ 44 rfl 50 (.agg #[.int .i64 0, .int .i64 0]) 16 Try.underlying44 SA2.info rfl (by omega) (by omega) SA2.one B _ _ rfl HO.out (⟨r - 1, c⟩ : SA2) _ _ (by first | rfl | (simp [hB]; done)) rfl rfl (by simp) hsz hbel (Nat.le_refl _) rfl ?_; clear HO hbel hsz d0; intro v1 w1 hown hbel hg1; have hsz : B ≤ w1.heap.size := (by have := hbel.size; rw [hB] at this; exact this); have d0 := HCL.out _ hbel; have HO := hide hown; clear hg1 hown)
      | (at_builtin; refine wpList_push1s (k := 2) (enc := SA2.enc) _ rfl _ _ 44 rfl 50 (.agg #[.int .i64 0, .int .i64 0]) 16 Try.underlying44 SA2.info rfl (by omega) (by omega) SA2.one B _ _ rfl HO.out (⟨r, c + 1⟩ : SA2) _ _ (by first | rfl | (simp [hB]; done)) rfl rfl (by simp) hsz hbel (Nat.le_refl _) rfl ?_; clear HO hbel hsz d0; intro v1 w1 hown hbel hg1; have hsz : B ≤ w1.heap.size := (by have := hbel.size; rw [hB] at this; exact this); have d0 := HCL.out _ hbel; have HO := hide hown; clear hg1 hown)
      | (at_builtin; refine wpList_push1s (k := 2) (enc := SA2.enc) _ rfl _ _ 44 rfl 50 (.agg #[.int .i64 0, .int .i64 0]) 16 Try.underlying44 SA2.info rfl (by omega) (by omega) SA2.one B _ _ rfl HO.out (⟨r + 1, c⟩ : SA2) _ _ (by first | rfl | (simp [hB]; done)) rfl rfl (by simp) hsz hbel (Nat.le_refl _) rfl ?_; clear HO hbel hsz d0; intro v1 w1 hown hbel hg1; have hsz : B ≤ w1.heap.size := (by have := hbel.size; rw [hB] at this; exact this); have d0 := HCL.out _ hbel; have HO := hide hown; clear hg1 hown)
      | (at_builtin; refine wpList_push1s (k := 2) (enc := SA2.enc) _ rfl _ _ 44 rfl 50 (.agg #[.int .i64 0, .int .i64 0]) 16 Try.underlying44 SA2.info rfl (by omega) (by omega) SA2.one B _ _ rfl HO.out (⟨r, c - 1⟩ : SA2) _ _ (by first | rfl | (simp [hB]; done)) rfl rfl (by simp) hsz hbel (Nat.le_refl _) rfl ?_; clear HO hbel hsz d0; intro v1 w1 hown hbel hg1; have hsz : B ≤ w1.heap.size := (by have := hbel.size; rw [hB] at this; exact this); have d0 := HCL.out _ hbel; have HO := hide hown; clear hg1 hown))
    go_ret
    refine ⟨_, rfl, ?_, hbel⟩
    simpa using HO.out
end Go.Proofs.Ytomcdkkjknphpaa
