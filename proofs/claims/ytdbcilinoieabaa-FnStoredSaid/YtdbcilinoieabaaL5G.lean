/- Copies of lists of numbers and of drawers. Conditions: at most a million elements. -/
import Derived.Test.YtdbcilinoieabaaL5F
import Derived.Test.YtdbcilinoieabaaStPush
import Derived.Lib.SliceRun
namespace Go.Proofs.Ytdbcilinoieabaa
open Go.RowKit
set_option linter.unusedVariables false
theorem own_emptyI5 (w : World) {B : Nat} (hB : B ≤ w.heap.size) : Own 1 encI 3 (w.alloc (.cells #[] 3)) B (.slice (some ⟨w.heap.size, 0, none⟩) 0 0) ([] : List Int) :=
  Own.made (cs := #[]) rfl hB (Blk.new _ _ _) rfl (Nat.zero_le _) Filled.zero
theorem src_row5 {α : Type} {k : Nat} {enc : α → Nat → Value} {ys : List α} {w : World} {B : Nat} {ad : Addr} (h : Row k enc w B (some ad) ys) (hk : 0 < k) : ∀ j u, (flat k enc ys)[j]? = some u → w.cell? (ad.add j) = some u := by
  intro j u hu
  have hj : j < ys.length * k := by
    have := (List.getElem?_eq_some_iff.1 hu).1
    rwa [flat_length] at this
  have hi : j / k < ys.length := Nat.div_lt_of_lt_mul (by rw [Nat.mul_comm]; exact hj)
  have hm : j % k < k := Nat.mod_lt _ hk
  obtain ⟨b', off', hA, _, hc⟩ := h.get hi
  injection hA with hA; subst hA
  have h3 := flat_get (enc := enc) (List.getElem?_eq_getElem hi) hm
  rw [Nat.div_add_mod' j k] at h3
  rw [h3] at hu
  injection hu with hu
  subst hu
  have := hc (j % k) hm
  rw [Nat.add_assoc, Nat.div_add_mod' j k] at this
  rw [Addr.add_lit]
  exact this
/-- rows of two element types never share a block -/
theorem own_ne5 {α β : Type} {k k' : Nat} {enc : α → Nat → Value} {enc' : β → Nat → Value} {e e' : TypeId} {w : World} {b b' : Nat} {v v' : Value} {xs : List α} {ys : List β} (h : Own k enc e w b v xs) (h' : Own k' enc' e' w b' v' ys) (hne : e ≠ e') : ∀ g, v.ownBlock = some g → v'.ownBlock ≠ some g := by
  intro g hg hg'
  rcases h with ⟨rfl, _⟩ | ⟨g1, cap, cs, rfl, _, hb, _⟩
  · simp [Value.ownBlock] at hg
  rcases h' with ⟨rfl, _⟩ | ⟨g2, cap2, cs2, rfl, _, hb2, _⟩
  · simp [Value.ownBlock] at hg'
  simp only [Value.ownBlock, Option.some.injEq] at hg hg'
  subst hg hg'
  unfold Blk at hb hb2
  rw [hb] at hb2
  injection hb2 with hb2
  injection hb2 with h1 h2
  exact hne h2
theorem cloneI5_any (A : Option Addr) (cap : Nat) (xs : List Int) (w : World) (hr : Row 1 encI w w.heap.size A xs) (h1 : xs.length ≤ 1048576) :
    Calls Try.prog 148 #[.slice A xs.length cap] w fun e w' => ∃ r, e = .returned r ∧ Own 1 encI 3 w' w.heap.size r xs ∧ Below w.heap.size w w' := by
  have HR := hide hr
  cases A with
  | none =>
    have hx : xs = [] := by
      rcases hr with h | ⟨b, off, h, _⟩
      · exact h
      · cases h
    subst hx
    clear hr
    have hnil := fun W => Go.Lib.run_eql_slice_nil (P := Try.prog) W 52 3 none 0 cap 0 0 Try.underlying52
    go_enter Try.func148, Try.ntmps148
    go_wp2_with fail
    go_ret
    exact ⟨_, rfl, Own.nil, Below.refl _ _⟩
  | some ad =>
    clear hr
    have hnil := fun W => Go.Lib.run_eql_slice_nil (P := Try.prog) W 52 3 (some ad) xs.length cap 0 0 Try.underlying52
    go_enter Try.func148, Try.ntmps148
    have HO := hide (own_emptyI5 w (Nat.le_refl w.heap.size))
    have B1 := below_alloc w (.cells #[] 3)
    go_wp2_with (at_builtin; refine wpList_push (k := 1) (enc := encI) _ rfl _ _ 52 rfl 3 (.int .i64 0) 8 Try.underlying52 infoI rfl (by omega) encI_one w.heap.size _ [] rfl HO.out ad cap xs rfl (src_row5 (HR.out.below B1 (Nat.le_refl _) B1.size) (by omega)) (by simp; omega) (by simp; omega) B1.size ?_; intro v1 w1 ho1 hg1 _; have hb1 := HO.out.belowGrown B1 hg1 (Nat.le_refl _) B1.size; rw [List.nil_append] at ho1; have HO1 := hide ho1; clear ho1 hg1)
    go_ret
    exact ⟨_, rfl, HO1.out, hb1⟩
theorem l1Own_any (A : Option Addr) (cap : Nat) (xs : List Int) (w : World) (hr : Row 1 encI w w.heap.size A xs) (h1 : xs.length ≤ 1048576) (hA : A = none → xs = []) :
    Calls Try.prog 186 #[.slice A xs.length cap] w fun e w' => ∃ r, e = .returned r ∧ Own 1 encI 3 w' w.heap.size r xs ∧ Below w.heap.size w w' := by
  have HR := hide hr
  have HO := hide (own_emptyI5 w (Nat.le_refl w.heap.size))
  have B1 := below_alloc w (.cells #[] 3)
  cases A with
  | none =>
    have hx := hA rfl
    subst hx
    clear hr hA
    go_enter Try.func186, Try.ntmps186
    go_wp2_with fail
    go_ret
    exact ⟨_, rfl, HO.out, B1⟩
  | some ad =>
    clear hr hA
    go_enter Try.func186, Try.ntmps186
    go_wp2_with (at_builtin; refine wpList_push (k := 1) (enc := encI) _ rfl _ _ 52 rfl 3 (.int .i64 0) 8 Try.underlying52 infoI rfl (by omega) encI_one w.heap.size _ [] rfl HO.out ad cap xs rfl (src_row5 (HR.out.below B1 (Nat.le_refl _) B1.size) (by omega)) (by simp; omega) (by simp; omega) B1.size ?_; intro v1 w1 ho1 hg1 _; have hb1 := HO.out.belowGrown B1 hg1 (Nat.le_refl _) B1.size; rw [List.nil_append] at ho1; have HO1 := hide ho1; clear ho1 hg1)
    go_ret
    exact ⟨_, rfl, HO1.out, hb1⟩
end Go.Proofs.Ytdbcilinoieabaa
