/- impl's filled: its beginning (the levels of the border, 9999 elsewhere), and one step of its sweep. Condition: a relief. -/
import Derived.Test.YtomcdkkjknphpaaL9U
import Derived.Lib.SliceRun
namespace Go.Proofs.Ytomcdkkjknphpaa
open Go.RowKit
set_option linter.unusedVariables false
theorem own_emptyI9 (w : World) {B : Nat} (hB : B ≤ w.heap.size) : Own 1 encI 3 (w.alloc (.cells #[] 3)) B (.slice (some ⟨w.heap.size, 0, none⟩) 0 0) ([] : List Int) :=
  Own.made (cs := #[]) rfl hB (Blk.new _ _ _) rfl (Nat.zero_le _) Filled.zero
theorem src_row9 {α : Type} {k : Nat} {enc : α → Nat → Value} {w : World} {B b off : Nat} {xs : List α} (h : Row k enc w B (some ⟨b, off, none⟩) xs) (hk : 0 < k) : ∀ j u, (flat k enc xs)[j]? = some u → w.cell? ((⟨b, off, none⟩ : Addr).add j) = some u := by
  intro j u hu
  have hj : j < xs.length * k := by
    have := (List.getElem?_eq_some_iff.1 hu).1
    rwa [flat_length] at this
  have hi : j / k < xs.length := Nat.div_lt_of_lt_mul (by rw [Nat.mul_comm]; exact hj)
  have hm : j % k < k := Nat.mod_lt _ hk
  obtain ⟨b', off', hA, _, hc⟩ := h.get hi
  injection hA with hA; injection hA with h1 h2; subst h1 h2
  have h3 := flat_get (enc := enc) (List.getElem?_eq_getElem hi) hm
  rw [Nat.div_add_mod' j k] at h3
  rw [h3] at hu
  injection hu with hu
  subst hu
  have := hc (j % k) hm
  rw [Nat.add_assoc, Nat.div_add_mod' j k] at this
  rw [Addr.add_lit]
  exact this
theorem cloneI_any (A : Option Addr) (cap : Nat) (xs : List Int) (w : World) (hr : Row 1 encI w w.heap.size A xs) (h0 : 1 ≤ xs.length) (h1 : xs.length ≤ 1048576) :
    Calls Try.prog 86 #[.slice A xs.length cap] w fun e w' => ∃ r, e = .returned r ∧ Own 1 encI 3 w' w.heap.size r xs ∧ Below w.heap.size w w' := by
  obtain ⟨b, off, rfl, hb, _⟩ := hr.get (show 0 < xs.length by omega)
  have HR := hide hr; clear hr
  have hnil := fun W => Go.Lib.run_eql_slice_nil (P := Try.prog) W 35 3 (some ⟨b, off, none⟩) xs.length cap 0 0 Try.underlying35
  go_enter Try.func86, Try.ntmps86
  have HO := hide (own_emptyI9 w (Nat.le_refl w.heap.size))
  have B1 := below_alloc w (.cells #[] 3)
  go_wp2_with (at_builtin; refine wpList_push (k := 1) (enc := encI) _ rfl _ _ 35 rfl 3 (.int .i64 0) 8 Try.underlying35 infoI rfl (by omega) encI_one w.heap.size _ [] rfl HO.out ⟨b, off, none⟩ cap xs rfl (src_row9 (HR.out.below B1 (Nat.le_refl _) B1.size) (by omega)) (by simp; omega) (by simp; omega) B1.size ?_; intro v1 w1 ho1 hg1 _; have hb1 := HO.out.belowGrown B1 hg1 (Nat.le_refl _) B1.size; rw [List.nil_append] at ho1; have HO1 := hide ho1; clear ho1 hg1)
  go_ret
  exact ⟨_, rfl, HO1.out, hb1⟩
theorem initG_len (xss : List (List Int)) (u : Int) : (initG xss u).length = xss.length := by simp [initG]
theorem initG_take {xss : List (List Int)} {u : Int} {n : Nat} (h : n < xss.length) : (initG xss u).take (n + 1) = (initG xss u).take n ++ [initRow xss u n] := by
  rw [take_snoc' (by rw [initG_len]; exact h)]
  congr 2
  simp [initG]
theorem initRow_len (xss : List (List Int)) (u : Int) (n : Nat) : (initRow xss u n).length = hdLen xss := by simp [initRow]
theorem initRow_get {xss : List (List Int)} {u : Int} {n k : Nat} (h : k < (initRow xss u n).length) : (initRow xss u n)[k] = if isEdge xss n k then (xss.getD n []).getD k 0 else u := by simp [initRow]
/-- a row, changed up to its k-th element -/
def mixR (M X : List Int) (k : Nat) : List Int := M.take k ++ X.drop k
theorem mixR_set {M X : List Int} {k : Nat} (hl : M.length = X.length) (hk : k < M.length) : (mixR M X k).set k M[k] = mixR M X (k + 1) := take_set hl hk
theorem mixR_same {M X : List Int} {k : Nat} (hl : M.length = X.length) (hk : k < M.length) (he : X[k]'(by omega) = M[k]) : mixR M X k = mixR M X (k + 1) := by
  rw [← mixR_set hl hk, ← he]
  have hm : (mixR M X k)[k]? = some (X[k]'(by omega)) := by
    unfold mixR
    rw [List.getElem?_append_right (by simp; omega)]
    simp [show k - min k M.length = 0 by omega]
  obtain ⟨h1, h2⟩ := List.getElem?_eq_some_iff.1 hm
  rw [← h2, List.set_getElem_self]
theorem mixR_len {M X : List Int} {k : Nat} (hl : M.length = X.length) (hk : k ≤ M.length) : (mixR M X k).length = M.length := by unfold mixR; simp; omega
theorem mixR_all {M X : List Int} (hl : M.length = X.length) : mixR M X M.length = M := by unfold mixR; rw [List.take_length, hl, List.drop_length, List.append_nil]
end Go.Proofs.Ytomcdkkjknphpaa
