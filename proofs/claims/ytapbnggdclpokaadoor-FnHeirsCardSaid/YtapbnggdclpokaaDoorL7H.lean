/- Contracts of EndMaker, in impl and spec: the Lean function endV. Condition: the names' sizes are those of memory, the numbers those of a machine. -/
import Derived.Test.YtapbnggdclpokaaDoorL7G
namespace Go.Proofs.YtapbnggdclpokaaDoor
open Go.RowKit Go.Lib
set_option linter.unusedVariables false
def updAt (xs : List SMaker) (k : Nat) (y hh : Int) : List SMaker := xs.set k ⟨(SMaker.at xs k).ident, (SMaker.at xs k).name, (SMaker.at xs k).frm, y, hh⟩
theorem updAt_wf {xs : List SMaker} (hw : ∀ z ∈ xs, z.wf) {k : Nat} (hk : k < xs.length) {y hh : Int} (wy : (Lit.int .i64 y).wf = true) (wh : (Lit.int .i64 hh).wf = true) : ∀ z ∈ updAt xs k y hh, z.wf := by
  intro z hz
  rcases List.mem_or_eq_of_mem_set hz with h | h
  · exact hw z h
  · subst h
    have := hw (SMaker.at xs k) (by rw [SMaker.at_lt hk]; exact List.getElem_mem hk)
    exact ⟨this.1, this.2.1, this.2.2.1, wy, wh⟩
theorem updAt_len (xs : List SMaker) (k : Nat) (y hh : Int) : (updAt xs k y hh).length = xs.length := by simp [updAt]
theorem Filled.upd {cs cs' : Array Value} {xs : List SMaker} (h : Filled 5 SMaker.enc cs xs.length xs) {k : Nat} (hk : k < xs.length) {y hh : Int}
    (h1 : cs'[k * 5 + 3]? = some (.int .i64 y)) (h2 : cs'[k * 5 + 4]? = some (.int .i64 hh)) (h3 : ∀ m, m ≠ k * 5 + 3 → m ≠ k * 5 + 4 → cs'[m]? = cs[m]?) : Filled 5 SMaker.enc cs' (updAt xs k y hh).length (updAt xs k y hh) := by
  intro j x hj hx c hc
  rw [updAt_len] at hj
  unfold updAt at hx
  rw [List.getElem?_set] at hx
  by_cases hjk : k = j
  · subst hjk
    rw [if_pos rfl, if_pos hk] at hx
    have hx := Option.some.inj hx
    subst hx
    have h0 := h k (SMaker.at xs k) hk (by rw [SMaker.at_lt hk]; exact List.getElem?_eq_getElem hk)
    have hc' : c = 0 ∨ c = 1 ∨ c = 2 ∨ c = 3 ∨ c = 4 := by omega
    rcases hc' with rfl | rfl | rfl | rfl | rfl
    · rw [h3 _ (by omega) (by omega), h0 0 (by omega)]; rfl
    · rw [h3 _ (by omega) (by omega), h0 1 (by omega)]; rfl
    · rw [h3 _ (by omega) (by omega), h0 2 (by omega)]; rfl
    · exact h1
    · exact h2
  · rw [if_neg hjk] at hx
    rw [h3 _ (by omega) (by omega)]
    exact h j x hj hx c hc
def endV (xs : List SMaker) (id y hh : Int) : List SMaker × Bool :=
  if listedB xs id && (inB y 1500 2100 && (decide (y ≤ (SMaker.at xs (findM xs id).toNat).untl) && goodB (updAt xs (findM xs id).toNat y hh))) then (updAt xs (findM xs id).toNat y hh, true) else ([], false)
theorem endV_len {xs : List SMaker} (id y hh : Int) (h : xs.length ≤ 1048576) : (endV xs id y hh).1.length ≤ 1048576 := by
  unfold endV; split
  · simpa [updAt] using h
  · simp
theorem own_emptyM (w : World) {B : Nat} (hB : B ≤ w.heap.size) : Own 5 SMaker.enc 27 (w.alloc (.cells #[] 27)) B (.slice (some ⟨w.heap.size, 0, none⟩) 0 0) ([] : List SMaker) :=
  Own.made (cs := #[]) rfl hB (Blk.new _ _ _) rfl (Nat.zero_le _) Filled.zero
theorem src_row {α : Type} {k : Nat} {enc : α → Nat → Value} {w : World} {B b off : Nat} {xs : List α} (h : Row k enc w B (some ⟨b, off, none⟩) xs) (hk : 0 < k) : ∀ j u, (flat k enc xs)[j]? = some u → w.cell? ((⟨b, off, none⟩ : Addr).add j) = some u := by
  intro j u hu
  have hj : j < xs.length * k := by
    have := (List.getElem?_eq_some_iff.1 hu).1
    rwa [flat_length] at this
  have hdiv : j / k < xs.length := Nat.div_lt_of_lt_mul (by rwa [Nat.mul_comm] at hj)
  obtain ⟨b', off', hA, _, hc⟩ := h.get hdiv
  injection hA with hA; injection hA with h1 h2; subst h1 h2
  have h3 := hc (j % k) (Nat.mod_lt _ hk)
  have h4 : off + j / k * k + j % k = off + j := by
    have := Nat.div_add_mod j k
    rw [Nat.mul_comm] at this
    omega
  rw [h4] at h3
  rw [Addr.add_lit, h3]
  rw [← hu]
  have h5 : j = j / k * k + j % k := by have := Nat.div_add_mod j k; rw [Nat.mul_comm] at this; omega
  conv => rhs; rw [h5]
  exact (flat_get (List.getElem?_eq_getElem hdiv) (Nat.mod_lt _ hk)).symm
theorem cloneM_any (v : Value) (xs : List SMaker) (w : World) (h : Is 5 SMaker.enc w v xs) (h0 : 1 ≤ xs.length) (h1 : xs.length ≤ 1048576) :
    Calls Tryd.prog 40 #[v] w fun e w' => ∃ r, e = .returned r ∧ Own 5 SMaker.enc 27 w' w.heap.size r xs ∧ Below w.heap.size w w' := by
  obtain ⟨A, cap, rfl, hr, _, _⟩ := h
  obtain ⟨b, off, rfl, hb, _⟩ := hr.get (show 0 < xs.length by omega)
  have HR := hide hr; clear hr
  have hnil := fun W => Go.Lib.run_eql_slice_nil (P := Tryd.prog) W 32 27 (some ⟨b, off, none⟩) xs.length cap 0 0 Tryd.underlying32
  go_enter Tryd.func40, Tryd.ntmps40
  have HO := hide (own_emptyM w (Nat.le_refl w.heap.size))
  have B1 := below_alloc w (.cells #[] 27)
  go_wp2_with (at_builtin; refine wpList_push (k := 5) (enc := SMaker.enc) _ rfl _ _ 32 rfl 27 (.agg #[.int .i64 0, .string ⟨#[]⟩, .int .i64 0, .int .i64 0, .int .i64 0]) 48 Tryd.underlying32 SMaker.info rfl (by omega) SMaker.one w.heap.size _ [] rfl HO.out ⟨b, off, none⟩ cap xs rfl (src_row (HR.out.below B1 (Nat.le_refl _) B1.size) (by omega)) (by simp; omega) (by simp; omega) B1.size ?_; intro v1 w1 ho1 hg1 _; have hb1 := HO.out.belowGrown B1 hg1 (Nat.le_refl _) B1.size; rw [List.nil_append] at ho1; have HO1 := hide ho1; clear ho1 hg1)
  go_ret
  exact ⟨_, rfl, HO1.out, hb1⟩
end Go.Proofs.YtapbnggdclpokaaDoor
