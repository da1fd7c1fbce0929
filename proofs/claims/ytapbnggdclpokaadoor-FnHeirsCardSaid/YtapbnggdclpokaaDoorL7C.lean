/- The line of a maker: the Lean list lineL, and contracts of l7Line and line. Condition: the list is a list of makers. -/
import Derived.Test.YtapbnggdclpokaaDoorL7B
namespace Go.Proofs.YtapbnggdclpokaaDoor
open Go.RowKit Go.Lib
set_option linter.unusedVariables false
inductive LineFrom (xs : List SMaker) : Nat → List Nat → Prop
  | stop {k : Nat} : k < xs.length → (SMaker.at xs k).heir = 0 → LineFrom xs k [k]
  | go {k j : Nat} {l : List Nat} : k < xs.length → (SMaker.at xs k).heir ≠ 0 → findM xs (SMaker.at xs k).heir = (j : Int) → LineFrom xs j l → LineFrom xs k (k :: l)
def lineN (xs : List SMaker) : Nat → Nat → List Nat
  | 0, _ => []
  | f + 1, k => if (SMaker.at xs k).heir = 0 then [k] else k :: lineN xs f (findM xs (SMaker.at xs k).heir).toNat
def lineL (xs : List SMaker) (k : Nat) : List Nat := lineN xs 701 k
theorem lineN_len (xs : List SMaker) : ∀ f k, (lineN xs f k).length ≤ f
  | 0, k => by simp [lineN]
  | f + 1, k => by
    unfold lineN
    split
    · simp
    · have := lineN_len xs f (findM xs (SMaker.at xs k).heir).toNat
      simp; omega
theorem good_len {xs : List SMaker} (h : goodB xs = true) : xs.length ≤ 10 := by
  unfold goodB at h
  rw [Bool.and_eq_true] at h
  simpa using h.2
theorem good_at {xs : List SMaker} (h : goodB xs = true) {k : Nat} (hk : k < xs.length) : okAt xs k = true := by
  unfold goodB at h
  rw [Bool.and_eq_true, List.all_eq_true] at h
  exact h.1 k (List.mem_range.2 hk)
structure SMaker.Fine (c : SMaker) : Prop where
  id1 : 1 ≤ c.ident
  id2 : c.ident ≤ 99
  word : wordB c.name = true
  f1 : 1500 ≤ c.frm
  f2 : c.frm ≤ c.untl
  f3 : c.untl ≤ 2100
  h1 : 0 ≤ c.heir
  h2 : c.heir ≤ 99
  h3 : c.heir ≠ c.ident
theorem good_fine {xs : List SMaker} (h : goodB xs = true) {k : Nat} (hk : k < xs.length) : (SMaker.at xs k).Fine := by
  have h1 := good_at h hk
  unfold okAt at h1
  rw [Bool.and_eq_true, Bool.and_eq_true] at h1
  have h2 := h1.1.1
  generalize SMaker.at xs k = c at h2 ⊢
  obtain ⟨a0, a1, a2, a3, a4⟩ := c
  obtain ⟨q1, q2, q3, q4, q5, q6, q7, q8, q9⟩ := SMaker.okB_iff.1 h2
  exact ⟨q1, q2, q3, q4, q5, q6, q7, q8, q9⟩
theorem good_heir {xs : List SMaker} (h : goodB xs = true) {k : Nat} (hk : k < xs.length) (hne : (SMaker.at xs k).heir ≠ 0) : ∃ j, j < xs.length ∧ findM xs (SMaker.at xs k).heir = (j : Int) ∧ (SMaker.at xs k).untl < (SMaker.at xs j).frm := by
  have h1 := good_at h hk
  unfold okAt at h1
  rw [Bool.and_eq_true, Bool.and_eq_true] at h1
  have h2 := h1.2
  unfold heirOk at h2
  rw [decide_eq_false hne, Bool.false_or, Bool.and_eq_true] at h2
  rcases findM_cases xs (SMaker.at xs k).heir with hf | ⟨j, hj, hf, _⟩
  · rw [hf] at h2; exact absurd h2.1 (by decide)
  · refine ⟨j, hj, hf, ?_⟩
    rw [hf] at h2
    simpa using h2.2
theorem lineN_from {xs : List SMaker} (h : goodB xs = true) : ∀ (f k : Nat), k < xs.length → 2101 - (SMaker.at xs k).frm ≤ (f : Int) → LineFrom xs k (lineN xs f k)
  | 0, k, hk, hf => by have := (good_fine h hk).f2; have := (good_fine h hk).f3; omega
  | f + 1, k, hk, hf => by
    unfold lineN
    by_cases hz : (SMaker.at xs k).heir = 0
    · rw [if_pos hz]; exact .stop hk hz
    · rw [if_neg hz]
      obtain ⟨j, hj, hfj, hu⟩ := good_heir h hk hz
      refine .go hk hz hfj ?_
      rw [hfj, Int.toNat_natCast]
      have := (good_fine h hk).f2
      exact lineN_from h f j hj (by omega)
theorem lineL_from {xs : List SMaker} (h : goodB xs = true) {k : Nat} (hk : k < xs.length) : LineFrom xs k (lineL xs k) :=
  lineN_from h 701 k hk (by have := (good_fine h hk).f1; omega)
theorem lineL_len (xs : List SMaker) (k : Nat) : (lineL xs k).length ≤ 701 := lineN_len xs 701 k
theorem LineFrom.lt {xs : List SMaker} {k : Nat} {l : List Nat} (h : LineFrom xs k l) : ∀ i ∈ l, i < xs.length := by
  induction h with
  | stop hk _ => intro i hi; rw [List.mem_singleton.1 hi]; exact hk
  | go hk _ _ _ ih =>
    intro i hi
    rcases List.mem_cons.1 hi with rfl | hi
    · exact hk
    · exact ih i hi
theorem LineFrom.first {xs : List SMaker} {k : Nat} {l : List Nat} (h : LineFrom xs k l) : k < xs.length := by
  cases h with
  | stop hk _ => exact hk
  | go hk _ _ _ => exact hk
def ints (l : List Nat) : List Int := l.map fun (n : Nat) => (n : Int)
theorem own_emptyI (w : World) {B : Nat} (hB : B ≤ w.heap.size) : Own 1 encI 3 (w.alloc (.cells #[] 3)) B (.slice (some ⟨w.heap.size, 0, none⟩) 0 0) ([] : List Int) :=
  Own.made (cs := #[]) rfl hB (Blk.new _ _ _) rfl (Nat.zero_le _) Filled.zero
theorem l7Line_is (v : Value) (xs : List SMaker) (k0 : Nat) (w : World) (h : Is 5 SMaker.enc w v xs) (l : List Nat) (hl : LineFrom xs k0 l) (hlen : l.length ≤ 701) :
    Calls Tryd.prog 56 #[v, .int .i64 (k0 : Int)] w fun e w' => ∃ r, e = .returned r ∧ Own 1 encI 3 w' w.heap.size r (ints l) ∧ Below w.heap.size w w' := by
  have hm := h.len
  have HI := hide h
  obtain ⟨A, cap, rfl, hr, _, _⟩ := h
  have B1 := below_alloc w (.cells #[] 3)
  have hown := own_emptyI w (Nat.le_refl _)
  generalize hB : w.heap.size = B at hr B1 hown ⊢
  have HB := hide hB
  have HR := hide hr; clear hr
  have HO := hide hown; clear hown
  have HLEN := hide hlen; clear hlen
  have HL := hide hl; clear hl
  go_enter Tryd.func56, Tryd.ntmps56
  go_wp2_with fail
  go_loopg [5, 6] l.length (fun g s kk wr => ∃ (k : Nat) (dn rest : List Nat), g = rest.length ∧ kk = .int .i64 (k : Int) ∧ dn ++ rest = l ∧ LineFrom xs k rest ∧ Own 1 encI 3 wr B s (ints dn) ∧ Below B w wr)
  case atStart => exact ⟨k0, [], l, rfl, rfl, rfl, HL.out, HO.out, B1⟩
  case round =>
    obtain ⟨k, dn, rest, rfl, rfl, hcat, hfrom, hown, hbel⟩ := hrel
    have hk := hfrom.first
    have hk' : (k : Int) < xs.length := by omega
    have HOW := hide hown; clear hown
    have hsz : B ≤ wr.heap.size := by have := hbel.size; rw [hB] at this; exact this
    have hdl : (ints dn).length ≤ 16777216 := by
      have h1 := congrArg List.length hcat
      rw [List.length_append] at h1
      have h2 := HLEN.out
      simp only [ints, List.length_map]; omega
    have HCAT := hide hcat; clear hcat
    obtain ⟨b, off, rfl, hb, hce⟩ : ∃ b off, A = some ⟨b, off, none⟩ ∧ b < B ∧ ∀ W, Below B w W → W.cell? ⟨b, off + k * 5 + 4, none⟩ = some (.int .i64 (SMaker.at xs k).heir) := by
      obtain ⟨b, off, hA, hb, _⟩ := SMaker.cells HR.out hk hbel
      refine ⟨b, off, hA, hb, fun W hW => ?_⟩
      obtain ⟨b', off', hA', _, _, _, _, _, c4⟩ := SMaker.cells HR.out hk hW
      rw [hA] at hA'; injection hA' with hA'; injection hA' with h1 h2; subst h1 h2
      rw [SMaker.at_lt hk]; exact c4
    have HCE := hide hce; clear hce
    have hI := fun W (hb : Below B w W) => HI.out.below hb (by rw [hB]; exact Nat.le_refl _)
    have HII := hide hI; clear hI
    cases hfrom with
    | stop _ hz =>
      have hce0 := fun W hW => (hz ▸ HCE.out W hW : W.cell? ⟨b, off + k * 5 + 4, none⟩ = some (.int .i64 0))
      have HC0 := hide hce0; clear hce0
      go_wp2_with ((at_builtin; refine wpList_push1 (k := 1) (enc := encI) _ rfl _ _ 38 rfl 3 (.int .i64 0) 8 Tryd.underlying38 infoI rfl (by omega) (by omega) encI_one (B) _ (ints dn) rfl (HOW.out) ((k : Int)) _ rfl rfl (hdl) (hsz) (hbel) (Nat.le_refl _) rfl ?_; intro v1 w1 ho1 hb1 hg1); have d4 := HC0.out _ hb1; have HO1 := hide ho1; clear ho1 hg1)
      go_ret
      refine ⟨_, rfl, ?_, hb1⟩
      have := HO1.out
      rw [← HCAT.out]
      simpa [ints] using this
    | @go _ j l' _ hz hf hrest =>
      generalize hh : (SMaker.at xs k).heir = y at hz hf HCE
      have hz2 : (y == 0) = false := by simpa using hz
      have HF := hide hf; have HREST := hide hrest; have HH := hide hh; clear hf hrest hh hz
      go_wp2_with (first | ((at_builtin; refine wpList_push1 (k := 1) (enc := encI) _ rfl _ _ 38 rfl 3 (.int .i64 0) 8 Tryd.underlying38 infoI rfl (by omega) (by omega) encI_one (B) _ (ints dn) rfl (HOW.out) ((k : Int)) _ rfl rfl (hdl) (hsz) (hbel) (Nat.le_refl _) rfl ?_; intro v1 w1 ho1 hb1 hg1); have d4 := HCE.out _ hb1; have HO1 := hide ho1; clear ho1 hg1) | (go_at_call 41; refine (l7Find_any _ xs _ _ (HII.out _ hb1)).mono ?_; rintro e w' ⟨rfl, rfl⟩; rw [HF.out]))
      go_roundg l'.length
      case measure => simp
      case rel =>
        refine ⟨j, dn ++ [k], l', rfl, rfl, ?_, HREST.out, ?_, hb1⟩
        · rw [List.append_assoc]; exact HCAT.out
        · have := HO1.out
          simpa [ints] using this
end Go.Proofs.YtapbnggdclpokaaDoor
