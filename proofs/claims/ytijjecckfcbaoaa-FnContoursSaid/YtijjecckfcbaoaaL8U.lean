/- The contract of spec's TiedMarks: the Lean function tiedV; its result is read (Seen), not told to be the call's own. No condition. -/
import Derived.Test.YtijjecckfcbaoaaL8T
namespace Go.Proofs.Ytijjecckfcbaoaa
open Go.RowKit
set_option linter.unusedVariables false
def Seen {α : Type} (k : Nat) (enc : α → Nat → Value) (e : TypeId) (w : World) (base : Nat) (v : Value) (xs : List α) : Prop := Is k enc w v xs ∧ ∀ g, v.ownBlock = some g → g < w.heap.size
section
variable {α : Type} {k : Nat} {enc : α → Nat → Value} {e : TypeId} {w w' : World} {base : Nat} {v : Value} {xs : List α}
theorem Seen.is (h : Seen k enc e w base v xs) : Is k enc w v xs := h.1
theorem Seen.below (h : Seen k enc e w base v xs) (hb : Below w.heap.size w w') : Seen k enc e w' base v xs := ⟨h.1.below hb (Nat.le_refl _), fun g hg => Nat.lt_of_lt_of_le (h.2 g hg) hb.size⟩
theorem Seen.lt (h : Seen k enc e w base v xs) : ∀ g, v.ownBlock = some g → True ∧ g < w.heap.size := fun g hg => ⟨trivial, h.2 g hg⟩
theorem Seen.grown {row : Option Nat} (h : Seen k enc e w base v xs) (hg : w.grownBy w' row) (hne : ∀ g, v.ownBlock = some g → row ≠ some g) : Seen k enc e w' base v xs := by
  obtain ⟨⟨A, cap, rfl, hr, h1, h2⟩, h3⟩ := h
  have hsz : w.heap.size ≤ w'.heap.size := hg.size
  refine ⟨⟨A, cap, rfl, ?_, h1, h2⟩, fun g hh => Nat.lt_of_lt_of_le (h3 g hh) hsz⟩
  rcases hr with rfl | ⟨b, off, rfl, hb, hc⟩
  · exact .inl rfl
  · refine .inr ⟨b, off, rfl, Nat.lt_of_lt_of_le hb hsz, fun i x hx j hj => ?_⟩
    rw [← hc i x hx j hj]
    have hh := hg.block b hb (fun e => hne b rfl e.symm)
    simp only [World.cell?, hh]
theorem Own.seen (h : Own k enc e w base v xs) : Seen k enc e w base v xs := ⟨h.is, fun g hg => (h.lt g hg).2⟩
theorem Is.seen (h : Is k enc w v xs) (h1 : 1 ≤ xs.length) : Seen k enc e w base v xs := by
  refine ⟨h, fun g hg => ?_⟩
  obtain ⟨A, cap, rfl, hr, _, _⟩ := h
  obtain ⟨b, off, rfl, hb, _⟩ := hr.get (show 0 < xs.length by omega)
  have : b = g := by simpa [Value.ownBlock] using hg
  rw [← this]; exact hb
end
set_option maxHeartbeats 2000000 in
theorem specTiedMarks_any (n : Int) (v : Value) (xs : List SClaim) (k : Int) (w : World) (h : Is 4 SClaim.enc w v xs) :
    Calls Try.prog 45 #[.int .i64 n, v, .int .i64 k] w fun e w' => ∃ r, e = .returned (.tuple #[r, .bool (tiedV n xs k).2]) ∧ Seen 1 encI 3 w' w.heap.size r (tiedV n xs k).1 ∧ Below w.heap.size w w' := by
  have hok := l8Good_is n v xs w h
  have hem := fun (W : World) (hW : w.heap.size ≤ W.heap.size) => own_empty8 W hW
  by_cases ha : areB n xs = true
  case neg =>
    rw [Bool.not_eq_true] at ha
    rw [show tiedV n xs k = ([], false) by unfold tiedV; rw [ha]; rfl]
    rw [ha] at hok
    have HOK := hide hok; have HN := hide hem; clear hok ha h hem
    go_enter Try.func45, Try.ntmps45
    go_wp2_with fail
    refine HOK.out.mono ?_; rintro e w1 ⟨rfl, hb1⟩
    go_wp2_with fail
    go_ret2
    exact ⟨_, rfl, (HN.out _ hb1.size).seen, hb1.alloc hb1.size _⟩
  have hnn := areB_nat ha
  obtain ⟨hc1, ⟨hn1, hn10⟩, hx24⟩ := areB_iff.1 ha
  rw [ha] at hok
  have hV : tiedV n xs k = if inB k 0 (n - 1) then (tl n.toNat (tieN xs n.toNat (oneT k.toNat)), true) else ([], false) := by
    unfold tiedV; rw [ha]; cases inB k 0 (n - 1) <;> rfl
  rw [hV]
  clear hV
  generalize n.toNat = m at hnn ⊢
  subst hnn
  cases hin : inB k 0 ((m : Int) - 1) with
  | false =>
    rw [if_neg (by simp)]
    have hk : k < 0 ∨ (0 ≤ k ∧ ¬ k < 0 ∧ (m : Int) ≤ k) := by
      have := (not_congr inB_iff).1 (by rw [hin]; simp : ¬ inB k 0 ((m : Int) - 1) = true)
      omega
    have HOK := hide hok; have HN := hide hem; clear hok ha h hem hin hc1
    rcases hk with hk | ⟨hk0, hk1, hk2⟩
    all_goals
      go_enter Try.func45, Try.ntmps45
      go_wp2_with fail
      refine HOK.out.mono ?_; rintro e w1 ⟨rfl, hb1⟩
      go_wp2_with fail
      go_ret2
      exact ⟨_, rfl, (HN.out _ hb1.size).seen, hb1.alloc hb1.size _⟩
  | true =>
    rw [if_pos rfl]
    have hk := inB_iff.1 hin
    have hkk : k = (k.toNat : Int) := by omega
    generalize k.toNat = k0 at hkk ⊢
    subst hkk
    have hk0 : k0 < m := by omega
    have hk1 : ¬ (k0 : Int) < 0 := by omega
    have hk2 : ¬ (m : Int) ≤ k0 := by omega
    have hT := fun W (hW : Below w.heap.size w W) => l8Tied_is m v xs k0 W (h.below hW (Nat.le_refl _)) ha hk0
    have hpos : 1 ≤ (tl m (tieN xs m (oneT k0))).length := tl_pos hk0 (tieN_mono (by unfold oneT; simp) m)
    have HOK := hide hok; have HT := hide hT; have HPOS := hide hpos; clear hok ha h hem hin hc1 hT hpos hk
    go_enter Try.func45, Try.ntmps45
    go_wp2_with fail
    refine HOK.out.mono ?_; rintro e w1 ⟨rfl, hb1⟩
    go_wp2_with fail
    refine (HT.out w1 hb1).mono ?_; rintro e w2 ⟨r, rfl, hi2, hb2⟩
    go_wp2_with fail
    go_ret2
    exact ⟨_, rfl, hi2.seen HPOS.out, bstep hb1 hb2 hb1.size⟩
end Go.Proofs.Ytijjecckfcbaoaa
