/- Contracts of strings.Join and strings.Split at one byte, of impl's SplitString, JoinStrings, and of LessString. Conditions: texts of at most 5000 bytes; for Split, that internal/bytealg.MaxLen holds some int. -/
import Derived.Test.YtplemibckjnbhaaGreatDoorLsK
import Derived.Test.YtplemibckjnbhaaGreatDoorLayX
import Derived.Lib.SplitLaws
namespace Go.Proofs.YtplemibckjnbhaaGreatDoor
open Go.RowKit Go.Lib Go.Shelf
set_option linter.unusedVariables false
/-- internal/bytealg.MaxLen holds some int -/
def MaxL (w : World) : Prop := ∃ m, w.cell? ⟨0, 0, none⟩ = some (.int .i64 m)
theorem MaxL.below {w w' : World} {B : Nat} (h : MaxL w) (hb : Below B w w') (hB : w.heap.size ≤ B) : MaxL w' := by
  obtain ⟨m, hm⟩ := h
  exact ⟨m, (hb.cell (p := ⟨0, 0, none⟩) (Nat.lt_of_lt_of_le (World.block_lt_of_cell? w _ hm) hB)).trans hm⟩
theorem split_is (s : ByteArray) (c : UInt8) (w : World) (hm : MaxL w) (hs : s.size ≤ 5000) :
    Calls Tryz.prog 52 #[.string s, .string ⟨#[c]⟩] w fun e w' => ∃ v, e = .returned v ∧ Own 1 encS 9 w' w.heap.size v (splitS c s) ∧ (splitS c s).length ≤ 5001 ∧ Below w.heap.size w w' := by
  obtain ⟨m, hm⟩ := hm
  have hlen : (splitS c s).length = countB s ⟨#[c]⟩ + 1 := splitB_all ⟨#[c]⟩ (Nat.le_refl 1) 0 _ s rfl
  have hcl := countB_le ⟨#[c]⟩ (Nat.le_refl 1) s.size s (Nat.le_refl _)
  have key : Calls Tryz.prog 52 #[.string s, .string ⟨#[c]⟩] w fun e w' =>
      e = .returned (.slice (some ⟨w.heap.size, 0, none⟩) (countB s ⟨#[c]⟩ + 1) (countB s ⟨#[c]⟩ + 1)) ∧ w' = w.alloc (.cells ((splitS c s).map Value.string).toArray 9) :=
    Any.strings_Split layP (by kernel_rfl) s ⟨#[c]⟩ m w (by omega) hm (Nat.le_refl 1)
  refine key.mono ?_
  rintro e w' ⟨rfl, rfl⟩
  refine ⟨_, rfl, ?_, by omega, below_alloc _ _⟩
  rw [← hlen]
  refine Own.made rfl (Nat.le_refl _) (Blk.new w _ _) (by simp) (by simp only [maxLen]; omega) ?_
  intro j x hj hx k hk
  obtain rfl : k = 0 := by omega
  simp [hx, encS]
end Go.Proofs.YtplemibckjnbhaaGreatDoor
