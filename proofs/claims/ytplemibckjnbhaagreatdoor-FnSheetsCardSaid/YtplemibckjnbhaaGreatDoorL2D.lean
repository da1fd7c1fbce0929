/- Contract of NeighborsOf in spec: the Lean function nbV. Condition: small numbers. -/
import Derived.Test.YtplemibckjnbhaaGreatDoorL2C
namespace Go.Proofs.YtplemibckjnbhaaGreatDoor
open Go.RowKit
set_option linter.unusedVariables false
theorem own_noI (w : World) {B : Nat} (hB : B ≤ w.heap.size) : Own 1 encI 3 (w.alloc (.cells #[] 3)) B (.slice (some ⟨w.heap.size, 0, none⟩) 0 0) ([] : List Int) :=
  Own.made (cs := #[]) rfl hB (Blk.new _ _ _) rfl (Nat.zero_le _) Filled.zero
theorem nb_at {xs : List SSheet} (hg : goodS xs = true) {i k : Nat} (hi : i < xs.length) (hk : k < xs.length) : nbB (SSheet.at xs i) (SSheet.at xs k) = (decide (i ≠ k) && nearB (SSheet.at xs i) (SSheet.at xs k)) := by
  rw [Bool.eq_iff_iff, nbB_iff, Bool.and_eq_true, decide_eq_true_iff, nearB_iff]
  constructor
  · rintro ⟨h, r⟩
    exact ⟨fun e => h (by rw [e]), r⟩
  · rintro ⟨h, r⟩
    exact ⟨fun e => h (goodS_one hg hi hk e), r⟩
end Go.Proofs.YtplemibckjnbhaaGreatDoor
