/- Contracts of RunOff, in impl and spec: the Lean function runV. No condition. -/
import Derived.Test.YtomcdkkjknphpaaL9M
namespace Go.Proofs.Ytomcdkkjknphpaa
open Go.RowKit
set_option linter.unusedVariables false
def runV (xss : List (List Int)) (r c : Int) : List SA2 × Bool := if listedG xss r c then (runL xss ⟨r, c⟩, true) else ([], false)
theorem runV_len (xss : List (List Int)) (r c : Int) : (runV xss r c).1.length ≤ 1048576 := by
  unfold runV; split
  · rename_i h
    obtain ⟨hrel, hr, hc⟩ := listed_parts h
    have := runL_len hrel (p := ⟨r, c⟩) ⟨hr, hc⟩
    show (runL xss ⟨r, c⟩).length ≤ _
    omega
  · simp
theorem implRunOff_any (v : Value) (xss : List (List Int)) (r c : Int) (w : World) (h : IsG w v xss) :
    Calls Try.prog 41 #[v, .int .i64 r, .int .i64 c] w fun e w' => ∃ x, e = .returned (.tuple #[x, .bool (runV xss r c).2]) ∧ Own 2 SA2.enc 50 w' w.heap.size x (runV xss r c).1 ∧ Below w.heap.size w w' := by
  have hsq := isListedSquare_is v xss r c w h
  by_cases hl : listedG xss r c = true
  case neg =>
    rw [Bool.not_eq_true] at hl
    rw [show runV xss r c = ([], false) by unfold runV; rw [hl]; rfl]
    rw [hl] at hsq
    have HS := hide hsq; clear hsq hl h
    go_enter Try.func41, Try.ntmps41
    go_wp2_with fail
    refine HS.out.mono ?_; rintro e w1 ⟨rfl, hb1⟩
    go_wp2_with fail
    go_ret2
    exact ⟨_, rfl, Own.nil, hb1⟩
  rw [hl] at hsq
  obtain ⟨hrel, hr, hc⟩ := listed_parts hl
  rw [show runV xss r c = (runL xss ⟨r, c⟩, true) by unfold runV; rw [hl]; rfl]
  have hrun := fun W (hb : Below w.heap.size w W) => runOff_is v xss r c W (h.below hb (Nat.le_refl _)) hrel hr hc
  have HS := hide hsq; have HN := hide hrun; clear hsq hrun hl h hrel hr hc
  go_enter Try.func41, Try.ntmps41
  go_wp2_with fail
  refine HS.out.mono ?_; rintro e w1 ⟨rfl, hb1⟩
  go_wp2_with fail
  refine (HN.out _ hb1).mono ?_; rintro e w2 ⟨x, rfl, ho, hb2⟩
  have HO := hide (ho.mono hb1.size)
  have B2 := bstep hb1 hb2 hb1.size
  clear ho
  go_wp2_with fail
  go_ret2
  exact ⟨_, rfl, HO.out, B2⟩
theorem specRunOff_any (v : Value) (xss : List (List Int)) (r c : Int) (w : World) (h : IsG w v xss) :
    Calls Try.prog 40 #[v, .int .i64 r, .int .i64 c] w fun e w' => ∃ x, e = .returned (.tuple #[x, .bool (runV xss r c).2]) ∧ Own 2 SA2.enc 50 w' w.heap.size x (runV xss r c).1 ∧ Below w.heap.size w w' := by
  have hsq := l9Square_is v xss r c w h
  by_cases hl : listedG xss r c = true
  case neg =>
    rw [Bool.not_eq_true] at hl
    rw [show runV xss r c = ([], false) by unfold runV; rw [hl]; rfl]
    rw [hl] at hsq
    have HS := hide hsq; clear hsq hl h
    go_enter Try.func40, Try.ntmps40
    go_wp2_with fail
    refine HS.out.mono ?_; rintro e w1 ⟨rfl, hb1⟩
    have HE := hide ((own_emptyP w1 hb1 hb1.size))
    have B2 := hb1.alloc hb1.size (.cells #[] 50)
    go_wp2_with fail
    go_ret2
    exact ⟨_, rfl, HE.out, B2⟩
  rw [hl] at hsq
  obtain ⟨hrel, hr, hc⟩ := listed_parts hl
  rw [show runV xss r c = (runL xss ⟨r, c⟩, true) by unfold runV; rw [hl]; rfl]
  have hrun := fun W (hb : Below w.heap.size w W) => l9Run_is v xss r c W (h.below hb (Nat.le_refl _)) hrel hr hc
  have HS := hide hsq; have HN := hide hrun; clear hsq hrun hl h hrel hr hc
  go_enter Try.func40, Try.ntmps40
  go_wp2_with fail
  refine HS.out.mono ?_; rintro e w1 ⟨rfl, hb1⟩
  go_wp2_with fail
  refine (HN.out _ hb1).mono ?_; rintro e w2 ⟨x, rfl, ho, hb2⟩
  have HO := hide (ho.mono hb1.size)
  have B2 := bstep hb1 hb2 hb1.size
  clear ho
  go_wp2_with fail
  go_ret2
  exact ⟨_, rfl, HO.out, B2⟩
end Go.Proofs.Ytomcdkkjknphpaa
