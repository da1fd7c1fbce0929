/- Helpers of the laws on roads: equality of lists of corners and of pairs. No condition. -/
import Derived.Test.YtefnmfkndepfgaaL10X
import Derived.Test.YtefnmfkndepfgaaLw
import Derived.ChangeKeysEq
namespace Go.Proofs.Ytefnmfkndepfgaa
open Go.RowKit
set_option linter.unusedVariables false
theorem sameC_self (a b : Int) : sameC a b a b = true := sameC_iff.2 ⟨rfl, rfl⟩
theorem vCorners_is (v v' : Value) (xs : List SCorner) (w : World) (h : Is 2 SCorner.enc w v xs) (h' : Is 2 SCorner.enc w v' xs) :
    Calls Try.prog 45 #[v, v'] w fun e w' => e = .returned (.bool true) ∧ Below w.heap.size w w' := by
  have hm := h.len
  obtain ⟨A, cap, rfl, hr, _, _⟩ := h
  obtain ⟨A', cap', rfl, hr', _, _⟩ := h'
  generalize hB : w.heap.size = B at hr hr' ⊢
  have HB := hide hB; clear hB
  have HR := hide hr; clear hr
  have HR' := hide hr'; clear hr'
  go_enter Try.func45, Try.ntmps45
  go_wp2_with fail
  go_loopw [5] (fun i wr => ∃ (k : Nat), k ≤ xs.length ∧ i = .int .i64 k ∧ Below B w wr) (fun i _ => xs.length - (intOf i).toNat)
  case atStart => exact ⟨0, Nat.zero_le _, rfl, Below.refl _ _⟩
  case round =>
    obtain ⟨i, hi, rfl, hbel⟩ := hrel
    by_cases hlt : i < xs.length
    · obtain ⟨b, off, rfl, hb, c0, c1⟩ := SCorner.cells HR.out hlt hbel
      obtain ⟨b', off', rfl, hb', c0', c1'⟩ := SCorner.cells HR'.out hlt hbel
      generalize xs[i].x = x at *; generalize xs[i].y = y at *
      have hne : ∀ W, (binOp .neq 58 (.agg #[.int .i64 x, .int .i64 y]) (.agg #[.int .i64 x, .int .i64 y])).run Try.prog W = .ok (.bool false) W := fun W => (SCorner.neq_run x y x y W).trans (by rw [sameC_self]; rfl)
      go_wp2_with fail
      go_region_held3 (fun w' => w'.cell? ⟨b, off + i * 2, none⟩ = some (.int .i64 x) ∧ w'.cell? ⟨b, off + i * 2 + 1, none⟩ = some (.int .i64 y) ∧ w'.cell? ⟨b', off' + i * 2, none⟩ = some (.int .i64 x) ∧ w'.cell? ⟨b', off' + i * 2 + 1, none⟩ = some (.int .i64 y)) (go_keep) (fail)
      all_goals
        go_wp2_with fail
        refine ⟨⟨i + 1, by omega, by go_num, hbel.drew⟩, by simp [intOf]; omega⟩
    · have hk : i = xs.length := by omega
      have HK := hide hk; clear hk
      go_wp2
      go_ret
      exact ⟨rfl, hbel⟩
def neqP (a b c d : Int) : Bool := !(decide (a = c) && decide (b = d))
theorem SA2.neq_run (a b c d : Int) (w : World) : (binOp .neq 51 (.agg #[.int .i64 a, .int .i64 b]) (.agg #[.int .i64 c, .int .i64 d])).run Try.prog w = .ok (.bool (neqP a b c d)) w := by
  have u3 := Try.underlying3
  obtain ⟨i, hi, h2, h3, h4⟩ := info_parts' infoI
  rw [run_neq_struct, show (10000 : Nat) = 9999 + 1 from rfl, run_equalIn_array w 9999 _ _ Try.underlying51 hi]
  have hce : Try.prog.cellsOf 3 = 1 := by kernel_rfl
  have hpk : Try.prog.plainKey 3 = true := by kernel_rfl
  have p0 := fun (x y : Int) W => run_part_plain (P := Try.prog) (w := W) hpk (xs := #[.int .i64 x, .int .i64 y]) (off := 0) rfl
  have p1 := fun (x y : Int) W => run_part_plain (P := Try.prog) (w := W) hpk (xs := #[.int .i64 x, .int .i64 y]) (off := 1) rfl
  unfold neqP
  rw [hce]
  simp only [show List.range 2 = [0, 1] from rfl, Op.eqItems, Sem.run_bind, Nat.zero_mul, Nat.one_mul, p0, p1, Result.andThen_ok]
  go_simp
  by_cases h1 : a = c <;> by_cases h2 : b = d <;> simp [h1, h2]
theorem vPairs_is (v v' : Value) (xs : List SA2) (w : World) (h : Is 2 SA2.enc w v xs) (h' : Is 2 SA2.enc w v' xs) :
    Calls Try.prog 43 #[v, v'] w fun e w' => e = .returned (.bool true) ∧ Below w.heap.size w w' := by
  have hm := h.len
  obtain ⟨A, cap, rfl, hr, _, _⟩ := h
  obtain ⟨A', cap', rfl, hr', _, _⟩ := h'
  generalize hB : w.heap.size = B at hr hr' ⊢
  have HB := hide hB; clear hB
  have HR := hide hr; clear hr
  have HR' := hide hr'; clear hr'
  go_enter Try.func43, Try.ntmps43
  go_wp2_with fail
  go_loopw [5] (fun i wr => ∃ (k : Nat), k ≤ xs.length ∧ i = .int .i64 k ∧ Below B w wr) (fun i _ => xs.length - (intOf i).toNat)
  case atStart => exact ⟨0, Nat.zero_le _, rfl, Below.refl _ _⟩
  case round =>
    obtain ⟨i, hi, rfl, hbel⟩ := hrel
    by_cases hlt : i < xs.length
    · obtain ⟨b, off, rfl, hb, c0, c1⟩ := SA2.cells HR.out hlt hbel
      obtain ⟨b', off', rfl, hb', c0', c1'⟩ := SA2.cells HR'.out hlt hbel
      generalize xs[i].x = x at *; generalize xs[i].y = y at *
      have hne : ∀ W, (binOp .neq 51 (.agg #[.int .i64 x, .int .i64 y]) (.agg #[.int .i64 x, .int .i64 y])).run Try.prog W = .ok (.bool false) W := fun W => (SA2.neq_run x y x y W).trans (by unfold neqP; simp)
      go_wp2_with fail
      go_region_held3 (fun w' => w'.cell? ⟨b, off + i * 2, none⟩ = some (.int .i64 x) ∧ w'.cell? ⟨b, off + i * 2 + 1, none⟩ = some (.int .i64 y) ∧ w'.cell? ⟨b', off' + i * 2, none⟩ = some (.int .i64 x) ∧ w'.cell? ⟨b', off' + i * 2 + 1, none⟩ = some (.int .i64 y)) (go_keep) (fail)
      all_goals
        go_wp2_with fail
        refine ⟨⟨i + 1, by omega, by go_num, hbel.drew⟩, by simp [intOf]; omega⟩
    · have hk : i = xs.length := by omega
      have HK := hide hk; clear hk
      go_wp2
      go_ret
      exact ⟨rfl, hbel⟩
end Go.Proofs.Ytefnmfkndepfgaa
