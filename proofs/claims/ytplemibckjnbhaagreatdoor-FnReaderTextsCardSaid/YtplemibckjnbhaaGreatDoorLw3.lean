/- Helpers of the laws on readers: equality of lists of numbers and of readers. No condition. -/
import Derived.Test.YtplemibckjnbhaaGreatDoorL3C
import Derived.Test.YtplemibckjnbhaaGreatDoorLw
import Derived.ChangeKeysEq
import Derived.Deep.RegionWith
namespace Go.Proofs.YtplemibckjnbhaaGreatDoor
open Go.RowKit
set_option linter.unusedVariables false
theorem rInts_same (A A' : Option Addr) (cap cap' : Nat) (xs : List Int) (w : World) (hr : Row 1 encI w w.heap.size A xs) (hr' : Row 1 encI w w.heap.size A' xs) (hm : xs.length ≤ 9223372036854775807) :
    Calls Tryz.prog 21 #[.slice A xs.length cap, .slice A' xs.length cap'] w fun e w' => e = .returned (.bool true) ∧ Below w.heap.size w w' := by
  generalize hB : w.heap.size = B at hr hr' ⊢
  have HB := hide hB; clear hB
  have HR := hide hr; clear hr
  have HR' := hide hr'; clear hr'
  go_enter Tryz.func21, Tryz.ntmps21
  go_wp2_with fail
  go_loopw [5] (fun i wr => ∃ (k : Nat), k ≤ xs.length ∧ i = .int .i64 k ∧ Below B w wr) (fun i _ => xs.length - (intOf i).toNat)
  case atStart => exact ⟨0, Nat.zero_le _, rfl, Below.refl _ _⟩
  case round =>
    obtain ⟨i, hi, rfl, hbel⟩ := hrel
    by_cases hlt : i < xs.length
    · obtain ⟨b, off, rfl, hb, c0⟩ := Ints.cells HR.out hlt hbel
      obtain ⟨b', off', rfl, hb', c0'⟩ := Ints.cells HR'.out hlt hbel
      have t0 : (xs[i] != xs[i]) = false := by simp
      go_wp2_with fail
      go_quiet (fail)
      all_goals
        go_wp2_with fail
        refine ⟨⟨i + 1, by omega, by go_num, ?_⟩, by simp [intOf]; omega⟩
        exact below_drewN hbel _
    · have hk : i = xs.length := by omega
      have HK := hide hk; clear hk
      go_wp2
      go_ret
      exact ⟨rfl, hbel⟩
theorem rInts_is (v v' : Value) (xs : List Int) (w : World) (h : Is 1 encI w v xs) (h' : Is 1 encI w v' xs) :
    Calls Tryz.prog 21 #[v, v'] w fun e w' => e = .returned (.bool true) ∧ Below w.heap.size w w' := by
  have hm := h.len
  obtain ⟨A, cap, rfl, hr, _, _⟩ := h
  obtain ⟨A', cap', rfl, hr', _, _⟩ := h'
  exact rInts_same A A' cap cap' xs w hr hr' hm
/-- a reader is not unlike itself -/
theorem SReader.neq_self (a0 : Int) (a1 : ByteArray) (a2 a3 a4 : Int) (w : World) : (binOp .neq 25 (.agg #[.int .i64 a0, .string a1, .int .i64 a2, .int .i64 a3, .int .i64 a4]) (.agg #[.int .i64 a0, .string a1, .int .i64 a2, .int .i64 a3, .int .i64 a4])).run Tryz.prog w = .ok (.bool false) w := by
  have u3 := Tryz.underlying3
  have u4 := Tryz.underlying9
  have t0 : (a1.toList == a1.toList) = true := by simp
  have hS : Tryz.prog.underlying 25 = some (.struct (Tryz.prog.fieldsOf 25)) := by kernel_rfl
  have hp : Tryz.prog.stoodInHeld 25 = false := by kernel_rfl
  rw [run_neq_struct, show (10000 : Nat) = 9999 + 1 from rfl, run_equalIn_agg w 9999 25 _ _ hS hp]
  simp only [Program.fieldsOf, Tryz.underlying25]
  go_simp
theorem rReaders_is (v v' : Value) (xs : List SReader) (w : World) (h : Is 5 SReader.enc w v xs) (h' : Is 5 SReader.enc w v' xs) :
    Calls Tryz.prog 16 #[v, v'] w fun e w' => e = .returned (.bool true) ∧ Below w.heap.size w w' := by
  have hm := h.len
  obtain ⟨A, cap, rfl, hr, _, _⟩ := h
  obtain ⟨A', cap', rfl, hr', _, _⟩ := h'
  generalize hB : w.heap.size = B at hr hr' ⊢
  have HB := hide hB; clear hB
  have HR := hide hr; clear hr
  have HR' := hide hr'; clear hr'
  go_enter Tryz.func16, Tryz.ntmps16
  go_wp2_with fail
  go_loopw [5] (fun i wr => ∃ (k : Nat), k ≤ xs.length ∧ i = .int .i64 k ∧ Below B w wr) (fun i _ => xs.length - (intOf i).toNat)
  case atStart => exact ⟨0, Nat.zero_le _, rfl, Below.refl _ _⟩
  case round =>
    obtain ⟨i, hi, rfl, hbel⟩ := hrel
    by_cases hlt : i < xs.length
    · obtain ⟨b, off, rfl, hb, c0, c1, c2, c3, c4⟩ := SReader.cells HR.out hlt hbel
      obtain ⟨b', off', rfl, hb', c0', c1', c2', c3', c4'⟩ := SReader.cells HR'.out hlt hbel
      generalize xs[i].ident = y0 at *; generalize xs[i].name = y1 at *; generalize xs[i].joined = y2 at *; generalize xs[i].cls = y3 at *; generalize xs[i].fines = y4 at *
      have hne := fun W => SReader.neq_self y0 y1 y2 y3 y4 W
      go_wp2_with fail
      go_region_held3 (fun w' => w'.cell? ⟨b, off + i * 5, none⟩ = some (.int .i64 y0) ∧ w'.cell? ⟨b, off + i * 5 + 1, none⟩ = some (.string y1) ∧ w'.cell? ⟨b, off + i * 5 + 2, none⟩ = some (.int .i64 y2) ∧ w'.cell? ⟨b, off + i * 5 + 3, none⟩ = some (.int .i64 y3) ∧ w'.cell? ⟨b, off + i * 5 + 4, none⟩ = some (.int .i64 y4) ∧ w'.cell? ⟨b', off' + i * 5, none⟩ = some (.int .i64 y0) ∧ w'.cell? ⟨b', off' + i * 5 + 1, none⟩ = some (.string y1) ∧ w'.cell? ⟨b', off' + i * 5 + 2, none⟩ = some (.int .i64 y2) ∧ w'.cell? ⟨b', off' + i * 5 + 3, none⟩ = some (.int .i64 y3) ∧ w'.cell? ⟨b', off' + i * 5 + 4, none⟩ = some (.int .i64 y4)) (go_keep) (fail)
      all_goals
        go_wp2_with fail
        refine ⟨⟨i + 1, by omega, by go_num, hbel.drew⟩, by simp [intOf]; omega⟩
    · have hk : i = xs.length := by omega
      have HK := hide hk; clear hk
      go_wp2
      go_ret
      exact ⟨rfl, hbel⟩
end Go.Proofs.YtplemibckjnbhaaGreatDoor
