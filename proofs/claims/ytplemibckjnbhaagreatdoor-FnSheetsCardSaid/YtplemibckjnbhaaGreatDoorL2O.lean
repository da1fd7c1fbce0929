import Derived.Test.YtplemibckjnbhaaGreatDoorLayX
import Derived.Test.YtplemibckjnbhaaGreatDoorL2M
import Derived.Test.YtplemibckjnbhaaGreatDoorL2X
import Derived.Test.YtplemibckjnbhaaGreatDoorL2W
import Derived.ChangeKeysEq
import Derived.Deep.RegionWith
/- Small helpers of the laws over a code of bytes. No condition. -/
namespace Go.Proofs.YtplemibckjnbhaaGreatDoor
open Go.RowKit
set_option linter.unusedVariables false
theorem vBig_is (A : Option Addr) (len cap : Nat) (w : World) :
    Calls Tryz.prog 25 #[.slice A len cap] w fun e w' => e = .returned (.bool (decide ((65536 : Int) < len))) ∧ w = w' := by
  go_enter Tryz.func25, Tryz.ntmps25
  go_wp2_with fail
  go_ret
  exact ⟨rfl, rfl⟩
theorem rBig_is (A : Option Addr) (len cap : Nat) (w : World) :
    Calls Tryz.prog 5 #[.slice A len cap] w fun e w' => e = .returned (.bool (decide ((65536 : Int) < len))) ∧ w = w' := by
  go_enter Tryz.func5, Tryz.ntmps5
  go_wp2_with fail
  go_ret
  exact ⟨rfl, rfl⟩
end Go.Proofs.YtplemibckjnbhaaGreatDoor

/- Helpers of FnSheets: a sheet and a pair compared to themselves; the equality of lists of pairs (vPairs); AreSheets of spec; the plain laws. No condition. -/
namespace Go.Proofs.YtplemibckjnbhaaGreatDoor
open Go.RowKit
set_option linter.unusedVariables false
/-- a sheet is not unlike itself -/
theorem SSheet.neq_self (a0 a1 a2 a3 a4 : Int) (w : World) : (binOp .neq 50 (.agg #[.int .i64 a0, .int .i64 a1, .int .i64 a2, .int .i64 a3, .int .i64 a4]) (.agg #[.int .i64 a0, .int .i64 a1, .int .i64 a2, .int .i64 a3, .int .i64 a4])).run Tryz.prog w = .ok (.bool false) w := by
  have u3 := Tryz.underlying3
  have hS : Tryz.prog.underlying 50 = some (.struct (Tryz.prog.fieldsOf 50)) := by kernel_rfl
  have hp : Tryz.prog.stoodInHeld 50 = false := by kernel_rfl
  rw [run_neq_struct, show (10000 : Nat) = 9999 + 1 from rfl, run_equalIn_agg w 9999 50 _ _ hS hp]
  simp only [Program.fieldsOf, Tryz.underlying50]
  go_simp
/-- a pair is not unlike itself -/
theorem SPair.neq_self (a b : Int) (w : World) : (binOp .neq 66 (.agg #[.int .i64 a, .int .i64 b]) (.agg #[.int .i64 a, .int .i64 b])).run Tryz.prog w = .ok (.bool false) w := by
  have u3 := Tryz.underlying3
  have u := Tryz.underlying66
  rw [run_neq_struct, show (10000 : Nat) = 9998 + 1 + 1 from rfl]
  have e1 : (Op.equalIn (9998 + 1 + 1) 66 (.agg #[.int .i64 a, .int .i64 b]) (.agg #[.int .i64 a, .int .i64 b])).run Tryz.prog w = .ok true w := by
    unfold Op.equalIn
    simp only [Sem.run_bind, run_underlying u, Result.andThen_ok]
    have e2 := fun (x : Int) W => run_equalIn_int (P := Tryz.prog) W 9998 3 .i64 _ x x u3
    rw [show 9998 + 1 = 9999 from rfl] at e2
    have hsz := Tryz.sizeOf3
    simp only [Std.Legacy.Range.forIn_eq_forIn_range', Std.Legacy.Range.size, show List.range' 0 ((2 - 0 + 1 - 1) / 1) 1 = [0, 1] from rfl, List.forIn_cons, List.forIn_nil, Sem.run_bind]
    go_simp
  rw [e1]
  rfl
theorem SPair.cells {w : World} {B : Nat} {A : Option Addr} {xs : List SPair} (h : Row 2 SPair.enc w B A xs) {i : Nat} (hi : i < xs.length) {wr : World} (hb : Below B w wr) :
    ∃ b off, A = some ⟨b, off, none⟩ ∧ b < B ∧ wr.cell? ⟨b, off + i * 2, none⟩ = some (.int .i64 xs[i].x) ∧ wr.cell? ⟨b, off + i * 2 + 1, none⟩ = some (.int .i64 xs[i].y) := by
  obtain ⟨b, off, rfl, hl, hc⟩ := h.get hi
  have hcell := fun j hj => (hb.cell (p := ⟨b, off + i * 2 + j, none⟩) hl).trans (hc j hj)
  exact ⟨b, off, rfl, hl, hcell 0 (by omega), hcell 1 (by omega)⟩
theorem vPairs_is (v v' : Value) (xs : List SPair) (w : World) (h : Is 2 SPair.enc w v xs) (h' : Is 2 SPair.enc w v' xs) :
    Calls Tryz.prog 40 #[v, v'] w fun e w' => e = .returned (.bool true) ∧ Below w.heap.size w w' := by
  have hm := h.len
  obtain ⟨A, cap, rfl, hr, _, _⟩ := h
  obtain ⟨A', cap', rfl, hr', _, _⟩ := h'
  generalize hB : w.heap.size = B at hr hr' ⊢
  have HB := hide hB; clear hB
  have HR := hide hr; clear hr
  have HR' := hide hr'; clear hr'
  go_enter Tryz.func40, Tryz.ntmps40
  go_wp2_with fail
  go_loopw [5] (fun i wr => ∃ (k : Nat), k ≤ xs.length ∧ i = .int .i64 k ∧ Below B w wr) (fun i _ => xs.length - (intOf i).toNat)
  case atStart => exact ⟨0, Nat.zero_le _, rfl, Below.refl _ _⟩
  case round =>
    obtain ⟨i, hi, rfl, hbel⟩ := hrel
    by_cases hlt : i < xs.length
    · obtain ⟨b, off, rfl, hb, c0, c1⟩ := SPair.cells HR.out hlt hbel
      obtain ⟨b', off', rfl, hb', c0', c1'⟩ := SPair.cells HR'.out hlt hbel
      generalize xs[i].x = y0 at *; generalize xs[i].y = y1 at *
      have hne := fun W => SPair.neq_self y0 y1 W
      have hgd : Tryz.prog.eqGuardType Tryz.prog.depth 66 = false := by kernel_rfl
      go_wp2_with fail
      go_region_held3 (fun w' => w'.cell? ⟨b, off + i * 2, none⟩ = some (.int .i64 y0) ∧ w'.cell? ⟨b, off + i * 2 + 1, none⟩ = some (.int .i64 y1) ∧ w'.cell? ⟨b', off' + i * 2, none⟩ = some (.int .i64 y0) ∧ w'.cell? ⟨b', off' + i * 2 + 1, none⟩ = some (.int .i64 y1)) (go_keep) (fail)
      all_goals
        go_wp2_with fail
        refine ⟨⟨i + 1, by omega, by go_num, hbel.drew⟩, by simp [intOf]; omega⟩
    · have hk : i = xs.length := by omega
      have HK := hide hk; clear hk
      go_wp2
      go_ret
      exact ⟨rfl, hbel⟩
theorem AreSheetsS_is (v : Value) (xs : List SSheet) (w : World) (h : Is 5 SSheet.enc w v xs) :
    Calls Tryz.prog 37 #[v] w fun e w' => e = .returned (.bool (goodS xs)) ∧ Below w.heap.size w w' := by
  have hgc := fun W hi => l2Sheets_is v xs W hi
  generalize goodS xs = gs at *
  have HG := hide hgc; have HI := hide h; clear hgc h
  go_enter Tryz.func37, Tryz.ntmps37
  go_wp2_with fail
  refine (HG.out _ HI.out).mono ?_; rintro e w2 ⟨rfl, hb⟩
  have HB := hide hb; clear hb
  go_wp2_with fail
  go_ret
  exact ⟨rfl, HB.out⟩
theorem mul_bd2 {a b n m : Int} (h1 : -n ≤ a) (h2 : a ≤ n) (h3 : -m ≤ b) (h4 : b ≤ m) (hn : 0 ≤ n) (hm : 0 ≤ m) : -(n * m) ≤ a * b ∧ a * b ≤ n * m := by
  have h5 : a.natAbs ≤ n.natAbs := by omega
  have h6 : b.natAbs ≤ m.natAbs := by omega
  have h7 : (a * b).natAbs ≤ (n * m).natAbs := by rw [Int.natAbs_mul, Int.natAbs_mul]; exact Nat.mul_le_mul h5 h6
  have h8 : 0 ≤ n * m := Int.mul_nonneg hn hm
  omega
theorem textSh_ok (z : SSheet) : (textSh z).2 = z.okB := by
  unfold textSh
  cases z.okB <;> rfl
theorem textSh_size (z : SSheet) : (textSh z).1.size ≤ 4000 := by
  unfold textSh
  cases h : z.okB with
  | false => exact Nat.zero_le 4000
  | true =>
    obtain ⟨⟨a, b⟩, ⟨c, d⟩, e⟩ := ok_small h
    have h1 := num_sz (n := z.id) (by omega) (by omega)
    have h2 := num_sz (n := z.row) (by omega) (by omega)
    have h3 := num_sz (n := z.col) (by omega) (by omega)
    have h4 := num_sz (n := z.scale) (by omega) (by omega)
    have h5 := num_sz (n := z.year) (by omega) (by omega)
    simp only [if_true, sheetT, ByteArray.size_append]
    have k1 : (⟨#[58, 32, 114]⟩ : ByteArray).size = 3 := rfl
    have k2 : (⟨#[32, 99]⟩ : ByteArray).size = 2 := rfl
    have k3 : (⟨#[32, 49, 58]⟩ : ByteArray).size = 3 := rfl
    have k4 : (⟨#[48, 48, 48, 32]⟩ : ByteArray).size = 4 := rfl
    rw [k1, k2, k3, k4]
    omega
theorem miss_law {xs : List SSheet} {sc : Int} : ∀ p ∈ (missV xs sc).1, shAtV xs p.x p.y sc = (0, false) := by
  intro p hp
  unfold missV at hp
  split at hp
  · unfold cellsM at hp
    have h := (boxP_mem.1 hp).2.2.2
    unfold noneAt at h
    have h' := of_decide_eq_true h
    unfold shAtV
    rw [if_neg (by omega)]
  · simp at hp
theorem miss_len {xs : List SSheet} {sc : Int} : (missV xs sc).1.length ≤ 400 := by
  unfold missV
  split
  · rename_i h; exact h.2.2
  · simp
theorem paper_law {z : SSheet} {m : Int} (h : (paperV z m).2.2 = true) : ((0 ≤ (paperV z m).1 ∧ (paperV z m).1 ≤ 1000000) ∧ (0 ≤ (paperV z m).2.1 ∧ (paperV z m).2.1 ≤ 1000000)) ∧ ((1 ≤ m ∧ m ≤ 1000000) ∧ (-999999 ≤ z.scale ∧ z.scale ≤ 999999)) ∧ (paperV z m).1 * z.scale = m * (paperV z m).2.1 := by
  unfold paperV at h ⊢
  split
  · rename_i hc
    obtain ⟨hz, h1, h2⟩ := hc
    obtain ⟨_, ⟨_, hs⟩, _⟩ := ok_small hz
    have hs0 : 1 ≤ z.scale := by
      unfold SSheet.okB at hz
      simp only [Bool.and_eq_true, inB, decide_eq_true_eq] at hz
      omega
    have hg : 0 < (Int.gcd m z.scale : Int) := by
      have := Int.gcd_pos_of_ne_zero_left z.scale (show m ≠ 0 by omega)
      omega
    refine ⟨⟨⟨?_, ?_⟩, ?_, ?_⟩, ⟨⟨h1, h2⟩, hs⟩, frac_value⟩
    · exact Int.ediv_nonneg (by omega) (by omega)
    · have := Int.ediv_le_self (a := m) (Int.gcd m z.scale : Int) (by omega); simp only [frac]; omega
    · exact Int.ediv_nonneg (by omega) (by omega)
    · have := Int.ediv_le_self (a := z.scale) (Int.gcd m z.scale : Int) (by omega); simp only [frac]; omega
  · rename_i hc
    rw [if_neg hc] at h
    simp at h
end Go.Proofs.YtplemibckjnbhaaGreatDoor
