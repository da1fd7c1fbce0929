/- Contract of impl's allSquares: the squares by rows and then by columns. Condition: a relief. -/
import Derived.Test.YtomcdkkjknphpaaL9F
namespace Go.Proofs.Ytomcdkkjknphpaa
open Go.RowKit
set_option linter.unusedVariables false
def sqRow (r k : Nat) : List SA2 := (List.range k).map fun (c : Nat) => (⟨(r : Int), (c : Int)⟩ : SA2)
def sqTo (m n : Nat) : List SA2 := (List.range n).flatMap fun r => sqRow r m
theorem sqRow_succ (r k : Nat) : sqRow r (k + 1) = sqRow r k ++ [(⟨(r : Int), (k : Int)⟩ : SA2)] := by simp [sqRow, List.range_succ]
theorem sqTo_succ (m n : Nat) : sqTo m (n + 1) = sqTo m n ++ sqRow n m := by simp [sqTo, List.range_succ, List.flatMap_append]
theorem sqTo_len (m n : Nat) : (sqTo m n).length = n * m := by
  induction n with
  | zero => simp [sqTo]
  | succ n ih => rw [sqTo_succ, List.length_append, ih, Nat.add_mul]; simp [sqRow]
set_option maxHeartbeats 1000000 in
theorem allSquares_is (v : Value) (xss : List (List Int)) (w : World) (h : IsG w v xss) (hrel : reliefB xss = true) :
    Calls Try.prog 67 #[v] w fun e w' => ∃ x, e = .returned x ∧ Own 2 SA2.enc 50 w' w.heap.size x (sqTo (hdLen xss) xss.length) ∧ Below w.heap.size w w' := by
  have hdm := relief_dims hrel
  obtain ⟨rs, hmap, his, hrs⟩ := h
  obtain ⟨A, cap, rfl, hrow, _, _⟩ := his
  have hxl : xss.length = rs.length := by rw [← hmap]; simp
  have hrl : ∀ i, (hi : i < rs.length) → rs[i].xs.length = hdLen xss := fun i hi => by
    have := relief_row hrel (i := i) (by omega)
    rw [← this]; simp [← hmap]
  rw [hxl]
  rw [hxl] at hdm
  generalize hdLen xss = m at *
  generalize hB : w.heap.size = B at *
  have HR := hide hrow; have HRL := hide hrl; clear hrow hrl hrs hmap hxl hrel
  go_enter Try.func67, Try.ntmps67
  go_wp2_with fail
  go_loopw [3, 8] (fun s i wr => ∃ n : Nat, n ≤ rs.length ∧ i = .int .i64 (n : Int) ∧ Own 2 SA2.enc 50 wr B s (sqTo m n) ∧ Below B w wr) (fun _ i _ => rs.length - (intOf i).toNat)
  case atStart => exact ⟨0, Nat.zero_le _, rfl, Own.nil, by rw [← hB]; exact Below.refl _ _⟩
  case round =>
    obtain ⟨n, hn, rfl, hown0, hbel0⟩ := hrel
    have HOW0 := hide hown0; clear hown0
    by_cases hlt : n < rs.length
    · have hlt' : (n : Int) < rs.length := by omega
      obtain ⟨b, off, rfl, hb, c0⟩ := SRow.cell HR.out hlt hbel0
      rw [HRL.out n hlt] at c0
      go_wp2_with fail
      go_loopw [3, 16] (fun s i wr => ∃ k : Nat, k ≤ m ∧ i = .int .i64 (k : Int) ∧ Own 2 SA2.enc 50 wr B s (sqTo m n ++ sqRow n k) ∧ Below B w wr) (fun _ i _ => m - (intOf i).toNat)
      case atStart => exact ⟨0, Nat.zero_le _, rfl, by simpa [sqRow] using HOW0.out, hbel0⟩
      case round =>
        obtain ⟨k, hk, rfl, hown, hbel⟩ := hrel
        have HOW := hide hown; clear hown
        have hsz : B ≤ wr.heap.size := by have := hbel.size; rw [hB] at this; exact this
        have hdl : (sqTo m n ++ sqRow n k).length ≤ 16777216 := by
          rw [List.length_append, sqTo_len]
          have : n * m ≤ 8 * 8 := Nat.mul_le_mul (by omega) (by omega)
          simp [sqRow]; omega
        by_cases hlk : k < m
        · have hlk' : (k : Int) < m := by omega
          go_wp2_with (at_builtin; refine wpList_push1s (k := 2) (enc := SA2.enc) _ rfl _ _ 44 rfl 50 (.agg #[.int .i64 0, .int .i64 0]) 16 Try.underlying44 SA2.info rfl (by omega) (by omega) SA2.one B _ (sqTo m n ++ sqRow n k) rfl HOW.out (⟨(n : Int), (k : Int)⟩ : SA2) _ _ rfl rfl rfl hdl hsz hbel (Nat.le_refl _) rfl ?_; intro v1 w1 ho1 hb1 hg1)
          go_round
          case measure => (simp [intOf] <;> omega)
          case rel => exact ⟨k + 1, by omega, by go_num, by rw [sqRow_succ, ← List.append_assoc]; exact ho1, hb1⟩
        · have hkm : k = m := by omega
          have HKM := hide hkm; clear hkm
          go_wp2_with fail
          go_round
          case measure => (simp [intOf] <;> omega)
          case rel => exact ⟨n + 1, by omega, by go_num, by rw [sqTo_succ]; have := HOW.out; rw [HKM.out] at this; exact this, hbel⟩
    · have hnn : rs.length = n := by omega
      have HNN := hide hnn; clear hnn
      go_wp2_with fail
      go_ret
      exact ⟨_, rfl, by rw [HNN.out]; exact HOW0.out, hbel0⟩
end Go.Proofs.Ytomcdkkjknphpaa
