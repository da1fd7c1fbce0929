/- Contract of the library's Repeat of one true, up to ten times, and of its search in a row of bools. Conditions: those numbers. -/
import Derived.Test.YtijjecckfcbaoaaL8I
import Derived.Laws.CopyRow
import Derived.Laws.CopyOwn
namespace Go.Proofs.Ytijjecckfcbaoaa
open Go.RowKit
set_option linter.unusedVariables false
theorem mul64_one (n : Nat) (w : World) (h0 : 1 ≤ n) (h1 : n ≤ 10) :
    Calls Try.prog 114 #[.int .u64 1, .int .u64 (n : Int)] w fun e w' => e = .returned (.tuple #[.int .u64 0, .int .u64 (n : Int)]) ∧ w = w' := by
  have hn : n = 1 ∨ n = 2 ∨ n = 3 ∨ n = 4 ∨ n = 5 ∨ n = 6 ∨ n = 7 ∨ n = 8 ∨ n = 9 ∨ n = 10 := by omega
  rcases hn with rfl | rfl | rfl | rfl | rfl | rfl | rfl | rfl | rfl | rfl
  all_goals
    go_enter Try.func114, Try.ntmps114
    go_wp2_with fail
    go_ret2
    exact ⟨rfl, rfl⟩
theorem mul_one8 (n : Nat) (w : World) (h0 : 1 ≤ n) (h1 : n ≤ 10) :
    Calls Try.prog 101 #[.int .u64 1, .int .u64 (n : Int)] w fun e w' => e = .returned (.tuple #[.int .u64 0, .int .u64 (n : Int)]) ∧ w = w' := by
  have hc := fun W => mul64_one n W h0 h1
  have HC := hide hc; clear hc
  go_enter Try.func101, Try.ntmps101
  go_wp2_with (go_at_call 114; refine (HC.out _).mono ?_; rintro e w' ⟨rfl, rfl⟩)
  go_ret2
  exact ⟨rfl, rfl⟩
/-- j trues, then falses -/
def tfA (n j : Nat) : Array Value := (List.replicate j (Value.bool true) ++ List.replicate (n - j) (Value.bool false)).toArray
theorem tfA_size {n j : Nat} (h : j ≤ n) : (tfA n j).size = n := by simp [tfA]; omega
theorem tfA_get {n j i : Nat} (h : i < j) : (tfA n j)[i]? = some (.bool true) := by
  unfold tfA
  rw [List.getElem?_toArray, List.getElem?_append_left (by simpa using h), List.getElem?_replicate, if_pos h]
theorem tfA_copy {n j m : Nat} (h : j + m ≤ n) : ((tfA n j).toList.take j ++ List.replicate m (Value.bool true) ++ (tfA n j).toList.drop (j + m)).toArray = tfA n (j + m) := by
  unfold tfA
  congr 1
  simp only [List.take_append, List.length_replicate, Nat.sub_self, List.take_zero, List.append_nil, List.drop_append]
  rw [List.take_of_length_le (by simp), List.drop_eq_nil_of_le (by simp), List.nil_append, List.replicate_append_replicate, List.drop_replicate, show n - j - (j + m - j) = n - (j + m) by omega]
theorem tfA_made (n : Nat) : madeCells #[Value.bool false] n = tfA n 0 := by
  apply Array.ext'
  rw [toList_madeCells_one]
  simp [tfA]
theorem tfA_own {w : World} {g B n : Nat} (hB : B ≤ g) (hn : n ≤ maxLen) (h : Blk w g 4 (tfA n n)) : Own 1 encBo 4 w B (.slice (some ⟨g, 0, none⟩) n n) (List.replicate n true) := by
  refine Own.made (by simp) hB h (by rw [tfA_size (Nat.le_refl _)]; simp) (by simpa using hn) ?_
  intro i x hi hx c hc
  obtain rfl : c = 0 := by omega
  rw [List.length_replicate] at hi
  rw [Nat.mul_one, Nat.add_zero, tfA_get hi]
  rw [List.getElem?_replicate, if_pos hi] at hx
  injection hx with hx
  subst hx
  rfl
theorem szB1 : (Try.prog.info? 4).map (·.size) = some 1 := by kernel_rfl
theorem copy_tf {w : World} {g n j m sl sc dc : Nat} {a : Addr} (hg : Blk w g 4 (tfA n j)) (hm : m = Nat.min sl (n - j)) (hjn : j + m ≤ n) (hsrc : ∀ i, i < m → w.cell? (a.add i) = some (.bool true)) (ty : TypeId) :
    (Builtin.copy_ #[89, 89] ty #[.slice (some ⟨g, j, none⟩) (n - j) dc, .slice (some a) sl sc]).run Try.prog w = .ok (.int .i64 (m : Int)) (w.setRow g (tfA n (j + m))) := by
  have h := run_copy_row (P := Try.prog) w 89 89 ty 4 g j (n - j) dc a sl sc (tfA n j) 4 (List.replicate m (.bool true)) Try.underlying89 szB1 hg (by simpa using hm) (by
    intro i v hi
    have h1 := (List.getElem?_eq_some_iff.1 hi).1
    rw [List.length_replicate] at h1
    rw [List.getElem?_replicate, if_pos h1] at hi
    rw [← hi]; exact hsrc i h1) (by rw [tfA_size (by omega)]; simpa using hjn) (by intro v hv; rw [List.eq_of_mem_replicate hv]; rfl)
  rw [List.length_replicate, tfA_copy hjn] at h
  exact h
set_option maxRecDepth 100000 in
set_option maxHeartbeats 1000000 in
theorem repeatB_is (n b : Nat) (w : World) (h0 : 1 ≤ n) (h1 : n ≤ 10) (hc : w.cell? ⟨b, 0, none⟩ = some (.bool true)) :
    Calls Try.prog 89 #[.slice (some ⟨b, 0, none⟩) 1 1, .int .i64 (n : Int)] w fun e w' => ∃ g, e = .returned (.slice (some ⟨g, 0, none⟩) n n) ∧ Own 1 encBo 4 w' w.heap.size (.slice (some ⟨g, 0, none⟩) n n) (List.replicate n true) ∧ Below w.heap.size w w' := by
  have hbl := World.block_lt_of_cell? w _ hc
  have hmul := fun W => mul_one8 n W h0 h1
  have hmk := run_make_n (P := Try.prog) 89 4 _ 1 1 Try.underlying89 infoBo n (by omega) (by omega) w
  rw [show (madeCells (Value.cells (.bool false)) (n * 1)) = tfA n 0 by rw [Nat.mul_one]; exact tfA_made n] at hmk
  have hbk := Blk.new w 4 (tfA n 0)
  have B0 := below_alloc w (.cells (tfA n 0) 4)
  have hc0 := ((bcell B0).1 b 0 hbl).trans hc
  have hcp := copy_tf (sl := 1) (sc := 1) (dc := n) (m := 1) (a := ⟨b, 0, none⟩) hbk (by show 1 = min 1 (n - 0); omega) (by omega) (fun i hi => by
    obtain rfl : i = 0 := by omega
    rw [Addr.add_lit]; exact hc0)
  rw [Nat.sub_zero, Nat.zero_add] at hcp
  have hbk1 : Blk ((w.alloc (.cells (tfA n 0) 4)).setRow w.heap.size (tfA n 1)) w.heap.size 4 (tfA n 1) := setRow_heap _ _ _ _ _ _ hbk
  have B1 : Below w.heap.size w ((w.alloc (.cells (tfA n 0) 4)).setRow w.heap.size (tfA n 1)) := below_setRow B0 (Nat.le_refl _) _
  have hn : (n : Int) ≤ 10 := by omega
  have hn0 : (0 : Int) < n := by omega
  have hn1 : ¬ (n : Int) < 0 := by omega
  have HMUL := hide hmul; have HBK := hide hbk1; have HB1 := hide B1
  clear hmul hbk hbk1 B0 B1 hc hc0
  generalize hG : w.heap.size = G at *
  go_enter Try.func89, Try.ntmps89
  go_wp2_with (go_at_call 101; refine (HMUL.out _).mono ?_; rintro e w' ⟨rfl, rfl⟩)
  clear hcp hmk hbl
  go_loopw [8] (fun i wr => ∃ j : Nat, (1 ≤ j ∧ j ≤ n) ∧ i = .int .i64 (j : Int) ∧ Blk wr G 4 (tfA n j) ∧ Below G w wr) (fun i _ => n - (intOf i).toNat)
  case atStart => exact ⟨1, ⟨Nat.le_refl _, h0⟩, rfl, HBK.out, HB1.out⟩
  case round =>
    clear HBK HB1
    obtain ⟨j, ⟨hj1, hj⟩, rfl, hblk, hbel⟩ := hrel
    by_cases hlt : j < n
    · have hlt' : (j : Int) < n := by omega
      have hne : ¬ n = j := by omega
      have hjn : (j : Int) ≤ n := by omega
      have hcp := copy_tf (w := wr.drew) (sl := j) (sc := n) (dc := n - j) (m := min j (n - j)) (a := ⟨G, 0, none⟩) (hblk : Blk wr.drew G 4 (tfA n j)) rfl (by omega) (fun i hi => by
        rw [Addr.add_lit, Nat.zero_add]; show wr.cell? _ = _; rw [hblk.cell, tfA_get (by omega)])
      have hbk1 : Blk (wr.drew.setRow G (tfA n (j + min j (n - j)))) G 4 (tfA n (j + min j (n - j))) := setRow_heap _ _ _ _ _ _ (hblk : Blk wr.drew G 4 (tfA n j))
      have B1 : Below G w (wr.drew.setRow G (tfA n (j + min j (n - j)))) := below_setRow hbel.drew (Nat.le_refl _) _
      obtain ⟨m, hm⟩ : ∃ m, min j (n - j) = m := ⟨_, rfl⟩
      rw [hm] at hcp hbk1 B1
      have hm0 : 1 ≤ m ∧ j + m ≤ n := by omega
      obtain ⟨hm1, hm2⟩ := hm0
      have HBK := hide hbk1; have HB1 := hide B1
      clear hblk hbk1 B1 hm
      go_wp2_with fail
      go_region
      go_wp2_with fail
      go_round
      case measure => (simp [intOf] <;> omega)
      case rel => exact ⟨j + m, ⟨by omega, hm2⟩, by rw [Int.natCast_add], HBK.out, HB1.out⟩
    · have hjn : j = n := by omega
      subst hjn
      have HO := hide (tfA_own (Nat.le_refl G) (by simp only [maxLen]; omega) hblk)
      clear hblk
      go_wp2_with fail
      go_ret
      exact ⟨G, rfl, HO.out, hbel⟩
theorem IndexB_any (A : Option Addr) (cap : Nat) (xs : List Bool) (v : Bool) (w : World) (hr : Row 1 encBo w w.heap.size A xs) (hm : xs.length ≤ 9223372036854775807) :
    Calls Try.prog 100 #[.slice A xs.length cap, .bool v] w fun e w' => e = .returned (.int .i64 (idxF (fun c => v == c) xs)) ∧ w = w' := by
  have HR := hide hr; clear hr
  go_enter Try.func100, Try.ntmps100
  go_wp2_with fail
  go_loop [8] (fun i => ∃ (k : Nat), k ≤ xs.length ∧ i = .int .i64 k ∧ (∀ c ∈ xs.take k, (v == c) = false)) (fun i => xs.length - (intOf i).toNat)
  case atStart => exact ⟨0, Nat.zero_le _, rfl, by simp⟩
  case round =>
    obtain ⟨i, hi, rfl, hno⟩ := hrel
    have HN := hide hno; clear hno
    by_cases hlt : i < xs.length
    · obtain ⟨b, off, rfl, hb, c0⟩ := Bools.cells HR.out hlt (Below.refl _ _)
      generalize hy : xs[i] = y at c0
      have HY := hide hy; clear hy
      cases hq : (v == y) with
      | true =>
        have HQ := hide hq
        go_wp2_with fail
        go_ret
        refine ⟨ret_int ?_, rfl⟩
        exact (idxF_hit hlt (by rw [HY.out]; exact HQ.out) HN.out).symm
      | false =>
        have HQ := hide hq
        go_wp2_with fail
        go_round
        case measure => simp [intOf]; omega
        case rel =>
          refine ⟨i + 1, by omega, by go_num, ?_⟩
          rw [take_snoc' hlt, HY.out]
          intro c hc
          rcases List.mem_append.1 hc with h | h
          · exact HN.out c h
          · rw [List.mem_singleton.1 h]; exact HQ.out
    · have hk : i = xs.length := by omega
      have HK := hide hk; clear hk
      go_wp2_with fail
      go_ret
      refine ⟨ret_int (idxF_miss ?_).symm, rfl⟩
      have := HN.out; rw [HK.out, List.take_length] at this; exact this
theorem ContainsB_any (A : Option Addr) (cap : Nat) (xs : List Bool) (v : Bool) (w : World) (hr : Row 1 encBo w w.heap.size A xs) (hm : xs.length ≤ 9223372036854775807) :
    Calls Try.prog 87 #[.slice A xs.length cap, .bool v] w fun e w' => e = .returned (.bool (xs.any fun c => v == c)) ∧ w = w' := by
  have HR := hide hr; clear hr
  go_enter Try.func87, Try.ntmps87
  go_wp2_with (go_at_call 100; refine (IndexB_any _ _ _ _ _ HR.out hm).mono ?_; rintro e w' ⟨rfl, rfl⟩)
  go_ret
  exact ⟨ret_bool (idxF_any _ xs), rfl⟩
end Go.Proofs.Ytijjecckfcbaoaa
