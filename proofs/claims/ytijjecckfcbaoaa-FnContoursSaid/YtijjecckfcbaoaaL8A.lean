/- Contracts of what says whether claims are valid, in impl and spec: both answer the same Lean function areB. Conditions: the number of marks of isClaim above the least int; lengths below 2^63. -/
import Derived.Test.YtijjecckfcbaoaaL1
import Derived.Test.YtijjecckfcbaoaaStClaim
namespace Go.Proofs.Ytijjecckfcbaoaa
open Go.RowKit
def oneB (n lo hi le mo : Int) : Bool := decide (0 ≤ lo ∧ lo < n ∧ 0 ≤ hi ∧ hi < n ∧ lo ≠ hi ∧ -9999 ≤ le ∧ le ≤ mo ∧ mo ≤ 9999)
theorem oneB_iff {n lo hi le mo : Int} : oneB n lo hi le mo = true ↔ (0 ≤ lo ∧ lo < n ∧ 0 ≤ hi ∧ hi < n ∧ lo ≠ hi ∧ -9999 ≤ le ∧ le ≤ mo ∧ mo ≤ 9999) := decide_eq_true_iff
theorem l8One_any (n lo hi le mo : Int) (w : World) :
    Calls Try.prog 54 #[.int .i64 n, .agg #[.int .i64 lo, .int .i64 hi, .int .i64 le, .int .i64 mo]] w fun e w' => e = .returned (.bool (oneB n lo hi le mo)) ∧ w.alloc (.cells #[.int .i64 lo, .int .i64 hi, .int .i64 le, .int .i64 mo] 23) = w' := by
  go_enter Try.func54, Try.ntmps54
  go_wp2_with (first | (go_at_call 52; refine (l1In_any _ _ _ _).mono ?_; rintro e w' ⟨rfl, rfl⟩))
  all_goals go_ret
  all_goals refine ⟨ret_bool (bool_of_iff ?_), by first | rfl | simp [*]⟩
  all_goals (simp [oneB_iff, inB_iff] at *; try omega)
theorem isClaim_any (n lo hi le mo : Int) (w : World) (h0 : -9223372036854775808 < n) (h1 : n ≤ 9223372036854775807) :
    Calls Try.prog 57 #[.int .i64 n, .agg #[.int .i64 lo, .int .i64 hi, .int .i64 le, .int .i64 mo]] w fun e w' => e = .returned (.bool (oneB n lo hi le mo)) ∧ w.alloc (.cells #[.int .i64 lo, .int .i64 hi, .int .i64 le, .int .i64 mo] 23) = w' := by
  go_enter Try.func57, Try.ntmps57
  go_wp2_with (first | (go_at_call 55; refine (within_any _ _ _ _).mono ?_; rintro e w' ⟨rfl, rfl⟩))
  all_goals go_ret
  all_goals refine ⟨ret_bool (bool_of_iff ?_), by first | rfl | simp [*]⟩
  all_goals (simp [oneB_iff, inB_iff] at *; try omega)
theorem isStep_any (n : Int) (w : World) :
    Calls Try.prog 56 #[.int .i64 n] w fun e w' => e = .returned (.bool (inB n 1 1000)) ∧ w = w' := by
  go_enter Try.func56, Try.ntmps56
  go_wp2_with (first | (go_at_call 55; refine (within_any _ _ _ _).mono ?_; rintro e w' ⟨rfl, rfl⟩))
  go_ret
  exact ⟨rfl, rfl⟩
def SClaim.ok (n : Int) (c : SClaim) : Bool := oneB n c.low c.high c.least c.most
/-- whether a list are claims for n marks -/
def areB (n : Int) (xs : List SClaim) : Bool := xs.all (SClaim.ok n) && inB n 1 10 && decide (xs.length ≤ 24)
theorem areB_iff {n : Int} {xs : List SClaim} : areB n xs = true ↔ (∀ c ∈ xs, oneB n c.low c.high c.least c.most = true) ∧ (1 ≤ n ∧ n ≤ 10) ∧ xs.length ≤ 24 := by
  simp only [areB, Bool.and_eq_true, List.all_eq_true, SClaim.ok, inB_iff, decide_eq_true_eq, and_assoc]

theorem l8Good_any (n : Int) (A : Option Addr) (cap : Nat) (xs : List SClaim) (w : World) (hr : Row 4 SClaim.enc w w.heap.size A xs) (hm : xs.length ≤ 9223372036854775807) :
    Calls Try.prog 62 #[.int .i64 n, .slice A xs.length cap] w fun e w' => e = .returned (.bool (areB n xs)) ∧ Below w.heap.size w w' := by
  generalize hB : w.heap.size = B at hr ⊢
  have HB := hide hB; clear hB
  have HR := hide hr; clear hr
  go_enter Try.func62, Try.ntmps62
  go_wp2_with fail
  go_loopw [5] (fun i wr => ∃ k : Nat, k ≤ xs.length ∧ i = .int .i64 k ∧ (xs.take k).all (SClaim.ok n) = true ∧ Below B w wr) (fun i _ => xs.length - (intOf i).toNat)
  case atStart => exact ⟨0, Nat.zero_le _, rfl, by simp, Below.refl _ _⟩
  case round =>
    obtain ⟨i, hi, rfl, hall, hbel⟩ := hrel
    have hsz : B ≤ wr.heap.size := by have := hbel.size; rw [HB.out] at this; exact this
    have HA := hide hall; clear hall
    by_cases hlt : i < xs.length
    · obtain ⟨b, off, rfl, hb, c0, c1, c2, c3⟩ := SClaim.cells HR.out hlt hbel
      by_cases hone : oneB n xs[i].low xs[i].high xs[i].least xs[i].most = true
      · have HO := hide hone
        go_wp2_with (first | (go_at_call 54; refine (l8One_any _ _ _ _ _ _).mono ?_; rintro e w1 ⟨rfl, rfl⟩))
        go_roundw
        case rel => exact ⟨i + 1, by omega, by go_num, by rw [all_take_succ hlt, HA.out]; simpa [SClaim.ok] using HO.out, hbel.alloc hsz _⟩
        case measure => simp [intOf]; omega
      · have HO := hide hone
        rw [Bool.not_eq_true] at hone
        go_wp2_with (first | (go_at_call 54; refine (l8One_any _ _ _ _ _ _).mono ?_; rintro e w1 ⟨rfl, rfl⟩))
        go_ret
        refine ⟨ret_bool ?_, hbel.alloc hsz _⟩
        unfold areB
        rw [eq_comm, Bool.and_eq_false_iff, Bool.and_eq_false_iff]
        exact .inl (.inl (List.all_eq_false.2 ⟨xs[i], List.getElem_mem hlt, HO.out⟩))
    · have hk : i = xs.length := by omega
      have hall := HA.out
      rw [hk, List.take_length] at hall
      have HALL := hide hall
      clear hall hk HA
      go_wp2_with (first | (go_at_call 52; refine (l1In_any _ _ _ _).mono ?_; rintro e w' ⟨rfl, rfl⟩))
      all_goals go_ret
      all_goals (refine ⟨ret_bool ?_, hbel⟩; unfold areB; rw [HALL.out, Bool.true_and]; simp [*]; try omega)
theorem specAreClaims_any (n : Int) (A : Option Addr) (cap : Nat) (xs : List SClaim) (w : World) (hr : Row 4 SClaim.enc w w.heap.size A xs) (hm : xs.length ≤ 9223372036854775807) :
    Calls Try.prog 21 #[.int .i64 n, .slice A xs.length cap] w fun e w' => e = .returned (.bool (areB n xs)) ∧ Below w.heap.size w w' := by
  have HR := hide hr; clear hr
  go_enter Try.func21, Try.ntmps21
  go_wp2_with (first | (go_at_call 62; refine (l8Good_any _ _ _ _ _ HR.out hm).mono ?_; rintro e w' ⟨rfl, hb'⟩))
  go_ret
  exact ⟨rfl, hb'⟩

theorem AreClaims1_any (n : Int) (c : SClaim) (p : Nat) (w : World) (hp : w.cell? ⟨p, 0, none⟩ = some (.int .i64 n)) (h0 : -9223372036854775808 < n) (h1 : n ≤ 9223372036854775807) :
    Calls Try.prog 65 #[.agg #[.int .i64 c.low, .int .i64 c.high, .int .i64 c.least, .int .i64 c.most], .pointer (some ⟨p, 0, none⟩)] w fun e w' => e = .returned (.bool (!SClaim.ok n c)) ∧ Below w.heap.size w w' := by
  have hl : p < w.heap.size := World.block_lt_of_cell? w _ hp
  go_enter Try.func65, Try.ntmps65
  go_wp2_with (first | (go_at_call 57; refine (isClaim_any _ _ _ _ _ _ (by first | decide | omega) (by first | decide | omega)).mono ?_; rintro e w1 ⟨rfl, rfl⟩))
  go_ret
  exact ⟨rfl, ((Below.refl _ _).alloc (Nat.le_refl _) _).alloc (by simp) _⟩
theorem eg_AreClaims1 : ∀ args w, (callFunc 65 args).run Try.prog w = .ok (.enter 65 args) w := fun _ _ => by kernel_rfl

theorem implAreClaims_any (n : Int) (A : Option Addr) (cap : Nat) (xs : List SClaim) (w : World) (hr : Row 4 SClaim.enc w w.heap.size A xs) (hm : xs.length ≤ 9223372036854775807) :
    Calls Try.prog 23 #[.int .i64 n, .slice A xs.length cap] w fun e w' => e = .returned (.bool (areB n xs)) ∧ Below w.heap.size w w' := by
  have HR := hide hr; clear hr
  by_cases hn : inB n 1 10 = true
  · have hn' := inB_iff.1 hn
    obtain ⟨hn1, hn2⟩ := hn'
    by_cases hl : xs.length ≤ 24
    · have hcont : ∀ (W : World), Below w.heap.size w W → W.cell? ⟨w.heap.size, 0, none⟩ = some (.int .i64 n) → w.heap.size < W.heap.size → Calls Try.prog 64 #[.slice A xs.length cap, .func (.func 65) #[] #[.pointer (some ⟨w.heap.size, 0, none⟩)]] W fun e w' => e = .returned (.bool (xs.any fun c => !SClaim.ok n c)) ∧ Below W.heap.size W w' := fun W hW hc hlt =>
        ContainsFuncClaim_any _ _ _ A cap xs W (HR.out.below hW (Nat.le_refl _) (Nat.le_of_lt hlt)) hm eg_AreClaims1 (fun W' c hW' => (AreClaims1_any n c _ W' ((hW'.cell (p := ⟨w.heap.size, 0, none⟩) hlt).trans hc) (by omega) (by omega)).mono fun e w' ⟨h1, h2⟩ => ⟨h1, bstep hW' h2 hW'.size⟩)
      have HC := hide hcont; clear hcont
      have hv : (!xs.any fun c => !SClaim.ok n c) = areB n xs := by
        unfold areB; rw [hn, decide_eq_true hl, Bool.and_true, Bool.and_true, any_not_all]
      have HV := hide hv; clear hv
      go_enter Try.func23, Try.ntmps23
      go_wp2_with (first | (go_at_call 55; refine (within_any _ _ _ _).mono ?_; rintro e w' ⟨rfl, rfl⟩))
      refine (HC.out _ (below_alloc _ _) (by simp) (by simp)).mono ?_; rintro e w1 ⟨rfl, hb1⟩
      go_wp2_with fail
      go_ret
      exact ⟨ret_bool HV.out, bstep (below_alloc _ _) hb1 (by simp)⟩
    · have hv : areB n xs = false := by unfold areB; rw [decide_eq_false hl, Bool.and_false]
      have HV := hide hv; clear hv
      go_enter Try.func23, Try.ntmps23
      go_wp2_with (first | (go_at_call 55; refine (within_any _ _ _ _).mono ?_; rintro e w' ⟨rfl, rfl⟩))
      go_ret
      exact ⟨ret_bool HV.out.symm, below_alloc _ _⟩
  · have hv : areB n xs = false := by unfold areB; rw [Bool.not_eq_true] at hn; rw [hn, Bool.and_false, Bool.false_and]
    have HV := hide hv; clear hv
    rw [Bool.not_eq_true] at hn
    go_enter Try.func23, Try.ntmps23
    go_wp2_with (first | (go_at_call 55; refine (within_any _ _ _ _).mono ?_; rintro e w' ⟨rfl, rfl⟩))
    go_ret
    exact ⟨ret_bool HV.out.symm, below_alloc _ _⟩
end Go.Proofs.Ytijjecckfcbaoaa
