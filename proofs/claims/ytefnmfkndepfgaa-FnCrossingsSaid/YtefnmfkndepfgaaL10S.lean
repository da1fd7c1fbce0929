/- Contracts of the search for a byte, of isClear and of IsClearRoad, in impl and spec: the Lean function clearV. No condition on the road's test itself. -/
import Derived.Test.YtefnmfkndepfgaaL10R
namespace Go.Proofs.Ytefnmfkndepfgaa
open Go.RowKit Go.Lib
set_option linter.unusedVariables false
theorem IndexB_any (A : Option Addr) (cap : Nat) (xs : List UInt8) (v : UInt8) (w : World) (hr : Row 1 encB w w.heap.size A xs) (hm : xs.length ≤ 9223372036854775807) :
    Calls Try.prog 98 #[.slice A xs.length cap, .int .u8 (v.toNat : Int)] w fun e w' => e = .returned (.int .i64 (idxF (fun c => (v.toNat : Int) == (c.toNat : Int)) xs)) ∧ w = w' := by
  have HR := hide hr; clear hr
  go_enter Try.func98, Try.ntmps98
  go_wp2_with fail
  go_loop [8] (fun i => ∃ (k : Nat), k ≤ xs.length ∧ i = .int .i64 k ∧ (∀ c ∈ xs.take k, ((v.toNat : Int) == (c.toNat : Int)) = false)) (fun i => xs.length - (intOf i).toNat)
  case atStart => exact ⟨0, Nat.zero_le _, rfl, by simp⟩
  case round =>
    obtain ⟨i, hi, rfl, hno⟩ := hrel
    have HN := hide hno; clear hno
    by_cases hlt : i < xs.length
    · obtain ⟨b, off, rfl, hb, c0⟩ := Bytes.cells HR.out hlt (Below.refl _ _)
      generalize hy : xs[i] = y at c0
      have HY := hide hy; clear hy
      cases hq : ((v.toNat : Int) == (y.toNat : Int)) with
      | true =>
        have HQ := hide hq
        go_wp2_with fail
        go_ret
        refine ⟨ret_int ?_, rfl⟩
        exact (idxF_hit hlt (by rw [HY.out]; exact HQ.out) HN.out).symm
      | false =>
        have HQ := hide hq
        go_wp2_with fail
        go_round
        case measure => simp [intOf]; omega
        case rel =>
          refine ⟨i + 1, by omega, by go_num, ?_⟩
          rw [take_snoc' hlt, HY.out]
          intro c hc
          rcases List.mem_append.1 hc with h | h
          · exact HN.out c h
          · rw [List.mem_singleton.1 h]; exact HQ.out
    · have hk : i = xs.length := by omega
      have HK := hide hk; clear hk
      go_wp2_with fail
      go_ret
      refine ⟨ret_int (idxF_miss ?_).symm, rfl⟩
      have := HN.out; rw [HK.out, List.take_length] at this; exact this
theorem ContainsB_any (A : Option Addr) (cap : Nat) (xs : List UInt8) (v : UInt8) (w : World) (hr : Row 1 encB w w.heap.size A xs) (hm : xs.length ≤ 9223372036854775807) :
    Calls Try.prog 95 #[.slice A xs.length cap, .int .u8 (v.toNat : Int)] w fun e w' => e = .returned (.bool (xs.any fun c => (v.toNat : Int) == (c.toNat : Int))) ∧ w = w' := by
  have HR := hide hr; clear hr
  go_enter Try.func95, Try.ntmps95
  go_wp2_with (go_at_call 98; refine (IndexB_any _ _ _ _ _ HR.out hm).mono ?_; rintro e w' ⟨rfl, rfl⟩)
  go_ret
  exact ⟨ret_bool (idxF_any _ xs), rfl⟩

/-- whether the parts i and k of a road have a place in common -/
def pairAt (xs : List SCorner) (i k : Nat) : Bool := crossB (xs.getD i SCorner.zero).x (xs.getD i SCorner.zero).y (xs.getD (i+1) SCorner.zero).x (xs.getD (i+1) SCorner.zero).y (xs.getD k SCorner.zero).x (xs.getD k SCorner.zero).y (xs.getD (k+1) SCorner.zero).x (xs.getD (k+1) SCorner.zero).y
theorem pairAt_eq {xs : List SCorner} {i k : Nat} (hi : i + 1 < xs.length) (hk : k + 1 < xs.length) : pairAt xs i k = crossB xs[i].x xs[i].y xs[i+1].x xs[i+1].y xs[k].x xs[k].y xs[k+1].x xs[k+1].y := by
  simp only [pairAt, getD_lt _ (show i < xs.length by omega), getD_lt _ hi, getD_lt _ (show k < xs.length by omega), getD_lt _ hk]
/-- the first n of the parts behind the next one do not meet part p -/
def rowFree (xs : List SCorner) (p n : Nat) : Bool := (List.range n).all fun t => !pairAt xs p (p + 2 + t)
theorem rowFree_succ (xs : List SCorner) (p n : Nat) : rowFree xs p (n + 1) = (rowFree xs p n && !pairAt xs p (p + 2 + n)) := by
  unfold rowFree; rw [List.range_succ, List.all_append]; simp
def rowAll (xs : List SCorner) (p : Nat) : Bool := rowFree xs p (xs.length - (p + 3))
def bendOk (xs : List SCorner) (p : Nat) : Bool := !(decide (p + 2 < xs.length) && (bendAt xs p == 98))
def clearB (xs : List SCorner) : Bool := (List.range (xs.length - 1)).all fun p => bendOk xs p && rowAll xs p
def clearV (xs : List SCorner) : Bool × Bool := if roadB xs then (clearB xs, true) else (false, false)
theorem rowFree_no {xs : List SCorner} {p n t : Nat} (ht : t < n) (h : pairAt xs p (p + 2 + t) = true) : rowFree xs p n = false := by
  unfold rowFree
  rw [List.all_eq_false]
  exact ⟨t, List.mem_range.2 ht, by simp [h]⟩
theorem clearB_split (xs : List SCorner) : clearB xs = (!((bendsL xs).any fun c => ((98 : UInt8).toNat : Int) == (c.toNat : Int)) && (List.range (xs.length - 1)).all (rowAll xs)) := by
  have h1 : ((List.range (xs.length - 1)).all fun p => bendOk xs p) = !((bendsL xs).any fun c => ((98 : UInt8).toNat : Int) == (c.toNat : Int)) := by
    rw [Bool.eq_iff_iff, Bool.not_eq_true', ← Bool.not_eq_true]
    simp only [List.all_eq_true, List.any_eq_true, List.mem_range, bendsL, bendsN, List.mem_map, not_exists, not_and, beq_iff_eq]
    constructor
    · rintro h c ⟨p, hp, rfl⟩ hc
      have := h p (by omega)
      unfold bendOk at this
      have hb : bendAt xs p = 98 := by apply UInt8.toNat_inj.1; omega
      rw [hb] at this
      simp at this; omega
    · intro h p hp
      unfold bendOk
      rw [Bool.not_eq_true', Bool.and_eq_false_iff]
      by_cases hp2 : p + 2 < xs.length
      · right
        rw [beq_eq_false_iff_ne]
        intro hb
        exact h _ ⟨p, by omega, rfl⟩ (by rw [hb])
      · left; simpa using hp2
  unfold clearB
  rw [← h1]
  rw [Bool.eq_iff_iff]
  simp only [Bool.and_eq_true, List.all_eq_true]
  exact ⟨fun h => ⟨fun p hp => (h p hp).1, fun p hp => (h p hp).2⟩, fun h p hp => ⟨h.1 p hp, h.2 p hp⟩⟩
end Go.Proofs.Ytefnmfkndepfgaa
