/- Small helpers of the laws over a code of bytes. No condition. -/
import Derived.Test.YtdbcilinoieabaaStInt
namespace Go.Proofs.Ytdbcilinoieabaa
open Go.RowKit
set_option linter.unusedVariables false
theorem vBig_is (A : Option Addr) (len cap : Nat) (w : World) :
    Calls Try.prog 8 #[.slice A len cap] w fun e w' => e = .returned (.bool (decide ((65536 : Int) < len))) ∧ w = w' := by
  go_enter Try.func8, Try.ntmps8
  go_wp2_with fail
  go_ret
  exact ⟨rfl, rfl⟩
theorem rBig_is (A : Option Addr) (len cap : Nat) (w : World) :
    Calls Try.prog 18 #[.slice A len cap] w fun e w' => e = .returned (.bool (decide ((65536 : Int) < len))) ∧ w = w' := by
  go_enter Try.func18, Try.ntmps18
  go_wp2_with fail
  go_ret
  exact ⟨rfl, rfl⟩
theorem vHas_is (v : Value) (xs : List Int) (x : Int) (w : World) (h : Is 1 encI w v xs) :
    Calls Try.prog 54 #[v, .int .i64 x] w fun e w' => e = .returned (.bool (decide (x ∈ xs))) ∧ Below w.heap.size w w' := by
  have hm := h.len
  obtain ⟨A, cap, rfl, hr, _, _⟩ := h
  generalize hB : w.heap.size = B at hr ⊢
  have HB := hide hB; clear hB
  have HR := hide hr; clear hr
  generalize hres : decide (x ∈ xs) = res
  have HRES := hide hres; clear hres
  go_enter Try.func54, Try.ntmps54
  go_wp2_with fail
  go_loopw [5] (fun i wr => ∃ q : Nat, q ≤ xs.length ∧ i = .int .i64 (q : Int) ∧ (∀ y ∈ xs.take q, y ≠ x) ∧ Below B w wr) (fun i _ => xs.length - (intOf i).toNat)
  case atStart => exact ⟨0, Nat.zero_le _, rfl, by simp, Below.refl _ _⟩
  case round =>
    obtain ⟨q, hq, rfl, hno, hbel⟩ := hrel
    have HNO := hide hno; clear hno
    by_cases hlt : q < xs.length
    · have hlt' : (q : Int) < xs.length := by omega
      obtain ⟨b, off, rfl, hb, c0⟩ := Ints.cells HR.out hlt hbel
      have hst : ∀ y ∈ xs.take (q + 1), y ∈ xs.take q ∨ y = xs[q] := fun y hy => by
        rw [take_snoc' hlt] at hy
        rcases List.mem_append.1 hy with h | h
        · exact .inl h
        · exact .inr (List.mem_singleton.1 h)
      have hin : xs[q] = x → res = true := fun e => by rw [← HRES.out, decide_eq_true_eq, ← e]; exact List.getElem_mem hlt
      have HST := hide hst; have HIN := hide hin
      clear hst hin
      generalize xs[q] = y at *
      by_cases hxy : y = x
      · have hre := HIN.out hxy
        subst hre
        have hxy2 : (y == x) = true := by simp [hxy]
        clear HIN HST HNO
        go_wp2_with fail
        go_ret
        exact ⟨rfl, hbel⟩
      · have hxy2 : (y == x) = false := by simp [hxy]
        have HXY := hide hxy
        clear hxy HIN
        go_wp2_with fail
        go_round
        case measure => (first | (simp [intOf]; done) | (simp [intOf] <;> omega))
        case rel => exact ⟨q + 1, by omega, by go_num, fun z hz => (HST.out z hz).elim (HNO.out z) (fun e => by rw [e]; exact HXY.out), hbel⟩
    · have hql : ¬ (q : Int) < xs.length := by omega
      have hre : res = false := by
        rw [← HRES.out, decide_eq_false_iff_not]
        intro hm
        have hqe : q = xs.length := by omega
        have := HNO.out x (by rw [hqe, List.take_length]; exact hm)
        exact this rfl
      subst hre
      go_wp2_with fail
      go_ret
      exact ⟨rfl, hbel⟩
theorem rHas_is (v : Value) (xs : List Int) (x : Int) (w : World) (h : Is 1 encI w v xs) :
    Calls Try.prog 33 #[v, .int .i64 x] w fun e w' => e = .returned (.bool (decide (x ∈ xs))) ∧ Below w.heap.size w w' := by
  have hm := h.len
  obtain ⟨A, cap, rfl, hr, _, _⟩ := h
  generalize hB : w.heap.size = B at hr ⊢
  have HB := hide hB; clear hB
  have HR := hide hr; clear hr
  generalize hres : decide (x ∈ xs) = res
  have HRES := hide hres; clear hres
  go_enter Try.func33, Try.ntmps33
  go_wp2_with fail
  go_loopw [5] (fun i wr => ∃ q : Nat, q ≤ xs.length ∧ i = .int .i64 (q : Int) ∧ (∀ y ∈ xs.take q, y ≠ x) ∧ Below B w wr) (fun i _ => xs.length - (intOf i).toNat)
  case atStart => exact ⟨0, Nat.zero_le _, rfl, by simp, Below.refl _ _⟩
  case round =>
    obtain ⟨q, hq, rfl, hno, hbel⟩ := hrel
    have HNO := hide hno; clear hno
    by_cases hlt : q < xs.length
    · have hlt' : (q : Int) < xs.length := by omega
      obtain ⟨b, off, rfl, hb, c0⟩ := Ints.cells HR.out hlt hbel
      have hst : ∀ y ∈ xs.take (q + 1), y ∈ xs.take q ∨ y = xs[q] := fun y hy => by
        rw [take_snoc' hlt] at hy
        rcases List.mem_append.1 hy with h | h
        · exact .inl h
        · exact .inr (List.mem_singleton.1 h)
      have hin : xs[q] = x → res = true := fun e => by rw [← HRES.out, decide_eq_true_eq, ← e]; exact List.getElem_mem hlt
      have HST := hide hst; have HIN := hide hin
      clear hst hin
      generalize xs[q] = y at *
      by_cases hxy : y = x
      · have hre := HIN.out hxy
        subst hre
        have hxy2 : (y == x) = true := by simp [hxy]
        clear HIN HST HNO
        go_wp2_with fail
        go_ret
        exact ⟨rfl, hbel⟩
      · have hxy2 : (y == x) = false := by simp [hxy]
        have HXY := hide hxy
        clear hxy HIN
        go_wp2_with fail
        go_round
        case measure => (first | (simp [intOf]; done) | (simp [intOf] <;> omega))
        case rel => exact ⟨q + 1, by omega, by go_num, fun z hz => (HST.out z hz).elim (HNO.out z) (fun e => by rw [e]; exact HXY.out), hbel⟩
    · have hql : ¬ (q : Int) < xs.length := by omega
      have hre : res = false := by
        rw [← HRES.out, decide_eq_false_iff_not]
        intro hm
        have hqe : q = xs.length := by omega
        have := HNO.out x (by rw [hqe, List.take_length]; exact hm)
        exact this rfl
      subst hre
      go_wp2_with fail
      go_ret
      exact ⟨rfl, hbel⟩
end Go.Proofs.Ytdbcilinoieabaa
