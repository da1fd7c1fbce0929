/- Contracts of the search of a reader in spec, and of the tests of ripeness in both. Condition: the strings' lengths fit; small numbers. -/
import Derived.Test.YtdbcilinoieabaaL3B
namespace Go.Proofs.Ytdbcilinoieabaa
open Go.RowKit
set_option linter.unusedVariables false
def findGR (xs : List SReader) (id : Int) : Int := if goodR xs then findR xs id else -1
set_option maxHeartbeats 1000000 in
theorem l3Find_is (v : Value) (xs : List SReader) (id : Int) (w : World) (h : Is 5 SReader.enc w v xs) (hw : ∀ z ∈ xs, z.wf) :
    Calls Try.prog 95 #[v, .int .i64 id] w fun e w' => e = .returned (.int .i64 (findGR xs id)) ∧ Below w.heap.size w w' := by
  have hm := h.len
  have hgd := fun W hi => l3Good_is v xs W hi hw
  have HI := hide h
  obtain ⟨A, cap, rfl, hr, _, _⟩ := h
  generalize hB : w.heap.size = B at hr ⊢
  have HB := hide hB
  have HR := hide hr; clear hr
  have hfg : findGR xs id = if goodR xs then findR xs id else -1 := rfl
  generalize goodR xs = gd at hgd hfg
  have HGD := hide hgd; have HFG := hide hfg; clear hgd hfg
  go_enter Try.func95, Try.ntmps95
  go_wp2_with fail
  go_loopw [5] (fun i wr => ∃ (k : Nat), k ≤ xs.length ∧ i = .int .i64 k ∧ (∀ c ∈ xs.take k, (c.ident == id) = false) ∧ (gd = false → k = 0) ∧ Below B w wr) (fun i _ => xs.length - (intOf i).toNat)
  case atStart => exact ⟨0, Nat.zero_le _, rfl, by simp, fun _ => rfl, Below.refl _ _⟩
  case round =>
    obtain ⟨i, hi, rfl, hno, hk0, hbel⟩ := hrel
    have HN := hide hno; have HK0 := hide hk0; clear hno hk0
    have hsz : B ≤ wr.heap.size := by have := hbel.size; rw [HB.out] at this; exact this
    by_cases hlt : i < xs.length
    · have hlt' : (i : Int) < xs.length := by omega
      have HC := hide (HGD.out wr (HI.out.below hbel (by rw [HB.out]; exact Nat.le_refl _)))
      cases gd with
      | false =>
        have HV := hide HFG.out
        go_wp2_with fail
        refine HC.out.mono ?_; rintro e w1 ⟨rfl, hb1⟩
        have HB1 := hide (bstep hbel hb1 hsz)
        clear hb1
        go_wp2_with fail
        go_ret
        exact ⟨ret_int (by rw [HV.out]; rfl), HB1.out⟩
      | true =>
        have HV := hide HFG.out
        go_wp2_with fail
        refine HC.out.mono ?_; rintro e w1 ⟨rfl, hb1⟩
        have hbel1 := bstep hbel hb1 hsz
        obtain ⟨b, off, rfl, hb, c0, _, _, _, _⟩ := SReader.cells HR.out hlt hbel1
        generalize hy : xs[i].ident = y at c0
        have HY := hide hy; clear hy
        have HB1 := hide hbel1; clear hb1 hbel1
        cases hq : (y == id) with
        | true =>
          have HQ := hide hq
          go_wp2_with fail
          go_ret
          refine ⟨ret_int ?_, HB1.out⟩
          rw [HV.out]
          exact (idxF_hit hlt (by rw [HY.out]; exact HQ.out) HN.out).symm
        | false =>
          have HQ := hide hq
          go_wp2_with fail
          go_round
          case measure => simp [intOf]; omega
          case rel =>
            refine ⟨i + 1, by omega, by go_num, ?_, (fun h => by cases h), HB1.out⟩
            rw [take_snoc' hlt]
            intro c hc
            rcases List.mem_append.1 hc with h | h
            · exact HN.out c h
            · rw [List.mem_singleton.1 h, HY.out]; exact HQ.out
    · have hk : i = xs.length := by omega
      have HK := hide hk; clear hk
      go_wp2_with fail
      go_ret
      refine ⟨ret_int ?_, hbel⟩
      have := HN.out; rw [HK.out, List.take_length] at this
      have hf : findR xs id = -1 := idxF_miss this
      rw [HFG.out, hf]; cases gd <;> rfl
end Go.Proofs.Ytdbcilinoieabaa
