/- Plain laws of readers (who joins, who pays, who rises), and MayTake in impl at a reader of the first class. Condition: the readers fit. -/
import Derived.Test.YtdbcilinoieabaaL3J
import Derived.Test.YtdbcilinoieabaaL3G
import Derived.Test.YtdbcilinoieabaaL3H
namespace Go.Proofs.Ytdbcilinoieabaa
open Go.RowKit Go.Lib
set_option linter.unusedVariables false
theorem at_last (xs : List SReader) (x : SReader) : SReader.at (xs ++ [x]) xs.length = x := by
  simp [SReader.at, List.getD_eq_getElem?_getD]
theorem findR_at {xs : List SReader} (hg : goodR xs = true) {k : Nat} (hk : k < xs.length) : findR xs (SReader.at xs k).ident = (k : Int) := by
  rcases findR_cases xs (SReader.at xs k).ident with ⟨_, h⟩ | ⟨j, hj, hf, he⟩
  · exact absurd rfl (h (SReader.at xs k) (by rw [SReader.at_lt hk]; exact List.getElem_mem hk))
  · rw [hf, goodR_one hg hj hk he]
theorem join_law {xs : List SReader} {name : ByteArray} {day : Int} (h : (joinV xs name day).2.2 = true) :
    goodR (joinV xs name day).1 = true ∧ (joinV xs name day).1 = joinL xs name day ∧ findR (joinV xs name day).1 (joinV xs name day).2.1 = (xs.length : Int) ∧ SReader.at (joinV xs name day).1 xs.length = ⟨joinId xs, name, day, 1, 0⟩ ∧ xs.length < (joinV xs name day).1.length := by
  have hd : joinV xs name day = if goodR xs = true ∧ goodR (joinL xs name day) = true then (joinL xs name day, joinId xs, true) else ([], 0, false) := rfl
  by_cases hc : goodR xs = true ∧ goodR (joinL xs name day) = true
  · rw [if_pos hc] at hd
    rw [hd]
    have hl := joinL_len xs name day
    have ha : SReader.at (joinL xs name day) xs.length = ⟨joinId xs, name, day, 1, 0⟩ := at_last xs _
    have hf := findR_at hc.2 (show xs.length < (joinL xs name day).length by omega)
    rw [ha] at hf
    exact ⟨hc.2, rfl, hf, ha, by simp only; omega⟩
  · rw [if_neg hc] at hd
    rw [hd] at h
    cases h
theorem pay_law {xs : List SReader} {id cents : Int} (h : (payV xs id cents).2.2 = true) : (payV xs id cents).1.length = xs.length ∧ goodR xs = true ∧
    (∀ i, i < xs.length → (0 ≤ (SReader.at xs i).fines ∧ (SReader.at xs i).fines ≤ 10000) ∧ (0 ≤ (SReader.at (payV xs id cents).1 i).fines ∧ (SReader.at (payV xs id cents).1 i).fines ≤ 10000)) ∧ (0 ≤ (payV xs id cents).2.1 ∧ (payV xs id cents).2.1 ≤ 10000) ∧
    ∀ i, i < xs.length → (SReader.at xs i).ident = id → (SReader.at xs i).fines - (SReader.at (payV xs id cents).1 i).fines + (payV xs id cents).2.1 = cents := by
  by_cases hall : goodR xs = true ∧ 0 ≤ findR xs id ∧ inB cents 1 10000 = true
  · obtain ⟨k, hk, hfk, y0, y1, y2, y3, y4, hat, hsome, hyid, hok⟩ := found_k hall.1 hall.2.1
    rw [payV_yes hall hfk hat]
    obtain ⟨_, _, _, _, _, _, _, h40, h41⟩ := SReader.okB_iff.1 hok
    have hc := inB_iff.1 hall.2.2
    have hb : ∀ i, i < xs.length → 0 ≤ (SReader.at xs i).fines ∧ (SReader.at xs i).fines ≤ 10000 := fun i hi => by
      have := SReader.okB_iff.1 (show SReader.okB ⟨(SReader.at xs i).ident, (SReader.at xs i).name, (SReader.at xs i).joined, (SReader.at xs i).cls, (SReader.at xs i).fines⟩ = true from (goodR_ok hall.1 hi).1)
      exact ⟨this.2.2.2.2.2.2.2.1, this.2.2.2.2.2.2.2.2⟩
    refine ⟨by rw [List.length_set], hall.1, fun i hi => ⟨hb i hi, ?_⟩, by simp only; omega, fun i hi he => ?_⟩
    · simp only [SReader.at_set _ hk]
      split
      · simp only; omega
      · exact hb i hi
    · have hik : i = k := goodR_one hall.1 hi hk (by rw [he, hat]; exact hyid.symm)
      subst hik
      simp only [SReader.at_set _ hk, if_pos, hat]
      omega
  · rw [payV_no hall] at h; cases h
theorem raise_law (xs : List SReader) (id day : Int) : (raiseV xs id day).2 = ((ripeV xs day).2 && decide (id ∈ (ripeV xs day).1)) := by
  by_cases hc : goodR xs = true ∧ inB day 0 4000 = true
  · have hr : ripeV xs day = (ripeTo xs day xs.length, true) := if_pos hc
    rw [hr, Bool.true_and, Bool.eq_iff_iff, decide_eq_true_eq]
    simp only [ripeTo, List.take_length, List.mem_map, List.mem_filter]
    constructor
    · intro h
      by_cases h4 : goodR xs = true ∧ 0 ≤ findR xs id ∧ inB day 0 4000 = true ∧ ripeB (SReader.at xs (findR xs id).toNat) day = true
      · obtain ⟨k, hk, hfk, y0, y1, y2, y3, y4, hat, hsome, hyid, hok⟩ := found_k h4.1 h4.2.1
        have h5 := h4.2.2.2
        rw [hfk, Int.toNat_natCast] at h5
        exact ⟨SReader.at xs k, ⟨by rw [SReader.at_lt hk]; exact List.getElem_mem hk, h5⟩, by rw [hat]; exact hyid⟩
      · rw [raiseV_no h4] at h; cases h
    · rintro ⟨c, ⟨hm, hrp⟩, hid⟩
      obtain ⟨k, hk, rfl⟩ := List.mem_iff_getElem.1 hm
      have hf := findR_at hc.1 hk
      rw [SReader.at_lt hk, hid] at hf
      have hat := SReader.at_lt hk
      rw [raiseV_yes (y0 := xs[k].ident) (y1 := xs[k].name) (y2 := xs[k].joined) (y3 := xs[k].cls) (y4 := xs[k].fines) hc.1 hc.2 hf hat hrp]
  · have hr : ripeV xs day = ([], false) := if_neg hc
    rw [hr, raiseV_no (fun h => hc ⟨h.1, h.2.2.1⟩)]
    rfl
set_option maxHeartbeats 1000000 in
theorem MayTake_one (v : Value) (xs : List SReader) (id : Int) (k : Nat) (a0 : Int) (a1 : ByteArray) (a2 : Int) (w : World) (h : Is 5 SReader.enc w v xs) (hw : ∀ z ∈ xs, z.wf) (hg : goodR xs = true) (hk : k < xs.length) (hf : findR xs id = (k : Int)) (hat : SReader.at xs k = ⟨a0, a1, a2, 1, 0⟩) :
    Calls Try.prog 23 #[v, .int .i64 id, .int .i64 0] w fun e w' => e = .returned (.tuple #[.int .i64 2, .bool true]) ∧ Below w.heap.size w w' := by
  have HF := hide (readerAt_any v xs id w h)
  have hA := fun W hi => AreReaders_is v xs W hi hw
  rw [hg] at hA
  rw [hf] at HF
  have hk' : (k : Int) < xs.length := by omega
  have HA := hide hA; have HI := hide h
  rw [SReader.at_lt hk] at hat
  have HAT := hide hat
  clear hA h hw hg hf hat
  go_enter Try.func23, Try.ntmps23
  go_wp2_with fail
  refine HF.out.mono ?_; rintro e w1 ⟨rfl, hb1⟩
  have I1 := hide (HI.out.below hb1 (Nat.le_refl _))
  go_wp2_with fail
  refine (HA.out _ I1.out).mono ?_; rintro e w2 ⟨rfl, hb2⟩
  have B2 := hide (bstep hb1 hb2 hb1.size)
  have I2 := hide (I1.out.below hb2 (Nat.le_refl _))
  clear hb1 hb2
  go_wp2_with fail
  refine (within_any 0 0 99 _).mono ?_; rintro e w3 ⟨rfl, rfl⟩
  have hin : inB 0 0 99 = true := by decide
  rw [hin]
  obtain ⟨A, cap, rfl, hr, _, _⟩ := I2.out
  obtain ⟨b, off, rfl, hb, c0, c1, c2, c3, c4⟩ := SReader.cells hr hk (Below.refl _ _)
  rw [HAT.out] at c0 c1 c2 c3 c4
  clear hr HAT
  go_wp2_with fail
  refine (mayHave_one _ _ _ _).mono ?_; rintro e w4 ⟨rfl, hb4⟩
  have B4 := hide (bstep B2.out hb4 B2.out.size); clear hb4
  go_wp2_with fail
  go_ret2
  exact ⟨rfl, B4.out⟩
end Go.Proofs.Ytdbcilinoieabaa
