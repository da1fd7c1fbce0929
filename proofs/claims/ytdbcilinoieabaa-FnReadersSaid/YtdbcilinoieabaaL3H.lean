/- Contracts of RipeReaders, in impl and spec: the Lean function ripeV. Conditions: the readers fit. -/
import Derived.Test.YtdbcilinoieabaaL3F
namespace Go.Proofs.Ytdbcilinoieabaa
open Go.RowKit Go.Lib
set_option linter.unusedVariables false
theorem own_emptyI3 (w : World) {B : Nat} (hB : B ≤ w.heap.size) : Own 1 encI 3 (w.alloc (.cells #[] 3)) B (.slice (some ⟨w.heap.size, 0, none⟩) 0 0) ([] : List Int) :=
  Own.made (cs := #[]) rfl hB (Blk.new _ _ _) rfl (Nat.zero_le _) Filled.zero
def ripeTo (xs : List SReader) (day : Int) (n : Nat) : List Int := ((xs.take n).filter fun c => ripeB c day).map (·.ident)
def ripeV (xs : List SReader) (day : Int) : List Int × Bool := if goodR xs = true ∧ inB day 0 4000 = true then (ripeTo xs day xs.length, true) else ([], false)
theorem ripeTo_succ {xs : List SReader} {day : Int} {n : Nat} (h : n < xs.length) : ripeTo xs day (n + 1) = ripeTo xs day n ++ if ripeB xs[n] day = true then [xs[n].ident] else [] := by
  unfold ripeTo
  rw [take_snoc' h, List.filter_append, List.map_append]
  congr 1
  cases hp : ripeB xs[n] day <;> simp [hp]
theorem ripeTo_le (xs : List SReader) (day : Int) (n : Nat) : (ripeTo xs day n).length ≤ n := by
  unfold ripeTo
  rw [List.length_map]
  exact Nat.le_trans (List.length_filter_le _ _) (by simp; omega)
theorem ripeV_len (xs : List SReader) (day : Int) : (ripeV xs day).1.length ≤ 10 := by
  unfold ripeV
  split
  · next h => exact Nat.le_trans (ripeTo_le _ _ _) (goodR_len h.1)
  · simp
set_option maxHeartbeats 4000000 in
set_option maxRecDepth 10000 in
theorem RipeReaders_is (v : Value) (xs : List SReader) (day : Int) (w : World) (h : Is 5 SReader.enc w v xs) (hw : ∀ z ∈ xs, z.wf) :
    Calls Try.prog 30 #[v, .int .i64 day] w fun e w' => ∃ r, e = .returned (.tuple #[r, .bool (ripeV xs day).2]) ∧ Own 1 encI 3 w' w.heap.size r (ripeV xs day).1 ∧ Below w.heap.size w w' := by
  have HA := hide (AreReaders_is v xs w h hw)
  have HI := hide h
  have hrv : ripeV xs day = if goodR xs = true ∧ inB day 0 4000 = true then (ripeTo xs day xs.length, true) else ([], false) := rfl
  generalize ripeV xs day = rv at *
  cases hg : goodR xs with
  | false =>
    rw [hg, if_neg (by simp)] at hrv
    subst hrv
    rw [hg] at HA
    clear hg hw h
    go_enter Try.func30, Try.ntmps30
    go_wp2_with fail
    refine HA.out.mono ?_; rintro e w1 ⟨rfl, hb1⟩
    have B1 := hide hb1; clear hb1
    go_wp2_with fail
    go_ret2
    exact ⟨_, rfl, Own.nil, B1.out⟩
  | true =>
    have HC := hide (fun W => isDay_any day W)
    cases hd : inB day 0 4000 with
    | false =>
      rw [hg, hd, if_neg (by simp)] at hrv
      subst hrv
      rw [hg] at HA; rw [hd] at HC
      clear hg hw h hd
      go_enter Try.func30, Try.ntmps30
      go_wp2_with fail
      refine HA.out.mono ?_; rintro e w1 ⟨rfl, hb1⟩
      have B1 := hide hb1; clear hb1
      go_wp2_with fail
      refine (HC.out _).mono ?_; rintro e w2 ⟨rfl, rfl⟩
      go_wp2_with fail
      go_ret2
      exact ⟨_, rfl, Own.nil, B1.out⟩
    | true =>
      rw [hg, hd, if_pos ⟨rfl, rfl⟩] at hrv
      subst hrv
      rw [hg] at HA; rw [hd] at HC
      have hlen := goodR_len hg
      have HOK := hide (fun i (hi : i < xs.length) => (goodR_ok hg hi).1)
      obtain ⟨A, cap, rfl, hr, _, _⟩ := h
      generalize hB : w.heap.size = B at hr
      have HB := hide hB; have HR := hide hr; clear hr hg hd hw
      go_enter Try.func30, Try.ntmps30
      go_wp2_with fail
      refine HA.out.mono ?_; rintro e w1 ⟨rfl, hb1⟩
      have B1 := hide hb1; clear hb1
      go_wp2_with fail
      refine (HC.out _).mono ?_; rintro e w2 ⟨rfl, rfl⟩
      rw [hB] at B1
      go_wp2_with fail
      go_loopw [6, 19] (fun s i wr => ∃ n : Nat, n ≤ xs.length ∧ i = .int .i64 (n : Int) ∧ Own 1 encI 3 wr B s (ripeTo xs day n) ∧ Below B w wr) (fun _ i _ => xs.length - (intOf i).toNat)
      case atStart => exact ⟨0, Nat.zero_le _, rfl, Own.nil, B1.out⟩
      case round =>
        obtain ⟨n, hn, rfl, hown, hbel⟩ := hrel
        have HOW := hide hown; clear hown
        have hsz : B ≤ wr.heap.size := by have := hbel.size; rw [HB.out] at this; exact this
        by_cases hlt : n < xs.length
        · have hlt' : (n : Int) < xs.length := by omega
          obtain ⟨b, off, rfl, hb, c0, c1, c2, c3, c4⟩ := SReader.cells HR.out hlt hbel
          have hst := ripeTo_succ (day := day) hlt
          have hdl : (ripeTo xs day n).length ≤ 16777216 := by have := ripeTo_le xs day n; omega
          have hok := HOK.out n hlt
          rw [SReader.at_lt hlt] at hok
          generalize xs[n] = yy at *
          obtain ⟨y0, y1, y2, y3, y4⟩ := yy
          simp only at c0 c1 c2 c3 c4 hst
          obtain ⟨_, _, _, h20, h21, h30, h31, _, _⟩ := SReader.okB_iff.1 hok
          have HRP := hide (fun W => isRipe_any y0 y1 y2 y3 y4 day W ⟨h20, h21⟩ ⟨h30, h31⟩)
          generalize ripeB ⟨y0, y1, y2, y3, y4⟩ day = rb at *
          have HST := hide hst
          have HBK := hide (Blk.new wr 49 #[.int .i64 y0, .string y1, .int .i64 y2, .int .i64 y3, .int .i64 y4])
          have HO1 := hide (HOW.out.below (below_alloc wr (.cells #[.int .i64 y0, .string y1, .int .i64 y2, .int .i64 y3, .int .i64 y4] 49)))
          have BB := hide (hbel.alloc hsz (.cells #[.int .i64 y0, .string y1, .int .i64 y2, .int .i64 y3, .int .i64 y4] 49))
          have hsa : wr.heap.size < (wr.alloc (.cells #[.int .i64 y0, .string y1, .int .i64 y2, .int .i64 y3, .int .i64 y4] 49)).heap.size := by simp
          clear hst hok HOW hbel
          go_upto_region 7 with fail
          clear c0 c1 c2 c3 c4
          generalize wr.alloc (.cells #[.int .i64 y0, .string y1, .int .i64 y2, .int .i64 y3, .int .i64 y4] 49) = w3 at *
          generalize wr.heap.size = gm at *
          obtain ⟨t0, t1, t2, t3, t4⟩ := cells5 HBK.out
          go_wp2_with fail
          refine (HRP.out _).mono ?_; rintro e w4 ⟨rfl, hb4⟩
          have hs3 : B ≤ w3.heap.size := by omega
          have hs4 : B ≤ w4.heap.size := Nat.le_trans hs3 hb4.size
          have HBK4 := hide (HBK.out.below hb4 hsa)
          have HO4 := hide (HO1.out.below hb4)
          have B4 := bstep BB.out hb4 hs3
          clear t0 t1 t2 t3 t4 hb4
          obtain ⟨t0, _, _, _, _⟩ := cells5 HBK4.out
          cases rb with
          | false =>
            go_wp2_with fail
            go_round
            case measure => (simp [intOf] <;> omega)
            case rel => exact ⟨n + 1, by omega, by go_num, by rw [HST.out]; simpa using HO4.out, B4⟩
          | true =>
            go_wp2_with ((at_builtin; refine wpList_push1 (k := 1) (enc := encI) _ rfl _ _ 52 rfl 3 (.int .i64 0) 8 Try.underlying52 infoI rfl (by omega) (by omega) encI_one (B) _ (ripeTo xs day n) rfl (HO4.out) (y0) _ rfl rfl (hdl) (hs4) (B4) (Nat.le_refl _) rfl ?_; intro v1 w1 ho1 hb1 hg1))
            go_round
            case measure => (simp [intOf] <;> omega)
            case rel => exact ⟨n + 1, by omega, by go_num, by rw [HST.out]; exact ho1, hb1⟩
        · have hnn : n = xs.length := by omega
          have HNN := hide hnn; clear hnn
          go_wp2_with fail
          go_ret2
          exact ⟨_, rfl, by rw [← HNN.out]; exact HOW.out, hbel⟩
set_option maxHeartbeats 4000000 in
set_option maxRecDepth 10000 in
theorem l3RipeReaders_is (v : Value) (xs : List SReader) (day : Int) (w : World) (h : Is 5 SReader.enc w v xs) (hw : ∀ z ∈ xs, z.wf) (hd : -100000 ≤ day ∧ day ≤ 100000) :
    Calls Try.prog 31 #[v, .int .i64 day] w fun e w' => ∃ r, e = .returned (.tuple #[r, .bool (ripeV xs day).2]) ∧ Own 1 encI 3 w' w.heap.size r (ripeV xs day).1 ∧ Below w.heap.size w w' := by
  have B0 := below_alloc w (.cells #[] 3)
  have HA := hide (l3Good_is v xs _ (h.below B0 (Nat.le_refl _)) hw)
  have HE := hide (own_emptyI3 w (Nat.le_refl w.heap.size))
  have HI := hide h
  have HB0 := hide B0; clear B0
  have hrv : ripeV xs day = if goodR xs = true ∧ inB day 0 4000 = true then (ripeTo xs day xs.length, true) else ([], false) := rfl
  generalize ripeV xs day = rv at *
  have hs0 : w.heap.size ≤ (w.alloc (.cells #[] 3)).heap.size := by simp
  cases hg : goodR xs with
  | false =>
    rw [hg, if_neg (by simp)] at hrv
    subst hrv
    rw [hg] at HA
    clear hg hw h
    go_enter Try.func31, Try.ntmps31
    go_wp2_with fail
    refine HA.out.mono ?_; rintro e w1 ⟨rfl, hb1⟩
    have B1 := hide (bstep HB0.out hb1 hs0)
    have HE1 := hide (HE.out.below hb1); clear hb1
    go_wp2_with fail
    go_ret2
    exact ⟨_, rfl, HE1.out, B1.out⟩
  | true =>
    have HC := hide (fun W => l2Day_any day W)
    cases hd' : inB day 0 4000 with
    | false =>
      rw [hg, hd', if_neg (by simp)] at hrv
      subst hrv
      rw [hg] at HA; rw [hd'] at HC
      clear hg hw h hd'
      go_enter Try.func31, Try.ntmps31
      go_wp2_with fail
      refine HA.out.mono ?_; rintro e w1 ⟨rfl, hb1⟩
      have B1 := hide (bstep HB0.out hb1 hs0)
      have HE1 := hide (HE.out.below hb1); clear hb1
      go_wp2_with fail
      refine (HC.out _).mono ?_; rintro e w2 ⟨rfl, rfl⟩
      go_wp2_with fail
      go_ret2
      exact ⟨_, rfl, HE1.out, B1.out⟩
    | true =>
      rw [hg, hd', if_pos ⟨rfl, rfl⟩] at hrv
      subst hrv
      rw [hg] at HA; rw [hd'] at HC
      have hlen := goodR_len hg
      have HOK := hide (fun i (hi : i < xs.length) => (goodR_ok hg hi).1)
      obtain ⟨A, cap, rfl, hr, _, _⟩ := h
      generalize hB : w.heap.size = B at hr
      have HB := hide hB; have HR := hide hr; clear hr hg hd' hw
      go_enter Try.func31, Try.ntmps31
      go_wp2_with fail
      refine HA.out.mono ?_; rintro e w1 ⟨rfl, hb1⟩
      have B1 := hide (bstep HB0.out hb1 hs0)
      have HE1 := hide (HE.out.below hb1); clear hb1
      go_wp2_with fail
      refine (HC.out _).mono ?_; rintro e w2 ⟨rfl, rfl⟩
      clear HE HB0
      rw [hB] at B1 HE1
      go_wp2_with fail
      go_loopw [6, 7] (fun s i wr => ∃ n : Nat, n ≤ xs.length ∧ i = .int .i64 (n : Int) ∧ Own 1 encI 3 wr B s (ripeTo xs day n) ∧ Below B w wr) (fun _ i _ => xs.length - (intOf i).toNat)
      case atStart => exact ⟨0, Nat.zero_le _, rfl, HE1.out, B1.out⟩
      case round =>
        obtain ⟨n, hn, rfl, hown, hbel⟩ := hrel
        have HOW := hide hown; clear hown
        have hsz : B ≤ wr.heap.size := by have := hbel.size; rw [HB.out] at this; exact this
        by_cases hlt : n < xs.length
        · have hlt' : (n : Int) < xs.length := by omega
          obtain ⟨b, off, rfl, hb, c0, c1, c2, c3, c4⟩ := SReader.cells HR.out hlt hbel
          have hst := ripeTo_succ (day := day) hlt
          have hdl : (ripeTo xs day n).length ≤ 16777216 := by have := ripeTo_le xs day n; omega
          have hok := HOK.out n hlt
          rw [SReader.at_lt hlt] at hok
          generalize xs[n] = yy at *
          obtain ⟨y0, y1, y2, y3, y4⟩ := yy
          simp only at c0 c1 c2 c3 c4 hst
          obtain ⟨_, _, _, h20, h21, h30, h31, _, _⟩ := SReader.okB_iff.1 hok
          have HRP := hide (fun W => l3Ripe_any y0 y1 y2 y3 y4 day W ⟨h20, h21⟩ ⟨h30, h31⟩ hd)
          generalize ripeB ⟨y0, y1, y2, y3, y4⟩ day = rb at *
          have HST := hide hst
          have hbw : b < wr.heap.size := by omega
          clear hst hok
          go_wp2_with fail
          refine (HRP.out _).mono ?_; rintro e w4 ⟨rfl, hb4⟩
          have hs4 : B ≤ w4.heap.size := Nat.le_trans hsz hb4.size
          have HO4 := hide (HOW.out.below hb4)
          have B4 := bstep hbel hb4 hsz
          have d0 := ((bcell hb4).1 b (off + n * 5) hbw).trans c0
          clear c0 c1 c2 c3 c4 hb4
          cases rb with
          | false =>
            go_wp2_with fail
            go_round
            case measure => (simp [intOf] <;> omega)
            case rel => exact ⟨n + 1, by omega, by go_num, by rw [HST.out]; simpa using HO4.out, B4⟩
          | true =>
            go_wp2_with ((at_builtin; refine wpList_push1 (k := 1) (enc := encI) _ rfl _ _ 52 rfl 3 (.int .i64 0) 8 Try.underlying52 infoI rfl (by omega) (by omega) encI_one (B) _ (ripeTo xs day n) rfl (HO4.out) (y0) _ rfl rfl (hdl) (hs4) (B4) (Nat.le_refl _) rfl ?_; intro v1 w1 ho1 hb1 hg1))
            go_round
            case measure => (simp [intOf] <;> omega)
            case rel => exact ⟨n + 1, by omega, by go_num, by rw [HST.out]; exact ho1, hb1⟩
        · have hnn : n = xs.length := by omega
          have HNN := hide hnn; clear hnn
          go_wp2_with fail
          go_ret2
          exact ⟨_, rfl, by rw [← HNN.out]; exact HOW.out, hbel⟩
end Go.Proofs.Ytdbcilinoieabaa
