/- Contracts of ClassCounts, in impl and spec (the Lean function cntV), and of the laws' sum of a list. Condition: the readers fit. (Printed by mkcnt.py.) -/
import Derived.Test.YtplemibckjnbhaaGreatDoorL3F
import Derived.Test.YtplemibckjnbhaaGreatDoorLw3
namespace Go.Proofs.YtplemibckjnbhaaGreatDoor
open Go.RowKit Go.Lib
set_option linter.unusedVariables false
/-- how many readers are of a class -/
def cnt (c : Int) (l : List SReader) : Int := (l.countP (fun z => decide (z.cls = c)) : Nat)
def cntV (xs : List SReader) : List Int × Bool := if goodR xs = true then ([cnt 1 xs, cnt 2 xs, cnt 3 xs], true) else ([], false)
theorem cnt_succ {c : Int} {xs : List SReader} {n : Nat} (h : n < xs.length) : cnt c (xs.take (n + 1)) = cnt c (xs.take n) + if xs[n].cls = c then 1 else 0 := by
  unfold cnt
  rw [List.take_succ_eq_append_getElem h, List.countP_append, List.countP_singleton]
  by_cases hc : xs[n].cls = c <;> simp [hc]
theorem cnt_bd (c : Int) (xs : List SReader) (n : Nat) : 0 ≤ cnt c (xs.take n) ∧ cnt c (xs.take n) ≤ n := by
  unfold cnt
  have := List.countP_le_length (p := fun z : SReader => decide (z.cls = c)) (l := xs.take n)
  have h2 : (xs.take n).length ≤ n := by rw [List.length_take]; omega
  omega
theorem cnt_sum {l : List SReader} (h : ∀ z ∈ l, 1 ≤ z.cls ∧ z.cls ≤ 3) : cnt 1 l + cnt 2 l + cnt 3 l = l.length := by
  unfold cnt
  induction l with
  | nil => rfl
  | cons a l ih =>
    have ha := h a (by simp)
    have := ih (fun z hz => h z (by simp [hz]))
    simp only [List.countP_cons, List.length_cons]
    have hc : a.cls = 1 ∨ a.cls = 2 ∨ a.cls = 3 := by omega
    rcases hc with hc | hc | hc <;> simp [hc] <;> omega
theorem goodR_cls {xs : List SReader} (h : goodR xs = true) : ∀ z ∈ xs, 1 ≤ z.cls ∧ z.cls ≤ 3 := fun z hz => by
  obtain ⟨i, hi, rfl⟩ := List.getElem_of_mem hz
  have := (goodR_ok h hi).1
  rw [SReader.at_lt hi] at this
  obtain ⟨_, _, _, _, _, h5, h6, _⟩ := (SReader.okB_iff (a0 := xs[i].ident) (a1 := xs[i].name) (a2 := xs[i].joined) (a3 := xs[i].cls) (a4 := xs[i].fines)).1 this
  exact ⟨h5, h6⟩
theorem own3I {w : World} {base g : Nat} {a b c : Int} (h : Blk w g 3 #[.int .i64 a, .int .i64 b, .int .i64 c]) (hg : base ≤ g) : Own 1 encI 3 w base (.slice (some ⟨g, 0, none⟩) 3 3) [a, b, c] := by
  refine .inr ⟨g, 3, _, rfl, hg, h, Nat.le_refl _, by simp only [maxLen]; omega, by simp, ?_⟩
  intro j z hj hz k hk
  obtain rfl : k = 0 := by omega
  have hj3 : j = 0 ∨ j = 1 ∨ j = 2 := by simp at hj; omega
  rcases hj3 with rfl | rfl | rfl <;> (simp at hz; subst hz; rfl)
theorem own_emptyI (w : World) {B : Nat} (hB : B ≤ w.heap.size) : Own 1 encI 3 (w.alloc (.cells #[] 3)) B (.slice (some ⟨w.heap.size, 0, none⟩) 0 0) ([] : List Int) :=
  .inr ⟨w.heap.size, 0, #[], rfl, hB, Blk.new _ _ _, Nat.le_refl _, by simp only [maxLen]; omega, by simp, fun j x h1 _ => by simp at h1⟩
theorem made3 : madeCells (Value.int .i64 0).cells (3 * 1) = #[.int .i64 0, .int .i64 0, .int .i64 0] := by
  unfold madeCells
  rw [show Array.range (3 * 1) = #[0, 1, 2] by decide]
  simp [Value.cells]
theorem cells3 {w : World} {g : Nat} {t : TypeId} {a b c : Value} (h : Blk w g t #[a, b, c]) : w.cell? ⟨g, 0, none⟩ = some a ∧ w.cell? ⟨g, 1, none⟩ = some b ∧ w.cell? ⟨g, 2, none⟩ = some c := by
  refine ⟨?_, ?_, ?_⟩ <;> (rw [h.cell]; rfl)
set_option maxHeartbeats 2000000 in
set_option maxRecDepth 10000 in
theorem ClassCountsI_is (v : Value) (xs : List SReader) (w : World) (h : Is 5 SReader.enc w v xs) (hw : ∀ z ∈ xs, z.wf) :
    Calls Tryz.prog 22 #[v] w fun e w' => ∃ r, e = .returned (.tuple #[r, .bool (cntV xs).2]) ∧ Own 1 encI 3 w' w.heap.size r (cntV xs).1 ∧ Below w.heap.size w w' := by
  have hA := AreReaders_is v xs w h hw
  have HI := hide h
  cases hg : goodR xs with
  | false =>
    rw [show cntV xs = ([], false) from if_neg (by rw [hg]; simp)]
    rw [hg] at hA
    have HA := hide hA; clear hA hg h hw
    go_enter Tryz.func22, Tryz.ntmps22
    go_wp2_with fail
    refine HA.out.mono ?_; rintro e w1 ⟨rfl, hb1⟩
    have B1 := hide hb1; clear hb1
    go_wp2_with fail
    go_ret2
    exact ⟨_, rfl, Own.nil, B1.out⟩
  | true =>
    rw [show cntV xs = ([cnt 1 xs, cnt 2 xs, cnt 3 xs], true) from if_pos hg]
    rw [hg] at hA
    have hcl := goodR_cls hg
    have hlen := goodR_len hg
    have HA := hide hA; have HCL := hide hcl; clear hA hg h hw hcl
    have hmk : ∀ W : World, (Instr.makeSlice 43 (.int .i64 3) (.int .i64 3)).run Tryz.prog W = .ok (.slice (some ⟨W.heap.size, 0, none⟩) 3 3) (W.alloc (.cells #[.int .i64 0, .int .i64 0, .int .i64 0] 3)) := fun W => by
      have hh := run_make_n (P := Tryz.prog) 43 3 _ 1 8 Tryz.underlying43 infoI 3 (by omega) (by omega) W
      rw [show madeCells (Value.int .i64 0).cells (3 * 1) = #[.int .i64 0, .int .i64 0, .int .i64 0] from made3] at hh
      exact hh
    go_enter Tryz.func22, Tryz.ntmps22
    go_wp2_with fail
    refine HA.out.mono ?_; rintro e w1 ⟨rfl, hb1⟩
    have B1 := hide hb1
    have I1 := hide (HI.out.below hb1 (Nat.le_refl _))
    clear hb1
    obtain ⟨A, cap, rfl, hr, _, _⟩ := I1.out
    have HR := hide hr; clear hr
    have hsw := B1.out.size
    go_wp2_with fail
    go_loopw [13] (fun i wr => ∃ n : Nat, n ≤ xs.length ∧ i = .int .i64 (n : Int) ∧ Blk wr w1.heap.size 3 #[.int .i64 (cnt 1 (xs.take n)), .int .i64 (cnt 2 (xs.take n)), .int .i64 (cnt 3 (xs.take n))] ∧ Below w1.heap.size w1 wr) (fun i _ => xs.length - (intOf i).toNat)
    case atStart => exact ⟨0, Nat.zero_le _, rfl, Blk.new _ _ _, below_alloc _ _⟩
    case round =>
      obtain ⟨n, hn, rfl, hblk, hbel⟩ := hrel
      by_cases hlt : n < xs.length
      · have hlt' : (n : Int) < xs.length := by omega
        obtain ⟨b, off, rfl, hb, c0, c1, c2, c3, c4⟩ := SReader.cells HR.out hlt hbel
        have hc := HCL.out xs[n] (List.getElem_mem hlt)
        have s1 := cnt_succ (c := 1) hlt; have s2 := cnt_succ (c := 2) hlt; have s3 := cnt_succ (c := 3) hlt
        have b1 := cnt_bd 1 xs n; have b2 := cnt_bd 2 xs n; have b3 := cnt_bd 3 xs n
        generalize hm1 : cnt 1 (xs.take (n + 1)) = m1 at *; generalize hm2 : cnt 2 (xs.take (n + 1)) = m2 at *; generalize hm3 : cnt 3 (xs.take (n + 1)) = m3 at *
        have HM1 := hide hm1; have HM2 := hide hm2; have HM3 := hide hm3; clear hm1 hm2 hm3
        generalize cnt 1 (xs.take n) = k1 at *; generalize cnt 2 (xs.take n) = k2 at *; generalize cnt 3 (xs.take n) = k3 at *
        generalize xs[n].ident = y0 at *; generalize xs[n].name = y1 at *; generalize xs[n].joined = y2 at *; generalize xs[n].cls = y3 at *; generalize xs[n].fines = y4 at *
        have h3 : y3 = 1 ∨ y3 = 2 ∨ y3 = 3 := by omega
        clear hc
        rcases h3 with rfl | rfl | rfl
        · obtain ⟨rfl, rfl, rfl⟩ : m1 = k1 + 1 ∧ m2 = k2 ∧ m3 = k3 := ⟨by simpa using s1, by simpa using s2, by simpa using s3⟩
          clear s1 s2 s3
          have HN := hide (Blk.new wr 25 #[.int .i64 y0, .string y1, .int .i64 y2, .int .i64 1, .int .i64 y4])
          have HK := hide (hblk.alloc (.cells #[.int .i64 y0, .string y1, .int .i64 y2, .int .i64 1, .int .i64 y4] 25))
          have HB := hide (hbel.alloc hbel.size (.cells #[.int .i64 y0, .string y1, .int .i64 y2, .int .i64 1, .int .i64 y4] 25))
          clear hblk hbel
          go_upto_region 7 with fail
          clear c0 c1 c2 c3 c4
          generalize wr.alloc (.cells #[.int .i64 y0, .string y1, .int .i64 y2, .int .i64 1, .int .i64 y4] 25) = w3 at *
          generalize wr.heap.size = gm at *
          obtain ⟨t0, t1, t2, t3, t4⟩ := cells5 HN.out
          obtain ⟨q1, q2, q3⟩ := cells3 HK.out
          have kf := fun o => HK.out.frozen o
          go_wp2_with fail
          go_round
          case measure => (simp [intOf] <;> omega)
          case rel => exact ⟨n + 1, by omega, by go_num, by rw [HM1.out, HM2.out, HM3.out]; exact HK.out.set 0 (.int .i64 (k1 + 1)), HB.out.setCell (p := ⟨w1.heap.size, 0, none⟩) (Nat.le_refl _) (.int .i64 (k1 + 1))⟩
        · obtain ⟨rfl, rfl, rfl⟩ : m1 = k1 ∧ m2 = k2 + 1 ∧ m3 = k3 := ⟨by simpa using s1, by simpa using s2, by simpa using s3⟩
          clear s1 s2 s3
          have HN := hide (Blk.new wr 25 #[.int .i64 y0, .string y1, .int .i64 y2, .int .i64 2, .int .i64 y4])
          have HK := hide (hblk.alloc (.cells #[.int .i64 y0, .string y1, .int .i64 y2, .int .i64 2, .int .i64 y4] 25))
          have HB := hide (hbel.alloc hbel.size (.cells #[.int .i64 y0, .string y1, .int .i64 y2, .int .i64 2, .int .i64 y4] 25))
          clear hblk hbel
          go_upto_region 7 with fail
          clear c0 c1 c2 c3 c4
          generalize wr.alloc (.cells #[.int .i64 y0, .string y1, .int .i64 y2, .int .i64 2, .int .i64 y4] 25) = w3 at *
          generalize wr.heap.size = gm at *
          obtain ⟨t0, t1, t2, t3, t4⟩ := cells5 HN.out
          obtain ⟨q1, q2, q3⟩ := cells3 HK.out
          have kf := fun o => HK.out.frozen o
          go_wp2_with fail
          go_round
          case measure => (simp [intOf] <;> omega)
          case rel => exact ⟨n + 1, by omega, by go_num, by rw [HM1.out, HM2.out, HM3.out]; exact HK.out.set 1 (.int .i64 (k2 + 1)), HB.out.setCell (p := ⟨w1.heap.size, 1, none⟩) (Nat.le_refl _) (.int .i64 (k2 + 1))⟩
        · obtain ⟨rfl, rfl, rfl⟩ : m1 = k1 ∧ m2 = k2 ∧ m3 = k3 + 1 := ⟨by simpa using s1, by simpa using s2, by simpa using s3⟩
          clear s1 s2 s3
          have HN := hide (Blk.new wr 25 #[.int .i64 y0, .string y1, .int .i64 y2, .int .i64 3, .int .i64 y4])
          have HK := hide (hblk.alloc (.cells #[.int .i64 y0, .string y1, .int .i64 y2, .int .i64 3, .int .i64 y4] 25))
          have HB := hide (hbel.alloc hbel.size (.cells #[.int .i64 y0, .string y1, .int .i64 y2, .int .i64 3, .int .i64 y4] 25))
          clear hblk hbel
          go_upto_region 7 with fail
          clear c0 c1 c2 c3 c4
          generalize wr.alloc (.cells #[.int .i64 y0, .string y1, .int .i64 y2, .int .i64 3, .int .i64 y4] 25) = w3 at *
          generalize wr.heap.size = gm at *
          obtain ⟨t0, t1, t2, t3, t4⟩ := cells5 HN.out
          obtain ⟨q1, q2, q3⟩ := cells3 HK.out
          have kf := fun o => HK.out.frozen o
          go_wp2_with fail
          go_round
          case measure => (simp [intOf] <;> omega)
          case rel => exact ⟨n + 1, by omega, by go_num, by rw [HM1.out, HM2.out, HM3.out]; exact HK.out.set 2 (.int .i64 (k3 + 1)), HB.out.setCell (p := ⟨w1.heap.size, 2, none⟩) (Nat.le_refl _) (.int .i64 (k3 + 1))⟩
      · have hnn : n = xs.length := by omega
        subst hnn
        rw [List.take_length] at hblk
        have HK := hide hblk; have HB := hide hbel; clear hblk hbel
        go_wp2_with fail
        go_ret2
        exact ⟨_, rfl, own3I HK.out hsw, B1.out.trans (HB.out.mono hsw)⟩
set_option maxHeartbeats 2000000 in
set_option maxRecDepth 10000 in
theorem ClassCountsS_is (v : Value) (xs : List SReader) (w : World) (h : Is 5 SReader.enc w v xs) (hw : ∀ z ∈ xs, z.wf) :
    Calls Tryz.prog 23 #[v] w fun e w' => ∃ r, e = .returned (.tuple #[r, .bool (cntV xs).2]) ∧ Own 1 encI 3 w' w.heap.size r (cntV xs).1 ∧ Below w.heap.size w w' := by
  have hA := l3Good_is v xs w h hw
  have HI := hide h
  cases hg : goodR xs with
  | false =>
    rw [show cntV xs = ([], false) from if_neg (by rw [hg]; simp)]
    rw [hg] at hA
    have HA := hide hA; clear hA hg h hw
    go_enter Tryz.func23, Tryz.ntmps23
    go_wp2_with fail
    refine HA.out.mono ?_; rintro e w1 ⟨rfl, hb1⟩
    have B1 := hide hb1; clear hb1
    go_wp2_with fail
    go_ret2
    exact ⟨_, rfl, own_emptyI w1 B1.out.size, B1.out.alloc B1.out.size _⟩
  | true =>
    rw [show cntV xs = ([cnt 1 xs, cnt 2 xs, cnt 3 xs], true) from if_pos hg]
    rw [hg] at hA
    have hcl := goodR_cls hg
    have hlen := goodR_len hg
    have HA := hide hA; have HCL := hide hcl; clear hA hg h hw hcl
    have hmk : ∀ W : World, (Instr.makeSlice 43 (.int .i64 3) (.int .i64 3)).run Tryz.prog W = .ok (.slice (some ⟨W.heap.size, 0, none⟩) 3 3) (W.alloc (.cells #[.int .i64 0, .int .i64 0, .int .i64 0] 3)) := fun W => by
      have hh := run_make_n (P := Tryz.prog) 43 3 _ 1 8 Tryz.underlying43 infoI 3 (by omega) (by omega) W
      rw [show madeCells (Value.int .i64 0).cells (3 * 1) = #[.int .i64 0, .int .i64 0, .int .i64 0] from made3] at hh
      exact hh
    go_enter Tryz.func23, Tryz.ntmps23
    go_wp2_with fail
    refine HA.out.mono ?_; rintro e w1 ⟨rfl, hb1⟩
    have B1 := hide hb1
    have I1 := hide (HI.out.below hb1 (Nat.le_refl _))
    clear hb1
    obtain ⟨A, cap, rfl, hr, _, _⟩ := I1.out
    have HR := hide hr; clear hr
    have hsw := B1.out.size
    go_wp2_with fail
    go_loopw [5] (fun i wr => ∃ n : Nat, n ≤ xs.length ∧ i = .int .i64 (n : Int) ∧ Blk wr w1.heap.size 3 #[.int .i64 (cnt 1 (xs.take n)), .int .i64 (cnt 2 (xs.take n)), .int .i64 (cnt 3 (xs.take n))] ∧ Below w1.heap.size w1 wr) (fun i _ => xs.length - (intOf i).toNat)
    case atStart => exact ⟨0, Nat.zero_le _, rfl, Blk.new _ _ _, below_alloc _ _⟩
    case round =>
      obtain ⟨n, hn, rfl, hblk, hbel⟩ := hrel
      by_cases hlt : n < xs.length
      · have hlt' : (n : Int) < xs.length := by omega
        obtain ⟨b, off, rfl, hb, c0, c1, c2, c3, c4⟩ := SReader.cells HR.out hlt hbel
        have hc := HCL.out xs[n] (List.getElem_mem hlt)
        have s1 := cnt_succ (c := 1) hlt; have s2 := cnt_succ (c := 2) hlt; have s3 := cnt_succ (c := 3) hlt
        have b1 := cnt_bd 1 xs n; have b2 := cnt_bd 2 xs n; have b3 := cnt_bd 3 xs n
        generalize hm1 : cnt 1 (xs.take (n + 1)) = m1 at *; generalize hm2 : cnt 2 (xs.take (n + 1)) = m2 at *; generalize hm3 : cnt 3 (xs.take (n + 1)) = m3 at *
        have HM1 := hide hm1; have HM2 := hide hm2; have HM3 := hide hm3; clear hm1 hm2 hm3
        generalize cnt 1 (xs.take n) = k1 at *; generalize cnt 2 (xs.take n) = k2 at *; generalize cnt 3 (xs.take n) = k3 at *
        generalize xs[n].ident = y0 at *; generalize xs[n].name = y1 at *; generalize xs[n].joined = y2 at *; generalize xs[n].cls = y3 at *; generalize xs[n].fines = y4 at *
        have h3 : y3 = 1 ∨ y3 = 2 ∨ y3 = 3 := by omega
        clear hc
        rcases h3 with rfl | rfl | rfl
        · obtain ⟨rfl, rfl, rfl⟩ : m1 = k1 + 1 ∧ m2 = k2 ∧ m3 = k3 := ⟨by simpa using s1, by simpa using s2, by simpa using s3⟩
          clear s1 s2 s3
          have HK := hide hblk
          have HB := hide hbel
          clear hblk hbel
          generalize wr = w3 at *
          obtain ⟨q1, q2, q3⟩ := cells3 HK.out
          have kf := fun o => HK.out.frozen o
          go_wp2_with fail
          go_round
          case measure => (simp [intOf] <;> omega)
          case rel => exact ⟨n + 1, by omega, by go_num, by rw [HM1.out, HM2.out, HM3.out]; exact HK.out.set 0 (.int .i64 (k1 + 1)), HB.out.setCell (p := ⟨w1.heap.size, 0, none⟩) (Nat.le_refl _) (.int .i64 (k1 + 1))⟩
        · obtain ⟨rfl, rfl, rfl⟩ : m1 = k1 ∧ m2 = k2 + 1 ∧ m3 = k3 := ⟨by simpa using s1, by simpa using s2, by simpa using s3⟩
          clear s1 s2 s3
          have HK := hide hblk
          have HB := hide hbel
          clear hblk hbel
          generalize wr = w3 at *
          obtain ⟨q1, q2, q3⟩ := cells3 HK.out
          have kf := fun o => HK.out.frozen o
          go_wp2_with fail
          go_round
          case measure => (simp [intOf] <;> omega)
          case rel => exact ⟨n + 1, by omega, by go_num, by rw [HM1.out, HM2.out, HM3.out]; exact HK.out.set 1 (.int .i64 (k2 + 1)), HB.out.setCell (p := ⟨w1.heap.size, 1, none⟩) (Nat.le_refl _) (.int .i64 (k2 + 1))⟩
        · obtain ⟨rfl, rfl, rfl⟩ : m1 = k1 ∧ m2 = k2 ∧ m3 = k3 + 1 := ⟨by simpa using s1, by simpa using s2, by simpa using s3⟩
          clear s1 s2 s3
          have HK := hide hblk
          have HB := hide hbel
          clear hblk hbel
          generalize wr = w3 at *
          obtain ⟨q1, q2, q3⟩ := cells3 HK.out
          have kf := fun o => HK.out.frozen o
          go_wp2_with fail
          go_round
          case measure => (simp [intOf] <;> omega)
          case rel => exact ⟨n + 1, by omega, by go_num, by rw [HM1.out, HM2.out, HM3.out]; exact HK.out.set 2 (.int .i64 (k3 + 1)), HB.out.setCell (p := ⟨w1.heap.size, 2, none⟩) (Nat.le_refl _) (.int .i64 (k3 + 1))⟩
      · have hnn : n = xs.length := by omega
        subst hnn
        rw [List.take_length] at hblk
        have HK := hide hblk; have HB := hide hbel; clear hblk hbel
        go_wp2_with fail
        go_ret2
        exact ⟨_, rfl, own3I HK.out hsw, B1.out.trans (HB.out.mono hsw)⟩
theorem rSum3_is (v : Value) (a b c : Int) (w : World) (h : Is 1 encI w v [a, b, c]) (ha : 0 ≤ a ∧ a ≤ 1000) (hb : 0 ≤ b ∧ b ≤ 1000) (hc : 0 ≤ c ∧ c ≤ 1000) :
    Calls Tryz.prog 24 #[v] w fun e w' => e = .returned (.int .i64 (a + b + c)) ∧ w = w' := by
  obtain ⟨A, cap, rfl, hr, _, _⟩ := h
  obtain ⟨g, off, rfl, _, c0⟩ := Ints.cells hr (i := 0) (by simp) (Below.refl _ _)
  obtain ⟨g1, o1, e1, _, c1⟩ := Ints.cells hr (i := 1) (by simp) (Below.refl _ _)
  obtain ⟨g2, o2, e2, _, c2⟩ := Ints.cells hr (i := 2) (by simp) (Below.refl _ _)
  injection e1 with e1; injection e1 with p1 q1; subst p1 q1
  injection e2 with e2; injection e2 with p2 q2; subst p2 q2
  simp only [List.getElem_cons_zero, List.getElem_cons_succ] at c0 c1 c2
  simp only [Nat.add_zero] at c0
  clear hr
  go_enter Tryz.func24, Tryz.ntmps24
  go_wp2_with fail
  go_loop [3, 4] (fun s i => (s = .int .i64 0 ∧ i = .int .i64 0) ∨ (s = .int .i64 a ∧ i = .int .i64 1) ∨ (s = .int .i64 (a + b) ∧ i = .int .i64 2) ∨ (s = .int .i64 (a + b + c) ∧ i = .int .i64 3)) (fun _ i => 3 - (intOf i).toNat)
  case atStart => exact .inl ⟨rfl, rfl⟩
  case round =>
    rcases hrel with ⟨rfl, rfl⟩ | ⟨rfl, rfl⟩ | ⟨rfl, rfl⟩ | ⟨rfl, rfl⟩
    · go_wp2_with fail
      go_round
      case measure => simp [intOf]
      case rel => exact .inr (.inl ⟨by go_num, rfl⟩)
    · go_wp2_with fail
      go_round
      case measure => simp [intOf]
      case rel => exact .inr (.inr (.inl ⟨by go_num, rfl⟩))
    · go_wp2_with fail
      go_round
      case measure => simp [intOf]
      case rel => exact .inr (.inr (.inr ⟨by go_num, rfl⟩))
    · go_wp2_with fail
      go_ret
      exact ⟨rfl, rfl⟩
end Go.Proofs.YtplemibckjnbhaaGreatDoor
