/- The drawing of a sheet over a cursor: one whose numbers are small. Condition: a cursor that has stepped less than 2^60 times. (Printed by mksheet.py.) -/
import Derived.Test.YtplemibckjnbhaaGreatDoorDr
import Derived.Test.YtplemibckjnbhaaGreatDoorL2C
namespace Go.Proofs.YtplemibckjnbhaaGreatDoor
open Go.RowKit
set_option linter.unusedVariables false
set_option maxRecDepth 100000 in
set_option maxHeartbeats 1000000 in
theorem sheet_is (w0 w : World) (base g k : Nat) (A : Option Addr) (cap : Nat) (code : List Int) (hD : DS w0 base g A cap code k w) (id : Int) (hid : -1000 ≤ id ∧ id ≤ 1000) (hk : k + 30 < 2305843009213693952) :
    Calls Tryz.prog 82 #[.pointer (some ⟨g, 0, none⟩), .int .i64 id] w fun e w' => ∃ z : SSheet, e = .returned (.agg #[.int .i64 z.id, .int .i64 z.row, .int .i64 z.col, .int .i64 z.scale, .int .i64 z.year]) ∧ z.Fit ∧ DS w0 base g A cap code (k + 30) w' ∧ w.grownBy w' (some g) := by
  have hB := Blk.new w 50 #[.int .i64 0, .int .i64 0, .int .i64 0, .int .i64 0, .int .i64 0]
  have hD1 := (DS.start hD.cur hD.sz).alloc (.cells #[.int .i64 0, .int .i64 0, .int .i64 0, .int .i64 0, .int .i64 0] 50)
  have hgw := hD.lt
  have HD0 := hide hD
  have HD := hide hD1; have HB := hide hB; clear hD hD1 hB
  obtain ⟨hid0, hid1⟩ := hid
  go_enter Tryz.func82, Tryz.ntmps82
  go_upto_region 1 with fail
  generalize hb0 : w.heap.size = b0 at *
  generalize w.alloc (.cells #[.int .i64 0, .int .i64 0, .int .i64 0, .int .i64 0, .int .i64 0] 50) = w1 at *
  go_wp2_with fail
  refine (amongD [0, 1, 2, 2, 3, 99] HD.out (by rfl) (by rfl) (by rfl) (by simp) (by simp) (by omega)).mono ?_; rintro e w2 ⟨x2, rfl, hm, hD, hg⟩
  replace HB := hide (HD.out.blk HB.out hg (by decide))
  replace HD := hide hD; clear hD hg
  have b2 := (by decide : ∀ x ∈ ([0, 1, 2, 2, 3, 99] : List Int), 0 ≤ x ∧ x ≤ 99) _ hm; clear hm
  obtain ⟨f0a, f0b⟩ := b2
  go_wp2_with fail
  refine (amongD [0, 1, 1, 2, 3, 99] HD.out (by rfl) (by rfl) (by rfl) (by simp) (by simp) (by omega)).mono ?_; rintro e w3 ⟨x3, rfl, hm, hD, hg⟩
  replace HB := hide (HD.out.blk HB.out hg (by decide))
  replace HD := hide hD; clear hD hg
  have b3 := (by decide : ∀ x ∈ ([0, 1, 1, 2, 3, 99] : List Int), 0 ≤ x ∧ x ≤ 99) _ hm; clear hm
  obtain ⟨f1a, f1b⟩ := b3
  go_wp2_with fail
  refine (amongD [25, 50, 50, 50, 100, 500] HD.out (by rfl) (by rfl) (by rfl) (by simp) (by simp) (by omega)).mono ?_; rintro e w4 ⟨x4, rfl, hm, hD, hg⟩
  replace HB := hide (HD.out.blk HB.out hg (by decide))
  replace HD := hide hD; clear hD hg
  have b4 := (by decide : ∀ x ∈ ([25, 50, 50, 50, 100, 500] : List Int), 25 ≤ x ∧ x ≤ 500) _ hm; clear hm
  obtain ⟨f2a, f2b⟩ := b4
  go_wp2_with fail
  refine (amongD [1500, 1890, 1950, 1987, 2020, 2100] HD.out (by rfl) (by rfl) (by rfl) (by simp) (by simp) (by omega)).mono ?_; rintro e w5 ⟨x5, rfl, hm, hD, hg⟩
  replace HB := hide (HD.out.blk HB.out hg (by decide))
  replace HD := hide hD; clear hD hg
  have b5 := (by decide : ∀ x ∈ ([1500, 1890, 1950, 1987, 2020, 2100] : List Int), 1500 ≤ x ∧ x ≤ 2100) _ hm; clear hm
  obtain ⟨f3a, f3b⟩ := b5
  have HT := hide (Blk.new w5 50 #[.int .i64 id, .int .i64 x2, .int .i64 x3, .int .i64 x4, .int .i64 x5])
  have hwt : b0 < w5.heap.size := HB.out.lt
  go_upto_region 2 with fail
  replace HB := hide (HB.out.alloc (.cells #[.int .i64 id, .int .i64 x2, .int .i64 x3, .int .i64 x4, .int .i64 x5] 50))
  replace HD := hide (HD.out.alloc (.cells #[.int .i64 id, .int .i64 x2, .int .i64 x3, .int .i64 x4, .int .i64 x5] 50))
  generalize w5.alloc (.cells #[.int .i64 id, .int .i64 x2, .int .i64 x3, .int .i64 x4, .int .i64 x5] 50) = w6 at *
  generalize hb1 : w5.heap.size = b1 at *
  go_wp2_with fail
  refine (pickD 64 HD.out (by omega)).mono ?_; rintro e w7 ⟨x7, rfl, p7, q7, hD, hg⟩
  replace HB := hide (HD.out.blk HB.out hg (by decide))
  replace HT := hide (HD.out.blk HT.out hg (by decide))
  replace HD := hide hD; clear hD hg
  by_cases z0 : x7 = 0
  · subst z0
    go_wp2_with fail
    refine (amongD [-1, 100] HD.out (by rfl) (by rfl) (by rfl) (by simp) (by simp) (by omega)).mono ?_; rintro e w8 ⟨x8, rfl, hm, hD, hg⟩
    replace HB := hide (HD.out.blk HB.out hg (by decide))
    replace HT := hide (HD.out.blk HT.out hg (by decide))
    replace HD := hide hD; clear hD hg
    have b8 := (by decide : ∀ x ∈ ([-1, 100] : List Int), -1 ≤ x ∧ x ≤ 100) _ hm; clear hm
    obtain ⟨hb9, hb10⟩ := b8
    obtain ⟨t0, t1, t2, t3, t4⟩ := mk5S HT.out
    have tf := fun o => HT.out.frozen o
    obtain ⟨m0, m1, m2, m3, m4⟩ := mk5S HB.out
    have mf := fun o => HB.out.frozen o
    have nb : ¬ b1 = b0 := by omega
    have nb2 : ¬ b0 = b1 := by omega
    go_wp2_with fail
    have hF := ((((((HB.out.far (p := ⟨b1, 1, none⟩) (by simp only; omega) (.int .i64 x8)).set 0 (.int .i64 id)).set 1 (.int .i64 x8)).set 2 (.int .i64 x3)).set 3 (.int .i64 x4)).set 4 (.int .i64 x5))
    have f0 := hF.cell 0; have f1 := hF.cell 1; have f2 := hF.cell 2; have f3 := hF.cell 3; have f4 := hF.cell 4
    simp at f0 f1 f2 f3 f4
    have hE := ((((((HD.out.set (b := b1) (by omega) (by omega) 1 (.int .i64 x8)).set (b := b0) (by omega) (by omega) 0 (.int .i64 id)).set (b := b0) (by omega) (by omega) 1 (.int .i64 x8)).set (b := b0) (by omega) (by omega) 2 (.int .i64 x3)).set (b := b0) (by omega) (by omega) 3 (.int .i64 x4)).set (b := b0) (by omega) (by omega) 4 (.int .i64 x5))
    exact bodyPost_ret (v := .agg #[.int .i64 id, .int .i64 x8, .int .i64 x3, .int .i64 x4, .int .i64 x5]) (by simp [results, Tryz.results82, go_sem, f0, f1, f2, f3, f4]) rfl ⟨⟨id, x8, x3, x4, x5⟩, rfl, (by refine ⟨⟨?_, ?_⟩, ⟨?_, ?_⟩, ⟨?_, ?_⟩, ⟨?_, ?_⟩, ⟨?_, ?_⟩⟩ <;> simp only <;> first | omega | assumption), ⟨(hE.le (by omega)).cur, grownTrans HD0.out.gr hE.gr, HD0.out.hb⟩, hE.gr⟩
  · by_cases z1 : x7 = 1
    · subst z1
      go_wp2_with fail
      refine (amongD [-1, 100] HD.out (by rfl) (by rfl) (by rfl) (by simp) (by simp) (by omega)).mono ?_; rintro e w8 ⟨x8, rfl, hm, hD, hg⟩
      replace HB := hide (HD.out.blk HB.out hg (by decide))
      replace HT := hide (HD.out.blk HT.out hg (by decide))
      replace HD := hide hD; clear hD hg
      have b8 := (by decide : ∀ x ∈ ([-1, 100] : List Int), -1 ≤ x ∧ x ≤ 100) _ hm; clear hm
      obtain ⟨hb9, hb10⟩ := b8
      obtain ⟨t0, t1, t2, t3, t4⟩ := mk5S HT.out
      have tf := fun o => HT.out.frozen o
      obtain ⟨m0, m1, m2, m3, m4⟩ := mk5S HB.out
      have mf := fun o => HB.out.frozen o
      have nb : ¬ b1 = b0 := by omega
      have nb2 : ¬ b0 = b1 := by omega
      go_wp2_with fail
      have hF := ((((((HB.out.far (p := ⟨b1, 2, none⟩) (by simp only; omega) (.int .i64 x8)).set 0 (.int .i64 id)).set 1 (.int .i64 x2)).set 2 (.int .i64 x8)).set 3 (.int .i64 x4)).set 4 (.int .i64 x5))
      have f0 := hF.cell 0; have f1 := hF.cell 1; have f2 := hF.cell 2; have f3 := hF.cell 3; have f4 := hF.cell 4
      simp at f0 f1 f2 f3 f4
      have hE := ((((((HD.out.set (b := b1) (by omega) (by omega) 2 (.int .i64 x8)).set (b := b0) (by omega) (by omega) 0 (.int .i64 id)).set (b := b0) (by omega) (by omega) 1 (.int .i64 x2)).set (b := b0) (by omega) (by omega) 2 (.int .i64 x8)).set (b := b0) (by omega) (by omega) 3 (.int .i64 x4)).set (b := b0) (by omega) (by omega) 4 (.int .i64 x5))
      exact bodyPost_ret (v := .agg #[.int .i64 id, .int .i64 x2, .int .i64 x8, .int .i64 x4, .int .i64 x5]) (by simp [results, Tryz.results82, go_sem, f0, f1, f2, f3, f4]) rfl ⟨⟨id, x2, x8, x4, x5⟩, rfl, (by refine ⟨⟨?_, ?_⟩, ⟨?_, ?_⟩, ⟨?_, ?_⟩, ⟨?_, ?_⟩, ⟨?_, ?_⟩⟩ <;> simp only <;> first | omega | assumption), ⟨(hE.le (by omega)).cur, grownTrans HD0.out.gr hE.gr, HD0.out.hb⟩, hE.gr⟩
    · by_cases z2 : x7 = 2
      · subst z2
        go_wp2_with fail
        refine (amongD [9, 10, 501] HD.out (by rfl) (by rfl) (by rfl) (by simp) (by simp) (by omega)).mono ?_; rintro e w8 ⟨x8, rfl, hm, hD, hg⟩
        replace HB := hide (HD.out.blk HB.out hg (by decide))
        replace HT := hide (HD.out.blk HT.out hg (by decide))
        replace HD := hide hD; clear hD hg
        have b8 := (by decide : ∀ x ∈ ([9, 10, 501] : List Int), 9 ≤ x ∧ x ≤ 501) _ hm; clear hm
        obtain ⟨hb9, hb10⟩ := b8
        obtain ⟨t0, t1, t2, t3, t4⟩ := mk5S HT.out
        have tf := fun o => HT.out.frozen o
        obtain ⟨m0, m1, m2, m3, m4⟩ := mk5S HB.out
        have mf := fun o => HB.out.frozen o
        have nb : ¬ b1 = b0 := by omega
        have nb2 : ¬ b0 = b1 := by omega
        go_wp2_with fail
        have hF := ((((((HB.out.far (p := ⟨b1, 3, none⟩) (by simp only; omega) (.int .i64 x8)).set 0 (.int .i64 id)).set 1 (.int .i64 x2)).set 2 (.int .i64 x3)).set 3 (.int .i64 x8)).set 4 (.int .i64 x5))
        have f0 := hF.cell 0; have f1 := hF.cell 1; have f2 := hF.cell 2; have f3 := hF.cell 3; have f4 := hF.cell 4
        simp at f0 f1 f2 f3 f4
        have hE := ((((((HD.out.set (b := b1) (by omega) (by omega) 3 (.int .i64 x8)).set (b := b0) (by omega) (by omega) 0 (.int .i64 id)).set (b := b0) (by omega) (by omega) 1 (.int .i64 x2)).set (b := b0) (by omega) (by omega) 2 (.int .i64 x3)).set (b := b0) (by omega) (by omega) 3 (.int .i64 x8)).set (b := b0) (by omega) (by omega) 4 (.int .i64 x5))
        exact bodyPost_ret (v := .agg #[.int .i64 id, .int .i64 x2, .int .i64 x3, .int .i64 x8, .int .i64 x5]) (by simp [results, Tryz.results82, go_sem, f0, f1, f2, f3, f4]) rfl ⟨⟨id, x2, x3, x8, x5⟩, rfl, (by refine ⟨⟨?_, ?_⟩, ⟨?_, ?_⟩, ⟨?_, ?_⟩, ⟨?_, ?_⟩, ⟨?_, ?_⟩⟩ <;> simp only <;> first | omega | assumption), ⟨(hE.le (by omega)).cur, grownTrans HD0.out.gr hE.gr, HD0.out.hb⟩, hE.gr⟩
      · by_cases z3 : x7 = 3
        · subst z3
          go_wp2_with fail
          refine (amongD [1499, 2101] HD.out (by rfl) (by rfl) (by rfl) (by simp) (by simp) (by omega)).mono ?_; rintro e w8 ⟨x8, rfl, hm, hD, hg⟩
          replace HB := hide (HD.out.blk HB.out hg (by decide))
          replace HT := hide (HD.out.blk HT.out hg (by decide))
          replace HD := hide hD; clear hD hg
          have b8 := (by decide : ∀ x ∈ ([1499, 2101] : List Int), 1499 ≤ x ∧ x ≤ 2101) _ hm; clear hm
          obtain ⟨hb9, hb10⟩ := b8
          obtain ⟨t0, t1, t2, t3, t4⟩ := mk5S HT.out
          have tf := fun o => HT.out.frozen o
          obtain ⟨m0, m1, m2, m3, m4⟩ := mk5S HB.out
          have mf := fun o => HB.out.frozen o
          have nb : ¬ b1 = b0 := by omega
          have nb2 : ¬ b0 = b1 := by omega
          go_wp2_with fail
          have hF := ((((((HB.out.far (p := ⟨b1, 4, none⟩) (by simp only; omega) (.int .i64 x8)).set 0 (.int .i64 id)).set 1 (.int .i64 x2)).set 2 (.int .i64 x3)).set 3 (.int .i64 x4)).set 4 (.int .i64 x8))
          have f0 := hF.cell 0; have f1 := hF.cell 1; have f2 := hF.cell 2; have f3 := hF.cell 3; have f4 := hF.cell 4
          simp at f0 f1 f2 f3 f4
          have hE := ((((((HD.out.set (b := b1) (by omega) (by omega) 4 (.int .i64 x8)).set (b := b0) (by omega) (by omega) 0 (.int .i64 id)).set (b := b0) (by omega) (by omega) 1 (.int .i64 x2)).set (b := b0) (by omega) (by omega) 2 (.int .i64 x3)).set (b := b0) (by omega) (by omega) 3 (.int .i64 x4)).set (b := b0) (by omega) (by omega) 4 (.int .i64 x8))
          exact bodyPost_ret (v := .agg #[.int .i64 id, .int .i64 x2, .int .i64 x3, .int .i64 x4, .int .i64 x8]) (by simp [results, Tryz.results82, go_sem, f0, f1, f2, f3, f4]) rfl ⟨⟨id, x2, x3, x4, x8⟩, rfl, (by refine ⟨⟨?_, ?_⟩, ⟨?_, ?_⟩, ⟨?_, ?_⟩, ⟨?_, ?_⟩, ⟨?_, ?_⟩⟩ <;> simp only <;> first | omega | assumption), ⟨(hE.le (by omega)).cur, grownTrans HD0.out.gr hE.gr, HD0.out.hb⟩, hE.gr⟩
        · skip
          obtain ⟨t0, t1, t2, t3, t4⟩ := mk5S HT.out
          have tf := fun o => HT.out.frozen o
          obtain ⟨m0, m1, m2, m3, m4⟩ := mk5S HB.out
          have mf := fun o => HB.out.frozen o
          have nb : ¬ b1 = b0 := by omega
          have nb2 : ¬ b0 = b1 := by omega
          go_wp2_with fail
          have hF := (((((HB.out.set 0 (.int .i64 id)).set 1 (.int .i64 x2)).set 2 (.int .i64 x3)).set 3 (.int .i64 x4)).set 4 (.int .i64 x5))
          have f0 := hF.cell 0; have f1 := hF.cell 1; have f2 := hF.cell 2; have f3 := hF.cell 3; have f4 := hF.cell 4
          simp at f0 f1 f2 f3 f4
          have hE := (((((HD.out.set (b := b0) (by omega) (by omega) 0 (.int .i64 id)).set (b := b0) (by omega) (by omega) 1 (.int .i64 x2)).set (b := b0) (by omega) (by omega) 2 (.int .i64 x3)).set (b := b0) (by omega) (by omega) 3 (.int .i64 x4)).set (b := b0) (by omega) (by omega) 4 (.int .i64 x5))
          exact bodyPost_ret (v := .agg #[.int .i64 id, .int .i64 x2, .int .i64 x3, .int .i64 x4, .int .i64 x5]) (by simp [results, Tryz.results82, go_sem, f0, f1, f2, f3, f4]) rfl ⟨⟨id, x2, x3, x4, x5⟩, rfl, (by refine ⟨⟨?_, ?_⟩, ⟨?_, ?_⟩, ⟨?_, ?_⟩, ⟨?_, ?_⟩, ⟨?_, ?_⟩⟩ <;> simp only <;> first | omega | assumption), ⟨(hE.le (by omega)).cur, grownTrans HD0.out.gr hE.gr, HD0.out.hb⟩, hE.gr⟩
end Go.Proofs.YtplemibckjnbhaaGreatDoor
