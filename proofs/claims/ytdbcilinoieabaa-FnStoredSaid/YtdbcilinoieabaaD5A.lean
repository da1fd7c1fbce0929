/- The drawing of a flat and of a drawer over a cursor. Condition: a cursor that has stepped less than 2^60 times. (Printed by mkflat5.py.) -/
import Derived.Test.YtdbcilinoieabaaDr
import Derived.Test.YtdbcilinoieabaaL5S
namespace Go.Proofs.Ytdbcilinoieabaa
open Go.RowKit
set_option linter.unusedVariables false
/-- the grams of a flat are small -/
def SFlat.Fit (z : SFlat) : Prop := -100000 ≤ z.grams ∧ z.grams ≤ 100000
set_option maxRecDepth 100000 in
set_option maxHeartbeats 1000000 in
theorem flat5_is (w0 w : World) (base g k : Nat) (A : Option Addr) (cap : Nat) (code : List Int) (hD : DS w0 base g A cap code k w) (id : Int) (hk : k + 30 < 2305843009213693952) :
    Calls Try.prog 124 #[.pointer (some ⟨g, 0, none⟩), .int .i64 id] w fun e w' => ∃ z : SFlat, e = .returned (.agg #[.int .i64 z.ident, .int .i64 z.wide, .int .i64 z.high, .int .i64 z.grams]) ∧ z.Fit ∧ DS w0 base g A cap code (k + 30) w' ∧ w.grownBy w' (some g) := by
  have hB := Blk.new w 68 #[.int .i64 0, .int .i64 0, .int .i64 0, .int .i64 0]
  have hD1 := (DS.start hD.cur hD.sz).alloc (.cells #[.int .i64 0, .int .i64 0, .int .i64 0, .int .i64 0] 68)
  have hgw := hD.lt
  have HD0 := hide hD
  have HD := hide hD1; have HB := hide hB; clear hD hD1 hB
  go_enter Try.func124, Try.ntmps124
  go_upto_region 1 with fail
  generalize hb0 : w.heap.size = b0 at *
  generalize w.alloc (.cells #[.int .i64 0, .int .i64 0, .int .i64 0, .int .i64 0] 68) = w1 at *
  go_wp2_with fail
  refine (amongD [10, 400, 500, 800, 2000] HD.out (by rfl) (by rfl) (by rfl) (by simp) (by simp) (by omega)).mono ?_; rintro e w2 ⟨x2, rfl, hm, hD, hg⟩
  replace HB := hide (HD.out.blk HB.out hg (by decide))
  replace HD := hide hD; clear hD hg
  have b2 := (by decide : ∀ x ∈ ([10, 400, 500, 800, 2000] : List Int), 10 ≤ x ∧ x ≤ 2000) _ hm; clear hm
  obtain ⟨f2a, f2b⟩ := b2
  go_wp2_with fail
  refine (amongD [10, 300, 500, 600, 2000] HD.out (by rfl) (by rfl) (by rfl) (by simp) (by simp) (by omega)).mono ?_; rintro e w3 ⟨x3, rfl, hm, hD, hg⟩
  replace HB := hide (HD.out.blk HB.out hg (by decide))
  replace HD := hide hD; clear hD hg
  have b3 := (by decide : ∀ x ∈ ([10, 300, 500, 600, 2000] : List Int), 10 ≤ x ∧ x ≤ 2000) _ hm; clear hm
  obtain ⟨f3a, f3b⟩ := b3
  go_wp2_with fail
  refine (amongD [1, 50, 60, 5000] HD.out (by rfl) (by rfl) (by rfl) (by simp) (by simp) (by omega)).mono ?_; rintro e w4 ⟨x4, rfl, hm, hD, hg⟩
  replace HB := hide (HD.out.blk HB.out hg (by decide))
  replace HD := hide hD; clear hD hg
  have b4 := (by decide : ∀ x ∈ ([1, 50, 60, 5000] : List Int), 1 ≤ x ∧ x ≤ 5000) _ hm; clear hm
  obtain ⟨f4a, f4b⟩ := b4
  have HT := hide (Blk.new w4 68 #[.int .i64 id, .int .i64 x2, .int .i64 x3, .int .i64 x4])
  have hwt : b0 < w4.heap.size := HB.out.lt
  go_upto_region 2 with fail
  replace HB := hide (HB.out.alloc (.cells #[.int .i64 id, .int .i64 x2, .int .i64 x3, .int .i64 x4] 68))
  replace HD := hide (HD.out.alloc (.cells #[.int .i64 id, .int .i64 x2, .int .i64 x3, .int .i64 x4] 68))
  generalize w4.alloc (.cells #[.int .i64 id, .int .i64 x2, .int .i64 x3, .int .i64 x4] 68) = w5 at *
  generalize hb1 : w4.heap.size = b1 at *
  go_wp2_with fail
  refine (pickD 120 HD.out (by omega)).mono ?_; rintro e w6 ⟨x6, rfl, p6, q6, hD, hg⟩
  replace HB := hide (HD.out.blk HB.out hg (by decide))
  replace HT := hide (HD.out.blk HT.out hg (by decide))
  replace HD := hide hD; clear hD hg
  by_cases z0 : x6 = 0
  · subst z0
    go_wp2_with fail
    refine (amongD [0, 999, 1000] HD.out (by rfl) (by rfl) (by rfl) (by simp) (by simp) (by omega)).mono ?_; rintro e w7 ⟨x7, rfl, hm, hD, hg⟩
    replace HB := hide (HD.out.blk HB.out hg (by decide))
    replace HT := hide (HD.out.blk HT.out hg (by decide))
    replace HD := hide hD; clear hD hg
    have b7 := (by decide : ∀ x ∈ ([0, 999, 1000] : List Int), 0 ≤ x ∧ x ≤ 1000) _ hm; clear hm
    obtain ⟨t0, t1, t2, t3⟩ := fl4 HT.out
    have tf := fun o => HT.out.frozen o
    obtain ⟨m0, m1, m2, m3⟩ := fl4 HB.out
    have mf := fun o => HB.out.frozen o
    have nb : ¬ b1 = b0 := by omega
    have nb2 : ¬ b0 = b1 := by omega
    go_wp2_with fail
    have hF := (((((HB.out.far (p := ⟨b1, 0, none⟩) (by simp only; omega) (.int .i64 x7)).set 0 (.int .i64 x7)).set 1 (.int .i64 x2)).set 2 (.int .i64 x3)).set 3 (.int .i64 x4))
    have f0 := hF.cell 0; have f1 := hF.cell 1; have f2 := hF.cell 2; have f3 := hF.cell 3
    simp at f0 f1 f2 f3
    have hE := (((((HD.out.set (b := b1) (by omega) (by omega) 0 (.int .i64 x7)).set (b := b0) (by omega) (by omega) 0 (.int .i64 x7)).set (b := b0) (by omega) (by omega) 1 (.int .i64 x2)).set (b := b0) (by omega) (by omega) 2 (.int .i64 x3)).set (b := b0) (by omega) (by omega) 3 (.int .i64 x4))
    exact bodyPost_ret (v := .agg #[.int .i64 x7, .int .i64 x2, .int .i64 x3, .int .i64 x4]) (by simp [results, Try.results124, go_sem, f0, f1, f2, f3]) rfl ⟨⟨x7, x2, x3, x4⟩, rfl, ⟨by simp only; omega, by simp only; omega⟩, ⟨(hE.le (by omega)).cur, grownTrans HD0.out.gr hE.gr, HD0.out.hb⟩, hE.gr⟩
  · by_cases z1 : x6 = 1
    · subst z1
      go_wp2_with fail
      refine (amongD [9, 2001] HD.out (by rfl) (by rfl) (by rfl) (by simp) (by simp) (by omega)).mono ?_; rintro e w7 ⟨x7, rfl, hm, hD, hg⟩
      replace HB := hide (HD.out.blk HB.out hg (by decide))
      replace HT := hide (HD.out.blk HT.out hg (by decide))
      replace HD := hide hD; clear hD hg
      have b7 := (by decide : ∀ x ∈ ([9, 2001] : List Int), 9 ≤ x ∧ x ≤ 2001) _ hm; clear hm
      obtain ⟨t0, t1, t2, t3⟩ := fl4 HT.out
      have tf := fun o => HT.out.frozen o
      obtain ⟨m0, m1, m2, m3⟩ := fl4 HB.out
      have mf := fun o => HB.out.frozen o
      have nb : ¬ b1 = b0 := by omega
      have nb2 : ¬ b0 = b1 := by omega
      go_wp2_with fail
      have hF := (((((HB.out.far (p := ⟨b1, 1, none⟩) (by simp only; omega) (.int .i64 x7)).set 0 (.int .i64 id)).set 1 (.int .i64 x7)).set 2 (.int .i64 x3)).set 3 (.int .i64 x4))
      have f0 := hF.cell 0; have f1 := hF.cell 1; have f2 := hF.cell 2; have f3 := hF.cell 3
      simp at f0 f1 f2 f3
      have hE := (((((HD.out.set (b := b1) (by omega) (by omega) 1 (.int .i64 x7)).set (b := b0) (by omega) (by omega) 0 (.int .i64 id)).set (b := b0) (by omega) (by omega) 1 (.int .i64 x7)).set (b := b0) (by omega) (by omega) 2 (.int .i64 x3)).set (b := b0) (by omega) (by omega) 3 (.int .i64 x4))
      exact bodyPost_ret (v := .agg #[.int .i64 id, .int .i64 x7, .int .i64 x3, .int .i64 x4]) (by simp [results, Try.results124, go_sem, f0, f1, f2, f3]) rfl ⟨⟨id, x7, x3, x4⟩, rfl, ⟨by simp only; omega, by simp only; omega⟩, ⟨(hE.le (by omega)).cur, grownTrans HD0.out.gr hE.gr, HD0.out.hb⟩, hE.gr⟩
    · by_cases z2 : x6 = 2
      · subst z2
        go_wp2_with fail
        refine (amongD [9, 2001] HD.out (by rfl) (by rfl) (by rfl) (by simp) (by simp) (by omega)).mono ?_; rintro e w7 ⟨x7, rfl, hm, hD, hg⟩
        replace HB := hide (HD.out.blk HB.out hg (by decide))
        replace HT := hide (HD.out.blk HT.out hg (by decide))
        replace HD := hide hD; clear hD hg
        have b7 := (by decide : ∀ x ∈ ([9, 2001] : List Int), 9 ≤ x ∧ x ≤ 2001) _ hm; clear hm
        obtain ⟨t0, t1, t2, t3⟩ := fl4 HT.out
        have tf := fun o => HT.out.frozen o
        obtain ⟨m0, m1, m2, m3⟩ := fl4 HB.out
        have mf := fun o => HB.out.frozen o
        have nb : ¬ b1 = b0 := by omega
        have nb2 : ¬ b0 = b1 := by omega
        go_wp2_with fail
        have hF := (((((HB.out.far (p := ⟨b1, 2, none⟩) (by simp only; omega) (.int .i64 x7)).set 0 (.int .i64 id)).set 1 (.int .i64 x2)).set 2 (.int .i64 x7)).set 3 (.int .i64 x4))
        have f0 := hF.cell 0; have f1 := hF.cell 1; have f2 := hF.cell 2; have f3 := hF.cell 3
        simp at f0 f1 f2 f3
        have hE := (((((HD.out.set (b := b1) (by omega) (by omega) 2 (.int .i64 x7)).set (b := b0) (by omega) (by omega) 0 (.int .i64 id)).set (b := b0) (by omega) (by omega) 1 (.int .i64 x2)).set (b := b0) (by omega) (by omega) 2 (.int .i64 x7)).set (b := b0) (by omega) (by omega) 3 (.int .i64 x4))
        exact bodyPost_ret (v := .agg #[.int .i64 id, .int .i64 x2, .int .i64 x7, .int .i64 x4]) (by simp [results, Try.results124, go_sem, f0, f1, f2, f3]) rfl ⟨⟨id, x2, x7, x4⟩, rfl, ⟨by simp only; omega, by simp only; omega⟩, ⟨(hE.le (by omega)).cur, grownTrans HD0.out.gr hE.gr, HD0.out.hb⟩, hE.gr⟩
      · by_cases z3 : x6 = 3
        · subst z3
          go_wp2_with fail
          refine (amongD [0, 5001] HD.out (by rfl) (by rfl) (by rfl) (by simp) (by simp) (by omega)).mono ?_; rintro e w7 ⟨x7, rfl, hm, hD, hg⟩
          replace HB := hide (HD.out.blk HB.out hg (by decide))
          replace HT := hide (HD.out.blk HT.out hg (by decide))
          replace HD := hide hD; clear hD hg
          have b7 := (by decide : ∀ x ∈ ([0, 5001] : List Int), 0 ≤ x ∧ x ≤ 5001) _ hm; clear hm
          obtain ⟨t0, t1, t2, t3⟩ := fl4 HT.out
          have tf := fun o => HT.out.frozen o
          obtain ⟨m0, m1, m2, m3⟩ := fl4 HB.out
          have mf := fun o => HB.out.frozen o
          have nb : ¬ b1 = b0 := by omega
          have nb2 : ¬ b0 = b1 := by omega
          go_wp2_with fail
          have hF := (((((HB.out.far (p := ⟨b1, 3, none⟩) (by simp only; omega) (.int .i64 x7)).set 0 (.int .i64 id)).set 1 (.int .i64 x2)).set 2 (.int .i64 x3)).set 3 (.int .i64 x7))
          have f0 := hF.cell 0; have f1 := hF.cell 1; have f2 := hF.cell 2; have f3 := hF.cell 3
          simp at f0 f1 f2 f3
          have hE := (((((HD.out.set (b := b1) (by omega) (by omega) 3 (.int .i64 x7)).set (b := b0) (by omega) (by omega) 0 (.int .i64 id)).set (b := b0) (by omega) (by omega) 1 (.int .i64 x2)).set (b := b0) (by omega) (by omega) 2 (.int .i64 x3)).set (b := b0) (by omega) (by omega) 3 (.int .i64 x7))
          exact bodyPost_ret (v := .agg #[.int .i64 id, .int .i64 x2, .int .i64 x3, .int .i64 x7]) (by simp [results, Try.results124, go_sem, f0, f1, f2, f3]) rfl ⟨⟨id, x2, x3, x7⟩, rfl, ⟨by simp only; omega, by simp only; omega⟩, ⟨(hE.le (by omega)).cur, grownTrans HD0.out.gr hE.gr, HD0.out.hb⟩, hE.gr⟩
        · skip
          obtain ⟨t0, t1, t2, t3⟩ := fl4 HT.out
          have tf := fun o => HT.out.frozen o
          obtain ⟨m0, m1, m2, m3⟩ := fl4 HB.out
          have mf := fun o => HB.out.frozen o
          have nb : ¬ b1 = b0 := by omega
          have nb2 : ¬ b0 = b1 := by omega
          go_wp2_with fail
          have hF := ((((HB.out.set 0 (.int .i64 id)).set 1 (.int .i64 x2)).set 2 (.int .i64 x3)).set 3 (.int .i64 x4))
          have f0 := hF.cell 0; have f1 := hF.cell 1; have f2 := hF.cell 2; have f3 := hF.cell 3
          simp at f0 f1 f2 f3
          have hE := ((((HD.out.set (b := b0) (by omega) (by omega) 0 (.int .i64 id)).set (b := b0) (by omega) (by omega) 1 (.int .i64 x2)).set (b := b0) (by omega) (by omega) 2 (.int .i64 x3)).set (b := b0) (by omega) (by omega) 3 (.int .i64 x4))
          exact bodyPost_ret (v := .agg #[.int .i64 id, .int .i64 x2, .int .i64 x3, .int .i64 x4]) (by simp [results, Try.results124, go_sem, f0, f1, f2, f3]) rfl ⟨⟨id, x2, x3, x4⟩, rfl, ⟨by simp only; omega, by simp only; omega⟩, ⟨(hE.le (by omega)).cur, grownTrans HD0.out.gr hE.gr, HD0.out.hb⟩, hE.gr⟩
set_option maxRecDepth 100000 in
set_option maxHeartbeats 1000000 in
theorem drawer5_is (w0 w : World) (base g k : Nat) (A : Option Addr) (cap : Nat) (code : List Int) (hD : DS w0 base g A cap code k w) (id : Int) (hk : k + 30 < 2305843009213693952) :
    Calls Try.prog 125 #[.pointer (some ⟨g, 0, none⟩), .int .i64 id] w fun e w' => ∃ d0 d1 d2 d3 : Int, e = .returned (.agg #[.int .i64 d0, .int .i64 d1, .int .i64 d2, .int .i64 d3, .slice none 0 0]) ∧ DS w0 base g A cap code (k + 30) w' ∧ w.grownBy w' (some g) := by
  have hB := Blk.new w 70 #[.int .i64 0, .int .i64 0, .int .i64 0, .int .i64 0, .slice none 0 0]
  have hD1 := (DS.start hD.cur hD.sz).alloc (.cells #[.int .i64 0, .int .i64 0, .int .i64 0, .int .i64 0, .slice none 0 0] 70)
  have hgw := hD.lt
  have HD0 := hide hD
  have HD := hide hD1; have HB := hide hB; clear hD hD1 hB
  go_enter Try.func125, Try.ntmps125
  go_upto_region 1 with fail
  generalize hb0 : w.heap.size = b0 at *
  generalize w.alloc (.cells #[.int .i64 0, .int .i64 0, .int .i64 0, .int .i64 0, .slice none 0 0] 70) = w1 at *
  go_wp2_with fail
  refine (amongD [500, 600, 800, 2000] HD.out (by rfl) (by rfl) (by rfl) (by simp) (by simp) (by omega)).mono ?_; rintro e w2 ⟨x2, rfl, hm, hD, hg⟩
  replace HB := hide (HD.out.blk HB.out hg (by decide))
  replace HD := hide hD; clear hD hg
  have b2 := (by decide : ∀ x ∈ ([500, 600, 800, 2000] : List Int), 500 ≤ x ∧ x ≤ 2000) _ hm; clear hm
  obtain ⟨f2a, f2b⟩ := b2
  go_wp2_with fail
  refine (amongD [400, 500, 600, 2000] HD.out (by rfl) (by rfl) (by rfl) (by simp) (by simp) (by omega)).mono ?_; rintro e w3 ⟨x3, rfl, hm, hD, hg⟩
  replace HB := hide (HD.out.blk HB.out hg (by decide))
  replace HD := hide hD; clear hD hg
  have b3 := (by decide : ∀ x ∈ ([400, 500, 600, 2000] : List Int), 400 ≤ x ∧ x ≤ 2000) _ hm; clear hm
  obtain ⟨f3a, f3b⟩ := b3
  go_wp2_with fail
  refine (amongD [100, 110, 5000, 50000] HD.out (by rfl) (by rfl) (by rfl) (by simp) (by simp) (by omega)).mono ?_; rintro e w4 ⟨x4, rfl, hm, hD, hg⟩
  replace HB := hide (HD.out.blk HB.out hg (by decide))
  replace HD := hide hD; clear hD hg
  have b4 := (by decide : ∀ x ∈ ([100, 110, 5000, 50000] : List Int), 100 ≤ x ∧ x ≤ 50000) _ hm; clear hm
  obtain ⟨f4a, f4b⟩ := b4
  have HT := hide (Blk.new w4 70 #[.int .i64 id, .int .i64 x2, .int .i64 x3, .int .i64 x4, .slice none 0 0])
  have hwt : b0 < w4.heap.size := HB.out.lt
  go_upto_region 2 with fail
  replace HB := hide (HB.out.alloc (.cells #[.int .i64 id, .int .i64 x2, .int .i64 x3, .int .i64 x4, .slice none 0 0] 70))
  replace HD := hide (HD.out.alloc (.cells #[.int .i64 id, .int .i64 x2, .int .i64 x3, .int .i64 x4, .slice none 0 0] 70))
  generalize w4.alloc (.cells #[.int .i64 id, .int .i64 x2, .int .i64 x3, .int .i64 x4, .slice none 0 0] 70) = w5 at *
  generalize hb1 : w4.heap.size = b1 at *
  go_wp2_with fail
  refine (pickD 120 HD.out (by omega)).mono ?_; rintro e w6 ⟨x6, rfl, p6, q6, hD, hg⟩
  replace HB := hide (HD.out.blk HB.out hg (by decide))
  replace HT := hide (HD.out.blk HT.out hg (by decide))
  replace HD := hide hD; clear hD hg
  by_cases z0 : x6 = 0
  · subst z0
    go_wp2_with fail
    refine (amongD [0, 99, 100] HD.out (by rfl) (by rfl) (by rfl) (by simp) (by simp) (by omega)).mono ?_; rintro e w7 ⟨x7, rfl, hm, hD, hg⟩
    replace HB := hide (HD.out.blk HB.out hg (by decide))
    replace HT := hide (HD.out.blk HT.out hg (by decide))
    replace HD := hide hD; clear hD hg
    have b7 := (by decide : ∀ x ∈ ([0, 99, 100] : List Int), 0 ≤ x ∧ x ≤ 100) _ hm; clear hm
    obtain ⟨t0, t1, t2, t3, t4⟩ := dr5 HT.out
    have tf := fun o => HT.out.frozen o
    obtain ⟨m0, m1, m2, m3, m4⟩ := dr5 HB.out
    have mf := fun o => HB.out.frozen o
    have nb : ¬ b1 = b0 := by omega
    have nb2 : ¬ b0 = b1 := by omega
    go_wp2_with fail
    have hF := ((((((HB.out.far (p := ⟨b1, 0, none⟩) (by simp only; omega) (.int .i64 x7)).set 0 (.int .i64 x7)).set 1 (.int .i64 x2)).set 2 (.int .i64 x3)).set 3 (.int .i64 x4)).set 4 (.slice none 0 0))
    have f0 := hF.cell 0; have f1 := hF.cell 1; have f2 := hF.cell 2; have f3 := hF.cell 3; have f4 := hF.cell 4
    simp at f0 f1 f2 f3 f4
    have hE := ((((((HD.out.set (b := b1) (by omega) (by omega) 0 (.int .i64 x7)).set (b := b0) (by omega) (by omega) 0 (.int .i64 x7)).set (b := b0) (by omega) (by omega) 1 (.int .i64 x2)).set (b := b0) (by omega) (by omega) 2 (.int .i64 x3)).set (b := b0) (by omega) (by omega) 3 (.int .i64 x4)).set (b := b0) (by omega) (by omega) 4 (.slice none 0 0))
    exact bodyPost_ret (v := .agg #[.int .i64 x7, .int .i64 x2, .int .i64 x3, .int .i64 x4, .slice none 0 0]) (by simp [results, Try.results125, go_sem, f0, f1, f2, f3, f4]) rfl ⟨x7, x2, x3, x4, rfl, ⟨(hE.le (by omega)).cur, grownTrans HD0.out.gr hE.gr, HD0.out.hb⟩, hE.gr⟩
  · by_cases z1 : x6 = 1
    · subst z1
      go_wp2_with fail
      refine (amongD [99, 2001] HD.out (by rfl) (by rfl) (by rfl) (by simp) (by simp) (by omega)).mono ?_; rintro e w7 ⟨x7, rfl, hm, hD, hg⟩
      replace HB := hide (HD.out.blk HB.out hg (by decide))
      replace HT := hide (HD.out.blk HT.out hg (by decide))
      replace HD := hide hD; clear hD hg
      have b7 := (by decide : ∀ x ∈ ([99, 2001] : List Int), 99 ≤ x ∧ x ≤ 2001) _ hm; clear hm
      obtain ⟨t0, t1, t2, t3, t4⟩ := dr5 HT.out
      have tf := fun o => HT.out.frozen o
      obtain ⟨m0, m1, m2, m3, m4⟩ := dr5 HB.out
      have mf := fun o => HB.out.frozen o
      have nb : ¬ b1 = b0 := by omega
      have nb2 : ¬ b0 = b1 := by omega
      go_wp2_with fail
      have hF := ((((((HB.out.far (p := ⟨b1, 1, none⟩) (by simp only; omega) (.int .i64 x7)).set 0 (.int .i64 id)).set 1 (.int .i64 x7)).set 2 (.int .i64 x3)).set 3 (.int .i64 x4)).set 4 (.slice none 0 0))
      have f0 := hF.cell 0; have f1 := hF.cell 1; have f2 := hF.cell 2; have f3 := hF.cell 3; have f4 := hF.cell 4
      simp at f0 f1 f2 f3 f4
      have hE := ((((((HD.out.set (b := b1) (by omega) (by omega) 1 (.int .i64 x7)).set (b := b0) (by omega) (by omega) 0 (.int .i64 id)).set (b := b0) (by omega) (by omega) 1 (.int .i64 x7)).set (b := b0) (by omega) (by omega) 2 (.int .i64 x3)).set (b := b0) (by omega) (by omega) 3 (.int .i64 x4)).set (b := b0) (by omega) (by omega) 4 (.slice none 0 0))
      exact bodyPost_ret (v := .agg #[.int .i64 id, .int .i64 x7, .int .i64 x3, .int .i64 x4, .slice none 0 0]) (by simp [results, Try.results125, go_sem, f0, f1, f2, f3, f4]) rfl ⟨id, x7, x3, x4, rfl, ⟨(hE.le (by omega)).cur, grownTrans HD0.out.gr hE.gr, HD0.out.hb⟩, hE.gr⟩
    · by_cases z2 : x6 = 2
      · subst z2
        go_wp2_with fail
        refine (amongD [99, 2001] HD.out (by rfl) (by rfl) (by rfl) (by simp) (by simp) (by omega)).mono ?_; rintro e w7 ⟨x7, rfl, hm, hD, hg⟩
        replace HB := hide (HD.out.blk HB.out hg (by decide))
        replace HT := hide (HD.out.blk HT.out hg (by decide))
        replace HD := hide hD; clear hD hg
        have b7 := (by decide : ∀ x ∈ ([99, 2001] : List Int), 99 ≤ x ∧ x ≤ 2001) _ hm; clear hm
        obtain ⟨t0, t1, t2, t3, t4⟩ := dr5 HT.out
        have tf := fun o => HT.out.frozen o
        obtain ⟨m0, m1, m2, m3, m4⟩ := dr5 HB.out
        have mf := fun o => HB.out.frozen o
        have nb : ¬ b1 = b0 := by omega
        have nb2 : ¬ b0 = b1 := by omega
        go_wp2_with fail
        have hF := ((((((HB.out.far (p := ⟨b1, 2, none⟩) (by simp only; omega) (.int .i64 x7)).set 0 (.int .i64 id)).set 1 (.int .i64 x2)).set 2 (.int .i64 x7)).set 3 (.int .i64 x4)).set 4 (.slice none 0 0))
        have f0 := hF.cell 0; have f1 := hF.cell 1; have f2 := hF.cell 2; have f3 := hF.cell 3; have f4 := hF.cell 4
        simp at f0 f1 f2 f3 f4
        have hE := ((((((HD.out.set (b := b1) (by omega) (by omega) 2 (.int .i64 x7)).set (b := b0) (by omega) (by omega) 0 (.int .i64 id)).set (b := b0) (by omega) (by omega) 1 (.int .i64 x2)).set (b := b0) (by omega) (by omega) 2 (.int .i64 x7)).set (b := b0) (by omega) (by omega) 3 (.int .i64 x4)).set (b := b0) (by omega) (by omega) 4 (.slice none 0 0))
        exact bodyPost_ret (v := .agg #[.int .i64 id, .int .i64 x2, .int .i64 x7, .int .i64 x4, .slice none 0 0]) (by simp [results, Try.results125, go_sem, f0, f1, f2, f3, f4]) rfl ⟨id, x2, x7, x4, rfl, ⟨(hE.le (by omega)).cur, grownTrans HD0.out.gr hE.gr, HD0.out.hb⟩, hE.gr⟩
      · by_cases z3 : x6 = 3
        · subst z3
          go_wp2_with fail
          refine (amongD [99, 50001] HD.out (by rfl) (by rfl) (by rfl) (by simp) (by simp) (by omega)).mono ?_; rintro e w7 ⟨x7, rfl, hm, hD, hg⟩
          replace HB := hide (HD.out.blk HB.out hg (by decide))
          replace HT := hide (HD.out.blk HT.out hg (by decide))
          replace HD := hide hD; clear hD hg
          have b7 := (by decide : ∀ x ∈ ([99, 50001] : List Int), 99 ≤ x ∧ x ≤ 50001) _ hm; clear hm
          obtain ⟨t0, t1, t2, t3, t4⟩ := dr5 HT.out
          have tf := fun o => HT.out.frozen o
          obtain ⟨m0, m1, m2, m3, m4⟩ := dr5 HB.out
          have mf := fun o => HB.out.frozen o
          have nb : ¬ b1 = b0 := by omega
          have nb2 : ¬ b0 = b1 := by omega
          go_wp2_with fail
          have hF := ((((((HB.out.far (p := ⟨b1, 3, none⟩) (by simp only; omega) (.int .i64 x7)).set 0 (.int .i64 id)).set 1 (.int .i64 x2)).set 2 (.int .i64 x3)).set 3 (.int .i64 x7)).set 4 (.slice none 0 0))
          have f0 := hF.cell 0; have f1 := hF.cell 1; have f2 := hF.cell 2; have f3 := hF.cell 3; have f4 := hF.cell 4
          simp at f0 f1 f2 f3 f4
          have hE := ((((((HD.out.set (b := b1) (by omega) (by omega) 3 (.int .i64 x7)).set (b := b0) (by omega) (by omega) 0 (.int .i64 id)).set (b := b0) (by omega) (by omega) 1 (.int .i64 x2)).set (b := b0) (by omega) (by omega) 2 (.int .i64 x3)).set (b := b0) (by omega) (by omega) 3 (.int .i64 x7)).set (b := b0) (by omega) (by omega) 4 (.slice none 0 0))
          exact bodyPost_ret (v := .agg #[.int .i64 id, .int .i64 x2, .int .i64 x3, .int .i64 x7, .slice none 0 0]) (by simp [results, Try.results125, go_sem, f0, f1, f2, f3, f4]) rfl ⟨id, x2, x3, x7, rfl, ⟨(hE.le (by omega)).cur, grownTrans HD0.out.gr hE.gr, HD0.out.hb⟩, hE.gr⟩
        · skip
          obtain ⟨t0, t1, t2, t3, t4⟩ := dr5 HT.out
          have tf := fun o => HT.out.frozen o
          obtain ⟨m0, m1, m2, m3, m4⟩ := dr5 HB.out
          have mf := fun o => HB.out.frozen o
          have nb : ¬ b1 = b0 := by omega
          have nb2 : ¬ b0 = b1 := by omega
          go_wp2_with fail
          have hF := (((((HB.out.set 0 (.int .i64 id)).set 1 (.int .i64 x2)).set 2 (.int .i64 x3)).set 3 (.int .i64 x4)).set 4 (.slice none 0 0))
          have f0 := hF.cell 0; have f1 := hF.cell 1; have f2 := hF.cell 2; have f3 := hF.cell 3; have f4 := hF.cell 4
          simp at f0 f1 f2 f3 f4
          have hE := (((((HD.out.set (b := b0) (by omega) (by omega) 0 (.int .i64 id)).set (b := b0) (by omega) (by omega) 1 (.int .i64 x2)).set (b := b0) (by omega) (by omega) 2 (.int .i64 x3)).set (b := b0) (by omega) (by omega) 3 (.int .i64 x4)).set (b := b0) (by omega) (by omega) 4 (.slice none 0 0))
          exact bodyPost_ret (v := .agg #[.int .i64 id, .int .i64 x2, .int .i64 x3, .int .i64 x4, .slice none 0 0]) (by simp [results, Try.results125, go_sem, f0, f1, f2, f3, f4]) rfl ⟨id, x2, x3, x4, rfl, ⟨(hE.le (by omega)).cur, grownTrans HD0.out.gr hE.gr, HD0.out.hb⟩, hE.gr⟩
end Go.Proofs.Ytdbcilinoieabaa
