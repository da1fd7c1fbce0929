import Derived.Test.YtplemibckjnbhaaGreatDoorDr
import Derived.Test.YtplemibckjnbhaaGreatDoorL3C
/- The drawing of a reader over a cursor: one whose numbers and name are small. Condition: a cursor that has stepped less than 2^60 times. (Printed by mkreader3.py.) -/
namespace Go.Proofs.YtplemibckjnbhaaGreatDoor
open Go.RowKit
set_option linter.unusedVariables false
/-- numbers and name of a reader are small -/
def SReader.Fit (z : SReader) : Prop := (-100000 ≤ z.ident ∧ z.ident ≤ 100000) ∧ (-100000 ≤ z.joined ∧ z.joined ≤ 100000) ∧ (-100000 ≤ z.cls ∧ z.cls ≤ 100000) ∧ (-100000 ≤ z.fines ∧ z.fines ≤ 100000) ∧ z.name.size ≤ 20
theorem lit64 {x : Int} (h : -100000 ≤ x ∧ x ≤ 100000) : (Lit.int .i64 x).wf = true := by
  simp [Lit.wf, IntKind.min, IntKind.max, IntKind.signed, IntKind.bits]; omega
theorem SReader.Fit.wf {z : SReader} (h : z.Fit) : z.wf := by
  unfold SReader.wf
  exact ⟨lit64 h.1, by simp only [maxLen]; have := h.2.2.2.2; omega, lit64 h.2.1, lit64 h.2.2.1, lit64 h.2.2.2.1⟩
theorem mk5 {w : World} {g : Nat} {t : TypeId} {a b c d e : Value} (h : Blk w g t #[a, b, c, d, e]) : w.cell? ⟨g, 0, none⟩ = some a ∧ w.cell? ⟨g, 1, none⟩ = some b ∧ w.cell? ⟨g, 2, none⟩ = some c ∧ w.cell? ⟨g, 3, none⟩ = some d ∧ w.cell? ⟨g, 4, none⟩ = some e :=
  ⟨by rw [h.cell]; rfl, by rw [h.cell]; rfl, by rw [h.cell]; rfl, by rw [h.cell]; rfl, by rw [h.cell]; rfl⟩
/-- one of the strings of a list that the text lays there -/
theorem ofD {w0 w : World} {base g : Nat} {A : Option Addr} {cap : Nat} {code : List Int} {k : Nat} (l : List ByteArray) {n m : Nat} {cs : Array Value} (h : DS w0 base g A cap code k w) (hcs : cs = (l.map Value.string).toArray) (hn : n = l.length) (hm : m = l.length) (h1 : 1 ≤ l.length) (h2 : l.length ≤ 1000) (hk : k + 2 < 2305843009213693952) :
    Calls Tryz.prog 118 #[.pointer (some ⟨g, 0, none⟩), .slice (some ⟨w.heap.size, 0, none⟩) n m] (w.alloc (.cells cs 9)) fun e w' => ∃ x : ByteArray, e = .returned (.string x) ∧ x ∈ l ∧ DS w0 base g A cap code (k + 2) w' ∧ w.grownBy w' (some g) := by
  subst hcs hn hm
  have HD := hide (h.alloc (.cells (l.map Value.string).toArray 9))
  have HB := hide (Blk.new w 9 (l.map Value.string).toArray)
  generalize hb0 : w.heap.size = b0 at *
  have hgw := World.grownBy_alloc w (.cells (l.map Value.string).toArray 9) (some g)
  have HGW := hide hgw; clear hgw h
  go_enter Tryz.func118, Tryz.ntmps118
  go_wp2_with fail
  refine (pickD (l.length : Int) HD.out (by omega)).mono ?_; rintro e w1 ⟨x, rfl, hx0, hx1, hD, hg⟩
  obtain ⟨q, rfl⟩ : ∃ q : Nat, x = (q : Int) := ⟨x.toNat, by omega⟩
  have hq : q < l.length := by omega
  have hq' : (q : Int) < l.length := by omega
  have hblk := HD.out.blk HB.out hg (by decide)
  have hcell : w1.cell? ⟨b0, q, none⟩ = some (.string l[q]) := by rw [hblk.cell]; simp [hq]
  have hmem : l[q] ∈ l := List.getElem_mem hq
  generalize l[q] = y at *
  have HD1 := hide hD; have HM := hide hmem; have HG := hide (grownTrans HGW.out hg); clear hD hmem hblk hg
  go_wp2_with fail
  go_ret
  exact ⟨y, rfl, HM.out, HD1.out, HG.out⟩
set_option maxRecDepth 100000 in
set_option maxHeartbeats 1000000 in
theorem reader_is (w0 w : World) (base g k : Nat) (A : Option Addr) (cap : Nat) (code : List Int) (hD : DS w0 base g A cap code k w) (id : Int) (hid : -1000 ≤ id ∧ id ≤ 1000) (hk : k + 30 < 2305843009213693952) :
    Calls Tryz.prog 95 #[.pointer (some ⟨g, 0, none⟩), .int .i64 id] w fun e w' => ∃ z : SReader, e = .returned (.agg #[.int .i64 z.ident, .string z.name, .int .i64 z.joined, .int .i64 z.cls, .int .i64 z.fines]) ∧ z.Fit ∧ DS w0 base g A cap code (k + 30) w' ∧ w.grownBy w' (some g) := by
  have hB := Blk.new w 25 #[.int .i64 0, .string ⟨#[]⟩, .int .i64 0, .int .i64 0, .int .i64 0]
  have hD1 := (DS.start hD.cur hD.sz).alloc (.cells #[.int .i64 0, .string ⟨#[]⟩, .int .i64 0, .int .i64 0, .int .i64 0] 25)
  have hgw := hD.lt
  have HD0 := hide hD
  have HD := hide hD1; have HB := hide hB; clear hD hD1 hB
  obtain ⟨hid0, hid1⟩ := hid
  go_enter Tryz.func95, Tryz.ntmps95
  go_upto_region 1 with fail
  generalize hb0 : w.heap.size = b0 at *
  generalize w.alloc (.cells #[.int .i64 0, .string ⟨#[]⟩, .int .i64 0, .int .i64 0, .int .i64 0] 25) = w1 at *
  go_wp2_with fail
  refine (ofD [⟨#[97, 110, 110, 97]⟩, ⟨#[98, 111]⟩, ⟨#[99, 97, 114, 108]⟩, ⟨#[100, 111, 114, 97]⟩] HD.out (by rfl) (by rfl) (by rfl) (by simp) (by simp) (by omega)).mono ?_; rintro e w2 ⟨s2, rfl, hm, hD, hg⟩
  replace HB := hide (HD.out.blk HB.out hg (by decide))
  replace HD := hide hD; clear hD hg
  have n2 : s2.size ≤ 20 := by simp only [List.mem_cons, List.not_mem_nil, or_false] at hm; rcases hm with rfl | rfl | rfl | rfl <;> decide
  clear hm
  go_wp2_with fail
  refine (amongD [0, 100, 366, 4000] HD.out (by rfl) (by rfl) (by rfl) (by simp) (by simp) (by omega)).mono ?_; rintro e w3 ⟨x3, rfl, hm, hD, hg⟩
  replace HB := hide (HD.out.blk HB.out hg (by decide))
  replace HD := hide hD; clear hD hg
  have b3 := (by decide : ∀ x ∈ ([0, 100, 366, 4000] : List Int), 0 ≤ x ∧ x ≤ 4000) _ hm; clear hm
  obtain ⟨f0, f1⟩ := b3
  go_wp2_with fail
  refine (pickD 3 HD.out (by omega)).mono ?_; rintro e w4 ⟨x4, rfl, p4, q4, hD, hg⟩
  replace HB := hide (HD.out.blk HB.out hg (by decide))
  replace HD := hide hD; clear hD hg
  obtain ⟨cl, hcl⟩ : ∃ y : Int, 1 + x4 = y := ⟨_, rfl⟩
  go_wp2_with fail
  refine (amongD [0, 0, 0, 499, 500, 10000] HD.out (by rfl) (by rfl) (by rfl) (by simp) (by simp) (by omega)).mono ?_; rintro e w5 ⟨x5, rfl, hm, hD, hg⟩
  replace HB := hide (HD.out.blk HB.out hg (by decide))
  replace HD := hide hD; clear hD hg
  have b5 := (by decide : ∀ x ∈ ([0, 0, 0, 499, 500, 10000] : List Int), 0 ≤ x ∧ x ≤ 10000) _ hm; clear hm
  obtain ⟨g0, g1⟩ := b5
  have HT := hide (Blk.new w5 25 #[.int .i64 id, .string s2, .int .i64 x3, .int .i64 cl, .int .i64 x5])
  have hwt : b0 < w5.heap.size := HB.out.lt
  go_upto_region 2 with fail
  replace HB := hide (HB.out.alloc (.cells #[.int .i64 id, .string s2, .int .i64 x3, .int .i64 cl, .int .i64 x5] 25))
  replace HD := hide (HD.out.alloc (.cells #[.int .i64 id, .string s2, .int .i64 x3, .int .i64 cl, .int .i64 x5] 25))
  generalize w5.alloc (.cells #[.int .i64 id, .string s2, .int .i64 x3, .int .i64 cl, .int .i64 x5] 25) = w6 at *
  generalize hb1 : w5.heap.size = b1 at *
  go_wp2_with fail
  refine (pickD 80 HD.out (by omega)).mono ?_; rintro e w7 ⟨x7, rfl, p7, q7, hD, hg⟩
  replace HB := hide (HD.out.blk HB.out hg (by decide))
  replace HT := hide (HD.out.blk HT.out hg (by decide))
  replace HD := hide hD; clear hD hg
  by_cases z0 : x7 = 0
  · subst z0
    go_wp2_with fail
    refine (amongD [0, 999, 1000] HD.out (by rfl) (by rfl) (by rfl) (by simp) (by simp) (by omega)).mono ?_; rintro e w8 ⟨x8, rfl, hm, hD, hg⟩
    replace HB := hide (HD.out.blk HB.out hg (by decide))
    replace HT := hide (HD.out.blk HT.out hg (by decide))
    replace HD := hide hD; clear hD hg
    have b8 := (by decide : ∀ x ∈ ([0, 999, 1000] : List Int), 0 ≤ x ∧ x ≤ 1000) _ hm; clear hm
    have hb9 : -100000 ≤ x8 ∧ x8 ≤ 100000 := by omega
    obtain ⟨t0, t1, t2, t3, t4⟩ := mk5 HT.out
    have tf := fun o => HT.out.frozen o
    obtain ⟨m0, m1, m2, m3, m4⟩ := mk5 HB.out
    have mf := fun o => HB.out.frozen o
    have nb : ¬ b1 = b0 := by omega
    have nb2 : ¬ b0 = b1 := by omega
    go_wp2_with fail
    have hF := ((((((HB.out.far (p := ⟨b1, 0, none⟩) (by simp only; omega) (.int .i64 x8)).set 0 (.int .i64 x8)).set 1 (.string s2)).set 2 (.int .i64 x3)).set 3 (.int .i64 cl)).set 4 (.int .i64 x5))
    have f0 := hF.cell 0; have f1 := hF.cell 1; have f2 := hF.cell 2; have f3 := hF.cell 3; have f4 := hF.cell 4
    simp at f0 f1 f2 f3 f4
    have hE := ((((((HD.out.set (b := b1) (by omega) (by omega) 0 (.int .i64 x8)).set (b := b0) (by omega) (by omega) 0 (.int .i64 x8)).set (b := b0) (by omega) (by omega) 1 (.string s2)).set (b := b0) (by omega) (by omega) 2 (.int .i64 x3)).set (b := b0) (by omega) (by omega) 3 (.int .i64 cl)).set (b := b0) (by omega) (by omega) 4 (.int .i64 x5))
    exact bodyPost_ret (v := .agg #[.int .i64 x8, .string s2, .int .i64 x3, .int .i64 cl, .int .i64 x5]) (by simp [results, Tryz.results95, go_sem, f0, f1, f2, f3, f4]) rfl ⟨⟨x8, s2, x3, cl, x5⟩, rfl, (by refine ⟨⟨?_, ?_⟩, ⟨?_, ?_⟩, ⟨?_, ?_⟩, ⟨?_, ?_⟩, ?_⟩ <;> simp only <;> first | omega | assumption), ⟨(hE.le (by omega)).cur, grownTrans HD0.out.gr hE.gr, HD0.out.hb⟩, hE.gr⟩
  · by_cases z1 : x7 = 1
    · subst z1
      go_wp2_with fail
      refine (ofD [⟨#[]⟩, ⟨#[65]⟩, ⟨#[97, 98, 99, 100, 101, 102, 103, 104, 105, 106, 107]⟩] HD.out (by rfl) (by rfl) (by rfl) (by simp) (by simp) (by omega)).mono ?_; rintro e w8 ⟨s8, rfl, hm, hD, hg⟩
      replace HB := hide (HD.out.blk HB.out hg (by decide))
      replace HT := hide (HD.out.blk HT.out hg (by decide))
      replace HD := hide hD; clear hD hg
      have n8 : s8.size ≤ 20 := by simp only [List.mem_cons, List.not_mem_nil, or_false] at hm; rcases hm with rfl | rfl | rfl <;> decide
      clear hm
      obtain ⟨t0, t1, t2, t3, t4⟩ := mk5 HT.out
      have tf := fun o => HT.out.frozen o
      obtain ⟨m0, m1, m2, m3, m4⟩ := mk5 HB.out
      have mf := fun o => HB.out.frozen o
      have nb : ¬ b1 = b0 := by omega
      have nb2 : ¬ b0 = b1 := by omega
      go_wp2_with fail
      have hF := ((((((HB.out.far (p := ⟨b1, 1, none⟩) (by simp only; omega) (.string s8)).set 0 (.int .i64 id)).set 1 (.string s8)).set 2 (.int .i64 x3)).set 3 (.int .i64 cl)).set 4 (.int .i64 x5))
      have f0 := hF.cell 0; have f1 := hF.cell 1; have f2 := hF.cell 2; have f3 := hF.cell 3; have f4 := hF.cell 4
      simp at f0 f1 f2 f3 f4
      have hE := ((((((HD.out.set (b := b1) (by omega) (by omega) 1 (.string s8)).set (b := b0) (by omega) (by omega) 0 (.int .i64 id)).set (b := b0) (by omega) (by omega) 1 (.string s8)).set (b := b0) (by omega) (by omega) 2 (.int .i64 x3)).set (b := b0) (by omega) (by omega) 3 (.int .i64 cl)).set (b := b0) (by omega) (by omega) 4 (.int .i64 x5))
      exact bodyPost_ret (v := .agg #[.int .i64 id, .string s8, .int .i64 x3, .int .i64 cl, .int .i64 x5]) (by simp [results, Tryz.results95, go_sem, f0, f1, f2, f3, f4]) rfl ⟨⟨id, s8, x3, cl, x5⟩, rfl, (by refine ⟨⟨?_, ?_⟩, ⟨?_, ?_⟩, ⟨?_, ?_⟩, ⟨?_, ?_⟩, ?_⟩ <;> simp only <;> first | omega | assumption), ⟨(hE.le (by omega)).cur, grownTrans HD0.out.gr hE.gr, HD0.out.hb⟩, hE.gr⟩
    · by_cases z2 : x7 = 2
      · subst z2
        go_wp2_with fail
        refine (amongD [-1, 4001] HD.out (by rfl) (by rfl) (by rfl) (by simp) (by simp) (by omega)).mono ?_; rintro e w8 ⟨x8, rfl, hm, hD, hg⟩
        replace HB := hide (HD.out.blk HB.out hg (by decide))
        replace HT := hide (HD.out.blk HT.out hg (by decide))
        replace HD := hide hD; clear hD hg
        have b8 := (by decide : ∀ x ∈ ([-1, 4001] : List Int), -1 ≤ x ∧ x ≤ 4001) _ hm; clear hm
        have hb9 : -100000 ≤ x8 ∧ x8 ≤ 100000 := by omega
        obtain ⟨t0, t1, t2, t3, t4⟩ := mk5 HT.out
        have tf := fun o => HT.out.frozen o
        obtain ⟨m0, m1, m2, m3, m4⟩ := mk5 HB.out
        have mf := fun o => HB.out.frozen o
        have nb : ¬ b1 = b0 := by omega
        have nb2 : ¬ b0 = b1 := by omega
        go_wp2_with fail
        have hF := ((((((HB.out.far (p := ⟨b1, 2, none⟩) (by simp only; omega) (.int .i64 x8)).set 0 (.int .i64 id)).set 1 (.string s2)).set 2 (.int .i64 x8)).set 3 (.int .i64 cl)).set 4 (.int .i64 x5))
        have f0 := hF.cell 0; have f1 := hF.cell 1; have f2 := hF.cell 2; have f3 := hF.cell 3; have f4 := hF.cell 4
        simp at f0 f1 f2 f3 f4
        have hE := ((((((HD.out.set (b := b1) (by omega) (by omega) 2 (.int .i64 x8)).set (b := b0) (by omega) (by omega) 0 (.int .i64 id)).set (b := b0) (by omega) (by omega) 1 (.string s2)).set (b := b0) (by omega) (by omega) 2 (.int .i64 x8)).set (b := b0) (by omega) (by omega) 3 (.int .i64 cl)).set (b := b0) (by omega) (by omega) 4 (.int .i64 x5))
        exact bodyPost_ret (v := .agg #[.int .i64 id, .string s2, .int .i64 x8, .int .i64 cl, .int .i64 x5]) (by simp [results, Tryz.results95, go_sem, f0, f1, f2, f3, f4]) rfl ⟨⟨id, s2, x8, cl, x5⟩, rfl, (by refine ⟨⟨?_, ?_⟩, ⟨?_, ?_⟩, ⟨?_, ?_⟩, ⟨?_, ?_⟩, ?_⟩ <;> simp only <;> first | omega | assumption), ⟨(hE.le (by omega)).cur, grownTrans HD0.out.gr hE.gr, HD0.out.hb⟩, hE.gr⟩
      · by_cases z3 : x7 = 3
        · subst z3
          go_wp2_with fail
          refine (amongD [0, 4] HD.out (by rfl) (by rfl) (by rfl) (by simp) (by simp) (by omega)).mono ?_; rintro e w8 ⟨x8, rfl, hm, hD, hg⟩
          replace HB := hide (HD.out.blk HB.out hg (by decide))
          replace HT := hide (HD.out.blk HT.out hg (by decide))
          replace HD := hide hD; clear hD hg
          have b8 := (by decide : ∀ x ∈ ([0, 4] : List Int), 0 ≤ x ∧ x ≤ 4) _ hm; clear hm
          have hb9 : -100000 ≤ x8 ∧ x8 ≤ 100000 := by omega
          obtain ⟨t0, t1, t2, t3, t4⟩ := mk5 HT.out
          have tf := fun o => HT.out.frozen o
          obtain ⟨m0, m1, m2, m3, m4⟩ := mk5 HB.out
          have mf := fun o => HB.out.frozen o
          have nb : ¬ b1 = b0 := by omega
          have nb2 : ¬ b0 = b1 := by omega
          go_wp2_with fail
          have hF := ((((((HB.out.far (p := ⟨b1, 3, none⟩) (by simp only; omega) (.int .i64 x8)).set 0 (.int .i64 id)).set 1 (.string s2)).set 2 (.int .i64 x3)).set 3 (.int .i64 x8)).set 4 (.int .i64 x5))
          have f0 := hF.cell 0; have f1 := hF.cell 1; have f2 := hF.cell 2; have f3 := hF.cell 3; have f4 := hF.cell 4
          simp at f0 f1 f2 f3 f4
          have hE := ((((((HD.out.set (b := b1) (by omega) (by omega) 3 (.int .i64 x8)).set (b := b0) (by omega) (by omega) 0 (.int .i64 id)).set (b := b0) (by omega) (by omega) 1 (.string s2)).set (b := b0) (by omega) (by omega) 2 (.int .i64 x3)).set (b := b0) (by omega) (by omega) 3 (.int .i64 x8)).set (b := b0) (by omega) (by omega) 4 (.int .i64 x5))
          exact bodyPost_ret (v := .agg #[.int .i64 id, .string s2, .int .i64 x3, .int .i64 x8, .int .i64 x5]) (by simp [results, Tryz.results95, go_sem, f0, f1, f2, f3, f4]) rfl ⟨⟨id, s2, x3, x8, x5⟩, rfl, (by refine ⟨⟨?_, ?_⟩, ⟨?_, ?_⟩, ⟨?_, ?_⟩, ⟨?_, ?_⟩, ?_⟩ <;> simp only <;> first | omega | assumption), ⟨(hE.le (by omega)).cur, grownTrans HD0.out.gr hE.gr, HD0.out.hb⟩, hE.gr⟩
        · by_cases z4 : x7 = 4
          · subst z4
            go_wp2_with fail
            refine (amongD [-1, 10001] HD.out (by rfl) (by rfl) (by rfl) (by simp) (by simp) (by omega)).mono ?_; rintro e w8 ⟨x8, rfl, hm, hD, hg⟩
            replace HB := hide (HD.out.blk HB.out hg (by decide))
            replace HT := hide (HD.out.blk HT.out hg (by decide))
            replace HD := hide hD; clear hD hg
            have b8 := (by decide : ∀ x ∈ ([-1, 10001] : List Int), -1 ≤ x ∧ x ≤ 10001) _ hm; clear hm
            have hb9 : -100000 ≤ x8 ∧ x8 ≤ 100000 := by omega
            obtain ⟨t0, t1, t2, t3, t4⟩ := mk5 HT.out
            have tf := fun o => HT.out.frozen o
            obtain ⟨m0, m1, m2, m3, m4⟩ := mk5 HB.out
            have mf := fun o => HB.out.frozen o
            have nb : ¬ b1 = b0 := by omega
            have nb2 : ¬ b0 = b1 := by omega
            go_wp2_with fail
            have hF := ((((((HB.out.far (p := ⟨b1, 4, none⟩) (by simp only; omega) (.int .i64 x8)).set 0 (.int .i64 id)).set 1 (.string s2)).set 2 (.int .i64 x3)).set 3 (.int .i64 cl)).set 4 (.int .i64 x8))
            have f0 := hF.cell 0; have f1 := hF.cell 1; have f2 := hF.cell 2; have f3 := hF.cell 3; have f4 := hF.cell 4
            simp at f0 f1 f2 f3 f4
            have hE := ((((((HD.out.set (b := b1) (by omega) (by omega) 4 (.int .i64 x8)).set (b := b0) (by omega) (by omega) 0 (.int .i64 id)).set (b := b0) (by omega) (by omega) 1 (.string s2)).set (b := b0) (by omega) (by omega) 2 (.int .i64 x3)).set (b := b0) (by omega) (by omega) 3 (.int .i64 cl)).set (b := b0) (by omega) (by omega) 4 (.int .i64 x8))
            exact bodyPost_ret (v := .agg #[.int .i64 id, .string s2, .int .i64 x3, .int .i64 cl, .int .i64 x8]) (by simp [results, Tryz.results95, go_sem, f0, f1, f2, f3, f4]) rfl ⟨⟨id, s2, x3, cl, x8⟩, rfl, (by refine ⟨⟨?_, ?_⟩, ⟨?_, ?_⟩, ⟨?_, ?_⟩, ⟨?_, ?_⟩, ?_⟩ <;> simp only <;> first | omega | assumption), ⟨(hE.le (by omega)).cur, grownTrans HD0.out.gr hE.gr, HD0.out.hb⟩, hE.gr⟩
          · skip
            obtain ⟨t0, t1, t2, t3, t4⟩ := mk5 HT.out
            have tf := fun o => HT.out.frozen o
            obtain ⟨m0, m1, m2, m3, m4⟩ := mk5 HB.out
            have mf := fun o => HB.out.frozen o
            have nb : ¬ b1 = b0 := by omega
            have nb2 : ¬ b0 = b1 := by omega
            go_wp2_with fail
            have hF := (((((HB.out.set 0 (.int .i64 id)).set 1 (.string s2)).set 2 (.int .i64 x3)).set 3 (.int .i64 cl)).set 4 (.int .i64 x5))
            have f0 := hF.cell 0; have f1 := hF.cell 1; have f2 := hF.cell 2; have f3 := hF.cell 3; have f4 := hF.cell 4
            simp at f0 f1 f2 f3 f4
            have hE := (((((HD.out.set (b := b0) (by omega) (by omega) 0 (.int .i64 id)).set (b := b0) (by omega) (by omega) 1 (.string s2)).set (b := b0) (by omega) (by omega) 2 (.int .i64 x3)).set (b := b0) (by omega) (by omega) 3 (.int .i64 cl)).set (b := b0) (by omega) (by omega) 4 (.int .i64 x5))
            exact bodyPost_ret (v := .agg #[.int .i64 id, .string s2, .int .i64 x3, .int .i64 cl, .int .i64 x5]) (by simp [results, Tryz.results95, go_sem, f0, f1, f2, f3, f4]) rfl ⟨⟨id, s2, x3, cl, x5⟩, rfl, (by refine ⟨⟨?_, ?_⟩, ⟨?_, ?_⟩, ⟨?_, ?_⟩, ⟨?_, ?_⟩, ?_⟩ <;> simp only <;> first | omega | assumption), ⟨(hE.le (by omega)).cur, grownTrans HD0.out.gr hE.gr, HD0.out.hb⟩, hE.gr⟩
end Go.Proofs.YtplemibckjnbhaaGreatDoor

/- The drawing of readers over a cursor: some readers of small numbers and names, at most twelve. Condition: a cursor that has stepped less than 2^60 times. (Printed by mkreaders3.py.) -/
namespace Go.Proofs.YtplemibckjnbhaaGreatDoor
open Go.RowKit
set_option linter.unusedVariables false
theorem own_adrM {α : Type} {kk : Nat} {enc : α → Nat → Value} {e : TypeId} {w : World} {b : Nat} {v : Value} {xs : List α} (h : Own kk enc e w b v xs) (ha : ∃ gx, v.ownBlock = some gx) : ∃ gx c, v = .slice (some ⟨gx, 0, none⟩) xs.length c := by
  rcases h with ⟨rfl, rfl⟩ | ⟨gx, c, cs, rfl, _⟩
  · obtain ⟨gx, hg⟩ := ha; cases hg
  · exact ⟨gx, c, rfl⟩
theorem own_adrM1 {α : Type} {kk : Nat} {enc : α → Nat → Value} {e : TypeId} {w : World} {b : Nat} {v : Value} {xs : List α} (h : Own kk enc e w b v xs) (hp : 0 < xs.length) : ∃ gx, v.ownBlock = some gx := by
  rcases h with ⟨rfl, rfl⟩ | ⟨gx, c, cs, rfl, _⟩
  · simp at hp
  · exact ⟨gx, rfl⟩
theorem own_noR (w : World) {B : Nat} (hB : B ≤ w.heap.size) : Own 5 SReader.enc 25 (w.alloc (.cells #[] 25)) B (.slice (some ⟨w.heap.size, 0, none⟩) 0 0) ([] : List SReader) :=
  Own.made (cs := #[]) rfl hB (Blk.new _ _ _) rfl (by simp only [maxLen, List.length_nil]; omega) (by intro j z hj; simp at hj)
theorem fit_snoc {xs : List SReader} {z : SReader} (h : ∀ y ∈ xs, y.Fit) (hz : z.Fit) : ∀ y ∈ xs ++ [z], y.Fit := fun y hy => by
  rcases List.mem_append.1 hy with h1 | h1
  · exact h y h1
  · rw [List.mem_singleton.1 h1]; exact hz
set_option maxRecDepth 100000 in
set_option maxHeartbeats 8000000 in
theorem readers_is (w0 w : World) (base g k : Nat) (A : Option Addr) (cap : Nat) (code : List Int) (hD : DS w0 base g A cap code k w) (hk : k + 4000 < 2305843009213693952) :
    Calls Tryz.prog 59 #[.pointer (some ⟨g, 0, none⟩)] w fun e w' => ∃ (v : Value) (xs : List SReader), e = .returned v ∧ (∀ z ∈ xs, z.Fit) ∧ xs.length ≤ 12 ∧ Own 5 SReader.enc 25 w' w.heap.size v xs ∧ DS w0 base g A cap code (k + 4000) w' ∧ w.grownBy w' (some g) := by
  have hgw := hD.lt
  have HD0 := hide hD
  have HD := hide (DS.start hD.cur hD.sz); clear hD
  go_enter Tryz.func59, Tryz.ntmps59
  go_upto_region 2 with fail
  have HO := hide (own_noR w (Nat.le_refl w.heap.size))
  replace HD := hide (HD.out.alloc (.cells #[] 25))
  generalize w.alloc (.cells #[] 25) = w1 at *
  go_wp2_with fail
  refine (pickD 8 HD.out (by omega)).mono ?_; rintro e w2 ⟨x2, rfl, p2, q2, hD, hg⟩
  replace HO := hide (HD.out.own HO.out hg (by decide))
  replace HD := hide hD; clear hD hg
  obtain ⟨q, rfl⟩ : ∃ q : Nat, x2 = (q : Int) := ⟨x2.toNat, by omega⟩
  go_wp2_with fail
  go_loopw [3, 4, 5] (fun s t i wr => ∃ (j : Nat) (xs : List SReader) (y : Int), i = .int .i64 (j : Int) ∧ t = .int .i64 y ∧ j ≤ 8 ∧ (0 ≤ y ∧ y ≤ 3 * (8 - (j : Int))) ∧ xs.length ≤ 8 - j ∧ (∀ z ∈ xs, z.Fit) ∧ (∃ gx, s.ownBlock = some gx) ∧ Own 5 SReader.enc 25 wr w.heap.size s xs ∧ DS w base g A cap code (k + 700 - 40 * j) wr) (fun _ _ i _ => (intOf i).toNat)
  case atStart => exact ⟨q, [], 0, rfl, rfl, by omega, ⟨by omega, by omega⟩, by simp, by simp, ⟨_, rfl⟩, HO.out, HD.out.le (by omega)⟩
  case round =>
    clear HO HD p2 q2
    obtain ⟨j, xs, y, rfl, rfl, hj8, ⟨hy0, hy1⟩, hxl, hfit, hadr, ho, hD⟩ := hrel
    generalize wr = w10 at *
    obtain ⟨A7, cap7, rfl, _, _, _⟩ := ho.is
    have HO := hide ho; have HD := hide hD; have HFIT := hide hfit; clear ho hD hfit
    by_cases hlt : (0 : Int) < j
    · go_wp2_with fail
      refine (pickD 3 HD.out (by omega)).mono ?_; rintro e w11 ⟨x11, rfl, p11, q11, hD, hg⟩
      replace HO := hide (HD.out.own HO.out hg (by decide))
      replace HD := hide hD; clear hD hg
      go_wp2_with fail
      refine (pickD 120 HD.out (by omega)).mono ?_; rintro e w12 ⟨x12, rfl, p12, q12, hD, hg⟩
      replace HO := hide (HD.out.own HO.out hg (by decide))
      replace HD := hide hD; clear hD hg
      have hdv : 0 ≤ x12 / 119 ∧ x12 / 119 ≤ 1 := by omega
      go_wp2_with fail
      refine (reader_is w _ base g _ A cap code HD.out (y + 1 + x11 - x12 / 119) (by omega) (by omega)).mono ?_; rintro e w13 ⟨zz, rfl, hzf, hD, hg⟩
      replace HO := hide (HD.out.own HO.out hg (by decide))
      replace HD := hide hD; clear hD hg
      obtain ⟨jj, rfl⟩ : ∃ jj, j = jj + 1 := ⟨j - 1, by omega⟩
      have HZF := hide hzf; clear hzf
      obtain ⟨za, zb, zc, zd, ze⟩ := zz
      simp only
      go_wp2_with (at_builtin; refine wpList_push1 (k := 5) (enc := SReader.enc) _ rfl _ _ 33 rfl 25 (.agg #[.int .i64 0, .string ⟨#[]⟩, .int .i64 0, .int .i64 0, .int .i64 0]) 48 Tryz.underlying33 SReader.info rfl (by omega) (by omega) SReader.one w.heap.size _ (xs) rfl HO.out (⟨_, _, _, _, _⟩) _ rfl rfl (by omega) HD.out.gr.size (Below.refl w.heap.size w13) (Nat.le_refl _) rfl ?_; intro v1 w14 ho1 hb1 hg1)
      replace HD := hide (HD.out.push HO.out (Nat.le_refl _) hg1 (by decide)); replace HO := hide ho1; clear ho1 hb1 hg1
      go_wp2_with fail
      go_round
      case measure => (first | (simp [intOf]; done) | (simp [intOf] <;> omega))
      case rel => exact ⟨jj, xs ++ [_], y + 1 + x11 - x12 / 119, by go_num, rfl, by omega, ⟨by omega, by omega⟩, by simp; omega, fit_snoc HFIT.out HZF.out, own_adrM1 HO.out (by simp), HO.out, HD.out.le (by omega)⟩
    · have hz : j = 0 := by omega
      subst hz
      go_wp2_with fail
      refine (oneD 24 HD.out (by omega)).mono ?_; rintro e w11 ⟨x11, rfl, hD, hg⟩
      replace HO := hide (HD.out.own HO.out hg (by decide))
      replace HD := hide hD; clear hD hg
      cases x11 with
      | false =>
        go_wp2_with fail
        go_ret
        exact ⟨_, xs, rfl, HFIT.out, by omega, HO.out, ⟨(HD.out.le (by omega)).cur, grownTrans HD0.out.gr HD.out.gr, HD0.out.hb⟩, HD.out.gr⟩
      | true =>
        clear HO HFIT hxl hadr
        have hwz : w.heap.size ≤ w11.heap.size := HD.out.gr.size
        go_upto_region 10 with fail
        have HO := hide (own_noR w11 hwz)
        replace HD := hide (HD.out.alloc (.cells #[] 25))
        generalize w11.alloc (.cells #[] 25) = w30 at *
        go_wp2_with fail
        go_loopw [3, 6] (fun s i wr => ∃ (n : Nat) (xs : List SReader), i = .int .i64 (n : Int) ∧ n ≤ 11 ∧ xs.length = n ∧ (∀ z ∈ xs, z.Fit) ∧ (∃ gx, s.ownBlock = some gx) ∧ Own 5 SReader.enc 25 wr w.heap.size s xs ∧ DS w base g A cap code (k + 720 + 10 * n) wr) (fun _ i _ => 20 - (intOf i).toNat)
        case atStart => exact ⟨0, [], rfl, by omega, rfl, by simp, ⟨_, rfl⟩, HO.out, HD.out.le (by omega)⟩
        case round =>
          clear HO HD
          obtain ⟨n, xs, rfl, hn11, hxn, hfit, hadr, ho, hD⟩ := hrel
          generalize wr = w40 at *
          have hxb : xs.length ≤ 11 := by omega
          have HXN := hide hxn; clear hxn
          obtain ⟨A8, cap8, rfl, _, _, _⟩ := ho.is
          have HO := hide ho; have HD := hide hD; have HFIT := hide hfit; clear ho hD hfit
          go_wp2_with fail
          refine (pickD 2 HD.out (by omega)).mono ?_; rintro e w41 ⟨x41, rfl, p41, q41, hD, hg⟩
          replace HO := hide (HD.out.own HO.out hg (by decide))
          replace HD := hide hD; clear hD hg
          by_cases hgo : (n : Int) < 10 + x41
          · go_wp2_with (at_builtin; refine wpList_push1 (k := 5) (enc := SReader.enc) _ rfl _ _ 33 rfl 25 (.agg #[.int .i64 0, .string ⟨#[]⟩, .int .i64 0, .int .i64 0, .int .i64 0]) 48 Tryz.underlying33 SReader.info rfl (by omega) (by omega) SReader.one w.heap.size _ (xs) rfl HO.out (⟨_, _, _, _, _⟩) _ rfl rfl (by omega) HD.out.gr.size (Below.refl w.heap.size w41) (Nat.le_refl _) rfl ?_; intro v1 w42 ho1 hb1 hg1)
            replace HD := hide (HD.out.push HO.out (Nat.le_refl _) hg1 (by decide)); replace HO := hide ho1; clear ho1 hb1 hg1
            go_wp2_with fail
            go_round
            case measure => (first | (simp [intOf]; done) | (simp [intOf] <;> omega))
            case rel => exact ⟨n + 1, xs ++ [_], by go_num, by omega, by simp [HXN.out], fit_snoc HFIT.out (by refine ⟨⟨?_, ?_⟩, ⟨?_, ?_⟩, ⟨?_, ?_⟩, ⟨?_, ?_⟩, ?_⟩ <;> simp only <;> first | omega | decide), own_adrM1 HO.out (by simp), HO.out, HD.out.le (by omega)⟩
          · go_wp2_with fail
            go_ret
            exact ⟨_, xs, rfl, HFIT.out, by omega, HO.out, ⟨(HD.out.le (by omega)).cur, grownTrans HD0.out.gr HD.out.gr, HD0.out.hb⟩, HD.out.gr⟩
end Go.Proofs.YtplemibckjnbhaaGreatDoor

/- The drawing of a reader's id, of a day and of cents, and the drawing functions of FnReaders. No condition beyond a cursor that has stepped less than 2^60 times. (Printed by mkreader8.py.) -/
namespace Go.Proofs.YtplemibckjnbhaaGreatDoor
open Go.RowKit
set_option linter.unusedVariables false
set_option maxHeartbeats 2000000 in
theorem readerId_is (w0 w : World) (base g k : Nat) (A : Option Addr) (cap : Nat) (code : List Int) (hD : DS w0 base g A cap code k w) (b : Nat) (v : Value) (xs : List SReader) (hO : Own 5 SReader.enc 25 w b v xs) (hl : xs.length ≤ 1000) (hk : k + 10 < 2305843009213693952) :
    Calls Tryz.prog 60 #[.pointer (some ⟨g, 0, none⟩), v] w fun e w' => ∃ x : Int, e = .returned (.int .i64 x) ∧ DS w0 base g A cap code (k + 10) w' ∧ w.grownBy w' (some g) := by
  have hgw := hD.lt
  have HD0 := hide hD
  have HD := hide (DS.start hD.cur hD.sz); clear hD
  obtain ⟨A7, c7, rfl, _, _, _⟩ := hO.is
  have HO := hide hO; clear hO
  go_enter Tryz.func60, Tryz.ntmps60
  by_cases hz : xs.length = 0
  · have hz1 : (xs.length : Int) = 0 := by omega
    rw [hz]
    clear hz hz1 HO
    go_wp2_with fail
    refine (amongD [0, 1, 500] HD.out (by rfl) (by rfl) (by rfl) (by simp) (by simp) (by omega)).mono ?_; rintro e w1 ⟨x1, rfl, hm, hD, hg⟩
    replace HD := hide hD; clear hD hg
    clear hm
    go_wp2_with fail
    go_ret
    exact ⟨_, rfl, ⟨(HD.out.le (by omega)).cur, grownTrans HD0.out.gr HD.out.gr, HD0.out.hb⟩, HD.out.gr⟩
  · have hz1 : ¬ (xs.length : Int) = 0 := by omega
    have hz2 : ((xs.length : Int) == 0) = false := by simpa using hz1
    go_wp2_with fail
    refine (oneD 10 HD.out (by omega)).mono ?_; rintro e w1 ⟨x1, rfl, hD, hg⟩
    replace HO := hide (HD.out.own HO.out hg (by decide))
    replace HD := hide hD; clear hD hg
    cases x1 with
    | true =>
      clear HO
      go_wp2_with fail
      refine (amongD [0, 1, 500] HD.out (by rfl) (by rfl) (by rfl) (by simp) (by simp) (by omega)).mono ?_; rintro e w2 ⟨x2, rfl, hm, hD, hg⟩
      replace HD := hide hD; clear hD hg
      clear hm
      go_wp2_with fail
      go_ret
      exact ⟨_, rfl, ⟨(HD.out.le (by omega)).cur, grownTrans HD0.out.gr HD.out.gr, HD0.out.hb⟩, HD.out.gr⟩
    | false =>
      go_wp2_with fail
      refine (pickD (xs.length : Int) HD.out (by omega)).mono ?_; rintro e w2 ⟨x2, rfl, p2, q2, hD, hg⟩
      replace HO := hide (HD.out.own HO.out hg (by decide))
      replace HD := hide hD; clear hD hg
      obtain ⟨q, rfl⟩ : ∃ q : Nat, x2 = (q : Int) := ⟨x2.toNat, by omega⟩
      have hq : q < xs.length := by omega
      have hq' : (q : Int) < xs.length := by omega
      obtain ⟨A8, c8, he8, hr8, _, _⟩ := HO.out.is
      injection he8 with e1 e2 e3; subst e1 e3; clear e2
      obtain ⟨b8, off8, rfl, _, f0, _⟩ := SReader.cells hr8 hq (Below.refl _ _)
      clear hr8
      generalize xs[q].ident = y0 at *
      go_wp2_with fail
      go_ret
      exact ⟨_, rfl, ⟨(HD.out.le (by omega)).cur, grownTrans HD0.out.gr HD.out.gr, HD0.out.hb⟩, HD.out.gr⟩
theorem own_take {w : World} {base b n : Nat} {l : List Int} {cs : Array Value} (h : Blk w b 3 cs) (hb : base ≤ b) (hcs : cs = (l.map (Value.int .i64)).toArray) (hn : n ≤ l.length) (hl : l.length ≤ 1000) : Own 1 encI 3 w base (.slice (some ⟨b, 0, none⟩) n l.length) (l.take n) := by
  subst hcs
  refine .inr ⟨b, l.length, _, by rw [List.length_take_of_le hn], hb, h, by rw [List.length_take_of_le hn]; exact hn, by simp only [maxLen]; omega, by simp, ?_⟩
  intro j z hj hz c hc
  obtain rfl : c = 0 := by omega
  rw [List.getElem?_take] at hz
  split at hz
  · simp [hz, encI]
  · cases hz
set_option maxRecDepth 100000 in
set_option maxHeartbeats 2000000 in
theorem cents3_is (w0 w : World) (base g k : Nat) (A : Option Addr) (cap : Nat) (code : List Int) (hD : DS w0 base g A cap code k w) (hk : k + 10 < 2305843009213693952) :
    Calls Tryz.prog 61 #[.pointer (some ⟨g, 0, none⟩)] w fun e w' => ∃ x : Int, e = .returned (.int .i64 x) ∧ (0 ≤ x ∧ x ≤ 10001) ∧ DS w0 base g A cap code (k + 10) w' ∧ w.grownBy w' (some g) := by
  have hgw := hD.lt
  have HD0 := hide hD
  have HD1 := hide (DS.start hD.cur hD.sz)
  have HD := hide (HD1.out.alloc (.cells #[.int .i64 1, .int .i64 499, .int .i64 500, .int .i64 501, .int .i64 9500, .int .i64 10000, .int .i64 0, .int .i64 10001] 3))
  have HB := hide (Blk.new w 3 #[.int .i64 1, .int .i64 499, .int .i64 500, .int .i64 501, .int .i64 9500, .int .i64 10000, .int .i64 0, .int .i64 10001])
  have hbs : base ≤ w.heap.size := hD.sz
  clear hD
  go_enter Tryz.func61, Tryz.ntmps61
  go_wp2_with fail
  generalize hb0 : w.heap.size = b0 at *
  generalize w.alloc (.cells #[.int .i64 1, .int .i64 499, .int .i64 500, .int .i64 501, .int .i64 9500, .int .i64 10000, .int .i64 0, .int .i64 10001] 3) = w1 at *
  refine (pickD 24 HD.out (by omega)).mono ?_; rintro e w2 ⟨x2, rfl, p2, q2, hD, hg⟩
  replace HB := hide (HD.out.blk HB.out hg (by decide))
  replace HD := hide hD; clear hD hg
  have hs1 : base ≤ w2.heap.size := HD.out.sz
  have hdv : x2 / 11 = 0 ∨ x2 / 11 = 1 ∨ x2 / 11 = 2 := by omega
  rcases hdv with hdv | hdv | hdv
  · have hO := own_take (n := 6) (l := [1, 499, 500, 501, 9500, 10000, 0, 10001]) HB.out hbs rfl (by decide) (by decide)
    have ha := among_is _ _ w2 base g _ A cap code hO (by decide) (by decide) HD.out.cur (by omega) hs1
    have HA := hide ha; clear ha hO
    go_wp2_with fail
    skip
    refine HA.out.mono ?_; rintro e w3 ⟨x3, rfl, hm, hC, hg⟩
    have hb3 := (by decide : ∀ x ∈ ([1, 499, 500, 501, 9500, 10000, 0, 10001] : List Int), 0 ≤ x ∧ x ≤ 10001) _ (List.mem_of_mem_take hm); clear hm
    replace HD := hide (HD.out.next hC hg); clear hC hg
    go_wp2_with fail
    go_ret
    exact ⟨_, rfl, hb3, ⟨(HD.out.le (by omega)).cur, grownTrans HD0.out.gr HD.out.gr, HD0.out.hb⟩, HD.out.gr⟩
  · have hO := own_take (n := 7) (l := [1, 499, 500, 501, 9500, 10000, 0, 10001]) HB.out hbs rfl (by decide) (by decide)
    have ha := among_is _ _ w2 base g _ A cap code hO (by decide) (by decide) HD.out.cur (by omega) hs1
    have HA := hide ha; clear ha hO
    go_wp2_with fail
    skip
    refine HA.out.mono ?_; rintro e w3 ⟨x3, rfl, hm, hC, hg⟩
    have hb3 := (by decide : ∀ x ∈ ([1, 499, 500, 501, 9500, 10000, 0, 10001] : List Int), 0 ≤ x ∧ x ≤ 10001) _ (List.mem_of_mem_take hm); clear hm
    replace HD := hide (HD.out.next hC hg); clear hC hg
    go_wp2_with fail
    go_ret
    exact ⟨_, rfl, hb3, ⟨(HD.out.le (by omega)).cur, grownTrans HD0.out.gr HD.out.gr, HD0.out.hb⟩, HD.out.gr⟩
  · have hO := own_take (n := 8) (l := [1, 499, 500, 501, 9500, 10000, 0, 10001]) HB.out hbs rfl (by decide) (by decide)
    have ha := among_is _ _ w2 base g _ A cap code hO (by decide) (by decide) HD.out.cur (by omega) hs1
    have HA := hide ha; clear ha hO
    go_wp2_with fail
    skip
    refine HA.out.mono ?_; rintro e w3 ⟨x3, rfl, hm, hC, hg⟩
    have hb3 := (by decide : ∀ x ∈ ([1, 499, 500, 501, 9500, 10000, 0, 10001] : List Int), 0 ≤ x ∧ x ≤ 10001) _ (List.mem_of_mem_take hm); clear hm
    replace HD := hide (HD.out.next hC hg); clear hC hg
    go_wp2_with fail
    go_ret
    exact ⟨_, rfl, hb3, ⟨(HD.out.le (by omega)).cur, grownTrans HD0.out.gr HD.out.gr, HD0.out.hb⟩, HD.out.gr⟩
theorem results_tmp3_m {fn : Func} {t u v : Tmp} (h : fn.results = #[.tmp t, .tmp u, .tmp v]) (tmps : Array Value) (P : Program) (w : World) :
    (results fn tmps).run P w = .ok (.tuple #[tmps.getD t undef, tmps.getD u undef, tmps.getD v undef]) w := by
  simp [results, h]
set_option maxRecDepth 100000 in
set_option maxHeartbeats 4000000 in
theorem drawFineReader_is (w : World) (v : Value) (A : Option Addr) (cap : Nat) (code : List Int) (h : Code w v A cap code) :
    Calls Tryz.prog 13 #[v] w fun e w' => ∃ (v : Value) (xs : List SReader) (x y : Int), e = .returned (.tuple #[v, .int .i64 x, .int .i64 y]) ∧ (∀ z ∈ xs, z.Fit) ∧ xs.length ≤ 12 ∧ (-100000 ≤ y ∧ y ≤ 100000) ∧ Own 5 SReader.enc 25 w' w.heap.size v xs ∧ Below w.heap.size w w' := by
  have hD := DS.new h
  obtain rfl := h.eq
  have HD := hide hD; clear hD h
  have hgw : w.heap.size < (w.alloc (.cells #[.slice A code.length cap, .int .i64 0, .int .u64 0] 83)).heap.size := by simp
  go_enter Tryz.func13, Tryz.ntmps13
  go_wp2_with fail
  generalize hgs : w.heap.size = g at *
  generalize hw0 : w.alloc (.cells #[.slice A code.length cap, .int .i64 0, .int .u64 0] 83) = w0 at *
  have HB0 := hide (Nat.le_of_lt hgw)
  have HGS := hide HD.out.gr.size
  refine (readers_is w0 _ g g _ A cap code HD.out (by omega)).mono ?_; rintro e w1 ⟨v1, xs, rfl, hfit, hl, ho, hD, hg⟩
  replace HD := hide hD; clear hD hg
  have HX := hide (ownLow ho HGS.out); clear ho HGS
  have HWF := hide hfit; clear hfit
  go_wp2_with fail
  refine (readerId_is w0 _ g g _ A cap code HD.out _ _ _ HX.out (by omega) (by omega)).mono ?_; rintro e w2 ⟨px, rfl, hD, hg⟩
  replace HX := hide (HD.out.own HX.out hg (by decide))
  replace HD := hide hD; clear hD hg
  go_wp2_with fail
  refine (cents3_is w0 _ g g _ A cap code HD.out (by omega)).mono ?_; rintro e w3 ⟨py, rfl, hpy, hD, hg⟩
  replace HX := hide (HD.out.own HX.out hg (by decide))
  replace HD := hide hD; clear hD hg
  go_wp2_with fail
  (try simp only [Exit.inBlock, Exit.then]); refine bodyPost_ret (results_tmp3_m rfl _ _ _) rfl ?_
  subst hw0 hgs
  exact ⟨_, _, _, _, rfl, HWF.out, hl, ⟨by omega, by omega⟩, ownLow HX.out HB0.out, HD.out.end⟩
end Go.Proofs.YtplemibckjnbhaaGreatDoor
