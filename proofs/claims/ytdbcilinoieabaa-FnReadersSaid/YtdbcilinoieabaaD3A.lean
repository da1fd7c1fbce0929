/- The drawing of a reader over a cursor: one whose numbers and name are small. Condition: a cursor that has stepped less than 2^60 times. (Printed by mkreader3.py.) -/
import Derived.Test.YtdbcilinoieabaaDr
import Derived.Test.YtdbcilinoieabaaL3C
namespace Go.Proofs.Ytdbcilinoieabaa
open Go.RowKit
set_option linter.unusedVariables false
/-- numbers and name of a reader are small -/
def SReader.Fit (z : SReader) : Prop := (-100000 ≤ z.ident ∧ z.ident ≤ 100000) ∧ (-100000 ≤ z.joined ∧ z.joined ≤ 100000) ∧ (-100000 ≤ z.cls ∧ z.cls ≤ 100000) ∧ (-100000 ≤ z.fines ∧ z.fines ≤ 100000) ∧ z.name.size ≤ 20
theorem lit64 {x : Int} (h : -100000 ≤ x ∧ x ≤ 100000) : (Lit.int .i64 x).wf = true := by
  simp [Lit.wf, IntKind.min, IntKind.max, IntKind.signed, IntKind.bits]; omega
theorem SReader.Fit.wf {z : SReader} (h : z.Fit) : z.wf := by
  unfold SReader.wf
  exact ⟨lit64 h.1, by simp only [maxLen]; have := h.2.2.2.2; omega, lit64 h.2.1, lit64 h.2.2.1, lit64 h.2.2.2.1⟩
theorem mk5 {w : World} {g : Nat} {t : TypeId} {a b c d e : Value} (h : Blk w g t #[a, b, c, d, e]) : w.cell? ⟨g, 0, none⟩ = some a ∧ w.cell? ⟨g, 1, none⟩ = some b ∧ w.cell? ⟨g, 2, none⟩ = some c ∧ w.cell? ⟨g, 3, none⟩ = some d ∧ w.cell? ⟨g, 4, none⟩ = some e :=
  ⟨by rw [h.cell]; rfl, by rw [h.cell]; rfl, by rw [h.cell]; rfl, by rw [h.cell]; rfl, by rw [h.cell]; rfl⟩
/-- one of the strings of a list that the text lays there -/
theorem ofD {w0 w : World} {base g : Nat} {A : Option Addr} {cap : Nat} {code : List Int} {k : Nat} (l : List ByteArray) {n m : Nat} {cs : Array Value} (h : DS w0 base g A cap code k w) (hcs : cs = (l.map Value.string).toArray) (hn : n = l.length) (hm : m = l.length) (h1 : 1 ≤ l.length) (h2 : l.length ≤ 1000) (hk : k + 2 < 2305843009213693952) :
    Calls Try.prog 85 #[.pointer (some ⟨g, 0, none⟩), .slice (some ⟨w.heap.size, 0, none⟩) n m] (w.alloc (.cells cs 9)) fun e w' => ∃ x : ByteArray, e = .returned (.string x) ∧ x ∈ l ∧ DS w0 base g A cap code (k + 2) w' ∧ w.grownBy w' (some g) := by
  subst hcs hn hm
  have HD := hide (h.alloc (.cells (l.map Value.string).toArray 9))
  have HB := hide (Blk.new w 9 (l.map Value.string).toArray)
  generalize hb0 : w.heap.size = b0 at *
  have hgw := World.grownBy_alloc w (.cells (l.map Value.string).toArray 9) (some g)
  have HGW := hide hgw; clear hgw h
  go_enter Try.func85, Try.ntmps85
  go_wp2_with fail
  refine (pickD (l.length : Int) HD.out (by omega)).mono ?_; rintro e w1 ⟨x, rfl, hx0, hx1, hD, hg⟩
  obtain ⟨q, rfl⟩ : ∃ q : Nat, x = (q : Int) := ⟨x.toNat, by omega⟩
  have hq : q < l.length := by omega
  have hq' : (q : Int) < l.length := by omega
  have hblk := HD.out.blk HB.out hg (by decide)
  have hcell : w1.cell? ⟨b0, q, none⟩ = some (.string l[q]) := by rw [hblk.cell]; simp [hq]
  have hmem : l[q] ∈ l := List.getElem_mem hq
  generalize l[q] = y at *
  have HD1 := hide hD; have HM := hide hmem; have HG := hide (grownTrans HGW.out hg); clear hD hmem hblk hg
  go_wp2_with fail
  go_ret
  exact ⟨y, rfl, HM.out, HD1.out, HG.out⟩
set_option maxRecDepth 100000 in
set_option maxHeartbeats 1000000 in
theorem reader_is (w0 w : World) (base g k : Nat) (A : Option Addr) (cap : Nat) (code : List Int) (hD : DS w0 base g A cap code k w) (id : Int) (hid : -1000 ≤ id ∧ id ≤ 1000) (hk : k + 30 < 2305843009213693952) :
    Calls Try.prog 174 #[.pointer (some ⟨g, 0, none⟩), .int .i64 id] w fun e w' => ∃ z : SReader, e = .returned (.agg #[.int .i64 z.ident, .string z.name, .int .i64 z.joined, .int .i64 z.cls, .int .i64 z.fines]) ∧ z.Fit ∧ DS w0 base g A cap code (k + 30) w' ∧ w.grownBy w' (some g) := by
  have hB := Blk.new w 49 #[.int .i64 0, .string ⟨#[]⟩, .int .i64 0, .int .i64 0, .int .i64 0]
  have hD1 := (DS.start hD.cur hD.sz).alloc (.cells #[.int .i64 0, .string ⟨#[]⟩, .int .i64 0, .int .i64 0, .int .i64 0] 49)
  have hgw := hD.lt
  have HD0 := hide hD
  have HD := hide hD1; have HB := hide hB; clear hD hD1 hB
  obtain ⟨hid0, hid1⟩ := hid
  go_enter Try.func174, Try.ntmps174
  go_upto_region 1 with fail
  generalize hb0 : w.heap.size = b0 at *
  generalize w.alloc (.cells #[.int .i64 0, .string ⟨#[]⟩, .int .i64 0, .int .i64 0, .int .i64 0] 49) = w1 at *
  go_wp2_with fail
  refine (ofD [⟨#[97, 110, 110, 97]⟩, ⟨#[98, 111]⟩, ⟨#[99, 97, 114, 108]⟩, ⟨#[100, 111, 114, 97]⟩] HD.out (by rfl) (by rfl) (by rfl) (by simp) (by simp) (by omega)).mono ?_; rintro e w2 ⟨s2, rfl, hm, hD, hg⟩
  replace HB := hide (HD.out.blk HB.out hg (by decide))
  replace HD := hide hD; clear hD hg
  have n2 : s2.size ≤ 20 := by simp only [List.mem_cons, List.not_mem_nil, or_false] at hm; rcases hm with rfl | rfl | rfl | rfl <;> decide
  clear hm
  go_wp2_with fail
  refine (amongD [0, 100, 366, 4000] HD.out (by rfl) (by rfl) (by rfl) (by simp) (by simp) (by omega)).mono ?_; rintro e w3 ⟨x3, rfl, hm, hD, hg⟩
  replace HB := hide (HD.out.blk HB.out hg (by decide))
  replace HD := hide hD; clear hD hg
  have b3 := (by decide : ∀ x ∈ ([0, 100, 366, 4000] : List Int), 0 ≤ x ∧ x ≤ 4000) _ hm; clear hm
  obtain ⟨f0, f1⟩ := b3
  go_wp2_with fail
  refine (pickD 3 HD.out (by omega)).mono ?_; rintro e w4 ⟨x4, rfl, p4, q4, hD, hg⟩
  replace HB := hide (HD.out.blk HB.out hg (by decide))
  replace HD := hide hD; clear hD hg
  obtain ⟨cl, hcl⟩ : ∃ y : Int, 1 + x4 = y := ⟨_, rfl⟩
  go_wp2_with fail
  refine (amongD [0, 0, 0, 499, 500, 10000] HD.out (by rfl) (by rfl) (by rfl) (by simp) (by simp) (by omega)).mono ?_; rintro e w5 ⟨x5, rfl, hm, hD, hg⟩
  replace HB := hide (HD.out.blk HB.out hg (by decide))
  replace HD := hide hD; clear hD hg
  have b5 := (by decide : ∀ x ∈ ([0, 0, 0, 499, 500, 10000] : List Int), 0 ≤ x ∧ x ≤ 10000) _ hm; clear hm
  obtain ⟨g0, g1⟩ := b5
  have HT := hide (Blk.new w5 49 #[.int .i64 id, .string s2, .int .i64 x3, .int .i64 cl, .int .i64 x5])
  have hwt : b0 < w5.heap.size := HB.out.lt
  go_upto_region 2 with fail
  replace HB := hide (HB.out.alloc (.cells #[.int .i64 id, .string s2, .int .i64 x3, .int .i64 cl, .int .i64 x5] 49))
  replace HD := hide (HD.out.alloc (.cells #[.int .i64 id, .string s2, .int .i64 x3, .int .i64 cl, .int .i64 x5] 49))
  generalize w5.alloc (.cells #[.int .i64 id, .string s2, .int .i64 x3, .int .i64 cl, .int .i64 x5] 49) = w6 at *
  generalize hb1 : w5.heap.size = b1 at *
  go_wp2_with fail
  refine (pickD 80 HD.out (by omega)).mono ?_; rintro e w7 ⟨x7, rfl, p7, q7, hD, hg⟩
  replace HB := hide (HD.out.blk HB.out hg (by decide))
  replace HT := hide (HD.out.blk HT.out hg (by decide))
  replace HD := hide hD; clear hD hg
  by_cases z0 : x7 = 0
  · subst z0
    go_wp2_with fail
    refine (amongD [0, 999, 1000] HD.out (by rfl) (by rfl) (by rfl) (by simp) (by simp) (by omega)).mono ?_; rintro e w8 ⟨x8, rfl, hm, hD, hg⟩
    replace HB := hide (HD.out.blk HB.out hg (by decide))
    replace HT := hide (HD.out.blk HT.out hg (by decide))
    replace HD := hide hD; clear hD hg
    have b8 := (by decide : ∀ x ∈ ([0, 999, 1000] : List Int), 0 ≤ x ∧ x ≤ 1000) _ hm; clear hm
    have hb9 : -100000 ≤ x8 ∧ x8 ≤ 100000 := by omega
    obtain ⟨t0, t1, t2, t3, t4⟩ := mk5 HT.out
    have tf := fun o => HT.out.frozen o
    obtain ⟨m0, m1, m2, m3, m4⟩ := mk5 HB.out
    have mf := fun o => HB.out.frozen o
    have nb : ¬ b1 = b0 := by omega
    have nb2 : ¬ b0 = b1 := by omega
    go_wp2_with fail
    have hF := ((((((HB.out.far (p := ⟨b1, 0, none⟩) (by simp only; omega) (.int .i64 x8)).set 0 (.int .i64 x8)).set 1 (.string s2)).set 2 (.int .i64 x3)).set 3 (.int .i64 cl)).set 4 (.int .i64 x5))
    have f0 := hF.cell 0; have f1 := hF.cell 1; have f2 := hF.cell 2; have f3 := hF.cell 3; have f4 := hF.cell 4
    simp at f0 f1 f2 f3 f4
    have hE := ((((((HD.out.set (b := b1) (by omega) (by omega) 0 (.int .i64 x8)).set (b := b0) (by omega) (by omega) 0 (.int .i64 x8)).set (b := b0) (by omega) (by omega) 1 (.string s2)).set (b := b0) (by omega) (by omega) 2 (.int .i64 x3)).set (b := b0) (by omega) (by omega) 3 (.int .i64 cl)).set (b := b0) (by omega) (by omega) 4 (.int .i64 x5))
    exact bodyPost_ret (v := .agg #[.int .i64 x8, .string s2, .int .i64 x3, .int .i64 cl, .int .i64 x5]) (by simp [results, Try.results174, go_sem, f0, f1, f2, f3, f4]) rfl ⟨⟨x8, s2, x3, cl, x5⟩, rfl, (by refine ⟨⟨?_, ?_⟩, ⟨?_, ?_⟩, ⟨?_, ?_⟩, ⟨?_, ?_⟩, ?_⟩ <;> simp only <;> first | omega | assumption), ⟨(hE.le (by omega)).cur, grownTrans HD0.out.gr hE.gr, HD0.out.hb⟩, hE.gr⟩
  · by_cases z1 : x7 = 1
    · subst z1
      go_wp2_with fail
      refine (ofD [⟨#[]⟩, ⟨#[65]⟩, ⟨#[97, 98, 99, 100, 101, 102, 103, 104, 105, 106, 107]⟩] HD.out (by rfl) (by rfl) (by rfl) (by simp) (by simp) (by omega)).mono ?_; rintro e w8 ⟨s8, rfl, hm, hD, hg⟩
      replace HB := hide (HD.out.blk HB.out hg (by decide))
      replace HT := hide (HD.out.blk HT.out hg (by decide))
      replace HD := hide hD; clear hD hg
      have n8 : s8.size ≤ 20 := by simp only [List.mem_cons, List.not_mem_nil, or_false] at hm; rcases hm with rfl | rfl | rfl <;> decide
      clear hm
      obtain ⟨t0, t1, t2, t3, t4⟩ := mk5 HT.out
      have tf := fun o => HT.out.frozen o
      obtain ⟨m0, m1, m2, m3, m4⟩ := mk5 HB.out
      have mf := fun o => HB.out.frozen o
      have nb : ¬ b1 = b0 := by omega
      have nb2 : ¬ b0 = b1 := by omega
      go_wp2_with fail
      have hF := ((((((HB.out.far (p := ⟨b1, 1, none⟩) (by simp only; omega) (.string s8)).set 0 (.int .i64 id)).set 1 (.string s8)).set 2 (.int .i64 x3)).set 3 (.int .i64 cl)).set 4 (.int .i64 x5))
      have f0 := hF.cell 0; have f1 := hF.cell 1; have f2 := hF.cell 2; have f3 := hF.cell 3; have f4 := hF.cell 4
      simp at f0 f1 f2 f3 f4
      have hE := ((((((HD.out.set (b := b1) (by omega) (by omega) 1 (.string s8)).set (b := b0) (by omega) (by omega) 0 (.int .i64 id)).set (b := b0) (by omega) (by omega) 1 (.string s8)).set (b := b0) (by omega) (by omega) 2 (.int .i64 x3)).set (b := b0) (by omega) (by omega) 3 (.int .i64 cl)).set (b := b0) (by omega) (by omega) 4 (.int .i64 x5))
      exact bodyPost_ret (v := .agg #[.int .i64 id, .string s8, .int .i64 x3, .int .i64 cl, .int .i64 x5]) (by simp [results, Try.results174, go_sem, f0, f1, f2, f3, f4]) rfl ⟨⟨id, s8, x3, cl, x5⟩, rfl, (by refine ⟨⟨?_, ?_⟩, ⟨?_, ?_⟩, ⟨?_, ?_⟩, ⟨?_, ?_⟩, ?_⟩ <;> simp only <;> first | omega | assumption), ⟨(hE.le (by omega)).cur, grownTrans HD0.out.gr hE.gr, HD0.out.hb⟩, hE.gr⟩
    · by_cases z2 : x7 = 2
      · subst z2
        go_wp2_with fail
        refine (amongD [-1, 4001] HD.out (by rfl) (by rfl) (by rfl) (by simp) (by simp) (by omega)).mono ?_; rintro e w8 ⟨x8, rfl, hm, hD, hg⟩
        replace HB := hide (HD.out.blk HB.out hg (by decide))
        replace HT := hide (HD.out.blk HT.out hg (by decide))
        replace HD := hide hD; clear hD hg
        have b8 := (by decide : ∀ x ∈ ([-1, 4001] : List Int), -1 ≤ x ∧ x ≤ 4001) _ hm; clear hm
        have hb9 : -100000 ≤ x8 ∧ x8 ≤ 100000 := by omega
        obtain ⟨t0, t1, t2, t3, t4⟩ := mk5 HT.out
        have tf := fun o => HT.out.frozen o
        obtain ⟨m0, m1, m2, m3, m4⟩ := mk5 HB.out
        have mf := fun o => HB.out.frozen o
        have nb : ¬ b1 = b0 := by omega
        have nb2 : ¬ b0 = b1 := by omega
        go_wp2_with fail
        have hF := ((((((HB.out.far (p := ⟨b1, 2, none⟩) (by simp only; omega) (.int .i64 x8)).set 0 (.int .i64 id)).set 1 (.string s2)).set 2 (.int .i64 x8)).set 3 (.int .i64 cl)).set 4 (.int .i64 x5))
        have f0 := hF.cell 0; have f1 := hF.cell 1; have f2 := hF.cell 2; have f3 := hF.cell 3; have f4 := hF.cell 4
        simp at f0 f1 f2 f3 f4
        have hE := ((((((HD.out.set (b := b1) (by omega) (by omega) 2 (.int .i64 x8)).set (b := b0) (by omega) (by omega) 0 (.int .i64 id)).set (b := b0) (by omega) (by omega) 1 (.string s2)).set (b := b0) (by omega) (by omega) 2 (.int .i64 x8)).set (b := b0) (by omega) (by omega) 3 (.int .i64 cl)).set (b := b0) (by omega) (by omega) 4 (.int .i64 x5))
        exact bodyPost_ret (v := .agg #[.int .i64 id, .string s2, .int .i64 x8, .int .i64 cl, .int .i64 x5]) (by simp [results, Try.results174, go_sem, f0, f1, f2, f3, f4]) rfl ⟨⟨id, s2, x8, cl, x5⟩, rfl, (by refine ⟨⟨?_, ?_⟩, ⟨?_, ?_⟩, ⟨?_, ?_⟩, ⟨?_, ?_⟩, ?_⟩ <;> simp only <;> first | omega | assumption), ⟨(hE.le (by omega)).cur, grownTrans HD0.out.gr hE.gr, HD0.out.hb⟩, hE.gr⟩
      · by_cases z3 : x7 = 3
        · subst z3
          go_wp2_with fail
          refine (amongD [0, 4] HD.out (by rfl) (by rfl) (by rfl) (by simp) (by simp) (by omega)).mono ?_; rintro e w8 ⟨x8, rfl, hm, hD, hg⟩
          replace HB := hide (HD.out.blk HB.out hg (by decide))
          replace HT := hide (HD.out.blk HT.out hg (by decide))
          replace HD := hide hD; clear hD hg
          have b8 := (by decide : ∀ x ∈ ([0, 4] : List Int), 0 ≤ x ∧ x ≤ 4) _ hm; clear hm
          have hb9 : -100000 ≤ x8 ∧ x8 ≤ 100000 := by omega
          obtain ⟨t0, t1, t2, t3, t4⟩ := mk5 HT.out
          have tf := fun o => HT.out.frozen o
          obtain ⟨m0, m1, m2, m3, m4⟩ := mk5 HB.out
          have mf := fun o => HB.out.frozen o
          have nb : ¬ b1 = b0 := by omega
          have nb2 : ¬ b0 = b1 := by omega
          go_wp2_with fail
          have hF := ((((((HB.out.far (p := ⟨b1, 3, none⟩) (by simp only; omega) (.int .i64 x8)).set 0 (.int .i64 id)).set 1 (.string s2)).set 2 (.int .i64 x3)).set 3 (.int .i64 x8)).set 4 (.int .i64 x5))
          have f0 := hF.cell 0; have f1 := hF.cell 1; have f2 := hF.cell 2; have f3 := hF.cell 3; have f4 := hF.cell 4
          simp at f0 f1 f2 f3 f4
          have hE := ((((((HD.out.set (b := b1) (by omega) (by omega) 3 (.int .i64 x8)).set (b := b0) (by omega) (by omega) 0 (.int .i64 id)).set (b := b0) (by omega) (by omega) 1 (.string s2)).set (b := b0) (by omega) (by omega) 2 (.int .i64 x3)).set (b := b0) (by omega) (by omega) 3 (.int .i64 x8)).set (b := b0) (by omega) (by omega) 4 (.int .i64 x5))
          exact bodyPost_ret (v := .agg #[.int .i64 id, .string s2, .int .i64 x3, .int .i64 x8, .int .i64 x5]) (by simp [results, Try.results174, go_sem, f0, f1, f2, f3, f4]) rfl ⟨⟨id, s2, x3, x8, x5⟩, rfl, (by refine ⟨⟨?_, ?_⟩, ⟨?_, ?_⟩, ⟨?_, ?_⟩, ⟨?_, ?_⟩, ?_⟩ <;> simp only <;> first | omega | assumption), ⟨(hE.le (by omega)).cur, grownTrans HD0.out.gr hE.gr, HD0.out.hb⟩, hE.gr⟩
        · by_cases z4 : x7 = 4
          · subst z4
            go_wp2_with fail
            refine (amongD [-1, 10001] HD.out (by rfl) (by rfl) (by rfl) (by simp) (by simp) (by omega)).mono ?_; rintro e w8 ⟨x8, rfl, hm, hD, hg⟩
            replace HB := hide (HD.out.blk HB.out hg (by decide))
            replace HT := hide (HD.out.blk HT.out hg (by decide))
            replace HD := hide hD; clear hD hg
            have b8 := (by decide : ∀ x ∈ ([-1, 10001] : List Int), -1 ≤ x ∧ x ≤ 10001) _ hm; clear hm
            have hb9 : -100000 ≤ x8 ∧ x8 ≤ 100000 := by omega
            obtain ⟨t0, t1, t2, t3, t4⟩ := mk5 HT.out
            have tf := fun o => HT.out.frozen o
            obtain ⟨m0, m1, m2, m3, m4⟩ := mk5 HB.out
            have mf := fun o => HB.out.frozen o
            have nb : ¬ b1 = b0 := by omega
            have nb2 : ¬ b0 = b1 := by omega
            go_wp2_with fail
            have hF := ((((((HB.out.far (p := ⟨b1, 4, none⟩) (by simp only; omega) (.int .i64 x8)).set 0 (.int .i64 id)).set 1 (.string s2)).set 2 (.int .i64 x3)).set 3 (.int .i64 cl)).set 4 (.int .i64 x8))
            have f0 := hF.cell 0; have f1 := hF.cell 1; have f2 := hF.cell 2; have f3 := hF.cell 3; have f4 := hF.cell 4
            simp at f0 f1 f2 f3 f4
            have hE := ((((((HD.out.set (b := b1) (by omega) (by omega) 4 (.int .i64 x8)).set (b := b0) (by omega) (by omega) 0 (.int .i64 id)).set (b := b0) (by omega) (by omega) 1 (.string s2)).set (b := b0) (by omega) (by omega) 2 (.int .i64 x3)).set (b := b0) (by omega) (by omega) 3 (.int .i64 cl)).set (b := b0) (by omega) (by omega) 4 (.int .i64 x8))
            exact bodyPost_ret (v := .agg #[.int .i64 id, .string s2, .int .i64 x3, .int .i64 cl, .int .i64 x8]) (by simp [results, Try.results174, go_sem, f0, f1, f2, f3, f4]) rfl ⟨⟨id, s2, x3, cl, x8⟩, rfl, (by refine ⟨⟨?_, ?_⟩, ⟨?_, ?_⟩, ⟨?_, ?_⟩, ⟨?_, ?_⟩, ?_⟩ <;> simp only <;> first | omega | assumption), ⟨(hE.le (by omega)).cur, grownTrans HD0.out.gr hE.gr, HD0.out.hb⟩, hE.gr⟩
          · skip
            obtain ⟨t0, t1, t2, t3, t4⟩ := mk5 HT.out
            have tf := fun o => HT.out.frozen o
            obtain ⟨m0, m1, m2, m3, m4⟩ := mk5 HB.out
            have mf := fun o => HB.out.frozen o
            have nb : ¬ b1 = b0 := by omega
            have nb2 : ¬ b0 = b1 := by omega
            go_wp2_with fail
            have hF := (((((HB.out.set 0 (.int .i64 id)).set 1 (.string s2)).set 2 (.int .i64 x3)).set 3 (.int .i64 cl)).set 4 (.int .i64 x5))
            have f0 := hF.cell 0; have f1 := hF.cell 1; have f2 := hF.cell 2; have f3 := hF.cell 3; have f4 := hF.cell 4
            simp at f0 f1 f2 f3 f4
            have hE := (((((HD.out.set (b := b0) (by omega) (by omega) 0 (.int .i64 id)).set (b := b0) (by omega) (by omega) 1 (.string s2)).set (b := b0) (by omega) (by omega) 2 (.int .i64 x3)).set (b := b0) (by omega) (by omega) 3 (.int .i64 cl)).set (b := b0) (by omega) (by omega) 4 (.int .i64 x5))
            exact bodyPost_ret (v := .agg #[.int .i64 id, .string s2, .int .i64 x3, .int .i64 cl, .int .i64 x5]) (by simp [results, Try.results174, go_sem, f0, f1, f2, f3, f4]) rfl ⟨⟨id, s2, x3, cl, x5⟩, rfl, (by refine ⟨⟨?_, ?_⟩, ⟨?_, ?_⟩, ⟨?_, ?_⟩, ⟨?_, ?_⟩, ?_⟩ <;> simp only <;> first | omega | assumption), ⟨(hE.le (by omega)).cur, grownTrans HD0.out.gr hE.gr, HD0.out.hb⟩, hE.gr⟩
end Go.Proofs.Ytdbcilinoieabaa
