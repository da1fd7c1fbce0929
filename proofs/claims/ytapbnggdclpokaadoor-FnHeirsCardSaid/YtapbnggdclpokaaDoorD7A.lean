/- The drawing of a maker over a cursor: one whose numbers and name are small. Condition: a cursor that has stepped less than 2^60 times. (Printed by mkmaker7.py.) -/
import Derived.Test.YtapbnggdclpokaaDoorDr
import Derived.Test.YtapbnggdclpokaaDoorL7L
import Derived.Test.YtapbnggdclpokaaDoorStPush
import Derived.Test.YtapbnggdclpokaaDoorStOG
namespace Go.Proofs.YtapbnggdclpokaaDoor
open Go.RowKit
set_option linter.unusedVariables false
/-- numbers and name of a maker are small -/
def SMaker.Fit (z : SMaker) : Prop := (-100000 ≤ z.ident ∧ z.ident ≤ 100000) ∧ (-100000 ≤ z.frm ∧ z.frm ≤ 100000) ∧ (-100000 ≤ z.untl ∧ z.untl ≤ 100000) ∧ (-100000 ≤ z.heir ∧ z.heir ≤ 100000) ∧ z.name.size ≤ 20
theorem lit64 {x : Int} (h : -100000 ≤ x ∧ x ≤ 100000) : (Lit.int .i64 x).wf = true := by
  simp [Lit.wf, IntKind.min, IntKind.max, IntKind.signed, IntKind.bits]; omega
theorem SMaker.Fit.wf {z : SMaker} (h : z.Fit) : z.wf := by
  unfold SMaker.wf
  exact ⟨lit64 h.1, by simp only [maxLen]; have := h.2.2.2.2; omega, lit64 h.2.1, lit64 h.2.2.1, lit64 h.2.2.2.1⟩
theorem mk5 {w : World} {g : Nat} {t : TypeId} {a b c d e : Value} (h : Blk w g t #[a, b, c, d, e]) : w.cell? ⟨g, 0, none⟩ = some a ∧ w.cell? ⟨g, 1, none⟩ = some b ∧ w.cell? ⟨g, 2, none⟩ = some c ∧ w.cell? ⟨g, 3, none⟩ = some d ∧ w.cell? ⟨g, 4, none⟩ = some e :=
  ⟨by rw [h.cell]; rfl, by rw [h.cell]; rfl, by rw [h.cell]; rfl, by rw [h.cell]; rfl, by rw [h.cell]; rfl⟩
/-- one of the strings of a list that the text lays there -/
theorem ofD {w0 w : World} {base g : Nat} {A : Option Addr} {cap : Nat} {code : List Int} {k : Nat} (l : List ByteArray) {n m : Nat} {cs : Array Value} (h : DS w0 base g A cap code k w) (hcs : cs = (l.map Value.string).toArray) (hn : n = l.length) (hm : m = l.length) (h1 : 1 ≤ l.length) (h2 : l.length ≤ 1000) (hk : k + 2 < 2305843009213693952) :
    Calls Tryd.prog 75 #[.pointer (some ⟨g, 0, none⟩), .slice (some ⟨w.heap.size, 0, none⟩) n m] (w.alloc (.cells cs 9)) fun e w' => ∃ x : ByteArray, e = .returned (.string x) ∧ x ∈ l ∧ DS w0 base g A cap code (k + 2) w' ∧ w.grownBy w' (some g) := by
  subst hcs hn hm
  have HD := hide (h.alloc (.cells (l.map Value.string).toArray 9))
  have HB := hide (Blk.new w 9 (l.map Value.string).toArray)
  generalize hb0 : w.heap.size = b0 at *
  have hgw := World.grownBy_alloc w (.cells (l.map Value.string).toArray 9) (some g)
  have HGW := hide hgw; clear hgw h
  go_enter Tryd.func75, Tryd.ntmps75
  go_wp2_with fail
  refine (pickD (l.length : Int) HD.out (by omega)).mono ?_; rintro e w1 ⟨x, rfl, hx0, hx1, hD, hg⟩
  obtain ⟨q, rfl⟩ : ∃ q : Nat, x = (q : Int) := ⟨x.toNat, by omega⟩
  have hq : q < l.length := by omega
  have hq' : (q : Int) < l.length := by omega
  have hblk := HD.out.blk HB.out hg (by decide)
  have hcell : w1.cell? ⟨b0, q, none⟩ = some (.string l[q]) := by rw [hblk.cell]; simp [hq]
  have hmem : l[q] ∈ l := List.getElem_mem hq
  generalize l[q] = y at *
  have HD1 := hide hD; have HM := hide hmem; have HG := hide (grownTrans HGW.out hg); clear hD hmem hblk hg
  go_wp2_with fail
  go_ret
  exact ⟨y, rfl, HM.out, HD1.out, HG.out⟩
set_option maxRecDepth 100000 in
set_option maxHeartbeats 1000000 in
theorem maker_is (w0 w : World) (base g k : Nat) (A : Option Addr) (cap : Nat) (code : List Int) (hD : DS w0 base g A cap code k w) (id : Int) (hid : -1000 ≤ id ∧ id ≤ 1000) (hk : k + 30 < 2305843009213693952) :
    Calls Tryd.prog 66 #[.pointer (some ⟨g, 0, none⟩), .int .i64 id] w fun e w' => ∃ z : SMaker, e = .returned (.agg #[.int .i64 z.ident, .string z.name, .int .i64 z.frm, .int .i64 z.untl, .int .i64 z.heir]) ∧ z.Fit ∧ DS w0 base g A cap code (k + 30) w' ∧ w.grownBy w' (some g) := by
  have hB := Blk.new w 27 #[.int .i64 0, .string ⟨#[]⟩, .int .i64 0, .int .i64 0, .int .i64 0]
  have hD1 := (DS.start hD.cur hD.sz).alloc (.cells #[.int .i64 0, .string ⟨#[]⟩, .int .i64 0, .int .i64 0, .int .i64 0] 27)
  have hgw := hD.lt
  have HD0 := hide hD
  have HD := hide hD1; have HB := hide hB; clear hD hD1 hB
  obtain ⟨hid0, hid1⟩ := hid
  go_enter Tryd.func66, Tryd.ntmps66
  go_upto_region 1 with fail
  generalize hb0 : w.heap.size = b0 at *
  generalize w.alloc (.cells #[.int .i64 0, .string ⟨#[]⟩, .int .i64 0, .int .i64 0, .int .i64 0] 27) = w1 at *
  go_wp2_with fail
  refine (ofD [⟨#[97, 116, 108, 97, 115]⟩, ⟨#[98, 108, 97, 101, 117]⟩, ⟨#[99, 97, 115, 115, 105, 110, 105]⟩, ⟨#[100, 117, 102, 111, 117, 114]⟩] HD.out (by rfl) (by rfl) (by rfl) (by simp) (by simp) (by omega)).mono ?_; rintro e w2 ⟨s2, rfl, hm, hD, hg⟩
  replace HB := hide (HD.out.blk HB.out hg (by decide))
  replace HD := hide hD; clear hD hg
  have n2 : s2.size ≤ 20 := by simp only [List.mem_cons, List.not_mem_nil, or_false] at hm; rcases hm with rfl | rfl | rfl | rfl <;> decide
  clear hm
  go_wp2_with fail
  refine (amongD [1500, 1700, 1750, 1800, 1850, 1900] HD.out (by rfl) (by rfl) (by rfl) (by simp) (by simp) (by omega)).mono ?_; rintro e w3 ⟨x3, rfl, hm, hD, hg⟩
  replace HB := hide (HD.out.blk HB.out hg (by decide))
  replace HD := hide hD; clear hD hg
  have b3 := (by decide : ∀ x ∈ ([1500, 1700, 1750, 1800, 1850, 1900] : List Int), 1500 ≤ x ∧ x ≤ 1900) _ hm; clear hm
  obtain ⟨f0, f1⟩ := b3
  have HT := hide (Blk.new w3 27 #[.int .i64 id, .string s2, .int .i64 x3, .int .i64 0, .int .i64 0])
  have hwt : b0 < w3.heap.size := HB.out.lt
  go_upto_region 2 with fail
  replace HB := hide (HB.out.alloc (.cells #[.int .i64 id, .string s2, .int .i64 x3, .int .i64 0, .int .i64 0] 27))
  replace HD := hide (HD.out.alloc (.cells #[.int .i64 id, .string s2, .int .i64 x3, .int .i64 0, .int .i64 0] 27))
  generalize w3.alloc (.cells #[.int .i64 id, .string s2, .int .i64 x3, .int .i64 0, .int .i64 0] 27) = w4 at *
  generalize hb1 : w3.heap.size = b1 at *
  have hdr := (Below.refl w4.heap.size w4).drew
  have HDd := hide (HD.out.below hdr); have HBd := hide (HB.out.below hdr HB.out.lt); have HTd := hide (HT.out.below hdr HT.out.lt)
  obtain ⟨t0, t1, t2, t3, t4⟩ := mk5 HT.out
  have tf := fun o => HT.out.frozen o
  clear hdr
  go_wp2_with fail
  go_region_held3 (fun W => W.cell? ⟨b1, 2, none⟩ = some (.int .i64 x3)) (first | go_keep | (exact tk _))
    (first
      | (go_at_call 76; refine (l1Least_any _ _ _).mono ?_; rintro e w' ⟨rfl, rfl⟩)
      | (go_at_call 67; refine (amongD [0, 20, 49, 50, 99, 600] HDd.out (by rfl) (by rfl) (by rfl) (by simp) (by simp) (by omega)).mono ?_; rintro e w20 ⟨x20, rfl, hm, hD, hg⟩; have b20 := (by decide : ∀ x ∈ ([0, 20, 49, 50, 99, 600] : List Int), 0 ≤ x ∧ x ≤ 600) _ hm; have HB20 := hide (HDd.out.blk HBd.out hg (by decide)); have HT20 := hide (HDd.out.blk HTd.out hg (by decide)); have HD20 := hide hD; clear hD hg hm; obtain ⟨t0, t1, t2, t3, t4⟩ := mk5 HT20.out; have tf := (fun o => HT20.out.frozen o); have hws : IntKind.i64.wrap (x3 + x20) = x3 + x20 := IntWalk.i64_in _ (by omega); have tk := (fun v => (show (w20.setCell ⟨b1, 3, none⟩ v).cell? ⟨b1, 2, none⟩ = some (.int .i64 x3) from (HT20.out.set 3 v).cell 2))))
  all_goals
    go_wp2_with fail
    have hu : 1500 ≤ min 2100 (x3 + x20) ∧ min 2100 (x3 + x20) ≤ 2100 := by omega
    generalize min 2100 (x3 + x20) = u at *
    obtain ⟨u0, u1⟩ := hu
    have HT := hide (show Blk (w20.setCell ⟨b1, 3, none⟩ (.int .i64 u)) b1 27 #[.int .i64 id, .string s2, .int .i64 x3, .int .i64 u, .int .i64 0] from HT20.out.set 3 (.int .i64 u))
    have HB := hide (HB20.out.far (p := ⟨b1, 3, none⟩) (by simp only; omega) (.int .i64 u))
    have HD := hide (HD20.out.set (b := b1) (by omega) (by omega) 3 (.int .i64 u))
    clear HB20 HT20 HD20 HDd HBd HTd t0 t1 t2 t3 t4 tf tk hws
    generalize w20.setCell ⟨b1, 3, none⟩ (.int .i64 u) = w21 at *
    refine (pickD 80 HD.out (by omega)).mono ?_; rintro e w22 ⟨x22, rfl, p22, q22, hD, hg⟩
    replace HB := hide (HD.out.blk HB.out hg (by decide))
    replace HT := hide (HD.out.blk HT.out hg (by decide))
    replace HD := hide hD; clear hD hg
    by_cases z0 : x22 = 0
    · subst z0
      go_wp2_with fail
      refine (amongD [0, 99, 100] HD.out (by rfl) (by rfl) (by rfl) (by simp) (by simp) (by omega)).mono ?_; rintro e w23 ⟨x23, rfl, hm, hD, hg⟩
      replace HB := hide (HD.out.blk HB.out hg (by decide))
      replace HT := hide (HD.out.blk HT.out hg (by decide))
      replace HD := hide hD; clear hD hg
      have b23 := (by decide : ∀ x ∈ ([0, 99, 100] : List Int), 0 ≤ x ∧ x ≤ 100) _ hm; clear hm
      have hb9 : -100000 ≤ x23 ∧ x23 ≤ 100000 := by omega
      obtain ⟨t0, t1, t2, t3, t4⟩ := mk5 HT.out
      have tf := fun o => HT.out.frozen o
      obtain ⟨m0, m1, m2, m3, m4⟩ := mk5 HB.out
      have mf := fun o => HB.out.frozen o
      have nb : ¬ b1 = b0 := by omega
      have nb2 : ¬ b0 = b1 := by omega
      go_wp2_with fail
      have hF := ((((((HB.out.far (p := ⟨b1, 0, none⟩) (by simp only; omega) (.int .i64 x23)).set 0 (.int .i64 x23)).set 1 (.string s2)).set 2 (.int .i64 x3)).set 3 (.int .i64 u)).set 4 (.int .i64 0))
      have f0 := hF.cell 0; have f1 := hF.cell 1; have f2 := hF.cell 2; have f3 := hF.cell 3; have f4 := hF.cell 4
      simp at f0 f1 f2 f3 f4
      have hE := ((((((HD.out.set (b := b1) (by omega) (by omega) 0 (.int .i64 x23)).set (b := b0) (by omega) (by omega) 0 (.int .i64 x23)).set (b := b0) (by omega) (by omega) 1 (.string s2)).set (b := b0) (by omega) (by omega) 2 (.int .i64 x3)).set (b := b0) (by omega) (by omega) 3 (.int .i64 u)).set (b := b0) (by omega) (by omega) 4 (.int .i64 0))
      exact bodyPost_ret (v := .agg #[.int .i64 x23, .string s2, .int .i64 x3, .int .i64 u, .int .i64 0]) (by simp [results, Tryd.results66, go_sem, f0, f1, f2, f3, f4]) rfl ⟨⟨x23, s2, x3, u, 0⟩, rfl, (by refine ⟨⟨?_, ?_⟩, ⟨?_, ?_⟩, ⟨?_, ?_⟩, ⟨?_, ?_⟩, ?_⟩ <;> simp only <;> first | omega | assumption), ⟨(hE.le (by omega)).cur, grownTrans HD0.out.gr hE.gr, HD0.out.hb⟩, hE.gr⟩
    · by_cases z1 : x22 = 1
      · subst z1
        go_wp2_with fail
        refine (ofD [⟨#[]⟩, ⟨#[65, 98]⟩, ⟨#[97, 98, 99, 100, 101, 102, 103, 104, 105, 106, 107]⟩] HD.out (by rfl) (by rfl) (by rfl) (by simp) (by simp) (by omega)).mono ?_; rintro e w23 ⟨s23, rfl, hm, hD, hg⟩
        replace HB := hide (HD.out.blk HB.out hg (by decide))
        replace HT := hide (HD.out.blk HT.out hg (by decide))
        replace HD := hide hD; clear hD hg
        have n23 : s23.size ≤ 20 := by simp only [List.mem_cons, List.not_mem_nil, or_false] at hm; rcases hm with rfl | rfl | rfl <;> decide
        clear hm
        obtain ⟨t0, t1, t2, t3, t4⟩ := mk5 HT.out
        have tf := fun o => HT.out.frozen o
        obtain ⟨m0, m1, m2, m3, m4⟩ := mk5 HB.out
        have mf := fun o => HB.out.frozen o
        have nb : ¬ b1 = b0 := by omega
        have nb2 : ¬ b0 = b1 := by omega
        go_wp2_with fail
        have hF := ((((((HB.out.far (p := ⟨b1, 1, none⟩) (by simp only; omega) (.string s23)).set 0 (.int .i64 id)).set 1 (.string s23)).set 2 (.int .i64 x3)).set 3 (.int .i64 u)).set 4 (.int .i64 0))
        have f0 := hF.cell 0; have f1 := hF.cell 1; have f2 := hF.cell 2; have f3 := hF.cell 3; have f4 := hF.cell 4
        simp at f0 f1 f2 f3 f4
        have hE := ((((((HD.out.set (b := b1) (by omega) (by omega) 1 (.string s23)).set (b := b0) (by omega) (by omega) 0 (.int .i64 id)).set (b := b0) (by omega) (by omega) 1 (.string s23)).set (b := b0) (by omega) (by omega) 2 (.int .i64 x3)).set (b := b0) (by omega) (by omega) 3 (.int .i64 u)).set (b := b0) (by omega) (by omega) 4 (.int .i64 0))
        exact bodyPost_ret (v := .agg #[.int .i64 id, .string s23, .int .i64 x3, .int .i64 u, .int .i64 0]) (by simp [results, Tryd.results66, go_sem, f0, f1, f2, f3, f4]) rfl ⟨⟨id, s23, x3, u, 0⟩, rfl, (by refine ⟨⟨?_, ?_⟩, ⟨?_, ?_⟩, ⟨?_, ?_⟩, ⟨?_, ?_⟩, ?_⟩ <;> simp only <;> first | omega | assumption), ⟨(hE.le (by omega)).cur, grownTrans HD0.out.gr hE.gr, HD0.out.hb⟩, hE.gr⟩
      · by_cases z2 : x22 = 2
        · subst z2
          obtain ⟨t0, t1, t2, t3, t4⟩ := mk5 HT.out
          have tf := fun o => HT.out.frozen o
          go_wp2_with fail
          refine (amongD [1499, u + 1] HD.out (by rfl) (by rfl) (by rfl) (by simp) (by simp) (by omega)).mono ?_; rintro e w23 ⟨x23, rfl, hm, hD, hg⟩
          replace HB := hide (HD.out.blk HB.out hg (by decide))
          replace HT := hide (HD.out.blk HT.out hg (by decide))
          replace HD := hide hD; clear hD hg
          have b23 := hm; simp only [List.mem_cons, List.not_mem_nil, or_false] at b23; clear hm
          have hb9 : -100000 ≤ x23 ∧ x23 ≤ 100000 := by rcases b23 with h | h <;> rw [h] <;> omega
          obtain ⟨t0, t1, t2, t3, t4⟩ := mk5 HT.out
          have tf := fun o => HT.out.frozen o
          obtain ⟨m0, m1, m2, m3, m4⟩ := mk5 HB.out
          have mf := fun o => HB.out.frozen o
          have nb : ¬ b1 = b0 := by omega
          have nb2 : ¬ b0 = b1 := by omega
          go_wp2_with fail
          have hF := ((((((HB.out.far (p := ⟨b1, 2, none⟩) (by simp only; omega) (.int .i64 x23)).set 0 (.int .i64 id)).set 1 (.string s2)).set 2 (.int .i64 x23)).set 3 (.int .i64 u)).set 4 (.int .i64 0))
          have f0 := hF.cell 0; have f1 := hF.cell 1; have f2 := hF.cell 2; have f3 := hF.cell 3; have f4 := hF.cell 4
          simp at f0 f1 f2 f3 f4
          have hE := ((((((HD.out.set (b := b1) (by omega) (by omega) 2 (.int .i64 x23)).set (b := b0) (by omega) (by omega) 0 (.int .i64 id)).set (b := b0) (by omega) (by omega) 1 (.string s2)).set (b := b0) (by omega) (by omega) 2 (.int .i64 x23)).set (b := b0) (by omega) (by omega) 3 (.int .i64 u)).set (b := b0) (by omega) (by omega) 4 (.int .i64 0))
          exact bodyPost_ret (v := .agg #[.int .i64 id, .string s2, .int .i64 x23, .int .i64 u, .int .i64 0]) (by simp [results, Tryd.results66, go_sem, f0, f1, f2, f3, f4]) rfl ⟨⟨id, s2, x23, u, 0⟩, rfl, (by refine ⟨⟨?_, ?_⟩, ⟨?_, ?_⟩, ⟨?_, ?_⟩, ⟨?_, ?_⟩, ?_⟩ <;> simp only <;> first | omega | assumption), ⟨(hE.le (by omega)).cur, grownTrans HD0.out.gr hE.gr, HD0.out.hb⟩, hE.gr⟩
        · by_cases z3 : x22 = 3
          · subst z3
            obtain ⟨t0, t1, t2, t3, t4⟩ := mk5 HT.out
            have tf := fun o => HT.out.frozen o
            obtain ⟨m0, m1, m2, m3, m4⟩ := mk5 HB.out
            have mf := fun o => HB.out.frozen o
            have nb : ¬ b1 = b0 := by omega
            have nb2 : ¬ b0 = b1 := by omega
            go_wp2_with fail
            have hF := ((((((HB.out.far (p := ⟨b1, 3, none⟩) (by simp only; omega) (.int .i64 2101)).set 0 (.int .i64 id)).set 1 (.string s2)).set 2 (.int .i64 x3)).set 3 (.int .i64 2101)).set 4 (.int .i64 0))
            have f0 := hF.cell 0; have f1 := hF.cell 1; have f2 := hF.cell 2; have f3 := hF.cell 3; have f4 := hF.cell 4
            simp at f0 f1 f2 f3 f4
            have hE := ((((((HD.out.set (b := b1) (by omega) (by omega) 3 (.int .i64 2101)).set (b := b0) (by omega) (by omega) 0 (.int .i64 id)).set (b := b0) (by omega) (by omega) 1 (.string s2)).set (b := b0) (by omega) (by omega) 2 (.int .i64 x3)).set (b := b0) (by omega) (by omega) 3 (.int .i64 2101)).set (b := b0) (by omega) (by omega) 4 (.int .i64 0))
            exact bodyPost_ret (v := .agg #[.int .i64 id, .string s2, .int .i64 x3, .int .i64 2101, .int .i64 0]) (by simp [results, Tryd.results66, go_sem, f0, f1, f2, f3, f4]) rfl ⟨⟨id, s2, x3, 2101, 0⟩, rfl, (by refine ⟨⟨?_, ?_⟩, ⟨?_, ?_⟩, ⟨?_, ?_⟩, ⟨?_, ?_⟩, ?_⟩ <;> simp only <;> first | omega | assumption), ⟨(hE.le (by omega)).cur, grownTrans HD0.out.gr hE.gr, HD0.out.hb⟩, hE.gr⟩
          · by_cases z4 : x22 = 4
            · subst z4
              obtain ⟨t0, t1, t2, t3, t4⟩ := mk5 HT.out
              have tf := fun o => HT.out.frozen o
              go_wp2_with fail
              refine (amongD [-1, 100, id] HD.out (by rfl) (by rfl) (by rfl) (by simp) (by simp) (by omega)).mono ?_; rintro e w23 ⟨x23, rfl, hm, hD, hg⟩
              replace HB := hide (HD.out.blk HB.out hg (by decide))
              replace HT := hide (HD.out.blk HT.out hg (by decide))
              replace HD := hide hD; clear hD hg
              have b23 := hm; simp only [List.mem_cons, List.not_mem_nil, or_false] at b23; clear hm
              have hb9 : -100000 ≤ x23 ∧ x23 ≤ 100000 := by rcases b23 with h | h | h <;> rw [h] <;> omega
              obtain ⟨t0, t1, t2, t3, t4⟩ := mk5 HT.out
              have tf := fun o => HT.out.frozen o
              obtain ⟨m0, m1, m2, m3, m4⟩ := mk5 HB.out
              have mf := fun o => HB.out.frozen o
              have nb : ¬ b1 = b0 := by omega
              have nb2 : ¬ b0 = b1 := by omega
              go_wp2_with fail
              have hF := ((((((HB.out.far (p := ⟨b1, 4, none⟩) (by simp only; omega) (.int .i64 x23)).set 0 (.int .i64 id)).set 1 (.string s2)).set 2 (.int .i64 x3)).set 3 (.int .i64 u)).set 4 (.int .i64 x23))
              have f0 := hF.cell 0; have f1 := hF.cell 1; have f2 := hF.cell 2; have f3 := hF.cell 3; have f4 := hF.cell 4
              simp at f0 f1 f2 f3 f4
              have hE := ((((((HD.out.set (b := b1) (by omega) (by omega) 4 (.int .i64 x23)).set (b := b0) (by omega) (by omega) 0 (.int .i64 id)).set (b := b0) (by omega) (by omega) 1 (.string s2)).set (b := b0) (by omega) (by omega) 2 (.int .i64 x3)).set (b := b0) (by omega) (by omega) 3 (.int .i64 u)).set (b := b0) (by omega) (by omega) 4 (.int .i64 x23))
              exact bodyPost_ret (v := .agg #[.int .i64 id, .string s2, .int .i64 x3, .int .i64 u, .int .i64 x23]) (by simp [results, Tryd.results66, go_sem, f0, f1, f2, f3, f4]) rfl ⟨⟨id, s2, x3, u, x23⟩, rfl, (by refine ⟨⟨?_, ?_⟩, ⟨?_, ?_⟩, ⟨?_, ?_⟩, ⟨?_, ?_⟩, ?_⟩ <;> simp only <;> first | omega | assumption), ⟨(hE.le (by omega)).cur, grownTrans HD0.out.gr hE.gr, HD0.out.hb⟩, hE.gr⟩
            · obtain ⟨t0, t1, t2, t3, t4⟩ := mk5 HT.out
              have tf := fun o => HT.out.frozen o
              obtain ⟨m0, m1, m2, m3, m4⟩ := mk5 HB.out
              have mf := fun o => HB.out.frozen o
              have nb : ¬ b1 = b0 := by omega
              have nb2 : ¬ b0 = b1 := by omega
              go_wp2_with fail
              have hF := (((((HB.out.set 0 (.int .i64 id)).set 1 (.string s2)).set 2 (.int .i64 x3)).set 3 (.int .i64 u)).set 4 (.int .i64 0))
              have f0 := hF.cell 0; have f1 := hF.cell 1; have f2 := hF.cell 2; have f3 := hF.cell 3; have f4 := hF.cell 4
              simp at f0 f1 f2 f3 f4
              have hE := (((((HD.out.set (b := b0) (by omega) (by omega) 0 (.int .i64 id)).set (b := b0) (by omega) (by omega) 1 (.string s2)).set (b := b0) (by omega) (by omega) 2 (.int .i64 x3)).set (b := b0) (by omega) (by omega) 3 (.int .i64 u)).set (b := b0) (by omega) (by omega) 4 (.int .i64 0))
              exact bodyPost_ret (v := .agg #[.int .i64 id, .string s2, .int .i64 x3, .int .i64 u, .int .i64 0]) (by simp [results, Tryd.results66, go_sem, f0, f1, f2, f3, f4]) rfl ⟨⟨id, s2, x3, u, 0⟩, rfl, (by refine ⟨⟨?_, ?_⟩, ⟨?_, ?_⟩, ⟨?_, ?_⟩, ⟨?_, ?_⟩, ?_⟩ <;> simp only <;> first | omega | assumption), ⟨(hE.le (by omega)).cur, grownTrans HD0.out.gr hE.gr, HD0.out.hb⟩, hE.gr⟩
end Go.Proofs.YtapbnggdclpokaaDoor
