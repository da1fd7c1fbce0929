/- Drawing texts over a cursor (spec's of and any1), and the drawing functions of FnStrings. No condition beyond a cursor that has stepped less than 2^60 times. -/
import Derived.Test.YtplemibckjnbhaaDoorDr
import Derived.Test.YtplemibckjnbhaaDoorLsT
import Derived.Laws.MakeOwn
namespace Go.Proofs.YtplemibckjnbhaaDoor
open Go.RowKit
set_option linter.unusedVariables false
set_option maxRecDepth 100000 in
/-- one of the strings of a list that the text lays there -/
theorem ofD {w0 w : World} {base g : Nat} {A : Option Addr} {cap : Nat} {code : List Int} {k : Nat} (l : List ByteArray) {n m : Nat} {cs : Array Value} (h : DS w0 base g A cap code k w) (hcs : cs = (l.map Value.string).toArray) (hn : n = l.length) (hm : m = l.length) (h1 : 1 ≤ l.length) (h2 : l.length ≤ 1000) (hk : k + 2 < 2305843009213693952) :
    Calls Tryd.prog 49 #[.pointer (some ⟨g, 0, none⟩), .slice (some ⟨w.heap.size, 0, none⟩) n m] (w.alloc (.cells cs 9)) fun e w' => ∃ x : ByteArray, e = .returned (.string x) ∧ x ∈ l ∧ DS w0 base g A cap code (k + 2) w' ∧ w.grownBy w' (some g) := by
  subst hcs hn hm
  have HD := hide (h.alloc (.cells (l.map Value.string).toArray 9))
  have HB := hide (Blk.new w 9 (l.map Value.string).toArray)
  generalize hb0 : w.heap.size = b0 at *
  have hgw := World.grownBy_alloc w (.cells (l.map Value.string).toArray 9) (some g)
  have HGW := hide hgw; clear hgw h
  go_enter Tryd.func49, Tryd.ntmps49
  go_wp2_with fail
  refine (pickD (l.length : Int) HD.out (by omega)).mono ?_; rintro e w1 ⟨x, rfl, hx0, hx1, hD, hg⟩
  obtain ⟨q, rfl⟩ : ∃ q : Nat, x = (q : Int) := ⟨x.toNat, by omega⟩
  have hq : q < l.length := by omega
  have hq' : (q : Int) < l.length := by omega
  have hblk := HD.out.blk HB.out hg (by decide)
  have hcell : w1.cell? ⟨b0, q, none⟩ = some (.string l[q]) := by rw [hblk.cell]; simp [hq]
  have hmem : l[q] ∈ l := List.getElem_mem hq
  generalize l[q] = y at *
  have HD1 := hide hD; have HM := hide hmem; have HG := hide (grownTrans HGW.out hg); clear hD hmem hblk hg
  go_wp2_with fail
  go_ret
  exact ⟨y, rfl, HM.out, HD1.out, HG.out⟩

theorem any1D {w0 w : World} {base g : Nat} {A : Option Addr} {cap : Nat} {code : List Int} {k : Nat} (h : DS w0 base g A cap code k w) (hk : k + 2 < 2305843009213693952) :
    Calls Tryd.prog 48 #[.pointer (some ⟨g, 0, none⟩)] w fun e w' => ∃ x : ByteArray, e = .returned (.string x) ∧ x.size ≤ 20 ∧ DS w0 base g A cap code (k + 2) w' ∧ w.grownBy w' (some g) := by
  have HD := hide h; clear h
  go_enter Tryd.func48, Tryd.ntmps48
  go_wp2_with fail
  refine (ofD [⟨#[]⟩, ⟨#[97]⟩, ⟨#[97, 44, 98]⟩, ⟨#[115, 111, 109, 101, 32, 119, 111, 114, 100, 115]⟩, ⟨#[120, 35, 121]⟩, ⟨#[45, 49, 50]⟩, ⟨#[0, 255]⟩, ⟨#[44, 44]⟩, ⟨#[48]⟩] HD.out (by rfl) (by rfl) (by rfl) (by simp) (by simp) (by omega)).mono ?_; rintro e w1 ⟨x, rfl, hm, hD, hg⟩
  have hz : x.size ≤ 20 := (by decide : ∀ y ∈ ([⟨#[]⟩, ⟨#[97]⟩, ⟨#[97, 44, 98]⟩, ⟨#[115, 111, 109, 101, 32, 119, 111, 114, 100, 115]⟩, ⟨#[120, 35, 121]⟩, ⟨#[45, 49, 50]⟩, ⟨#[0, 255]⟩, ⟨#[44, 44]⟩, ⟨#[48]⟩] : List ByteArray), y.size ≤ 20) x hm
  have H1 := hide hz; have H2 := hide hD; have H3 := hide hg; clear hz hD hg hm
  go_wp2_with fail
  go_ret
  exact ⟨x, rfl, H1.out, H2.out, H3.out⟩
set_option maxRecDepth 100000 in
set_option maxHeartbeats 4000000 in
theorem drawFormatInt_is (w : World) (v : Value) (A : Option Addr) (cap : Nat) (code : List Int) (h : Code w v A cap code) :
    Calls Tryd.prog 37 #[v] w fun e w' => ∃ x : Int, e = .returned (.int .i64 x) ∧ (-1000000 ≤ x ∧ x ≤ 1000000) ∧ Below w.heap.size w w' := by
  have hD := DS.new h
  obtain rfl := h.eq
  have HD := hide hD; clear hD h
  go_enter Tryd.func37, Tryd.ntmps37
  go_wp2_with fail
  generalize hgs : w.heap.size = g at *
  generalize hw0 : w.alloc (.cells #[.slice A code.length cap, .int .i64 0, .int .u64 0] 71) = w0 at *
  refine (pickD 1000 HD.out (by omega)).mono ?_; rintro e w1 ⟨x1, rfl, p1, q1, hD, hg⟩
  replace HD := hide hD; clear hD hg
  go_wp2_with fail
  refine (amongD [0, 1, -1, 10, 999999, -999999, 1000000, -1000000, x1 - 500] HD.out (by rfl) (by rfl) (by rfl) (by simp) (by simp) (by omega)).mono ?_; rintro e w2 ⟨x2, rfl, hm, hD, hg⟩
  have hb : -1000000 ≤ x2 ∧ x2 ≤ 1000000 := by simp only [List.mem_cons, List.not_mem_nil, or_false] at hm; omega
  replace HD := hide hD; have HBD := hide hb; clear hD hg hb hm
  go_wp2_with fail
  go_ret
  subst hw0 hgs
  exact ⟨x2, rfl, HBD.out, HD.out.end⟩
set_option maxRecDepth 100000 in
set_option maxHeartbeats 4000000 in
theorem drawParseInt_is (w : World) (v : Value) (A : Option Addr) (cap : Nat) (code : List Int) (h : Code w v A cap code) :
    Calls Tryd.prog 40 #[v] w fun e w' => ∃ x : ByteArray, e = .returned (.string x) ∧ x.size ≤ 30 ∧ Below w.heap.size w w' := by
  have hD := DS.new h
  obtain rfl := h.eq
  have HD := hide hD; clear hD h
  go_enter Tryd.func40, Tryd.ntmps40
  go_wp2_with fail
  generalize hgs : w.heap.size = g at *
  generalize hw0 : w.alloc (.cells #[.slice A code.length cap, .int .i64 0, .int .u64 0] 71) = w0 at *
  refine (oneD 2 HD.out (by omega)).mono ?_; rintro e w1 ⟨x1, rfl, hD, hg⟩
  replace HD := hide hD; clear hD hg
  cases x1 with
  | true =>
    go_wp2_with fail
    refine (ofD [⟨#[]⟩, ⟨#[45]⟩, ⟨#[45, 48]⟩, ⟨#[48, 48]⟩, ⟨#[48, 49]⟩, ⟨#[45, 45, 49]⟩, ⟨#[49, 120]⟩, ⟨#[57, 57, 57, 57, 57, 57]⟩, ⟨#[49, 48, 48, 48, 48, 48, 48]⟩, ⟨#[45, 57, 57, 57, 57, 57, 57]⟩, ⟨#[49, 56, 52, 52, 54, 55, 52, 52, 48, 55, 51, 55, 48, 57, 53, 53, 49, 54, 49, 55]⟩] HD.out (by rfl) (by rfl) (by rfl) (by simp) (by simp) (by omega)).mono ?_; rintro e w2 ⟨x, rfl, hm, hD, hg⟩
    have hz : x.size ≤ 30 := (by decide : ∀ y ∈ ([⟨#[]⟩, ⟨#[45]⟩, ⟨#[45, 48]⟩, ⟨#[48, 48]⟩, ⟨#[48, 49]⟩, ⟨#[45, 45, 49]⟩, ⟨#[49, 120]⟩, ⟨#[57, 57, 57, 57, 57, 57]⟩, ⟨#[49, 48, 48, 48, 48, 48, 48]⟩, ⟨#[45, 57, 57, 57, 57, 57, 57]⟩, ⟨#[49, 56, 52, 52, 54, 55, 52, 52, 48, 55, 51, 55, 48, 57, 53, 53, 49, 54, 49, 55]⟩] : List ByteArray), y.size ≤ 30) x hm
    replace HD := hide hD; have H1 := hide hz; clear hD hg hz hm
    go_wp2_with fail
    go_ret
    subst hw0 hgs
    exact ⟨x, rfl, H1.out, HD.out.end⟩
  | false =>
    go_wp2_with fail
    refine (pickD 2000 HD.out (by omega)).mono ?_; rintro e w2 ⟨x2, rfl, p2, q2, hD, hg⟩
    replace HD := hide hD; clear hD hg
    have hz := (numS_size (x2 - 1000) (by omega) (by omega)).2
    have hc := fun w => num_is (x2 - 1000) w (by omega) (by omega)
    generalize numS (x2 - 1000) = t at *
    have HC := hide hc; clear hc
    go_wp2_with fail
    refine (HC.out _).mono ?_; rintro e w3 ⟨rfl, hb⟩
    replace HD := hide (HD.out.below hb); clear hb
    go_wp2_with fail
    go_ret
    subst hw0 hgs
    exact ⟨t, rfl, by omega, HD.out.end⟩
theorem is_zeros (w : World) (n : Nat) (hn : n ≤ maxLen) : Is 1 encB (w.alloc (.cells (madeCells #[.int .u8 0] n) 5)) (.slice (some ⟨w.heap.size, 0, none⟩) n n) (List.replicate n (0 : UInt8)) := by
  refine Is.lit (by simp) (by simpa using hn) ?_
  intro j x hj hx c hc
  obtain rfl : c = 0 := by omega
  rw [List.getElem?_replicate] at hx
  rw [List.length_replicate] at hj
  rw [if_pos hj] at hx
  obtain rfl := Option.some.inj hx
  have := toList_madeCells_one (.int .u8 0) n
  rw [Nat.mul_one, Nat.add_zero]
  have h2 : (madeCells #[(.int .u8 0 : Value)] n).toList[j]? = some (.int .u8 0) := by rw [this, List.getElem?_replicate, if_pos hj]
  show _ = some (Value.int .u8 0)
  simpa using h2
set_option maxRecDepth 100000 in
set_option maxHeartbeats 4000000 in
theorem drawAppend_is (w : World) (v : Value) (A : Option Addr) (cap : Nat) (code : List Int) (h : Code w v A cap code) :
    Calls Tryd.prog 43 #[v] w fun e w' => ∃ x : ByteArray, e = .returned (.string x) ∧ x.size ≤ 4000 ∧ Below w.heap.size w w' := by
  have hD := DS.new h
  obtain rfl := h.eq
  have HD := hide hD; clear hD h
  go_enter Tryd.func43, Tryd.ntmps43
  go_wp2_with fail
  generalize hgs : w.heap.size = g at *
  generalize hw0 : w.alloc (.cells #[.slice A code.length cap, .int .i64 0, .int .u64 0] 71) = w0 at *
  refine (oneD 20 HD.out (by omega)).mono ?_; rintro e w1 ⟨x1, rfl, hD, hg⟩
  replace HD := hide hD; clear hD hg
  cases x1 with
  | true =>
    go_wp2_with fail
    refine (pickD 10 HD.out (by omega)).mono ?_; rintro e w2 ⟨x2, rfl, p2, q2, hD, hg⟩
    replace HD := hide hD; clear hD hg
    obtain ⟨n, hn⟩ : ∃ n : Nat, 3990 + x2 = (n : Int) := ⟨(3990 + x2).toNat, by omega⟩
    have hnb : n ≤ 4000 := by omega
    have hmk := run_make_n (P := Tryd.prog) 22 5 (.int .u8 0) 1 1 Tryd.underlying22 (by kernel_rfl) n (by omega) (by omega)
    rw [show (madeCells (Value.cells (.int .u8 0)) (n * 1)) = madeCells #[.int .u8 0] n by rw [Nat.mul_one]; rfl] at hmk
    have hcv := run_convert_is (dst := 9) (P := Tryd.prog) Tryd.underlying22 Tryd.underlying5 Tryd.underlying9 (is_zeros w2 n (by simp only [maxLen]; omega))
    have hz : (⟨(List.replicate n (0 : UInt8)).toArray⟩ : ByteArray).size ≤ 4000 := by show (List.replicate n (0 : UInt8)).toArray.size ≤ 4000; simp; exact hnb
    generalize (⟨(List.replicate n (0 : UInt8)).toArray⟩ : ByteArray) = t at *
    go_wp2_with fail
    go_ret
    subst hw0 hgs
    have hbl := (HD.out.alloc (.cells (madeCells #[.int .u8 0] n) 5)).end
    exact ⟨t, rfl, hz, hbl⟩
  | false =>
    go_wp2_with fail
    refine (any1D HD.out (by omega)).mono ?_; rintro e w2 ⟨x, rfl, hz, hD, hg⟩
    replace HD := hide hD; have H1 := hide hz; clear hD hg hz
    go_wp2_with fail
    go_ret
    subst hw0 hgs
    exact ⟨x, rfl, Nat.le_trans H1.out (by decide), HD.out.end⟩
/-- a byte of the code, as a law reads it -/
theorem vAt_is (v : Value) (A : Option Addr) (cap : Nat) (code : List Int) (i : Int) (w : World) (h : Code w v A cap code) (h0 : 0 ≤ i ∧ i ≤ 1000) :
    Calls Tryd.prog 47 #[v, .int .i64 i] w fun e w' => ∃ x : Int, e = .returned (.int .i64 x) ∧ (0 ≤ x ∧ x ≤ 255) ∧ w = w' := by
  obtain ⟨rfl, hr, hz, hl, hc⟩ := h
  obtain ⟨h0, h1⟩ := h0
  by_cases hlt : i < code.length
  · obtain ⟨q, rfl⟩ : ∃ q : Nat, i = (q : Int) := ⟨i.toNat, by omega⟩
    have hq : q < code.length := by omega
    obtain ⟨b, off, rfl, _, hcc⟩ := hr.get hq
    have c0 := hcc 0 (by omega)
    simp only [encU, Nat.mul_one, Nat.add_zero] at c0
    have hb := hz _ (List.getElem_mem hq)
    generalize code[q] = y at *
    clear hz hr hcc
    go_enter Tryd.func47, Tryd.ntmps47
    go_wp2_with fail
    go_ret
    exact ⟨_, rfl, by omega, rfl⟩
  · have hm : cap ≤ 9223372036854775807 := hc
    clear hr hz
    go_enter Tryd.func47, Tryd.ntmps47
    go_wp2_with fail
    go_ret
    exact ⟨_, rfl, by omega, rfl⟩
end Go.Proofs.YtplemibckjnbhaaDoor
