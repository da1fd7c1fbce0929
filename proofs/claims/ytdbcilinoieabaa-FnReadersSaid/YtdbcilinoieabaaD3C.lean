/- The drawing of a reader's id, of a day and of cents, and the drawing functions of FnReaders. No condition beyond a cursor that has stepped less than 2^60 times. (Printed by mkreader8.py.) -/
import Derived.Test.YtdbcilinoieabaaD3B
namespace Go.Proofs.Ytdbcilinoieabaa
open Go.RowKit
set_option linter.unusedVariables false
set_option maxHeartbeats 2000000 in
theorem readerId_is (w0 w : World) (base g k : Nat) (A : Option Addr) (cap : Nat) (code : List Int) (hD : DS w0 base g A cap code k w) (b : Nat) (v : Value) (xs : List SReader) (hO : Own 5 SReader.enc 49 w b v xs) (hl : xs.length ≤ 1000) (hk : k + 10 < 2305843009213693952) :
    Calls Try.prog 99 #[.pointer (some ⟨g, 0, none⟩), v] w fun e w' => ∃ x : Int, e = .returned (.int .i64 x) ∧ DS w0 base g A cap code (k + 10) w' ∧ w.grownBy w' (some g) := by
  have hgw := hD.lt
  have HD0 := hide hD
  have HD := hide (DS.start hD.cur hD.sz); clear hD
  obtain ⟨A7, c7, rfl, _, _, _⟩ := hO.is
  have HO := hide hO; clear hO
  go_enter Try.func99, Try.ntmps99
  by_cases hz : xs.length = 0
  · have hz1 : (xs.length : Int) = 0 := by omega
    rw [hz]
    clear hz hz1 HO
    go_wp2_with fail
    refine (amongD [0, 1, 500] HD.out (by rfl) (by rfl) (by rfl) (by simp) (by simp) (by omega)).mono ?_; rintro e w1 ⟨x1, rfl, hm, hD, hg⟩
    replace HD := hide hD; clear hD hg
    clear hm
    go_wp2_with fail
    go_ret
    exact ⟨_, rfl, ⟨(HD.out.le (by omega)).cur, grownTrans HD0.out.gr HD.out.gr, HD0.out.hb⟩, HD.out.gr⟩
  · have hz1 : ¬ (xs.length : Int) = 0 := by omega
    have hz2 : ((xs.length : Int) == 0) = false := by simpa using hz1
    go_wp2_with fail
    refine (oneD 10 HD.out (by omega)).mono ?_; rintro e w1 ⟨x1, rfl, hD, hg⟩
    replace HO := hide (HD.out.own HO.out hg (by decide))
    replace HD := hide hD; clear hD hg
    cases x1 with
    | true =>
      clear HO
      go_wp2_with fail
      refine (amongD [0, 1, 500] HD.out (by rfl) (by rfl) (by rfl) (by simp) (by simp) (by omega)).mono ?_; rintro e w2 ⟨x2, rfl, hm, hD, hg⟩
      replace HD := hide hD; clear hD hg
      clear hm
      go_wp2_with fail
      go_ret
      exact ⟨_, rfl, ⟨(HD.out.le (by omega)).cur, grownTrans HD0.out.gr HD.out.gr, HD0.out.hb⟩, HD.out.gr⟩
    | false =>
      go_wp2_with fail
      refine (pickD (xs.length : Int) HD.out (by omega)).mono ?_; rintro e w2 ⟨x2, rfl, p2, q2, hD, hg⟩
      replace HO := hide (HD.out.own HO.out hg (by decide))
      replace HD := hide hD; clear hD hg
      obtain ⟨q, rfl⟩ : ∃ q : Nat, x2 = (q : Int) := ⟨x2.toNat, by omega⟩
      have hq : q < xs.length := by omega
      have hq' : (q : Int) < xs.length := by omega
      obtain ⟨A8, c8, he8, hr8, _, _⟩ := HO.out.is
      injection he8 with e1 e2 e3; subst e1 e3; clear e2
      obtain ⟨b8, off8, rfl, _, f0, _⟩ := SReader.cells hr8 hq (Below.refl _ _)
      clear hr8
      generalize xs[q].ident = y0 at *
      go_wp2_with fail
      go_ret
      exact ⟨_, rfl, ⟨(HD.out.le (by omega)).cur, grownTrans HD0.out.gr HD.out.gr, HD0.out.hb⟩, HD.out.gr⟩
theorem own_take {w : World} {base b n : Nat} {l : List Int} {cs : Array Value} (h : Blk w b 3 cs) (hb : base ≤ b) (hcs : cs = (l.map (Value.int .i64)).toArray) (hn : n ≤ l.length) (hl : l.length ≤ 1000) : Own 1 encI 3 w base (.slice (some ⟨b, 0, none⟩) n l.length) (l.take n) := by
  subst hcs
  refine .inr ⟨b, l.length, _, by rw [List.length_take_of_le hn], hb, h, by rw [List.length_take_of_le hn]; exact hn, by simp only [maxLen]; omega, by simp, ?_⟩
  intro j z hj hz c hc
  obtain rfl : c = 0 := by omega
  rw [List.getElem?_take] at hz
  split at hz
  · simp [hz, encI]
  · cases hz
set_option maxRecDepth 100000 in
set_option maxHeartbeats 2000000 in
theorem day3_is (w0 w : World) (base g k : Nat) (A : Option Addr) (cap : Nat) (code : List Int) (hD : DS w0 base g A cap code k w) (hk : k + 10 < 2305843009213693952) :
    Calls Try.prog 86 #[.pointer (some ⟨g, 0, none⟩)] w fun e w' => ∃ x : Int, e = .returned (.int .i64 x) ∧ (-1 ≤ x ∧ x ≤ 4001) ∧ DS w0 base g A cap code (k + 10) w' ∧ w.grownBy w' (some g) := by
  have hgw := hD.lt
  have HD0 := hide hD
  have HD1 := hide (DS.start hD.cur hD.sz)
  have HD := hide (HD1.out.alloc (.cells #[.int .i64 0, .int .i64 364, .int .i64 365, .int .i64 465, .int .i64 730, .int .i64 731, .int .i64 4000, .int .i64 (-1), .int .i64 4001] 3))
  have HB := hide (Blk.new w 3 #[.int .i64 0, .int .i64 364, .int .i64 365, .int .i64 465, .int .i64 730, .int .i64 731, .int .i64 4000, .int .i64 (-1), .int .i64 4001])
  have hbs : base ≤ w.heap.size := hD.sz
  clear hD
  go_enter Try.func86, Try.ntmps86
  go_wp2_with fail
  generalize hb0 : w.heap.size = b0 at *
  generalize w.alloc (.cells #[.int .i64 0, .int .i64 364, .int .i64 365, .int .i64 465, .int .i64 730, .int .i64 731, .int .i64 4000, .int .i64 (-1), .int .i64 4001] 3) = w1 at *
  refine (pickD 24 HD.out (by omega)).mono ?_; rintro e w2 ⟨x2, rfl, p2, q2, hD, hg⟩
  replace HB := hide (HD.out.blk HB.out hg (by decide))
  replace HD := hide hD; clear hD hg
  have hs1 : base ≤ w2.heap.size := HD.out.sz
  have hdv : x2 / 11 = 0 ∨ x2 / 11 = 1 ∨ x2 / 11 = 2 := by omega
  rcases hdv with hdv | hdv | hdv
  · have hO := own_take (n := 7) (l := [0, 364, 365, 465, 730, 731, 4000, -1, 4001]) HB.out hbs rfl (by decide) (by decide)
    have ha := among_is _ _ w2 base g _ A cap code hO (by decide) (by decide) HD.out.cur (by omega) hs1
    have HA := hide ha; clear ha hO
    go_wp2_with fail
    skip
    refine HA.out.mono ?_; rintro e w3 ⟨x3, rfl, hm, hC, hg⟩
    have hb3 := (by decide : ∀ x ∈ ([0, 364, 365, 465, 730, 731, 4000, -1, 4001] : List Int), -1 ≤ x ∧ x ≤ 4001) _ (List.mem_of_mem_take hm); clear hm
    replace HD := hide (HD.out.next hC hg); clear hC hg
    go_wp2_with fail
    go_ret
    exact ⟨_, rfl, hb3, ⟨(HD.out.le (by omega)).cur, grownTrans HD0.out.gr HD.out.gr, HD0.out.hb⟩, HD.out.gr⟩
  · have hO := own_take (n := 8) (l := [0, 364, 365, 465, 730, 731, 4000, -1, 4001]) HB.out hbs rfl (by decide) (by decide)
    have ha := among_is _ _ w2 base g _ A cap code hO (by decide) (by decide) HD.out.cur (by omega) hs1
    have HA := hide ha; clear ha hO
    go_wp2_with fail
    skip
    refine HA.out.mono ?_; rintro e w3 ⟨x3, rfl, hm, hC, hg⟩
    have hb3 := (by decide : ∀ x ∈ ([0, 364, 365, 465, 730, 731, 4000, -1, 4001] : List Int), -1 ≤ x ∧ x ≤ 4001) _ (List.mem_of_mem_take hm); clear hm
    replace HD := hide (HD.out.next hC hg); clear hC hg
    go_wp2_with fail
    go_ret
    exact ⟨_, rfl, hb3, ⟨(HD.out.le (by omega)).cur, grownTrans HD0.out.gr HD.out.gr, HD0.out.hb⟩, HD.out.gr⟩
  · have hO := own_take (n := 9) (l := [0, 364, 365, 465, 730, 731, 4000, -1, 4001]) HB.out hbs rfl (by decide) (by decide)
    have ha := among_is _ _ w2 base g _ A cap code hO (by decide) (by decide) HD.out.cur (by omega) hs1
    have HA := hide ha; clear ha hO
    go_wp2_with fail
    skip
    refine HA.out.mono ?_; rintro e w3 ⟨x3, rfl, hm, hC, hg⟩
    have hb3 := (by decide : ∀ x ∈ ([0, 364, 365, 465, 730, 731, 4000, -1, 4001] : List Int), -1 ≤ x ∧ x ≤ 4001) _ (List.mem_of_mem_take hm); clear hm
    replace HD := hide (HD.out.next hC hg); clear hC hg
    go_wp2_with fail
    go_ret
    exact ⟨_, rfl, hb3, ⟨(HD.out.le (by omega)).cur, grownTrans HD0.out.gr HD.out.gr, HD0.out.hb⟩, HD.out.gr⟩
set_option maxRecDepth 100000 in
set_option maxHeartbeats 2000000 in
theorem cents3_is (w0 w : World) (base g k : Nat) (A : Option Addr) (cap : Nat) (code : List Int) (hD : DS w0 base g A cap code k w) (hk : k + 10 < 2305843009213693952) :
    Calls Try.prog 179 #[.pointer (some ⟨g, 0, none⟩)] w fun e w' => ∃ x : Int, e = .returned (.int .i64 x) ∧ (0 ≤ x ∧ x ≤ 10001) ∧ DS w0 base g A cap code (k + 10) w' ∧ w.grownBy w' (some g) := by
  have hgw := hD.lt
  have HD0 := hide hD
  have HD1 := hide (DS.start hD.cur hD.sz)
  have HD := hide (HD1.out.alloc (.cells #[.int .i64 1, .int .i64 499, .int .i64 500, .int .i64 501, .int .i64 9500, .int .i64 10000, .int .i64 0, .int .i64 10001] 3))
  have HB := hide (Blk.new w 3 #[.int .i64 1, .int .i64 499, .int .i64 500, .int .i64 501, .int .i64 9500, .int .i64 10000, .int .i64 0, .int .i64 10001])
  have hbs : base ≤ w.heap.size := hD.sz
  clear hD
  go_enter Try.func179, Try.ntmps179
  go_wp2_with fail
  generalize hb0 : w.heap.size = b0 at *
  generalize w.alloc (.cells #[.int .i64 1, .int .i64 499, .int .i64 500, .int .i64 501, .int .i64 9500, .int .i64 10000, .int .i64 0, .int .i64 10001] 3) = w1 at *
  refine (pickD 24 HD.out (by omega)).mono ?_; rintro e w2 ⟨x2, rfl, p2, q2, hD, hg⟩
  replace HB := hide (HD.out.blk HB.out hg (by decide))
  replace HD := hide hD; clear hD hg
  have hs1 : base ≤ w2.heap.size := HD.out.sz
  have hdv : x2 / 11 = 0 ∨ x2 / 11 = 1 ∨ x2 / 11 = 2 := by omega
  rcases hdv with hdv | hdv | hdv
  · have hO := own_take (n := 6) (l := [1, 499, 500, 501, 9500, 10000, 0, 10001]) HB.out hbs rfl (by decide) (by decide)
    have ha := among_is _ _ w2 base g _ A cap code hO (by decide) (by decide) HD.out.cur (by omega) hs1
    have HA := hide ha; clear ha hO
    go_wp2_with fail
    skip
    refine HA.out.mono ?_; rintro e w3 ⟨x3, rfl, hm, hC, hg⟩
    have hb3 := (by decide : ∀ x ∈ ([1, 499, 500, 501, 9500, 10000, 0, 10001] : List Int), 0 ≤ x ∧ x ≤ 10001) _ (List.mem_of_mem_take hm); clear hm
    replace HD := hide (HD.out.next hC hg); clear hC hg
    go_wp2_with fail
    go_ret
    exact ⟨_, rfl, hb3, ⟨(HD.out.le (by omega)).cur, grownTrans HD0.out.gr HD.out.gr, HD0.out.hb⟩, HD.out.gr⟩
  · have hO := own_take (n := 7) (l := [1, 499, 500, 501, 9500, 10000, 0, 10001]) HB.out hbs rfl (by decide) (by decide)
    have ha := among_is _ _ w2 base g _ A cap code hO (by decide) (by decide) HD.out.cur (by omega) hs1
    have HA := hide ha; clear ha hO
    go_wp2_with fail
    skip
    refine HA.out.mono ?_; rintro e w3 ⟨x3, rfl, hm, hC, hg⟩
    have hb3 := (by decide : ∀ x ∈ ([1, 499, 500, 501, 9500, 10000, 0, 10001] : List Int), 0 ≤ x ∧ x ≤ 10001) _ (List.mem_of_mem_take hm); clear hm
    replace HD := hide (HD.out.next hC hg); clear hC hg
    go_wp2_with fail
    go_ret
    exact ⟨_, rfl, hb3, ⟨(HD.out.le (by omega)).cur, grownTrans HD0.out.gr HD.out.gr, HD0.out.hb⟩, HD.out.gr⟩
  · have hO := own_take (n := 8) (l := [1, 499, 500, 501, 9500, 10000, 0, 10001]) HB.out hbs rfl (by decide) (by decide)
    have ha := among_is _ _ w2 base g _ A cap code hO (by decide) (by decide) HD.out.cur (by omega) hs1
    have HA := hide ha; clear ha hO
    go_wp2_with fail
    skip
    refine HA.out.mono ?_; rintro e w3 ⟨x3, rfl, hm, hC, hg⟩
    have hb3 := (by decide : ∀ x ∈ ([1, 499, 500, 501, 9500, 10000, 0, 10001] : List Int), 0 ≤ x ∧ x ≤ 10001) _ (List.mem_of_mem_take hm); clear hm
    replace HD := hide (HD.out.next hC hg); clear hC hg
    go_wp2_with fail
    go_ret
    exact ⟨_, rfl, hb3, ⟨(HD.out.le (by omega)).cur, grownTrans HD0.out.gr HD.out.gr, HD0.out.hb⟩, HD.out.gr⟩
theorem results_tmp3_m {fn : Func} {t u v : Tmp} (h : fn.results = #[.tmp t, .tmp u, .tmp v]) (tmps : Array Value) (P : Program) (w : World) :
    (results fn tmps).run P w = .ok (.tuple #[tmps.getD t undef, tmps.getD u undef, tmps.getD v undef]) w := by
  simp [results, h]
set_option maxRecDepth 100000 in
set_option maxHeartbeats 4000000 in
theorem drawJoinReader_is (w : World) (v : Value) (A : Option Addr) (cap : Nat) (code : List Int) (h : Code w v A cap code) :
    Calls Try.prog 19 #[v] w fun e w' => ∃ (v : Value) (xs : List SReader) (x : ByteArray) (y : Int), e = .returned (.tuple #[v, .string x, .int .i64 y]) ∧ (∀ z ∈ xs, z.Fit) ∧ xs.length ≤ 12 ∧ x.size ≤ 20 ∧ (-100000 ≤ y ∧ y ≤ 100000) ∧ Own 5 SReader.enc 49 w' w.heap.size v xs ∧ Below w.heap.size w w' := by
  have hD := DS.new h
  obtain rfl := h.eq
  have HD := hide hD; clear hD h
  have hgw : w.heap.size < (w.alloc (.cells #[.slice A code.length cap, .int .i64 0, .int .u64 0] 90)).heap.size := by simp
  go_enter Try.func19, Try.ntmps19
  go_wp2_with fail
  generalize hgs : w.heap.size = g at *
  generalize hw0 : w.alloc (.cells #[.slice A code.length cap, .int .i64 0, .int .u64 0] 90) = w0 at *
  have HB0 := hide (Nat.le_of_lt hgw)
  have HGS := hide HD.out.gr.size
  refine (readers_is w0 _ g g _ A cap code HD.out (by omega)).mono ?_; rintro e w1 ⟨v1, xs, rfl, hfit, hl, ho, hD, hg⟩
  replace HD := hide hD; clear hD hg
  have HX := hide (ownLow ho HGS.out); clear ho HGS
  have HWF := hide hfit; clear hfit
  go_wp2_with fail
  refine (ofD [⟨#[97, 110, 110, 97]⟩, ⟨#[101, 118, 97]⟩, ⟨#[122, 111, 101]⟩, ⟨#[]⟩, ⟨#[90, 111, 101]⟩] HD.out (by rfl) (by rfl) (by rfl) (by simp) (by simp) (by omega)).mono ?_; rintro e w2 ⟨px, rfl, hm, hD, hg⟩
  replace HX := hide (HD.out.own HX.out hg (by decide))
  replace HD := hide hD; clear hD hg
  have n8 : px.size ≤ 20 := by simp only [List.mem_cons, List.not_mem_nil, or_false] at hm; rcases hm with rfl | rfl | rfl | rfl | rfl <;> decide
  clear hm
  go_wp2_with fail
  refine (day3_is w0 _ g g _ A cap code HD.out (by omega)).mono ?_; rintro e w3 ⟨py, rfl, hpy, hD, hg⟩
  replace HX := hide (HD.out.own HX.out hg (by decide))
  replace HD := hide hD; clear hD hg
  go_wp2_with fail
  (try simp only [Exit.inBlock, Exit.then]); refine bodyPost_ret (results_tmp3_m rfl _ _ _) rfl ?_
  subst hw0 hgs
  exact ⟨_, _, _, _, rfl, HWF.out, hl, n8, ⟨by omega, by omega⟩, ownLow HX.out HB0.out, HD.out.end⟩
set_option maxRecDepth 100000 in
set_option maxHeartbeats 4000000 in
theorem drawFineReader_is (w : World) (v : Value) (A : Option Addr) (cap : Nat) (code : List Int) (h : Code w v A cap code) :
    Calls Try.prog 93 #[v] w fun e w' => ∃ (v : Value) (xs : List SReader) (x y : Int), e = .returned (.tuple #[v, .int .i64 x, .int .i64 y]) ∧ (∀ z ∈ xs, z.Fit) ∧ xs.length ≤ 12 ∧ (-100000 ≤ y ∧ y ≤ 100000) ∧ Own 5 SReader.enc 49 w' w.heap.size v xs ∧ Below w.heap.size w w' := by
  have hD := DS.new h
  obtain rfl := h.eq
  have HD := hide hD; clear hD h
  have hgw : w.heap.size < (w.alloc (.cells #[.slice A code.length cap, .int .i64 0, .int .u64 0] 90)).heap.size := by simp
  go_enter Try.func93, Try.ntmps93
  go_wp2_with fail
  generalize hgs : w.heap.size = g at *
  generalize hw0 : w.alloc (.cells #[.slice A code.length cap, .int .i64 0, .int .u64 0] 90) = w0 at *
  have HB0 := hide (Nat.le_of_lt hgw)
  have HGS := hide HD.out.gr.size
  refine (readers_is w0 _ g g _ A cap code HD.out (by omega)).mono ?_; rintro e w1 ⟨v1, xs, rfl, hfit, hl, ho, hD, hg⟩
  replace HD := hide hD; clear hD hg
  have HX := hide (ownLow ho HGS.out); clear ho HGS
  have HWF := hide hfit; clear hfit
  go_wp2_with fail
  refine (readerId_is w0 _ g g _ A cap code HD.out _ _ _ HX.out (by omega) (by omega)).mono ?_; rintro e w2 ⟨px, rfl, hD, hg⟩
  replace HX := hide (HD.out.own HX.out hg (by decide))
  replace HD := hide hD; clear hD hg
  go_wp2_with fail
  refine (cents3_is w0 _ g g _ A cap code HD.out (by omega)).mono ?_; rintro e w3 ⟨py, rfl, hpy, hD, hg⟩
  replace HX := hide (HD.out.own HX.out hg (by decide))
  replace HD := hide hD; clear hD hg
  go_wp2_with fail
  (try simp only [Exit.inBlock, Exit.then]); refine bodyPost_ret (results_tmp3_m rfl _ _ _) rfl ?_
  subst hw0 hgs
  exact ⟨_, _, _, _, rfl, HWF.out, hl, ⟨by omega, by omega⟩, ownLow HX.out HB0.out, HD.out.end⟩
set_option maxRecDepth 100000 in
set_option maxHeartbeats 4000000 in
theorem drawRaiseClass_is (w : World) (v : Value) (A : Option Addr) (cap : Nat) (code : List Int) (h : Code w v A cap code) :
    Calls Try.prog 27 #[v] w fun e w' => ∃ (v : Value) (xs : List SReader) (x y : Int), e = .returned (.tuple #[v, .int .i64 x, .int .i64 y]) ∧ (∀ z ∈ xs, z.Fit) ∧ xs.length ≤ 12 ∧ (-100000 ≤ y ∧ y ≤ 100000) ∧ Own 5 SReader.enc 49 w' w.heap.size v xs ∧ Below w.heap.size w w' := by
  have hD := DS.new h
  obtain rfl := h.eq
  have HD := hide hD; clear hD h
  have hgw : w.heap.size < (w.alloc (.cells #[.slice A code.length cap, .int .i64 0, .int .u64 0] 90)).heap.size := by simp
  go_enter Try.func27, Try.ntmps27
  go_wp2_with fail
  generalize hgs : w.heap.size = g at *
  generalize hw0 : w.alloc (.cells #[.slice A code.length cap, .int .i64 0, .int .u64 0] 90) = w0 at *
  have HB0 := hide (Nat.le_of_lt hgw)
  have HGS := hide HD.out.gr.size
  refine (readers_is w0 _ g g _ A cap code HD.out (by omega)).mono ?_; rintro e w1 ⟨v1, xs, rfl, hfit, hl, ho, hD, hg⟩
  replace HD := hide hD; clear hD hg
  have HX := hide (ownLow ho HGS.out); clear ho HGS
  have HWF := hide hfit; clear hfit
  go_wp2_with fail
  refine (readerId_is w0 _ g g _ A cap code HD.out _ _ _ HX.out (by omega) (by omega)).mono ?_; rintro e w2 ⟨px, rfl, hD, hg⟩
  replace HX := hide (HD.out.own HX.out hg (by decide))
  replace HD := hide hD; clear hD hg
  go_wp2_with fail
  refine (day3_is w0 _ g g _ A cap code HD.out (by omega)).mono ?_; rintro e w3 ⟨py, rfl, hpy, hD, hg⟩
  replace HX := hide (HD.out.own HX.out hg (by decide))
  replace HD := hide hD; clear hD hg
  go_wp2_with fail
  (try simp only [Exit.inBlock, Exit.then]); refine bodyPost_ret (results_tmp3_m rfl _ _ _) rfl ?_
  subst hw0 hgs
  exact ⟨_, _, _, _, rfl, HWF.out, hl, ⟨by omega, by omega⟩, ownLow HX.out HB0.out, HD.out.end⟩
theorem drawPayFines_is (w : World) (v : Value) (A : Option Addr) (cap : Nat) (code : List Int) (h : Code w v A cap code) :
    Calls Try.prog 24 #[v] w fun e w' => ∃ (v : Value) (xs : List SReader) (x y : Int), e = .returned (.tuple #[v, .int .i64 x, .int .i64 y]) ∧ (∀ z ∈ xs, z.Fit) ∧ xs.length ≤ 12 ∧ (-100000 ≤ y ∧ y ≤ 100000) ∧ Own 5 SReader.enc 49 w' w.heap.size v xs ∧ Below w.heap.size w w' := by
  have HC := hide (drawFineReader_is w v A cap code h); clear h
  go_enter Try.func24, Try.ntmps24
  go_wp2_with fail
  refine HC.out.mono ?_; rintro e w' ⟨v1, xs, x, y, rfl, h1, h2, h3, h4, h5⟩
  have HH := hide (And.intro h1 (And.intro h2 (And.intro h3 (And.intro h4 h5)))); clear h1 h2 h3 h4 h5
  go_wp2_with fail
  (try simp only [Exit.inBlock, Exit.then]); refine bodyPost_ret (results_tmp3_m rfl _ _ _) rfl ?_
  exact ⟨_, _, _, _, rfl, HH.out⟩
end Go.Proofs.Ytdbcilinoieabaa
