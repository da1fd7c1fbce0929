/- The drawing of a maker's id and of a year, and the drawing functions of FnMakers. No condition beyond a cursor that has stepped less than 2^60 times. (Printed by mkmaker8.py.) -/
import Derived.Test.YtapbnggdclpokaaDoorD7B
namespace Go.Proofs.YtapbnggdclpokaaDoor
open Go.RowKit
set_option linter.unusedVariables false
set_option maxHeartbeats 2000000 in
theorem makerId_is (w0 w : World) (base g k : Nat) (A : Option Addr) (cap : Nat) (code : List Int) (hD : DS w0 base g A cap code k w) (b : Nat) (v : Value) (xs : List SMaker) (hO : Own 5 SMaker.enc 27 w b v xs) (hl : xs.length ≤ 1000) (hk : k + 10 < 2305843009213693952) :
    Calls Tryd.prog 35 #[.pointer (some ⟨g, 0, none⟩), v] w fun e w' => ∃ x : Int, e = .returned (.int .i64 x) ∧ DS w0 base g A cap code (k + 10) w' ∧ w.grownBy w' (some g) := by
  have hgw := hD.lt
  have HD0 := hide hD
  have HD := hide (DS.start hD.cur hD.sz); clear hD
  obtain ⟨A7, c7, rfl, _, _, _⟩ := hO.is
  have HO := hide hO; clear hO
  go_enter Tryd.func35, Tryd.ntmps35
  by_cases hz : xs.length = 0
  · have hz1 : (xs.length : Int) = 0 := by omega
    rw [hz]
    clear hz hz1 HO
    go_wp2_with fail
    refine (amongD [0, 1, 50] HD.out (by rfl) (by rfl) (by rfl) (by simp) (by simp) (by omega)).mono ?_; rintro e w1 ⟨x1, rfl, hm, hD, hg⟩
    replace HD := hide hD; clear hD hg
    clear hm
    go_wp2_with fail
    go_ret
    exact ⟨_, rfl, ⟨(HD.out.le (by omega)).cur, grownTrans HD0.out.gr HD.out.gr, HD0.out.hb⟩, HD.out.gr⟩
  · have hz1 : ¬ (xs.length : Int) = 0 := by omega
    have hz2 : ((xs.length : Int) == 0) = false := by simpa using hz1
    go_wp2_with fail
    refine (oneD 10 HD.out (by omega)).mono ?_; rintro e w1 ⟨x1, rfl, hD, hg⟩
    replace HO := hide (HD.out.own HO.out hg (by decide))
    replace HD := hide hD; clear hD hg
    cases x1 with
    | true =>
      clear HO
      go_wp2_with fail
      refine (amongD [0, 1, 50] HD.out (by rfl) (by rfl) (by rfl) (by simp) (by simp) (by omega)).mono ?_; rintro e w2 ⟨x2, rfl, hm, hD, hg⟩
      replace HD := hide hD; clear hD hg
      clear hm
      go_wp2_with fail
      go_ret
      exact ⟨_, rfl, ⟨(HD.out.le (by omega)).cur, grownTrans HD0.out.gr HD.out.gr, HD0.out.hb⟩, HD.out.gr⟩
    | false =>
      go_wp2_with fail
      refine (pickD (xs.length : Int) HD.out (by omega)).mono ?_; rintro e w2 ⟨x2, rfl, p2, q2, hD, hg⟩
      replace HO := hide (HD.out.own HO.out hg (by decide))
      replace HD := hide hD; clear hD hg
      obtain ⟨q, rfl⟩ : ∃ q : Nat, x2 = (q : Int) := ⟨x2.toNat, by omega⟩
      have hq : q < xs.length := by omega
      have hq' : (q : Int) < xs.length := by omega
      obtain ⟨A8, c8, he8, hr8, _, _⟩ := HO.out.is
      injection he8 with e1 e2 e3; subst e1 e3; clear e2
      obtain ⟨b8, off8, rfl, _, f0, _⟩ := SMaker.cells hr8 hq (Below.refl _ _)
      clear hr8
      generalize xs[q].ident = y0 at *
      go_wp2_with fail
      go_ret
      exact ⟨_, rfl, ⟨(HD.out.le (by omega)).cur, grownTrans HD0.out.gr HD.out.gr, HD0.out.hb⟩, HD.out.gr⟩
theorem own_take {w : World} {base b n : Nat} {l : List Int} {cs : Array Value} (h : Blk w b 3 cs) (hb : base ≤ b) (hcs : cs = (l.map (Value.int .i64)).toArray) (hn : n ≤ l.length) (hl : l.length ≤ 1000) : Own 1 encI 3 w base (.slice (some ⟨b, 0, none⟩) n l.length) (l.take n) := by
  subst hcs
  refine .inr ⟨b, l.length, _, by rw [List.length_take_of_le hn], hb, h, by rw [List.length_take_of_le hn]; exact hn, by simp only [maxLen]; omega, by simp, ?_⟩
  intro j z hj hz c hc
  obtain rfl : c = 0 := by omega
  rw [List.getElem?_take] at hz
  split at hz
  · simp [hz, encI]
  · cases hz
set_option maxRecDepth 100000 in
set_option maxHeartbeats 2000000 in
theorem year7_is (w0 w : World) (base g k : Nat) (A : Option Addr) (cap : Nat) (code : List Int) (hD : DS w0 base g A cap code k w) (hk : k + 10 < 2305843009213693952) :
    Calls Tryd.prog 36 #[.pointer (some ⟨g, 0, none⟩)] w fun e w' => ∃ x : Int, e = .returned (.int .i64 x) ∧ DS w0 base g A cap code (k + 10) w' ∧ w.grownBy w' (some g) := by
  have hgw := hD.lt
  have HD0 := hide hD
  have HD1 := hide (DS.start hD.cur hD.sz)
  have HD := hide (HD1.out.alloc (.cells #[.int .i64 1500, .int .i64 1720, .int .i64 1799, .int .i64 1800, .int .i64 1850, .int .i64 1900, .int .i64 2100, .int .i64 1499, .int .i64 2101] 3))
  have HB := hide (Blk.new w 3 #[.int .i64 1500, .int .i64 1720, .int .i64 1799, .int .i64 1800, .int .i64 1850, .int .i64 1900, .int .i64 2100, .int .i64 1499, .int .i64 2101])
  have hbs : base ≤ w.heap.size := hD.sz
  clear hD
  go_enter Tryd.func36, Tryd.ntmps36
  go_wp2_with fail
  generalize hb0 : w.heap.size = b0 at *
  generalize w.alloc (.cells #[.int .i64 1500, .int .i64 1720, .int .i64 1799, .int .i64 1800, .int .i64 1850, .int .i64 1900, .int .i64 2100, .int .i64 1499, .int .i64 2101] 3) = w1 at *
  refine (pickD 24 HD.out (by omega)).mono ?_; rintro e w2 ⟨x2, rfl, p2, q2, hD, hg⟩
  replace HB := hide (HD.out.blk HB.out hg (by decide))
  replace HD := hide hD; clear hD hg
  have hs1 : base ≤ w2.heap.size := HD.out.sz
  have hdv : x2 / 12 = 0 ∨ x2 / 12 = 1 := by omega
  rcases hdv with hdv | hdv
  · have hO := own_take (n := 8) (l := [1500, 1720, 1799, 1800, 1850, 1900, 2100, 1499, 2101]) HB.out hbs rfl (by decide) (by decide)
    have ha := among_is _ _ w2 base g _ A cap code hO (by decide) (by decide) HD.out.cur (by omega) hs1
    have HA := hide ha; clear ha hO
    go_wp2_with fail
    skip
    refine HA.out.mono ?_; rintro e w3 ⟨x3, rfl, _, hC, hg⟩
    replace HD := hide (HD.out.next hC hg); clear hC hg
    go_wp2_with fail
    go_ret
    exact ⟨_, rfl, ⟨(HD.out.le (by omega)).cur, grownTrans HD0.out.gr HD.out.gr, HD0.out.hb⟩, HD.out.gr⟩
  · have hO := own_take (n := 9) (l := [1500, 1720, 1799, 1800, 1850, 1900, 2100, 1499, 2101]) HB.out hbs rfl (by decide) (by decide)
    have ha := among_is _ _ w2 base g _ A cap code hO (by decide) (by decide) HD.out.cur (by omega) hs1
    have HA := hide ha; clear ha hO
    go_wp2_with fail
    skip
    refine HA.out.mono ?_; rintro e w3 ⟨x3, rfl, _, hC, hg⟩
    replace HD := hide (HD.out.next hC hg); clear hC hg
    go_wp2_with fail
    go_ret
    exact ⟨_, rfl, ⟨(HD.out.le (by omega)).cur, grownTrans HD0.out.gr HD.out.gr, HD0.out.hb⟩, HD.out.gr⟩
theorem results_tmp3_m {fn : Func} {t u v : Tmp} (h : fn.results = #[.tmp t, .tmp u, .tmp v]) (tmps : Array Value) (P : Program) (w : World) :
    (results fn tmps).run P w = .ok (.tuple #[tmps.getD t undef, tmps.getD u undef, tmps.getD v undef]) w := by
  simp [results, h]
end Go.Proofs.YtapbnggdclpokaaDoor
