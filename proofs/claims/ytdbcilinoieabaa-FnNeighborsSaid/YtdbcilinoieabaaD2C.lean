/- The drawing of a sheet's id and of a scale, and the drawing functions of FnNeighbors. No condition beyond a cursor that has stepped less than 2^60 times. (Printed by mksheet8.py.) -/
import Derived.Test.YtdbcilinoieabaaD2B
namespace Go.Proofs.Ytdbcilinoieabaa
open Go.RowKit
set_option linter.unusedVariables false
set_option maxHeartbeats 2000000 in
theorem sheetOf_is (w0 w : World) (base g k : Nat) (A : Option Addr) (cap : Nat) (code : List Int) (hD : DS w0 base g A cap code k w) (b : Nat) (v : Value) (xs : List SSheet) (hO : Own 5 SSheet.enc 142 w b v xs) (hf : ∀ z ∈ xs, z.Fit) (hl : xs.length ≤ 1000) (hk : k + 10 < 2305843009213693952) :
    Calls Try.prog 137 #[.pointer (some ⟨g, 0, none⟩), v] w fun e w' => ∃ x : Int, e = .returned (.int .i64 x) ∧ (-100000 ≤ x ∧ x ≤ 100000) ∧ DS w0 base g A cap code (k + 10) w' ∧ w.grownBy w' (some g) := by
  have hgw := hD.lt
  have HD0 := hide hD
  have HFI := hide hf
  have HD := hide (DS.start hD.cur hD.sz); clear hD hf
  obtain ⟨A7, c7, rfl, _, _, _⟩ := hO.is
  have HO := hide hO; clear hO
  go_enter Try.func137, Try.ntmps137
  by_cases hz : xs.length = 0
  · have hz1 : (xs.length : Int) = 0 := by omega
    rw [hz]
    clear hz hz1 HO
    go_wp2_with fail
    refine (amongD [0, 1, 9, 500] HD.out (by rfl) (by rfl) (by rfl) (by simp) (by simp) (by omega)).mono ?_; rintro e w1 ⟨x1, rfl, hm, hD, hg⟩
    replace HD := hide hD; clear hD hg
    have b1 := (by decide : ∀ x ∈ ([0, 1, 9, 500] : List Int), 0 ≤ x ∧ x ≤ 500) _ hm; clear hm
    obtain ⟨q0, q1⟩ := b1
    go_wp2_with fail
    go_ret
    exact ⟨_, rfl, ⟨by omega, by omega⟩, ⟨(HD.out.le (by omega)).cur, grownTrans HD0.out.gr HD.out.gr, HD0.out.hb⟩, HD.out.gr⟩
  · have hz1 : ¬ (xs.length : Int) = 0 := by omega
    have hz2 : ((xs.length : Int) == 0) = false := by simpa using hz1
    go_wp2_with fail
    refine (oneD 10 HD.out (by omega)).mono ?_; rintro e w1 ⟨x1, rfl, hD, hg⟩
    replace HO := hide (HD.out.own HO.out hg (by decide))
    replace HD := hide hD; clear hD hg
    cases x1 with
    | true =>
      clear HO
      go_wp2_with fail
      refine (amongD [0, 1, 9, 500] HD.out (by rfl) (by rfl) (by rfl) (by simp) (by simp) (by omega)).mono ?_; rintro e w2 ⟨x2, rfl, hm, hD, hg⟩
      replace HD := hide hD; clear hD hg
      have b2 := (by decide : ∀ x ∈ ([0, 1, 9, 500] : List Int), 0 ≤ x ∧ x ≤ 500) _ hm; clear hm
      obtain ⟨q0, q1⟩ := b2
      go_wp2_with fail
      go_ret
      exact ⟨_, rfl, ⟨by omega, by omega⟩, ⟨(HD.out.le (by omega)).cur, grownTrans HD0.out.gr HD.out.gr, HD0.out.hb⟩, HD.out.gr⟩
    | false =>
      go_wp2_with fail
      refine (pickD (xs.length : Int) HD.out (by omega)).mono ?_; rintro e w2 ⟨x2, rfl, p2, q2, hD, hg⟩
      replace HO := hide (HD.out.own HO.out hg (by decide))
      replace HD := hide hD; clear hD hg
      obtain ⟨q, rfl⟩ : ∃ q : Nat, x2 = (q : Int) := ⟨x2.toNat, by omega⟩
      have hq : q < xs.length := by omega
      have hq' : (q : Int) < xs.length := by omega
      obtain ⟨A8, c8, he8, hr8, _, _⟩ := HO.out.is
      injection he8 with e1 e2 e3; subst e1 e3; clear e2
      obtain ⟨b8, off8, rfl, _, f0, _, _, _, _⟩ := SSheet.cells hr8 hq (Below.refl _ _)
      clear hr8
      have hfq := HFI.out _ (List.getElem_mem hq)
      have hbq : -100000 ≤ xs[q].id ∧ xs[q].id ≤ 100000 := by obtain ⟨h0, h1, h2, h3, h4⟩ := hfq; omega
      clear hfq
      generalize xs[q].id = y0 at *
      go_wp2_with fail
      go_ret
      exact ⟨_, rfl, hbq, ⟨(HD.out.le (by omega)).cur, grownTrans HD0.out.gr HD.out.gr, HD0.out.hb⟩, HD.out.gr⟩
set_option maxHeartbeats 2000000 in
theorem scaleOf_is (w0 w : World) (base g k : Nat) (A : Option Addr) (cap : Nat) (code : List Int) (hD : DS w0 base g A cap code k w) (b : Nat) (v : Value) (xs : List SSheet) (hO : Own 5 SSheet.enc 142 w b v xs) (hf : ∀ z ∈ xs, z.Fit) (hl : xs.length ≤ 1000) (hk : k + 10 < 2305843009213693952) :
    Calls Try.prog 200 #[.pointer (some ⟨g, 0, none⟩), v] w fun e w' => ∃ x : Int, e = .returned (.int .i64 x) ∧ (-100000 ≤ x ∧ x ≤ 100000) ∧ DS w0 base g A cap code (k + 10) w' ∧ w.grownBy w' (some g) := by
  have hgw := hD.lt
  have HD0 := hide hD
  have HFI := hide hf
  have HD := hide (DS.start hD.cur hD.sz); clear hD hf
  obtain ⟨A7, c7, rfl, _, _, _⟩ := hO.is
  have HO := hide hO; clear hO
  go_enter Try.func200, Try.ntmps200
  by_cases hz : xs.length = 0
  · have hz1 : (xs.length : Int) = 0 := by omega
    rw [hz]
    clear hz hz1 HO
    go_wp2_with fail
    refine (amongD [25, 50, 9, 501] HD.out (by rfl) (by rfl) (by rfl) (by simp) (by simp) (by omega)).mono ?_; rintro e w1 ⟨x1, rfl, hm, hD, hg⟩
    replace HD := hide hD; clear hD hg
    have b1 := (by decide : ∀ x ∈ ([25, 50, 9, 501] : List Int), 0 ≤ x ∧ x ≤ 501) _ hm; clear hm
    obtain ⟨q0, q1⟩ := b1
    go_wp2_with fail
    go_ret
    exact ⟨_, rfl, ⟨by omega, by omega⟩, ⟨(HD.out.le (by omega)).cur, grownTrans HD0.out.gr HD.out.gr, HD0.out.hb⟩, HD.out.gr⟩
  · have hz1 : ¬ (xs.length : Int) = 0 := by omega
    have hz2 : ((xs.length : Int) == 0) = false := by simpa using hz1
    go_wp2_with fail
    refine (oneD 10 HD.out (by omega)).mono ?_; rintro e w1 ⟨x1, rfl, hD, hg⟩
    replace HO := hide (HD.out.own HO.out hg (by decide))
    replace HD := hide hD; clear hD hg
    cases x1 with
    | true =>
      clear HO
      go_wp2_with fail
      refine (amongD [25, 50, 9, 501] HD.out (by rfl) (by rfl) (by rfl) (by simp) (by simp) (by omega)).mono ?_; rintro e w2 ⟨x2, rfl, hm, hD, hg⟩
      replace HD := hide hD; clear hD hg
      have b2 := (by decide : ∀ x ∈ ([25, 50, 9, 501] : List Int), 0 ≤ x ∧ x ≤ 501) _ hm; clear hm
      obtain ⟨q0, q1⟩ := b2
      go_wp2_with fail
      go_ret
      exact ⟨_, rfl, ⟨by omega, by omega⟩, ⟨(HD.out.le (by omega)).cur, grownTrans HD0.out.gr HD.out.gr, HD0.out.hb⟩, HD.out.gr⟩
    | false =>
      go_wp2_with fail
      refine (pickD (xs.length : Int) HD.out (by omega)).mono ?_; rintro e w2 ⟨x2, rfl, p2, q2, hD, hg⟩
      replace HO := hide (HD.out.own HO.out hg (by decide))
      replace HD := hide hD; clear hD hg
      obtain ⟨q, rfl⟩ : ∃ q : Nat, x2 = (q : Int) := ⟨x2.toNat, by omega⟩
      have hq : q < xs.length := by omega
      have hq' : (q : Int) < xs.length := by omega
      obtain ⟨A8, c8, he8, hr8, _, _⟩ := HO.out.is
      injection he8 with e1 e2 e3; subst e1 e3; clear e2
      obtain ⟨b8, off8, rfl, _, _, _, _, f3, _⟩ := SSheet.cells hr8 hq (Below.refl _ _)
      clear hr8
      have hfq := HFI.out _ (List.getElem_mem hq)
      have hbq : -100000 ≤ xs[q].scale ∧ xs[q].scale ≤ 100000 := by obtain ⟨h0, h1, h2, h3, h4⟩ := hfq; omega
      clear hfq
      generalize xs[q].scale = y0 at *
      go_wp2_with fail
      go_ret
      exact ⟨_, rfl, hbq, ⟨(HD.out.le (by omega)).cur, grownTrans HD0.out.gr HD.out.gr, HD0.out.hb⟩, HD.out.gr⟩
theorem results_tmp2_s {fn : Func} {t u : Tmp} (h : fn.results = #[.tmp t, .tmp u]) (tmps : Array Value) (P : Program) (w : World) :
    (results fn tmps).run P w = .ok (.tuple #[tmps.getD t undef, tmps.getD u undef]) w := by
  simp [results, h]
set_option maxRecDepth 100000 in
set_option maxHeartbeats 4000000 in
theorem drawNeighborsOf_is (w : World) (v : Value) (A : Option Addr) (cap : Nat) (code : List Int) (h : Code w v A cap code) :
    Calls Try.prog 50 #[v] w fun e w' => ∃ (v : Value) (xs : List SSheet) (x : Int), e = .returned (.tuple #[v, .int .i64 x]) ∧ (∀ z ∈ xs, z.Fit) ∧ xs.length ≤ 13 ∧ (-100000 ≤ x ∧ x ≤ 100000) ∧ Own 5 SSheet.enc 142 w' w.heap.size v xs ∧ Below w.heap.size w w' := by
  have hD := DS.new h
  obtain rfl := h.eq
  have HD := hide hD; clear hD h
  have hgw : w.heap.size < (w.alloc (.cells #[.slice A code.length cap, .int .i64 0, .int .u64 0] 90)).heap.size := by simp
  go_enter Try.func50, Try.ntmps50
  go_wp2_with fail
  generalize hgs : w.heap.size = g at *
  generalize hw0 : w.alloc (.cells #[.slice A code.length cap, .int .i64 0, .int .u64 0] 90) = w0 at *
  have HB0 := hide (Nat.le_of_lt hgw)
  have HGS := hide HD.out.gr.size
  refine (sheets_is w0 _ g g _ A cap code HD.out (by omega)).mono ?_; rintro e w1 ⟨v1, xs, rfl, hfit, hl, ho, hD, hg⟩
  replace HD := hide hD; clear hD hg
  have HX := hide (ownLow ho HGS.out); clear ho HGS
  have HWF := hide hfit; clear hfit
  go_wp2_with fail
  refine (sheetOf_is w0 _ g g _ A cap code HD.out _ _ _ HX.out HWF.out (by omega) (by omega)).mono ?_; rintro e w2 ⟨px, rfl, hpx, hD, hg⟩
  replace HX := hide (HD.out.own HX.out hg (by decide))
  replace HD := hide hD; clear hD hg
  go_wp2_with fail
  (try simp only [Exit.inBlock, Exit.then]); refine bodyPost_ret (results_tmp2_s rfl _ _ _) rfl ?_
  subst hw0 hgs
  exact ⟨_, _, _, rfl, HWF.out, hl, ⟨by omega, by omega⟩, ownLow HX.out HB0.out, HD.out.end⟩
set_option maxRecDepth 100000 in
set_option maxHeartbeats 4000000 in
theorem drawMissingSheets_is (w : World) (v : Value) (A : Option Addr) (cap : Nat) (code : List Int) (h : Code w v A cap code) :
    Calls Try.prog 146 #[v] w fun e w' => ∃ (v : Value) (xs : List SSheet) (x : Int), e = .returned (.tuple #[v, .int .i64 x]) ∧ (∀ z ∈ xs, z.Fit) ∧ xs.length ≤ 13 ∧ (-100000 ≤ x ∧ x ≤ 100000) ∧ Own 5 SSheet.enc 142 w' w.heap.size v xs ∧ Below w.heap.size w w' := by
  have hD := DS.new h
  obtain rfl := h.eq
  have HD := hide hD; clear hD h
  have hgw : w.heap.size < (w.alloc (.cells #[.slice A code.length cap, .int .i64 0, .int .u64 0] 90)).heap.size := by simp
  go_enter Try.func146, Try.ntmps146
  go_wp2_with fail
  generalize hgs : w.heap.size = g at *
  generalize hw0 : w.alloc (.cells #[.slice A code.length cap, .int .i64 0, .int .u64 0] 90) = w0 at *
  have HB0 := hide (Nat.le_of_lt hgw)
  have HGS := hide HD.out.gr.size
  refine (sheets_is w0 _ g g _ A cap code HD.out (by omega)).mono ?_; rintro e w1 ⟨v1, xs, rfl, hfit, hl, ho, hD, hg⟩
  replace HD := hide hD; clear hD hg
  have HX := hide (ownLow ho HGS.out); clear ho HGS
  have HWF := hide hfit; clear hfit
  go_wp2_with fail
  refine (scaleOf_is w0 _ g g _ A cap code HD.out _ _ _ HX.out HWF.out (by omega) (by omega)).mono ?_; rintro e w2 ⟨px, rfl, hpx, hD, hg⟩
  replace HX := hide (HD.out.own HX.out hg (by decide))
  replace HD := hide hD; clear hD hg
  go_wp2_with fail
  (try simp only [Exit.inBlock, Exit.then]); refine bodyPost_ret (results_tmp2_s rfl _ _ _) rfl ?_
  subst hw0 hgs
  exact ⟨_, _, _, rfl, HWF.out, hl, ⟨by omega, by omega⟩, ownLow HX.out HB0.out, HD.out.end⟩
theorem drawLongestStrip_is (w : World) (v : Value) (A : Option Addr) (cap : Nat) (code : List Int) (h : Code w v A cap code) :
    Calls Try.prog 55 #[v] w fun e w' => ∃ (v : Value) (xs : List SSheet) (x : Int), e = .returned (.tuple #[v, .int .i64 x]) ∧ (∀ z ∈ xs, z.Fit) ∧ xs.length ≤ 13 ∧ (-100000 ≤ x ∧ x ≤ 100000) ∧ Own 5 SSheet.enc 142 w' w.heap.size v xs ∧ Below w.heap.size w w' := by
  have HC := hide (drawMissingSheets_is w v A cap code h); clear h
  go_enter Try.func55, Try.ntmps55
  go_wp2_with fail
  refine HC.out.mono ?_; rintro e w' ⟨v1, xs, x, rfl, h1, h2, h3, h4, h5⟩
  have HH := hide (And.intro h1 (And.intro h2 (And.intro h3 (And.intro h4 h5)))); clear h1 h2 h3 h4 h5
  go_wp2_with fail
  (try simp only [Exit.inBlock, Exit.then]); refine bodyPost_ret (results_tmp2_s rfl _ _ _) rfl ?_
  exact ⟨_, _, _, rfl, HH.out⟩
theorem drawShowsOverview_is (w : World) (v : Value) (A : Option Addr) (cap : Nat) (code : List Int) (h : Code w v A cap code) :
    Calls Try.prog 58 #[v] w fun e w' => ∃ (v : Value) (xs : List SSheet) (x : Int), e = .returned (.tuple #[v, .int .i64 x]) ∧ (∀ z ∈ xs, z.Fit) ∧ xs.length ≤ 13 ∧ (-100000 ≤ x ∧ x ≤ 100000) ∧ Own 5 SSheet.enc 142 w' w.heap.size v xs ∧ Below w.heap.size w w' := by
  have HC := hide (drawNeighborsOf_is w v A cap code h); clear h
  go_enter Try.func58, Try.ntmps58
  go_wp2_with fail
  refine HC.out.mono ?_; rintro e w' ⟨v1, xs, x, rfl, h1, h2, h3, h4, h5⟩
  have HH := hide (And.intro h1 (And.intro h2 (And.intro h3 (And.intro h4 h5)))); clear h1 h2 h3 h4 h5
  go_wp2_with fail
  (try simp only [Exit.inBlock, Exit.then]); refine bodyPost_ret (results_tmp2_s rfl _ _ _) rfl ?_
  exact ⟨_, _, _, rfl, HH.out⟩
end Go.Proofs.Ytdbcilinoieabaa
