/- The drawing functions of FnHeirs: a list of makers with an id, a year and an heir's id; one maker. Condition: none. (Printed out of D7D's contracts, with bounds.) -/
import Derived.Test.YtapbnggdclpokaaDoorD7D
namespace Go.Proofs.YtapbnggdclpokaaDoor
open Go.RowKit
set_option linter.unusedVariables false
theorem amb {x : Int} (h : x ∈ ([0, 1, 50] : List Int)) : -100000 ≤ x ∧ x ≤ 100000 := by simp at h; omega
theorem amy {x : Int} (h : x ∈ ([1500, 1720, 1799, 1800, 1850, 1900, 2100, 1499, 2101] : List Int)) : -100000 ≤ x ∧ x ≤ 100000 := by simp at h; omega
set_option maxHeartbeats 2000000 in
theorem makerIdB_is (w0 w : World) (base g k : Nat) (A : Option Addr) (cap : Nat) (code : List Int) (hD : DS w0 base g A cap code k w) (b : Nat) (v : Value) (xs : List SMaker) (hO : Own 5 SMaker.enc 27 w b v xs) (hfit : ∀ z ∈ xs, z.Fit) (hl : xs.length ≤ 1000) (hk : k + 10 < 2305843009213693952) :
    Calls Tryd.prog 35 #[.pointer (some ⟨g, 0, none⟩), v] w fun e w' => ∃ x : Int, e = .returned (.int .i64 x) ∧ (-100000 ≤ x ∧ x ≤ 100000) ∧ DS w0 base g A cap code (k + 10) w' ∧ w.grownBy w' (some g) := by
  have hgw := hD.lt
  have HD0 := hide hD
  have HD := hide (DS.start hD.cur hD.sz); clear hD
  obtain ⟨A7, c7, rfl, _, _, _⟩ := hO.is
  have HO := hide hO; clear hO
  go_enter Tryd.func35, Tryd.ntmps35
  by_cases hz : xs.length = 0
  · have hz1 : (xs.length : Int) = 0 := by omega
    rw [hz]
    clear hz hz1 HO hfit
    go_wp2_with fail
    refine (amongD [0, 1, 50] HD.out (by rfl) (by rfl) (by rfl) (by simp) (by simp) (by omega)).mono ?_; rintro e w1 ⟨x1, rfl, hm, hD, hg⟩
    replace HD := hide hD; clear hD hg
    have hmb := amb hm; clear hm
    go_wp2_with fail
    go_ret
    exact ⟨_, rfl, by assumption, ⟨(HD.out.le (by omega)).cur, grownTrans HD0.out.gr HD.out.gr, HD0.out.hb⟩, HD.out.gr⟩
  · have hz1 : ¬ (xs.length : Int) = 0 := by omega
    have hz2 : ((xs.length : Int) == 0) = false := by simpa using hz1
    go_wp2_with fail
    refine (oneD 10 HD.out (by omega)).mono ?_; rintro e w1 ⟨x1, rfl, hD, hg⟩
    replace HO := hide (HD.out.own HO.out hg (by decide))
    replace HD := hide hD; clear hD hg
    cases x1 with
    | true =>
      clear HO hfit
      go_wp2_with fail
      refine (amongD [0, 1, 50] HD.out (by rfl) (by rfl) (by rfl) (by simp) (by simp) (by omega)).mono ?_; rintro e w2 ⟨x2, rfl, hm, hD, hg⟩
      replace HD := hide hD; clear hD hg
      have hmb := amb hm; clear hm
      go_wp2_with fail
      go_ret
      exact ⟨_, rfl, by assumption, ⟨(HD.out.le (by omega)).cur, grownTrans HD0.out.gr HD.out.gr, HD0.out.hb⟩, HD.out.gr⟩
    | false =>
      go_wp2_with fail
      refine (pickD (xs.length : Int) HD.out (by omega)).mono ?_; rintro e w2 ⟨x2, rfl, p2, q2, hD, hg⟩
      replace HO := hide (HD.out.own HO.out hg (by decide))
      replace HD := hide hD; clear hD hg
      obtain ⟨q, rfl⟩ : ∃ q : Nat, x2 = (q : Int) := ⟨x2.toNat, by omega⟩
      have hq : q < xs.length := by omega
      have hq' : (q : Int) < xs.length := by omega
      obtain ⟨A8, c8, he8, hr8, _, _⟩ := HO.out.is
      injection he8 with e1 e2 e3; subst e1 e3; clear e2
      obtain ⟨b8, off8, rfl, _, f0, _⟩ := SMaker.cells hr8 hq (Below.refl _ _)
      clear hr8
      have hmb := (hfit _ (List.getElem_mem hq)).1
      clear hfit
      generalize xs[q].ident = y0 at *
      go_wp2_with fail
      go_ret
      exact ⟨_, rfl, by assumption, ⟨(HD.out.le (by omega)).cur, grownTrans HD0.out.gr HD.out.gr, HD0.out.hb⟩, HD.out.gr⟩
set_option maxRecDepth 100000 in
set_option maxHeartbeats 2000000 in
theorem year7B_is (w0 w : World) (base g k : Nat) (A : Option Addr) (cap : Nat) (code : List Int) (hD : DS w0 base g A cap code k w) (hk : k + 10 < 2305843009213693952) :
    Calls Tryd.prog 36 #[.pointer (some ⟨g, 0, none⟩)] w fun e w' => ∃ x : Int, e = .returned (.int .i64 x) ∧ (-100000 ≤ x ∧ x ≤ 100000) ∧ DS w0 base g A cap code (k + 10) w' ∧ w.grownBy w' (some g) := by
  have hgw := hD.lt
  have HD0 := hide hD
  have HD1 := hide (DS.start hD.cur hD.sz)
  have HD := hide (HD1.out.alloc (.cells #[.int .i64 1500, .int .i64 1720, .int .i64 1799, .int .i64 1800, .int .i64 1850, .int .i64 1900, .int .i64 2100, .int .i64 1499, .int .i64 2101] 3))
  have HB := hide (Blk.new w 3 #[.int .i64 1500, .int .i64 1720, .int .i64 1799, .int .i64 1800, .int .i64 1850, .int .i64 1900, .int .i64 2100, .int .i64 1499, .int .i64 2101])
  have hbs : base ≤ w.heap.size := hD.sz
  clear hD
  go_enter Tryd.func36, Tryd.ntmps36
  go_wp2_with fail
  generalize hb0 : w.heap.size = b0 at *
  generalize w.alloc (.cells #[.int .i64 1500, .int .i64 1720, .int .i64 1799, .int .i64 1800, .int .i64 1850, .int .i64 1900, .int .i64 2100, .int .i64 1499, .int .i64 2101] 3) = w1 at *
  refine (pickD 24 HD.out (by omega)).mono ?_; rintro e w2 ⟨x2, rfl, p2, q2, hD, hg⟩
  replace HB := hide (HD.out.blk HB.out hg (by decide))
  replace HD := hide hD; clear hD hg
  have hs1 : base ≤ w2.heap.size := HD.out.sz
  have hdv : x2 / 12 = 0 ∨ x2 / 12 = 1 := by omega
  rcases hdv with hdv | hdv
  · have hO := own_take (n := 8) (l := [1500, 1720, 1799, 1800, 1850, 1900, 2100, 1499, 2101]) HB.out hbs rfl (by decide) (by decide)
    have ha := among_is _ _ w2 base g _ A cap code hO (by decide) (by decide) HD.out.cur (by omega) hs1
    have HA := hide ha; clear ha hO
    go_wp2_with fail
    skip
    refine HA.out.mono ?_; rintro e w3 ⟨x3, rfl, hm, hC, hg⟩; have hmb := amy (List.mem_of_mem_take hm); clear hm
    replace HD := hide (HD.out.next hC hg); clear hC hg
    go_wp2_with fail
    go_ret
    exact ⟨_, rfl, by assumption, ⟨(HD.out.le (by omega)).cur, grownTrans HD0.out.gr HD.out.gr, HD0.out.hb⟩, HD.out.gr⟩
  · have hO := own_take (n := 9) (l := [1500, 1720, 1799, 1800, 1850, 1900, 2100, 1499, 2101]) HB.out hbs rfl (by decide) (by decide)
    have ha := among_is _ _ w2 base g _ A cap code hO (by decide) (by decide) HD.out.cur (by omega) hs1
    have HA := hide ha; clear ha hO
    go_wp2_with fail
    skip
    refine HA.out.mono ?_; rintro e w3 ⟨x3, rfl, hm, hC, hg⟩; have hmb := amy (List.mem_of_mem_take hm); clear hm
    replace HD := hide (HD.out.next hC hg); clear hC hg
    go_wp2_with fail
    go_ret
    exact ⟨_, rfl, by assumption, ⟨(HD.out.le (by omega)).cur, grownTrans HD0.out.gr HD.out.gr, HD0.out.hb⟩, HD.out.gr⟩
set_option maxRecDepth 100000 in
set_option maxHeartbeats 4000000 in
theorem drawLineOf_is (w : World) (v : Value) (A : Option Addr) (cap : Nat) (code : List Int) (h : Code w v A cap code) :
    Calls Tryd.prog 55 #[v] w fun e w' => ∃ (v : Value) (xs : List SMaker) (x : Int), e = .returned (.tuple #[v, .int .i64 x]) ∧ (∀ z ∈ xs, z.wf) ∧ (-100000 ≤ x ∧ x ≤ 100000) ∧ xs.length ≤ 12 ∧ Own 5 SMaker.enc 27 w' w.heap.size v xs ∧ Below w.heap.size w w' := by
  have hD := DS.new h
  obtain rfl := h.eq
  have HD := hide hD; clear hD h
  have hgw : w.heap.size < (w.alloc (.cells #[.slice A code.length cap, .int .i64 0, .int .u64 0] 56)).heap.size := by simp
  go_enter Tryd.func55, Tryd.ntmps55
  go_wp2_with fail
  generalize hgs : w.heap.size = g at *
  generalize hw0 : w.alloc (.cells #[.slice A code.length cap, .int .i64 0, .int .u64 0] 56) = w0 at *
  have HB0 := hide (Nat.le_of_lt hgw)
  have HGS := hide HD.out.gr.size
  refine (makers_is w0 _ g g _ A cap code HD.out (by omega)).mono ?_; rintro e w1 ⟨v1, xs, rfl, hfit, hl, ho, hD, hg⟩
  replace HD := hide hD; clear hD hg
  have HX := hide (ownLow ho HGS.out); clear ho HGS
  have HF := hide hfit; have HWF := hide (fun z hz => (hfit z hz).wf); clear hfit
  go_wp2_with fail
  refine (makerIdB_is w0 _ g g _ A cap code HD.out _ _ _ HX.out HF.out (by omega) (by omega)).mono ?_; rintro e w2 ⟨px2, rfl, hp2, hD, hg⟩
  replace HX := hide (HD.out.own HX.out hg (by decide)); have HP2 := hide hp2; clear hp2
  replace HD := hide hD; clear hD hg
  go_wp2_with fail
  go_ret2
  subst hw0 hgs
  exact ⟨_, _, _, rfl, HWF.out, HP2.out, hl, ownLow HX.out HB0.out, HD.out.end⟩
set_option maxRecDepth 100000 in
set_option maxHeartbeats 4000000 in
theorem drawActiveIn_is (w : World) (v : Value) (A : Option Addr) (cap : Nat) (code : List Int) (h : Code w v A cap code) :
    Calls Tryd.prog 24 #[v] w fun e w' => ∃ (v : Value) (xs : List SMaker) (x : Int), e = .returned (.tuple #[v, .int .i64 x]) ∧ (∀ z ∈ xs, z.wf) ∧ (-100000 ≤ x ∧ x ≤ 100000) ∧ xs.length ≤ 12 ∧ Own 5 SMaker.enc 27 w' w.heap.size v xs ∧ Below w.heap.size w w' := by
  have hD := DS.new h
  obtain rfl := h.eq
  have HD := hide hD; clear hD h
  have hgw : w.heap.size < (w.alloc (.cells #[.slice A code.length cap, .int .i64 0, .int .u64 0] 56)).heap.size := by simp
  go_enter Tryd.func24, Tryd.ntmps24
  go_wp2_with fail
  generalize hgs : w.heap.size = g at *
  generalize hw0 : w.alloc (.cells #[.slice A code.length cap, .int .i64 0, .int .u64 0] 56) = w0 at *
  have HB0 := hide (Nat.le_of_lt hgw)
  have HGS := hide HD.out.gr.size
  refine (makers_is w0 _ g g _ A cap code HD.out (by omega)).mono ?_; rintro e w1 ⟨v1, xs, rfl, hfit, hl, ho, hD, hg⟩
  replace HD := hide hD; clear hD hg
  have HX := hide (ownLow ho HGS.out); clear ho HGS
  have HF := hide hfit; have HWF := hide (fun z hz => (hfit z hz).wf); clear hfit
  go_wp2_with fail
  refine (year7B_is w0 _ g g _ A cap code HD.out (by omega)).mono ?_; rintro e w2 ⟨px2, rfl, hp2, hD, hg⟩
  replace HX := hide (HD.out.own HX.out hg (by decide)); have HP2 := hide hp2; clear hp2
  replace HD := hide hD; clear hD hg
  go_wp2_with fail
  go_ret2
  subst hw0 hgs
  exact ⟨_, _, _, rfl, HWF.out, HP2.out, hl, ownLow HX.out HB0.out, HD.out.end⟩
theorem drawGapYears_is (w : World) (v : Value) (A : Option Addr) (cap : Nat) (code : List Int) (h : Code w v A cap code) :
    Calls Tryd.prog 21 #[v] w fun e w' => ∃ (v : Value) (xs : List SMaker) (x : Int), e = .returned (.tuple #[v, .int .i64 x]) ∧ (∀ z ∈ xs, z.wf) ∧ (-100000 ≤ x ∧ x ≤ 100000) ∧ xs.length ≤ 12 ∧ Own 5 SMaker.enc 27 w' w.heap.size v xs ∧ Below w.heap.size w w' := by
  have HC := hide h; clear h
  go_enter Tryd.func21, Tryd.ntmps21
  go_wp2_with fail
  refine (drawLineOf_is w v A cap code HC.out).mono ?_; rintro e w1 ⟨v1, xs, x, rfl, h1, h2, h3, h4, h5⟩
  have H1 := hide h1; have H4 := hide h4; have H5 := hide h5; clear h1 h4 h5
  go_wp2_with fail
  go_ret2
  exact ⟨v1, xs, x, rfl, H1.out, h2, h3, H4.out, H5.out⟩
theorem results_tmp4_m {fn : Func} {t u v x : Tmp} (h : fn.results = #[.tmp t, .tmp u, .tmp v, .tmp x]) (tmps : Array Value) (P : Program) (w : World) :
    (results fn tmps).run P w = .ok (.tuple #[tmps.getD t undef, tmps.getD u undef, tmps.getD v undef, tmps.getD x undef]) w := by
  simp [results, h]
set_option maxRecDepth 100000 in
set_option maxHeartbeats 4000000 in
theorem drawEndMaker_is (w : World) (v : Value) (A : Option Addr) (cap : Nat) (code : List Int) (h : Code w v A cap code) :
    Calls Tryd.prog 10 #[v] w fun e w' => ∃ (v : Value) (xs : List SMaker) (x y z : Int), e = .returned (.tuple #[v, .int .i64 x, .int .i64 y, .int .i64 z]) ∧ (∀ z ∈ xs, z.wf) ∧ (-100000 ≤ x ∧ x ≤ 100000) ∧ (-100000 ≤ y ∧ y ≤ 100000) ∧ (-100000 ≤ z ∧ z ≤ 100000) ∧ xs.length ≤ 12 ∧ Own 5 SMaker.enc 27 w' w.heap.size v xs ∧ Below w.heap.size w w' := by
  have hD := DS.new h
  obtain rfl := h.eq
  have HD := hide hD; clear hD h
  have hgw : w.heap.size < (w.alloc (.cells #[.slice A code.length cap, .int .i64 0, .int .u64 0] 56)).heap.size := by simp
  go_enter Tryd.func10, Tryd.ntmps10
  go_wp2_with fail
  generalize hgs : w.heap.size = g at *
  generalize hw0 : w.alloc (.cells #[.slice A code.length cap, .int .i64 0, .int .u64 0] 56) = w0 at *
  have HB0 := hide (Nat.le_of_lt hgw)
  have HGS := hide HD.out.gr.size
  refine (makers_is w0 _ g g _ A cap code HD.out (by omega)).mono ?_; rintro e w1 ⟨v1, xs, rfl, hfit, hl, ho, hD, hg⟩
  replace HD := hide hD; clear hD hg
  have HX := hide (ownLow ho HGS.out); clear ho HGS
  have HF := hide hfit; have HWF := hide (fun z hz => (hfit z hz).wf); clear hfit
  go_wp2_with fail
  refine (oneD 3 HD.out (by omega)).mono ?_; rintro e w2 ⟨x2, rfl, hD, hg⟩
  replace HX := hide (HD.out.own HX.out hg (by decide))
  replace HD := hide hD; clear hD hg
  cases x2 with
  | true =>
    go_wp2_with fail
    refine (makerIdB_is w0 _ g g _ A cap code HD.out _ _ _ HX.out HF.out (by omega) (by omega)).mono ?_; rintro e w3 ⟨px3, rfl, hp3, hD, hg⟩
    replace HX := hide (HD.out.own HX.out hg (by decide)); have HP3 := hide hp3; clear hp3
    replace HD := hide hD; clear hD hg
    go_wp2_with fail
    refine (year7B_is w0 _ g g _ A cap code HD.out (by omega)).mono ?_; rintro e w4 ⟨px4, rfl, hp4, hD, hg⟩
    replace HX := hide (HD.out.own HX.out hg (by decide)); have HP4 := hide hp4; clear hp4
    replace HD := hide hD; clear hD hg
    go_wp2_with fail
    (try simp only [Exit.inBlock, Exit.then]); refine bodyPost_ret (results_tmp4_m rfl _ _ _) rfl ?_
    subst hw0 hgs
    exact ⟨_, _, _, _, _, rfl, HWF.out, HP3.out, HP4.out, ⟨by decide, by decide⟩, hl, ownLow HX.out HB0.out, HD.out.end⟩
  | false =>
    go_wp2_with fail
    refine (makerIdB_is w0 _ g g _ A cap code HD.out _ _ _ HX.out HF.out (by omega) (by omega)).mono ?_; rintro e w2 ⟨px2, rfl, hp2, hD, hg⟩
    replace HX := hide (HD.out.own HX.out hg (by decide)); have HP2 := hide hp2; clear hp2
    replace HD := hide hD; clear hD hg
    go_wp2_with fail
    refine (makerIdB_is w0 _ g g _ A cap code HD.out _ _ _ HX.out HF.out (by omega) (by omega)).mono ?_; rintro e w3 ⟨px3, rfl, hp3, hD, hg⟩
    replace HX := hide (HD.out.own HX.out hg (by decide)); have HP3 := hide hp3; clear hp3
    replace HD := hide hD; clear hD hg
    go_wp2_with fail
    refine (year7B_is w0 _ g g _ A cap code HD.out (by omega)).mono ?_; rintro e w4 ⟨px4, rfl, hp4, hD, hg⟩
    replace HX := hide (HD.out.own HX.out hg (by decide)); have HP4 := hide hp4; clear hp4
    replace HD := hide hD; clear hD hg
    go_wp2_with fail
    (try simp only [Exit.inBlock, Exit.then]); refine bodyPost_ret (results_tmp4_m rfl _ _ _) rfl ?_
    subst hw0 hgs
    exact ⟨_, _, _, _, _, rfl, HWF.out, HP3.out, HP4.out, HP2.out, hl, ownLow HX.out HB0.out, HD.out.end⟩
set_option maxRecDepth 100000 in
set_option maxHeartbeats 4000000 in
theorem drawIsMaker_is (w : World) (v : Value) (A : Option Addr) (cap : Nat) (code : List Int) (h : Code w v A cap code) :
    Calls Tryd.prog 60 #[v] w fun e w' => ∃ z : SMaker, e = .returned (.agg #[.int .i64 z.ident, .string z.name, .int .i64 z.frm, .int .i64 z.untl, .int .i64 z.heir]) ∧ z.Fit ∧ Below w.heap.size w w' := by
  have hB := (Blk.new w 27 #[.int .i64 0, .string ⟨#[]⟩, .int .i64 0, .int .i64 0, .int .i64 0]).alloc (.cells #[.slice A code.length cap, .int .i64 0, .int .u64 0] 56)
  obtain rfl := h.eq
  have hD := DS.new (h.below (below_alloc w (.cells #[.int .i64 0, .string ⟨#[]⟩, .int .i64 0, .int .i64 0, .int .i64 0] 27)) (Nat.le_refl _))
  have hsz : (w.alloc (.cells #[.int .i64 0, .string ⟨#[]⟩, .int .i64 0, .int .i64 0, .int .i64 0] 27)).heap.size = w.heap.size + 1 := by simp
  have hend : ∀ (W : World) (k : Nat), DS ((w.alloc (.cells #[.int .i64 0, .string ⟨#[]⟩, .int .i64 0, .int .i64 0, .int .i64 0] 27)).alloc (.cells #[.slice A code.length cap, .int .i64 0, .int .u64 0] 56)) (w.heap.size + 1) (w.heap.size + 1) A cap code k W → Below w.heap.size w W := fun W k hd => by
    rw [← hsz] at hd
    exact (below_alloc w _).trans ((DS.end hd).mono (by simp))
  rw [hsz] at hD
  have hws : w.heap.size + 2 = ((w.alloc (.cells #[.int .i64 0, .string ⟨#[]⟩, .int .i64 0, .int .i64 0, .int .i64 0] 27)).alloc (.cells #[.slice A code.length cap, .int .i64 0, .int .u64 0] 56)).heap.size := by simp
  have HEND := hide hend; have HD := hide hD; have HB := hide hB; clear hend hD hB hsz h
  go_enter Tryd.func60, Tryd.ntmps60
  go_wp2_with fail
  generalize hw0 : (w.alloc (.cells #[.int .i64 0, .string ⟨#[]⟩, .int .i64 0, .int .i64 0, .int .i64 0] 27)).alloc (.cells #[.slice A code.length cap, .int .i64 0, .int .u64 0] 56) = w0 at *
  generalize hb0 : w.heap.size = b0 at *
  go_wp2_with fail
  refine (amongD [1, 42, 99] HD.out (by rfl) (by rfl) (by rfl) (by simp) (by simp) (by omega)).mono ?_; rintro e w1 ⟨x1, rfl, hm, hD, hg⟩
  replace HB := hide (HD.out.blk HB.out hg (by decide))
  replace HD := hide hD; clear hD hg
  have b1 := (by decide : ∀ x ∈ ([1, 42, 99] : List Int), -1000 ≤ x ∧ x ≤ 1000) _ hm; clear hm
  have HI := hide b1; clear b1
  go_wp2_with fail
  refine (maker_is w0 _ _ _ _ A cap code HD.out x1 HI.out (by omega)).mono ?_; rintro e w2 ⟨z, rfl, hfit, hD, hg⟩
  obtain ⟨z0, z1, z2, z3, z4⟩ := z
  replace HB := hide (HD.out.blk HB.out hg (by decide))
  replace HD := hide hD; have HFIT := hide hfit; clear hD hg hfit
  have HT := hide (Blk.new w2 27 #[.int .i64 z0, .string z1, .int .i64 z2, .int .i64 z3, .int .i64 z4])
  have hlt := HB.out.lt
  have hw2 : w0.heap.size ≤ w2.heap.size := HD.out.gr.size
  go_wp2_with fail
  replace HB := hide (HB.out.alloc (.cells #[.int .i64 z0, .string z1, .int .i64 z2, .int .i64 z3, .int .i64 z4] 27))
  replace HD := hide (HD.out.alloc (.cells #[.int .i64 z0, .string z1, .int .i64 z2, .int .i64 z3, .int .i64 z4] 27))
  generalize w2.alloc (.cells #[.int .i64 z0, .string z1, .int .i64 z2, .int .i64 z3, .int .i64 z4] 27) = w3 at *
  generalize hb1 : w2.heap.size = b1 at *
  refine (oneD 3 HD.out (by omega)).mono ?_; rintro e w4 ⟨x4, rfl, hD, hg⟩
  replace HB := hide (HD.out.blk HB.out hg (by decide))
  replace HT := hide (HD.out.blk HT.out hg (by decide))
  replace HD := hide hD; clear hD hg
  cases x4 with
  | false =>
    obtain ⟨t0, t1, t2, t3, t4⟩ := mk5 HT.out
    have tf := fun o => HT.out.frozen o
    obtain ⟨m0, m1, m2, m3, m4⟩ := mk5 HB.out
    have mf := fun o => HB.out.frozen o
    have nb : ¬ b1 = b0 := by omega
    have nb2 : ¬ b0 = b1 := by omega
    go_wp2_with fail
    have hF := ((((HB.out.set 0 (.int .i64 z0)).set 1 (.string z1)).set 2 (.int .i64 z2)).set 3 (.int .i64 z3)).set 4 (.int .i64 z4)
    have f0 := hF.cell 0; have f1 := hF.cell 1; have f2 := hF.cell 2; have f3 := hF.cell 3; have f4 := hF.cell 4
    simp at f0 f1 f2 f3 f4
    exact bodyPost_ret (v := .agg #[.int .i64 z0, .string z1, .int .i64 z2, .int .i64 z3, .int .i64 z4]) (by simp [results, Tryd.results60, go_sem, f0, f1, f2, f3, f4]) rfl ⟨⟨z0, z1, z2, z3, z4⟩, rfl, (by obtain ⟨q0, q1, q2, q3, q4⟩ := HFIT.out; refine ⟨q0, q1, q2, ?_, q4⟩; simp only at *; omega), by rw [hb0]; exact (((((HEND.out _ _ HD.out).setCell (p := ⟨b0, 0, none⟩) (Nat.le_refl _) _).setCell (p := ⟨b0, 1, none⟩) (Nat.le_refl _) _).setCell (p := ⟨b0, 2, none⟩) (Nat.le_refl _) _).setCell (p := ⟨b0, 3, none⟩) (Nat.le_refl _) _).setCell (p := ⟨b0, 4, none⟩) (Nat.le_refl _) _⟩
  | true =>
    go_wp2_with fail
    refine (amongD [1, 7, 99, 42] HD.out (by rfl) (by rfl) (by rfl) (by simp) (by simp) (by omega)).mono ?_; rintro e w5 ⟨x5, rfl, hm, hD, hg⟩
    replace HB := hide (HD.out.blk HB.out hg (by decide))
    replace HT := hide (HD.out.blk HT.out hg (by decide))
    replace HD := hide hD; clear hD hg
    have b5 := (by decide : ∀ x ∈ ([1, 7, 99, 42] : List Int), 0 ≤ x ∧ x ≤ 100) _ hm; clear hm
    obtain ⟨t0, t1, t2, t3, t4⟩ := mk5 HT.out
    have tf := fun o => HT.out.frozen o
    obtain ⟨m0, m1, m2, m3, m4⟩ := mk5 HB.out
    have mf := fun o => HB.out.frozen o
    have nb : ¬ b1 = b0 := by omega
    have nb2 : ¬ b0 = b1 := by omega
    go_wp2_with fail
    have hF := (((((HB.out.far (p := ⟨b1, 4, none⟩) (by simp only; omega) (.int .i64 x5)).set 0 (.int .i64 z0)).set 1 (.string z1)).set 2 (.int .i64 z2)).set 3 (.int .i64 z3)).set 4 (.int .i64 x5)
    have f0 := hF.cell 0; have f1 := hF.cell 1; have f2 := hF.cell 2; have f3 := hF.cell 3; have f4 := hF.cell 4
    simp at f0 f1 f2 f3 f4
    exact bodyPost_ret (v := .agg #[.int .i64 z0, .string z1, .int .i64 z2, .int .i64 z3, .int .i64 x5]) (by simp [results, Tryd.results60, go_sem, f0, f1, f2, f3, f4]) rfl ⟨⟨z0, z1, z2, z3, x5⟩, rfl, (by obtain ⟨q0, q1, q2, q3, q4⟩ := HFIT.out; refine ⟨q0, q1, q2, ?_, q4⟩; simp only at *; omega), by rw [hb0]; exact (((((HEND.out _ _ (HD.out.set (b := b1) (by omega) (by omega) 4 (.int .i64 x5))).setCell (p := ⟨b0, 0, none⟩) (Nat.le_refl _) _).setCell (p := ⟨b0, 1, none⟩) (Nat.le_refl _) _).setCell (p := ⟨b0, 2, none⟩) (Nat.le_refl _) _).setCell (p := ⟨b0, 3, none⟩) (Nat.le_refl _) _).setCell (p := ⟨b0, 4, none⟩) (Nat.le_refl _) _⟩
theorem specIsMaker_any (a0 : Int) (a1 : ByteArray) (a2 a3 a4 : Int) (w : World) (hm : a1.size ≤ 9223372036854775807) :
    Calls Tryd.prog 29 #[.agg #[.int .i64 a0, .string a1, .int .i64 a2, .int .i64 a3, .int .i64 a4]] w fun e w' => e = .returned (.bool (SMaker.okB ⟨a0, a1, a2, a3, a4⟩)) ∧ Below w.heap.size w w' := by
  have hB0 := below_alloc w (.cells #[.int .i64 a0, .string a1, .int .i64 a2, .int .i64 a3, .int .i64 a4] 27)
  have HB0 := hide hB0; clear hB0
  go_enter Tryd.func29, Tryd.ntmps29
  go_wp2_with fail
  refine (l7One_any a0 a1 a2 a3 a4 _ hm).mono ?_; rintro e w1 ⟨rfl, hb⟩
  have HB1 := hide (HB0.out.trans (hb.mono (by simp))); clear hb
  go_wp2_with fail
  go_ret
  exact ⟨rfl, HB1.out⟩
theorem drawMakerText_is (w : World) (v : Value) (A : Option Addr) (cap : Nat) (code : List Int) (h : Code w v A cap code) :
    Calls Tryd.prog 27 #[v] w fun e w' => ∃ z : SMaker, e = .returned (.agg #[.int .i64 z.ident, .string z.name, .int .i64 z.frm, .int .i64 z.untl, .int .i64 z.heir]) ∧ z.Fit ∧ Below w.heap.size w w' := by
  have hB := Blk.new w 27 #[.int .i64 0, .string ⟨#[]⟩, .int .i64 0, .int .i64 0, .int .i64 0]
  have HC := hide (h.below (below_alloc w (.cells #[.int .i64 0, .string ⟨#[]⟩, .int .i64 0, .int .i64 0, .int .i64 0] 27)) (Nat.le_refl _))
  have HA := hide (below_alloc w (.cells #[.int .i64 0, .string ⟨#[]⟩, .int .i64 0, .int .i64 0, .int .i64 0] 27))
  have HB := hide hB; clear hB h
  go_enter Tryd.func27, Tryd.ntmps27
  go_wp2_with fail
  refine (drawIsMaker_is _ v A cap code HC.out).mono ?_; rintro e w1 ⟨z, rfl, hfit, hb⟩
  obtain ⟨z0, z1, z2, z3, z4⟩ := z
  replace HB := hide (HB.out.below hb HB.out.lt)
  have HBL := hide (HA.out.trans (hb.mono (by simp))); have HFIT := hide hfit; clear hb hfit
  obtain ⟨m0, m1, m2, m3, m4⟩ := mk5 HB.out
  have mf := fun o => HB.out.frozen o
  go_wp2_with fail
  generalize hb0 : w.heap.size = b0 at *
  have hF := ((((HB.out.set 0 (.int .i64 z0)).set 1 (.string z1)).set 2 (.int .i64 z2)).set 3 (.int .i64 z3)).set 4 (.int .i64 z4)
  have f0 := hF.cell 0; have f1 := hF.cell 1; have f2 := hF.cell 2; have f3 := hF.cell 3; have f4 := hF.cell 4
  simp at f0 f1 f2 f3 f4
  exact bodyPost_ret (v := .agg #[.int .i64 z0, .string z1, .int .i64 z2, .int .i64 z3, .int .i64 z4]) (by simp [results, Tryd.results27, go_sem, f0, f1, f2, f3, f4]) rfl ⟨⟨z0, z1, z2, z3, z4⟩, rfl, HFIT.out, ((((HBL.out.setCell (p := ⟨b0, 0, none⟩) (Nat.le_refl _) _).setCell (p := ⟨b0, 1, none⟩) (Nat.le_refl _) _).setCell (p := ⟨b0, 2, none⟩) (Nat.le_refl _) _).setCell (p := ⟨b0, 3, none⟩) (Nat.le_refl _) _).setCell (p := ⟨b0, 4, none⟩) (Nat.le_refl _) _⟩
end Go.Proofs.YtapbnggdclpokaaDoor
