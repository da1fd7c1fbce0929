/- The drawing function of ShownOn and BestSheet. No condition. (Printed by mkspotd.py.) -/
import Derived.Test.YtplemibckjnbhaaDoorD4C
import Derived.Deep.RegionHeld3
namespace Go.Proofs.YtplemibckjnbhaaDoor
open Go.RowKit
set_option linter.unusedVariables false
theorem amongO {w0 w : World} {base g : Nat} {A : Option Addr} {cap : Nat} {code : List Int} {k : Nat} (v : Value) (l : List Int) (hO : Own 1 encI 3 w base v l) (h : DS w0 base g A cap code k w) (h1 : 1 ≤ l.length) (h2 : l.length ≤ 1000) (hk : k + 2 < 2305843009213693952) :
    Calls Tryd.prog 67 #[.pointer (some ⟨g, 0, none⟩), v] w fun e w' => ∃ x : Int, e = .returned (.int .i64 x) ∧ x ∈ l ∧ DS w0 base g A cap code (k + 2) w' ∧ w.grownBy w' (some g) :=
  (among_is v l w base g k A cap code hO h1 h2 h.cur hk h.sz).mono fun e w' ⟨x, he, hm, hC, hg⟩ => ⟨x, he, hm, h.next hC hg, hg⟩
set_option maxRecDepth 100000 in
set_option maxHeartbeats 4000000 in
theorem drawShownOn_is (w : World) (v : Value) (A : Option Addr) (cap : Nat) (code : List Int) (h : Code w v A cap code) :
    Calls Tryd.prog 21 #[v] w fun e w' => ∃ (v : Value) (xs : List SSheet) (x y : Int), e = .returned (.tuple #[v, .int .i64 x, .int .i64 y]) ∧ (∀ z ∈ xs, z.Fit) ∧ xs.length ≤ 13 ∧ Own 5 SSheet.enc 88 w' w.heap.size v xs ∧ Below w.heap.size w w' := by
  have hD := DS.new h
  obtain rfl := h.eq
  have HD := hide hD; clear hD h
  have hgw : w.heap.size < (w.alloc (.cells #[.slice A code.length cap, .int .i64 0, .int .u64 0] 71)).heap.size := by simp
  go_enter Tryd.func21, Tryd.ntmps21
  go_wp2_with fail
  generalize hgs : w.heap.size = g at *
  generalize hw0 : w.alloc (.cells #[.slice A code.length cap, .int .i64 0, .int .u64 0] 71) = w0 at *
  have HB0 := hide (Nat.le_of_lt hgw)
  have HGS := hide HD.out.gr.size
  refine (sheets_is w0 _ g g _ A cap code HD.out (by omega)).mono ?_; rintro e w1 ⟨v1, xs, rfl, hfit, hl, ho, hD, hg⟩
  replace HD := hide hD; clear hD hg
  have HX := hide (ownLow ho HGS.out); clear ho HGS
  have HWF := hide hfit; clear hfit
  obtain ⟨A7, c7, rfl, _, _, _⟩ := HX.out.is
  by_cases hz : xs.length = 0
  · have hz1 : ¬ (0 : Int) < xs.length := by omega
    clear hz
    go_wp2_with fail
    refine (place4b_is w0 _ g g _ A cap code HD.out (by omega)).mono ?_; rintro e w9 ⟨x, y, rfl, hp, hD, hg⟩
    replace HX := hide (HD.out.own HX.out hg (by decide))
    replace HD := hide hD; clear hD hg hp
    go_wp2_with fail
    (try simp only [Exit.inBlock, Exit.then]); refine bodyPost_ret (results_tmp3_d rfl _ _ _) rfl ?_
    subst hw0 hgs
    exact ⟨_, _, _, _, rfl, HWF.out, hl, ownLow HX.out HB0.out, HD.out.end⟩
  · have hz1 : (0 : Int) < xs.length := by omega
    go_wp2_with fail
    refine (oneD 4 HD.out (by omega)).mono ?_; rintro e w2 ⟨x1, rfl, hD, hg⟩
    replace HX := hide (HD.out.own HX.out hg (by decide))
    replace HD := hide hD; clear hD hg
    cases x1 with
    | true =>
      go_wp2_with fail
      refine (place4b_is w0 _ g g _ A cap code HD.out (by omega)).mono ?_; rintro e w9 ⟨x, y, rfl, hp, hD, hg⟩
      replace HX := hide (HD.out.own HX.out hg (by decide))
      replace HD := hide hD; clear hD hg hp
      go_wp2_with fail
      (try simp only [Exit.inBlock, Exit.then]); refine bodyPost_ret (results_tmp3_d rfl _ _ _) rfl ?_
      subst hw0 hgs
      exact ⟨_, _, _, _, rfl, HWF.out, hl, ownLow HX.out HB0.out, HD.out.end⟩
    | false =>
      go_wp2_with fail
      refine (pickD (xs.length : Int) HD.out (by omega)).mono ?_; rintro e w3 ⟨x2, rfl, p2, q2, hD, hg⟩
      replace HX := hide (HD.out.own HX.out hg (by decide))
      replace HD := hide hD; clear hD hg
      obtain ⟨q, rfl⟩ : ∃ q : Nat, x2 = (q : Int) := ⟨x2.toNat, by omega⟩
      have hq : q < xs.length := by omega
      have hq' : (q : Int) < xs.length := by omega
      obtain ⟨A8, c8, he8, hr8, _, _⟩ := HX.out.is
      injection he8 with e1 e2 e3; subst e1 e3; clear e2
      obtain ⟨b8, off8, rfl, _, f0, f1, f2, f3, f4⟩ := SSheet.cells hr8 hq (Below.refl _ _)
      clear hr8
      have hfq := HWF.out _ (List.getElem_mem hq)
      generalize xs[q] = yy at *
      obtain ⟨yid, row, col, sc, yyear⟩ := yy
      simp only at f0 f1 f2 f3 f4
      have HT := hide (Blk.new w3 88 #[.int .i64 yid, .int .i64 row, .int .i64 col, .int .i64 sc, .int .i64 yyear])
      replace HX := hide (HX.out.alloc (.cells #[.int .i64 yid, .int .i64 row, .int .i64 col, .int .i64 sc, .int .i64 yyear] 88))
      replace HD := hide (HD.out.alloc (.cells #[.int .i64 yid, .int .i64 row, .int .i64 col, .int .i64 sc, .int .i64 yyear] 88))
      go_upto_region 5 with fail
      clear f0 f1 f2 f3 f4 hfq hz hz1 p2 q2 hq hq'
      generalize w3.alloc (.cells #[.int .i64 yid, .int .i64 row, .int .i64 col, .int .i64 sc, .int .i64 yyear] 88) = w4 at *
      generalize w3.heap.size = b7 at *
      obtain ⟨t0, t1, t2, t3, t4⟩ := mk5S HT.out
      obtain ⟨p1, hp1⟩ : ∃ p, IntKind.i64.wrap (10 * sc) = p := ⟨_, rfl⟩
      obtain ⟨q1, hq1⟩ : ∃ p, IntKind.i64.wrap (p1 - 1) = p := ⟨_, rfl⟩
      obtain ⟨r1, hr1⟩ : ∃ p, IntKind.i64.wrap (p1 * col) = p := ⟨_, rfl⟩
      obtain ⟨r2, hr2⟩ : ∃ p, IntKind.i64.wrap (p1 * row) = p := ⟨_, rfl⟩
      have bA : Below w4.heap.size w4 (w4.alloc (.cells #[.int .i64 0, .int .i64 1, .int .i64 q1, .int .i64 p1] 3)).drew := (below_alloc w4 _).drew
      have bB : Below w4.heap.size w4 ((w4.alloc (.cells #[.int .i64 0, .int .i64 1, .int .i64 q1, .int .i64 p1] 3)).alloc (.cells #[.int .i64 0, .int .i64 1, .int .i64 q1] 3)).drew := ((below_alloc w4 _).alloc (by simp) _).drew
      have bC : Below w4.heap.size w4 ((w4.alloc (.cells #[.int .i64 0, .int .i64 1, .int .i64 q1] 3)).alloc (.cells #[.int .i64 0, .int .i64 1, .int .i64 q1, .int .i64 p1] 3)).drew := ((below_alloc w4 _).alloc (by simp) _).drew
      have DA := hide (HD.out.below bA); have DB := hide (HD.out.below bB); have DC := hide (HD.out.below bC)
      have TA := hide (HT.out.below bA HT.out.lt); have TB := hide (HT.out.below bB HT.out.lt); have TC := hide (HT.out.below bC HT.out.lt)
      have XA := hide (HX.out.below bA); have XB := hide (HX.out.below bB); have XC := hide (HX.out.below bC)
      have oX := own_ints w4 [0, 1, q1, p1] g HD.out.sz (by simp only [maxLen]; simp)
      have oY := own_ints w4 [0, 1, q1] g HD.out.sz (by simp only [maxLen]; simp)
      have oA : Own 1 encI 3 (w4.alloc (.cells #[.int .i64 0, .int .i64 1, .int .i64 q1, .int .i64 p1] 3)).drew g (.slice (some ⟨w4.heap.size, 0, none⟩) 4 4) [0, 1, q1, p1] := oX.below ((Below.refl _ _).drew)
      have oB : Own 1 encI 3 ((w4.alloc (.cells #[.int .i64 0, .int .i64 1, .int .i64 q1, .int .i64 p1] 3)).alloc (.cells #[.int .i64 0, .int .i64 1, .int .i64 q1] 3)).drew g (.slice (some ⟨w4.heap.size, 0, none⟩) 4 4) [0, 1, q1, p1] := oX.below (below_alloc _ _).drew
      have oC2 : Own 1 encI 3 ((w4.alloc (.cells #[.int .i64 0, .int .i64 1, .int .i64 q1] 3)).alloc (.cells #[.int .i64 0, .int .i64 1, .int .i64 q1, .int .i64 p1] 3)).drew g (.slice (some ⟨w4.heap.size, 0, none⟩) 3 3) [0, 1, q1] := oY.below (below_alloc _ _).drew
      have oB2 : Own 1 encI 3 ((w4.alloc (.cells #[.int .i64 0, .int .i64 1, .int .i64 q1, .int .i64 p1] 3)).alloc (.cells #[.int .i64 0, .int .i64 1, .int .i64 q1] 3)).drew g (.slice (some ⟨w4.heap.size + 1, 0, none⟩) 3 3) [0, 1, q1] := by
        have h5 := own_ints (w4.alloc (.cells #[.int .i64 0, .int .i64 1, .int .i64 q1, .int .i64 p1] 3)) [0, 1, q1] g (by have := HD.out.sz; simp; omega) (by simp only [maxLen]; simp)
        have h6 := h5.below ((Below.refl _ _).drew)
        simpa using h6
      have oC : Own 1 encI 3 ((w4.alloc (.cells #[.int .i64 0, .int .i64 1, .int .i64 q1] 3)).alloc (.cells #[.int .i64 0, .int .i64 1, .int .i64 q1, .int .i64 p1] 3)).drew g (.slice (some ⟨w4.heap.size + 1, 0, none⟩) 4 4) [0, 1, q1, p1] := by
        have h5 := own_ints (w4.alloc (.cells #[.int .i64 0, .int .i64 1, .int .i64 q1] 3)) [0, 1, q1, p1] g (by have := HD.out.sz; simp; omega) (by simp only [maxLen]; simp)
        have h6 := h5.below ((Below.refl _ _).drew)
        simpa using h6
      have CA := hide (amongO _ [0, 1, q1, p1] oA DA.out (by simp) (by simp) (by omega))
      have CB := hide (amongO _ [0, 1, q1, p1] oB DB.out (by simp) (by simp) (by omega))
      have CC := hide (amongO _ [0, 1, q1, p1] oC DC.out (by simp) (by simp) (by omega))
      have YB := hide oB2; have YC := hide oC2
      clear HD HX HT bA bB bC oX oY oA oB oC oB2 oC2
      go_region_held3 (fun W => W.cell? ⟨b7, 1, none⟩ = some (.int .i64 row) ∧ W.cell? ⟨b7, 2, none⟩ = some (.int .i64 col) ∧ W.cell? ⟨b7, 3, none⟩ = some (.int .i64 sc)) (first | (with_reducible exact ⟨t1, t2, t3⟩) | go_keep)
        (first
          | (go_at_call 66; refine (l1Least_any _ _ _).mono ?_; rintro e w' ⟨rfl, rfl⟩)
          | (go_at_call 67; first | (refine (amongO _ [0, 1, q1] HY20.out HD20.out (by simp) (by simp) (by omega)).mono ?_; rintro e w21 ⟨x21, rfl, hm, hD, hg⟩; have HT21 := hide (HD20.out.blk HT20.out hg (by decide)); have HX21 := hide (HD20.out.own HX20.out hg (by decide)); have HD21 := hide hD; clear hD hg hm; obtain ⟨t0, t1, t2, t3, t4⟩ := mk5S HT21.out) | (refine (amongD [0, 1, q1] HD20.out (by rfl) (by rfl) (by rfl) (by simp) (by simp) (by omega)).mono ?_; rintro e w21 ⟨x21, rfl, hm, hD, hg⟩; have HT21 := hide (HD20.out.blk HT20.out hg (by decide)); have HX21 := hide (HD20.out.own HX20.out hg (by decide)); have HD21 := hide hD; clear hD hg hm; obtain ⟨t0, t1, t2, t3, t4⟩ := mk5S HT21.out) | (with_reducible refine CA.out.mono ?_; rintro e w20 ⟨x20, rfl, hm, hD, hg⟩; have HT20 := hide (DA.out.blk TA.out hg (by decide)); have HX20 := hide (DA.out.own XA.out hg (by decide)); have HD20 := hide hD; clear hD hg hm; obtain ⟨t0, t1, t2, t3, t4⟩ := mk5S HT20.out) | (with_reducible refine CB.out.mono ?_; rintro e w20 ⟨x20, rfl, hm, hD, hg⟩; have HT20 := hide (DB.out.blk TB.out hg (by decide)); have HX20 := hide (DB.out.own XB.out hg (by decide)); have HY20 := hide (DB.out.own YB.out hg (by decide)); have HD20 := hide hD; clear hD hg hm; obtain ⟨t0, t1, t2, t3, t4⟩ := mk5S HT20.out) | (with_reducible refine CC.out.mono ?_; rintro e w20 ⟨x20, rfl, hm, hD, hg⟩; have HT20 := hide (DC.out.blk TC.out hg (by decide)); have HX20 := hide (DC.out.own XC.out hg (by decide)); have HY20 := hide (DC.out.own YC.out hg (by decide)); have HD20 := hide hD; clear hD hg hm; obtain ⟨t0, t1, t2, t3, t4⟩ := mk5S HT20.out)))
      all_goals
        go_wp2_with fail
        (try simp only [Exit.inBlock, Exit.then]); refine bodyPost_ret (results_tmp3_d rfl _ _ _) rfl ?_
        subst hw0 hgs
        exact ⟨_, _, _, _, rfl, HWF.out, hl, ownLow HX21.out HB0.out, HD21.out.end⟩
end Go.Proofs.YtplemibckjnbhaaDoor
