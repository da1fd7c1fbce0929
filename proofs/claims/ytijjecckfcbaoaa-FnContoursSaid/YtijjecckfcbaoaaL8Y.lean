/- The drawing functions that FnContours calls: some numbers, heights, some claims and a mark. No condition but a code's own. (Printed by mkdraw8.py.) -/
import Derived.Test.YtijjecckfcbaoaaL8W
import Derived.Test.YtijjecckfcbaoaaL8X
import Derived.Deep.RegionWith
namespace Go.Proofs.Ytijjecckfcbaoaa
open Go.RowKit
set_option linter.unusedVariables false
theorem low_le (m : Nat) (xs : List SClaim) : (lowV m xs).1.length ≤ m := by
  by_cases h : toldB m xs = true
  · rw [low_len h]; exact Nat.le_refl _
  · unfold lowV; rw [if_neg h]; exact Nat.zero_le _
theorem high_le (m : Nat) (xs : List SClaim) : (highV m xs).1.length ≤ m := by
  by_cases h : toldB m xs = true
  · rw [high_len h]; exact Nat.le_refl _
  · unfold highV; rw [if_neg h]; exact Nat.zero_le _
set_option maxRecDepth 100000 in
set_option maxHeartbeats 4000000 in
theorem drawContoursBetween_is (w : World) (v : Value) (A : Option Addr) (cap : Nat) (code : List Int) (h : Code w v A cap code) :
    Calls Try.prog 48 #[v] w fun e w' => ∃ a b c : Int, e = .returned (.tuple #[.int .i64 a, .int .i64 b, .int .i64 c]) ∧ Below w.heap.size w w' := by
  have hD := DS.new h
  obtain rfl := h.eq
  have HD := hide hD; clear hD h
  have hgw : w.heap.size < (w.alloc (.cells #[.slice A code.length cap, .int .i64 0, .int .u64 0] 82)).heap.size := by simp
  go_enter Try.func48, Try.ntmps48
  go_upto_region 2 with fail
  generalize hgs : w.heap.size = g at *
  generalize hw0 : w.alloc (.cells #[.slice A code.length cap, .int .i64 0, .int .u64 0] 82) = w0 at *
  have HB0 := hide (Nat.le_of_lt hgw)
  go_wp2_with fail
  refine (amongD [0, 10, 99, 100, -1, -100, -200000, 200001] HD.out (by rfl) (by rfl) (by rfl) (by simp) (by simp) (by omega)).mono ?_; rintro e w1 ⟨x1, rfl, hm, hD, hg⟩
  replace HD := hide hD; clear hD hg
  clear hm
  go_wp2_with fail
  refine (amongD [0, 20, 100, 101, -20, 200000] HD.out (by rfl) (by rfl) (by rfl) (by simp) (by simp) (by omega)).mono ?_; rintro e w2 ⟨x2, rfl, hm, hD, hg⟩
  replace HD := hide hD; clear hD hg
  clear hm
  go_wp2_with fail
  refine (amongD [1, 10, 20, 100, 1000, 0, 1001] HD.out (by rfl) (by rfl) (by rfl) (by simp) (by simp) (by omega)).mono ?_; rintro e w3 ⟨x3, rfl, hm, hD, hg⟩
  replace HD := hide hD; clear hD hg
  clear hm
  go_wp2_with fail
  go_ret3
  subst hw0 hgs
  exact ⟨_, _, _, rfl, HD.out.end⟩
set_option maxRecDepth 100000 in
set_option maxHeartbeats 4000000 in
theorem drawClaimOfContours_is (w : World) (v : Value) (A : Option Addr) (cap : Nat) (code : List Int) (h : Code w v A cap code) :
    Calls Try.prog 49 #[v] w fun e w' => ∃ a b c d : Int, e = .returned (.tuple #[.int .i64 a, .int .i64 b, .int .i64 c, .int .i64 d]) ∧ Below w.heap.size w w' := by
  have hD := DS.new h
  obtain rfl := h.eq
  have HD := hide hD; clear hD h
  have hgw : w.heap.size < (w.alloc (.cells #[.slice A code.length cap, .int .i64 0, .int .u64 0] 82)).heap.size := by simp
  go_enter Try.func49, Try.ntmps49
  go_upto_region 2 with fail
  generalize hgs : w.heap.size = g at *
  generalize hw0 : w.alloc (.cells #[.slice A code.length cap, .int .i64 0, .int .u64 0] 82) = w0 at *
  have HB0 := hide (Nat.le_of_lt hgw)
  go_wp2_with fail
  refine (amongD [0, 1, 9, 10, -1] HD.out (by rfl) (by rfl) (by rfl) (by simp) (by simp) (by omega)).mono ?_; rintro e w1 ⟨x1, rfl, hm, hD, hg⟩
  replace HD := hide hD; clear hD hg
  clear hm
  go_wp2_with fail
  refine (amongD [0, 1, 5, 9] HD.out (by rfl) (by rfl) (by rfl) (by simp) (by simp) (by omega)).mono ?_; rintro e w2 ⟨x2, rfl, hm, hD, hg⟩
  replace HD := hide hD; clear hD hg
  clear hm
  go_wp2_with fail
  refine (amongD [0, 1, 2, 9, 10, -1] HD.out (by rfl) (by rfl) (by rfl) (by simp) (by simp) (by omega)).mono ?_; rintro e w3 ⟨x3, rfl, hm, hD, hg⟩
  replace HD := hide hD; clear hD hg
  clear hm
  go_wp2_with fail
  refine (amongD [1, 10, 20, 1000, 0, 1001] HD.out (by rfl) (by rfl) (by rfl) (by simp) (by simp) (by omega)).mono ?_; rintro e w4 ⟨x4, rfl, hm, hD, hg⟩
  replace HD := hide hD; clear hD hg
  clear hm
  go_wp2_with fail
  (try simp only [Exit.inBlock, Exit.then]); refine bodyPost_ret (results_tmp4_d rfl _ _ _) rfl ?_
  subst hw0 hgs
  exact ⟨_, _, _, _, rfl, HD.out.end⟩
theorem own_frozen {α : Type} {k : Nat} {enc : α → Nat → Value} {e : TypeId} {w : World} {B b off n c : Nat} {xs : List α} (h : Own k enc e w B (.slice (some ⟨b, off, none⟩) n c) xs) : ∀ q, w.frozen? ⟨b, q, none⟩ = false := by
  intro q
  rcases h with ⟨h, _⟩ | ⟨g, cap, cs, h, _, hb, _⟩
  · injection h with h; exact absurd h (by simp)
  · injection h with h; injection h with h; injection h with h _; subst h
    exact hb.frozen q
theorem own_setI {w : World} {B b off n c : Nat} {xs : List Int} (h : Own 1 encI 3 w B (.slice (some ⟨b, off, none⟩) n c) xs) {j : Nat} (hj : j < xs.length) (x : Int) : Own 1 encI 3 (w.setCell ⟨b, off + j, none⟩ (.int .i64 x)) B (.slice (some ⟨b, off, none⟩) n c) (xs.set j x) := by
  rcases h with ⟨h, _⟩ | ⟨g, cap, cs, h, hg, hb, hc, hm, hs, hf⟩
  · injection h with h; exact absurd h (by simp)
  · injection h with h h2 h3
    injection h with h
    injection h with h h4
    subst h h2 h3 h4
    rw [Nat.zero_add]
    refine .inr ⟨b, c, cs.setIfInBounds j (.int .i64 x), by simp, hg, hb.set j _, by simpa using hc, hm, by simpa using hs, ?_⟩
    intro i y hi hy q hq
    obtain rfl : q = 0 := by omega
    rw [Nat.mul_one, Nat.add_zero]
    by_cases hij : j = i
    · subst hij
      rw [List.getElem?_set_self (by simpa using hj)] at hy
      injection hy with hy
      subst hy
      rw [Array.getElem?_setIfInBounds_self_of_lt (by omega)]
      rfl
    · rw [List.getElem?_set_ne hij] at hy
      rw [Array.getElem?_setIfInBounds_ne hij]
      have := hf i y (by simpa using hi) hy 0 (by omega)
      rwa [Nat.mul_one, Nat.add_zero] at this
theorem own_setDS {α : Type} {kk : Nat} {enc : α → Nat → Value} {e : TypeId} {w0 w : World} {base g : Nat} {A : Option Addr} {cap : Nat} {code : List Int} {k b off n c i : Nat} {u : Value} {xs : List α} (h : DS w0 base g A cap code k w) (hO : Own kk enc e w w0.heap.size (.slice (some ⟨b, off, none⟩) n c) xs) (he : e ≠ 82 := by decide) : DS w0 base g A cap code k (w.setCell ⟨b, i, none⟩ u) := by
  have hlt := hO.lt b rfl
  have hne := cur_ne h.cur hO he b rfl
  exact h.grown (grownBy_setCell (World.grownBy.refl w (some b)) i u) fun b' hb' => by
    injection hb' with hb'
    subst hb'
    exact ⟨hlt.1, fun e => hne (by rw [e])⟩
set_option maxRecDepth 100000 in
set_option maxHeartbeats 8000000 in
theorem heights_is (w0 w : World) (base g k : Nat) (A : Option Addr) (cap : Nat) (code : List Int) (hD : DS w0 base g A cap code k w) (hk : k + 1000 < 2305843009213693952) (m : Nat) (hm : m ≤ 11) (v : Value) (xs : List SClaim) (bX : Nat) (hX : Own 4 SClaim.enc 23 w bX v xs) :
    Calls Try.prog 80 #[.pointer (some ⟨g, 0, none⟩), .int .i64 (m : Int), v] w fun e w' => ∃ (r : Value), e = .returned r ∧ ∃ hs : List Int, hs.length ≤ 20 ∧ Own 1 encI 3 w' w.heap.size r hs ∧ DS w0 base g A cap code (k + 1000) w' ∧ w.grownBy w' (some g) := by
  have hgw := hD.lt
  have HD0 := hide hD
  have HD := hide (DS.start hD.cur hD.sz); clear hD
  have HX := hide hX; clear hX
  have hle := low_le m xs; have hhe := high_le m xs
  have CLow := hide fun (W : World) (hi : Is 4 SClaim.enc W v xs) => specLowestHeights_any (m : Int) v xs W hi
  have CHigh := hide fun (W : World) (hi : Is 4 SClaim.enc W v xs) => specHighestHeights_any (m : Int) v xs W hi
  generalize (lowV m xs).1 = Ll at *; generalize (lowV m xs).2 = ol at *
  generalize (highV m xs).1 = Lh at *; generalize (highV m xs).2 = oh at *
  go_enter Try.func80, Try.ntmps80
  go_wp2_with fail
  refine (CLow.out _ HX.out.is).mono ?_; rintro e w1 ⟨rL, rfl, ho, hb⟩
  replace HX := hide (HX.out.below hb); have HO := hide ho; replace HD := hide (HD.out.below hb); clear ho hb
  go_wp2_with fail
  refine (oneD 2 HD.out (by omega)).mono ?_; rintro e w2 ⟨x2, rfl, hD, hg⟩
  replace HX := hide (HD.out.own HX.out hg (by decide))
  replace HO := hide (HD.out.own HO.out hg (by decide))
  replace HD := hide hD; clear hD hg
  go_upto_if 18 with fail
  go_cut [7, 8] (fun s t wx => (∃ b : Bool, t = .bool b) ∧ (∃ hs : List Int, hs.length ≤ 11 ∧ Own 1 encI 3 wx w.heap.size s hs) ∧ DS w base g A cap code (k + 10) wx)
  case first =>
    cases x2 with
    | false =>
      go_wp2_with fail
      go_meet
      exact ⟨⟨_, rfl⟩, ⟨Ll, by omega, HO.out⟩, HD.out.le (by omega)⟩
    | true =>
      go_wp2_with fail
      have HGS := hide HD.out.gr.size
      refine (CHigh.out _ HX.out.is).mono ?_; rintro e w3 ⟨rH, rfl, ho, hb⟩
      have HH := hide (ownLow ho HGS.out); replace HD := hide (HD.out.below hb); clear ho hb
      go_wp2_with fail
      go_meet
      exact ⟨⟨_, rfl⟩, ⟨Lh, by omega, HH.out⟩, HD.out.le (by omega)⟩
  case rest =>
    obtain ⟨⟨b8, rfl⟩, ⟨hs, hl, ho⟩, hD⟩ := hcut
    clear HX HO HD CLow CHigh hle hhe
    generalize wc = w10 at *
    have HO := hide ho; have HD := hide hD; clear ho hD
    go_upto_if 26 with fail
    go_cut [7] (fun s wx => (∃ hs : List Int, hs.length ≤ 12 ∧ Own 1 encI 3 wx w.heap.size s hs) ∧ DS w base g A cap code (k + 200) wx)
    case first =>
      cases b8 with
      | true =>
        go_wp2_with fail
        go_meet
        exact ⟨⟨hs, by omega, HO.out⟩, HD.out.le (by omega)⟩
      | false =>
        have HN := hide (own_empty8 w10 HD.out.gr.size)
        clear HO
        go_wp2_with fail
        replace HD := hide (HD.out.alloc (.cells #[] 3))
        have HO := HN
        clear HN
        generalize w10.alloc (.cells #[] 3) = w11 at *
        go_loopw [7, 9] (fun s i wr => ∃ (j : Nat), i = .int .i64 (j : Int) ∧ j ≤ m ∧ ∃ hs : List Int, hs.length ≤ j ∧ Own 1 encI 3 wr w.heap.size s hs ∧ DS w base g A cap code (k + 20 + 10 * j) wr) (fun _ i _ => m - (intOf i).toNat)
        case atStart => exact ⟨0, rfl, Nat.zero_le _, [], by simp, HO.out, HD.out.le (by omega)⟩
        case round =>
          clear HO HD hl
          obtain ⟨j, rfl, hjm, hs, hl, ho, hD⟩ := hrel
          generalize wr = w12 at *
          have HO := hide ho; have HD := hide hD; clear ho hD
          by_cases hlt : (j : Int) < m
          · go_wp2_with fail
            refine (amongD [0, 1, 10, -5, 200000] HD.out (by rfl) (by rfl) (by rfl) (by simp) (by simp) (by omega)).mono ?_; rintro e w13 ⟨x13, rfl, hm, hD, hg⟩
            replace HO := hide (HD.out.own HO.out hg (by decide))
            replace HD := hide hD; clear hD hg
            clear hm
            go_wp2_with (at_builtin; refine wpList_push1 (k := 1) (enc := encI) _ rfl _ _ 42 rfl 3 (.int .i64 0) 8 Try.underlying42 infoI rfl (by omega) (by omega) encI_one w.heap.size _ (hs) rfl HO.out (_) _ rfl rfl (by omega) HD.out.gr.size (Below.refl w.heap.size w13) (Nat.le_refl _) rfl ?_; intro v1 w14 ho1 hb1 hg1)
            replace HD := hide (HD.out.push HO.out (Nat.le_refl _) hg1 (by decide)); replace HO := hide ho1; clear ho1 hb1 hg1
            go_wp2_with fail
            go_round
            case measure => (first | (simp [intOf]; done) | (simp [intOf] <;> omega))
            case rel => exact ⟨j + 1, by go_num, by omega, hs ++ [_], by simp; omega, HO.out, HD.out.le (by omega)⟩
          · go_wp2_with fail
            go_meet
            exact ⟨⟨hs, by omega, HO.out⟩, HD.out.le (by omega)⟩
    case rest =>
      obtain ⟨⟨hs, hl, ho⟩, hD⟩ := hcut
      clear HO HD
      generalize wc = w20 at *
      have hlv := own_lenV ho
      obtain ⟨A8, cap8, rfl, hr8, hc8, hm8⟩ := ho.is
      have HO := hide ho; have HD := hide hD; clear ho hD
      go_upto_region 10 with fail
      go_cut [45] (fun t wx => (∃ b : Bool, t = .bool b ∧ (b = true → 0 < hs.length)) ∧ Own 1 encI 3 wx w.heap.size (.slice A8 hs.length cap8) hs ∧ DS w base g A cap code (k + 210) wx)
      case first =>
        by_cases h0 : (0 : Int) < (hs.length : Int)
        · go_wp2_with fail
          refine (oneD 3 HD.out (by omega)).mono ?_; rintro e w21 ⟨x21, rfl, hD, hg⟩
          replace HO := hide (HD.out.own HO.out hg (by decide))
          replace HD := hide hD; clear hD hg
          go_wp2_with fail
          go_meet
          exact ⟨⟨_, rfl, fun _ => by omega⟩, HO.out, HD.out.le (by omega)⟩
        · go_wp2_with fail
          go_meet
          exact ⟨⟨_, rfl, fun h => absurd h (by simp)⟩, HO.out, HD.out.le (by omega)⟩
      case rest =>
        obtain ⟨⟨b9, rfl, hb9⟩, ho, hD⟩ := hcut
        clear HO HD
        generalize wc = w30 at *
        have HO := hide ho; have HD := hide hD; clear ho hD
        go_upto_if 45 with fail
        go_cut [7] (fun s wx => (∃ hs : List Int, hs.length ≤ 12 ∧ Own 1 encI 3 wx w.heap.size s hs) ∧ DS w base g A cap code (k + 230) wx)
        case first =>
          cases b9 with
          | false =>
            go_wp2_with fail
            go_meet
            exact ⟨⟨hs, hl, HO.out⟩, HD.out.le (by omega)⟩
          | true =>
            have h0 := hb9 rfl
            go_wp2_with fail
            refine (pickD _ HD.out (by omega)).mono ?_; rintro e w31 ⟨x31, rfl, p31, q31, hD, hg⟩
            replace HO := hide (HD.out.own HO.out hg (by decide))
            replace HD := hide hD; clear hD hg
            obtain ⟨j, rfl⟩ : ∃ j : Nat, x31 = (j : Int) := ⟨x31.toNat, by omega⟩
            have hj : j < hs.length := by omega
            clear hr8
            obtain ⟨A9, cap9, he9, hr9, _, _⟩ := HO.out.is
            injection he9 with e1 e2 e3; subst e1 e3; clear e2
            obtain ⟨b, off, rfl, hbw, c0⟩ := Ints.cells hr9 hj (Below.refl _ _)
            generalize hs[j] = y at *
            have hlt := HO.out.lt b rfl
            have hfz : ∀ q, w31.frozen? ⟨b, q, none⟩ = false := own_frozen HO.out
            have hjl : (j : Int) < (hs.length : Int) := by omega
            have hdr := (Below.refl w31.heap.size w31).drew
            have HDd := hide (HD.out.below hdr); have HOd := hide (HO.out.below hdr); clear hdr hr9
            go_wp2_with fail
            have c0a := ((below_alloc w31 (.cells #[.int .i64 1, .int .i64 (-1), .int .i64 20, .int .i64 300000] 3)).cell (p := ⟨b, off + j, none⟩) hbw).trans c0
            go_region_with ((go_at_call 81; refine (amongD [_, _, _, _] HDd.out (by rfl) (by rfl) (by rfl) (by simp) (by simp) (by omega)).mono ?_; rintro e w32 ⟨x32, rfl, _, hD, hg⟩; have HO32 := hide (HDd.out.own HOd.out hg (by decide)); have HD32 := hide hD; have c0 := hg.cell (a := ⟨b, off + j, none⟩) c0 (Ne.symm (cur_ne HDd.out.cur HOd.out (by decide) b rfl)); have hfz : ∀ q, w32.frozen? ⟨b, q, none⟩ = false := own_frozen HO32.out; clear hD hg))
            all_goals
              go_wp2_with fail
              go_meet
              exact ⟨⟨hs.set j _, by simp; omega, own_setI HO32.out hj _⟩, (own_setDS HD32.out HO32.out).le (by omega)⟩
        case rest =>
          obtain ⟨⟨hs, hl, ho⟩, hD⟩ := hcut
          clear HO HD
          generalize wc = w40 at *
          have HO := hide ho; have HD := hide hD; clear ho hD
          go_wp2_with fail
          refine (oneD 24 HD.out (by omega)).mono ?_; rintro e w41 ⟨x41, rfl, hD, hg⟩
          replace HO := hide (HD.out.own HO.out hg (by decide))
          replace HD := hide hD; clear hD hg
          cases x41 with
          | false =>
            go_wp2_with fail
            go_ret
            exact ⟨_, rfl, hs, by omega, HO.out, ⟨(HD.out.le (by omega)).cur, grownTrans HD0.out.gr HD.out.gr, HD0.out.hb⟩, HD.out.gr⟩
          | true =>
            go_wp2_with (at_builtin; refine wpList_push1 (k := 1) (enc := encI) _ rfl _ _ 42 rfl 3 (.int .i64 0) 8 Try.underlying42 infoI rfl (by omega) (by omega) encI_one w.heap.size _ (hs) rfl HO.out (_) _ rfl rfl (by omega) HD.out.gr.size (Below.refl w.heap.size w41) (Nat.le_refl _) rfl ?_; intro v1 w42 ho1 hb1 hg1)
            replace HD := hide (HD.out.push HO.out (Nat.le_refl _) hg1 (by decide)); replace HO := hide ho1; clear ho1 hb1 hg1
            go_wp2_with fail
            go_ret
            exact ⟨_, rfl, hs ++ [_], by simp; omega, HO.out, ⟨(HD.out.le (by omega)).cur, grownTrans HD0.out.gr HD.out.gr, HD0.out.hb⟩, HD.out.gr⟩
set_option maxRecDepth 100000 in
set_option maxHeartbeats 4000000 in
theorem drawDoHeightsFit_is (w : World) (v : Value) (A : Option Addr) (cap : Nat) (code : List Int) (h : Code w v A cap code) :
    Calls Try.prog 47 #[v] w fun e w' => ∃ (m : Nat) (v r : Value) (xs : List SClaim) (hs : List Int), e = .returned (.tuple #[.int .i64 (m : Int), v, r]) ∧ m ≤ 11 ∧ xs.length ≤ 100 ∧ hs.length ≤ 20 ∧ Own 4 SClaim.enc 23 w' w.heap.size v xs ∧ Own 1 encI 3 w' w.heap.size r hs ∧ Below w.heap.size w w' := by
  have hD := DS.new h
  obtain rfl := h.eq
  have HD := hide hD; clear hD h
  have hgw : w.heap.size < (w.alloc (.cells #[.slice A code.length cap, .int .i64 0, .int .u64 0] 82)).heap.size := by simp
  go_enter Try.func47, Try.ntmps47
  go_upto_region 2 with fail
  generalize hgs : w.heap.size = g at *
  generalize hw0 : w.alloc (.cells #[.slice A code.length cap, .int .i64 0, .int .u64 0] 82) = w0 at *
  have HB0 := hide (Nat.le_of_lt hgw)
  go_wp2_with fail
  have HGS := hide HD.out.gr.size
  refine (claims_is w0 g g _ A cap code HD.out.cur (by omega) HD.out.sz).mono ?_; rintro e w1 ⟨n, v1, rfl, hn, xs1, hx1, ho, hC, hg⟩
  replace HD := hide (HD.out.next hC hg); have HX := hide ho; clear ho hC hg
  obtain ⟨m, rfl⟩ : ∃ m : Nat, n = (m : Int) := ⟨n.toNat, by omega⟩
  have HGS := hide HD.out.gr.size
  go_wp2_with fail
  refine (heights_is w0 _ g g _ A cap code HD.out (by omega) m (by omega) v1 xs1 _ HX.out).mono ?_; rintro e w2 ⟨r2, rfl, hs2, l2, ho, hD, hg⟩
  replace HX := hide (HD.out.own HX.out hg (by decide))
  replace HD := hide hD; clear hD hg
  have HO := hide (ownLow ho HGS.out); clear ho
  go_wp2_with fail
  go_ret3
  subst hw0 hgs
  exact ⟨m, _, _, _, _, rfl, by omega, hx1, l2, ownLow HX.out HB0.out, ownLow HO.out HB0.out, HD.out.end⟩
set_option maxRecDepth 100000 in
set_option maxHeartbeats 4000000 in
theorem drawTiedMarks_is (w : World) (v : Value) (A : Option Addr) (cap : Nat) (code : List Int) (h : Code w v A cap code) :
    Calls Try.prog 50 #[v] w fun e w' => ∃ (m : Nat) (v : Value) (k : Int) (xs : List SClaim), e = .returned (.tuple #[.int .i64 (m : Int), v, .int .i64 k]) ∧ m ≤ 11 ∧ xs.length ≤ 100 ∧ Own 4 SClaim.enc 23 w' w.heap.size v xs ∧ Below w.heap.size w w' := by
  have hD := DS.new h
  obtain rfl := h.eq
  have HD := hide hD; clear hD h
  have hgw : w.heap.size < (w.alloc (.cells #[.slice A code.length cap, .int .i64 0, .int .u64 0] 82)).heap.size := by simp
  go_enter Try.func50, Try.ntmps50
  go_upto_region 2 with fail
  generalize hgs : w.heap.size = g at *
  generalize hw0 : w.alloc (.cells #[.slice A code.length cap, .int .i64 0, .int .u64 0] 82) = w0 at *
  have HB0 := hide (Nat.le_of_lt hgw)
  go_wp2_with fail
  have HGS := hide HD.out.gr.size
  refine (claims_is w0 g g _ A cap code HD.out.cur (by omega) HD.out.sz).mono ?_; rintro e w1 ⟨n, v1, rfl, hn, xs1, hx1, ho, hC, hg⟩
  replace HD := hide (HD.out.next hC hg); have HX := hide ho; clear ho hC hg
  obtain ⟨m, rfl⟩ : ∃ m : Nat, n = (m : Int) := ⟨n.toNat, by omega⟩
  go_wp2_with fail
  refine (pickD _ HD.out (by omega)).mono ?_; rintro e w2 ⟨x2, rfl, p2, q2, hD, hg⟩
  replace HX := hide (HD.out.own HX.out hg (by decide))
  replace HD := hide hD; clear hD hg
  go_wp2_with fail
  refine (pickD 17 HD.out (by omega)).mono ?_; rintro e w3 ⟨x3, rfl, p3, q3, hD, hg⟩
  replace HX := hide (HD.out.own HX.out hg (by decide))
  replace HD := hide hD; clear hD hg
  go_wp2_with fail
  go_ret3
  subst hw0 hgs
  exact ⟨m, _, _, _, rfl, by omega, hx1, ownLow HX.out HB0.out, HD.out.end⟩
end Go.Proofs.Ytijjecckfcbaoaa
