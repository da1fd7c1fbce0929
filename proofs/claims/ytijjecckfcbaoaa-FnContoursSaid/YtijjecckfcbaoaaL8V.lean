/- The contract of the drawing of claims (spec's claims) over the cursor: some claims, at most 100, for some number of marks from 0 to 11; they are the call's own. (Printed by mkclaims.py.) -/
import Derived.Test.YtijjecckfcbaoaaDr
import Derived.Test.YtijjecckfcbaoaaStClaim
import Derived.IntWalk
namespace Go.Proofs.Ytijjecckfcbaoaa
open Go.RowKit
set_option linter.unusedVariables false
set_option maxRecDepth 100000 in
set_option maxHeartbeats 4000000 in
theorem claims_is (w0 : World) (base g k : Nat) (A : Option Addr) (cap : Nat) (code : List Int) (h : Cur w0 base g k A cap code) (hk : k + 1000 < 2305843009213693952) (hbw : base ≤ w0.heap.size) :
    Calls Try.prog 79 #[.pointer (some ⟨g, 0, none⟩)] w0 fun e w' => ∃ (n : Int) (v : Value), e = .returned (.tuple #[.int .i64 n, v]) ∧ (0 ≤ n ∧ n ≤ 11) ∧ ∃ xs : List SClaim, xs.length ≤ 100 ∧ Own 4 SClaim.enc 23 w' w0.heap.size v xs ∧ Cur w' base g (k + 1000) A cap code ∧ w0.grownBy w' (some g) := by
  have HC0 := hide h; clear h
  have HG0 := hide (World.grownBy.refl w0 (some g))
  go_enter Try.func79, Try.ntmps79
  have hlit : Own 1 encI 3 (w0.alloc (.cells #[.int .i64 1, .int .i64 2, .int .i64 3, .int .i64 4, .int .i64 5, .int .i64 6, .int .i64 10] 3)) base (.slice (some ⟨w0.heap.size, 0, none⟩) 7 7) [1, 2, 3, 4, 5, 6, 10] := own_ints w0 [1, 2, 3, 4, 5, 6, 10] base (Nat.le_trans hbw HG0.out.size) (by simp [maxLen])
  have ba := below_alloc w0 (.cells #[.int .i64 1, .int .i64 2, .int .i64 3, .int .i64 4, .int .i64 5, .int .i64 6, .int .i64 10] 3)
  have HC0a := hide (HC0.out.below ba HC0.out.lt); have HG0a := hide (grownTrans HG0.out (World.grownBy_alloc w0 (.cells #[.int .i64 1, .int .i64 2, .int .i64 3, .int .i64 4, .int .i64 5, .int .i64 6, .int .i64 10] 3) _)); have HLIT := hide hlit
  clear hlit ba
  go_wp2_with fail
  refine (among_is _ _ _ base g _ A cap code HLIT.out (by simp) (by simp) HC0a.out (by omega) (Nat.le_trans hbw HG0a.out.size)).mono ?_; rintro e w1 ⟨x1, rfl, hm, hC, hg⟩
  have HG1 := hide (grownTrans HG0a.out hg); have HC1 := hide hC; clear hC hg HLIT
  have hn : 1 ≤ x1 ∧ x1 ≤ 10 := by simp at hm; omega
  clear hm
  have he2 : Own 4 SClaim.enc 23 (w1.alloc (.cells #[] 23)) w0.heap.size (.slice (some ⟨w1.heap.size, 0, none⟩) 0 0) ([] : List SClaim) := Own.made (cs := #[]) rfl HG1.out.size (Blk.new w1 _ _) rfl (Nat.zero_le _) Filled.zero
  have HO2 := hide he2
  have HC2 := hide (HC1.out.below (below_alloc w1 (.cells #[] 23)) HC1.out.lt)
  have HG2 := hide (grownTrans HG1.out (World.grownBy_alloc w1 (.cells #[] 23) _))
  clear he2
  go_wp2_with fail
  generalize w1.alloc (.cells #[] 23) = w2 at *
  go_loopw [5, 6] (fun s i wr => ∃ (j : Nat) (xs : List SClaim), i = .int .i64 (j : Int) ∧ 1 ≤ j ∧ (j : Int) ≤ x1 ∧ xs.length ≤ j ∧ Own 4 SClaim.enc 23 wr w0.heap.size s xs ∧ Cur wr base g (k + 10 + 10 * j) A cap code ∧ w0.grownBy wr (some g)) (fun _ i _ => 10 - (intOf i).toNat)
  case atStart => exact ⟨1, [], rfl, Nat.le_refl _, by omega, by simp, HO2.out, HC2.out.le_k (by omega), HG2.out⟩
  case round =>
    clear HO2 HC2 HG2 HC1 HG1 HC0 HG0 HC0a HG0a
    obtain ⟨j, xs, rfl, hj1, hjn, hxl, ho, hC, hG⟩ := hrel
    generalize wr = w10 at *
    have HO10 := hide ho; have HC10 := hide hC; have HG10 := hide hG; clear ho hC hG
    by_cases hlt : (j : Int) < x1
    · go_wp2_with fail
      refine (one_is 8 w10 base g _ A cap code HC10.out (by omega) (Nat.le_trans hbw HG10.out.size)).mono ?_; rintro e w11 ⟨x11, rfl, hC, hg⟩
      have HO11 := hide (HO10.out.grown hg (cur_ne HC10.out HO10.out (by decide))); have HG11 := hide (grownTrans HG10.out hg); have HC11 := hide hC; clear hC hg
      cases x11 with
      | true =>
        go_wp2_with fail
        go_round
        case measure => (simp [intOf] <;> omega)
        case rel => exact ⟨j + 1, xs, by go_num, by omega, by omega, by omega, HO11.out, HC11.out.le_k (by omega), HG11.out⟩
      | false =>
        go_wp2_with fail
        have hlit : Own 1 encI 3 (w11.alloc (.cells #[.int .i64 (-20), .int .i64 (-5), .int .i64 0, .int .i64 3, .int .i64 10, .int .i64 100] 3)) base (.slice (some ⟨w11.heap.size, 0, none⟩) 6 6) [-20, -5, 0, 3, 10, 100] := own_ints w11 [-20, -5, 0, 3, 10, 100] base (Nat.le_trans hbw HG11.out.size) (by simp [maxLen])
        have ba := below_alloc w11 (.cells #[.int .i64 (-20), .int .i64 (-5), .int .i64 0, .int .i64 3, .int .i64 10, .int .i64 100] 3)
        have HC11a := hide (HC11.out.below ba HC11.out.lt); have HG11a := hide (grownTrans HG11.out (World.grownBy_alloc w11 (.cells #[.int .i64 (-20), .int .i64 (-5), .int .i64 0, .int .i64 3, .int .i64 10, .int .i64 100] 3) _)); have HLIT := hide hlit
        have HO11a := hide (HO11.out.below ba)
        clear hlit ba
        go_wp2_with fail
        refine (among_is _ _ _ base g _ A cap code HLIT.out (by simp) (by simp) HC11a.out (by omega) (Nat.le_trans hbw HG11a.out.size)).mono ?_; rintro e w12 ⟨x12, rfl, hm, hC, hg⟩
        have HO12 := hide (HO11a.out.grown hg (cur_ne HC11a.out HO11a.out (by decide))); have HG12 := hide (grownTrans HG11a.out hg); have HC12 := hide hC; clear hC hg
        clear HLIT
        clear hm
        go_wp2_with fail
        refine (pick_is _ w12 base g _ A cap code HC12.out (by omega) (Nat.le_trans hbw HG12.out.size)).mono ?_; rintro e w13 ⟨x13, rfl, hx0, hx1, hC, hg⟩
        have HO13 := hide (HO12.out.grown hg (cur_ne HC12.out HO12.out (by decide))); have HG13 := hide (grownTrans HG12.out hg); have HC13 := hide hC; clear hC hg
        have hlit : Own 1 encI 3 (w13.alloc (.cells #[.int .i64 0, .int .i64 1, .int .i64 5, .int .i64 20, .int .i64 50] 3)) base (.slice (some ⟨w13.heap.size, 0, none⟩) 5 5) [0, 1, 5, 20, 50] := own_ints w13 [0, 1, 5, 20, 50] base (Nat.le_trans hbw HG13.out.size) (by simp [maxLen])
        have ba := below_alloc w13 (.cells #[.int .i64 0, .int .i64 1, .int .i64 5, .int .i64 20, .int .i64 50] 3)
        have HC13a := hide (HC13.out.below ba HC13.out.lt); have HG13a := hide (grownTrans HG13.out (World.grownBy_alloc w13 (.cells #[.int .i64 0, .int .i64 1, .int .i64 5, .int .i64 20, .int .i64 50] 3) _)); have HLIT := hide hlit
        have HO13a := hide (HO13.out.below ba)
        clear hlit ba
        go_wp2_with fail
        refine (among_is _ _ _ base g _ A cap code HLIT.out (by simp) (by simp) HC13a.out (by omega) (Nat.le_trans hbw HG13a.out.size)).mono ?_; rintro e w14 ⟨x14, rfl, hm, hC, hg⟩
        have HO14 := hide (HO13a.out.grown hg (cur_ne HC13a.out HO13a.out (by decide))); have HG14 := hide (grownTrans HG13a.out hg); have HC14 := hide hC; clear hC hg
        clear HLIT
        clear hm
        go_wp2_with (at_builtin; refine wpList_push1 (k := 4) (enc := SClaim.enc) _ rfl _ _ 34 rfl 23 (.agg #[.int .i64 0, .int .i64 0, .int .i64 0, .int .i64 0]) 32 Try.underlying34 SClaim.info rfl (by omega) (by omega) SClaim.one w0.heap.size _ (xs) rfl HO14.out ⟨_, _, _, _⟩ _ rfl rfl (by omega) HG14.out.size (Below.refl w0.heap.size w14) (Nat.le_refl _) rfl ?_; intro v1 w15 ho1 hb1 hg1)
        have hgx := own_push_grown HG14.out HC14.out HO14.out (Nat.le_refl _) hg1 (by decide) hbw
        have HO15 := hide ho1; have HG15 := hide hgx.1; have HC15 := hide hgx.2; clear ho1 hb1 hg1 hgx
        go_wp2_with fail
        go_round
        case measure => (simp [intOf] <;> omega)
        case rel => exact ⟨j + 1, xs ++ [_], by go_num, by omega, by omega, by simp; omega, HO15.out, HC15.out.le_k (by omega), HG15.out⟩
    · have hlt2 : ¬ (j : Int) < x1 := hlt
      go_wp2_with fail
      refine (pick_is 4 w10 base g _ A cap code HC10.out (by omega) (Nat.le_trans hbw HG10.out.size)).mono ?_; rintro e w11 ⟨x11, rfl, hx0, hx1, hC, hg⟩
      have HO11 := hide (HO10.out.grown hg (cur_ne HC10.out HO10.out (by decide))); have HG11 := hide (grownTrans HG10.out hg); have HC11 := hide hC; clear hC hg
      obtain ⟨kq, rfl⟩ : ∃ q : Nat, x11 = (q : Int) := ⟨x11.toNat, by omega⟩
      go_wp2_with fail
      go_loopw [5, 8] (fun s i wr => ∃ (kk : Nat) (xs : List SClaim), i = .int .i64 (kk : Int) ∧ kk ≤ 3 ∧ xs.length ≤ 14 - kk ∧ Own 4 SClaim.enc 23 wr w0.heap.size s xs ∧ Cur wr base g (k + 300 - 10 * kk) A cap code ∧ w0.grownBy wr (some g)) (fun _ i _ => (intOf i).toNat)
      case atStart => exact ⟨kq, xs, rfl, by omega, by omega, HO11.out, HC11.out.le_k (by omega), HG11.out⟩
      case round =>
        clear HO11 HC11 HG11 HO10 HC10 HG10 hx0 hx1 hxl
        obtain ⟨kk, xs, rfl, hk3, hxl, ho, hC, hG⟩ := hrel
        generalize wr = w30 at *
        have HO30 := hide ho; have HC30 := hide hC; have HG30 := hide hG; clear ho hC hG
        by_cases hgo : (0 : Int) < kk ∧ 1 < x1
        · obtain ⟨hgo1, hgo2⟩ := hgo
          have hz : ¬ x1 = 0 := by omega
          have hz2 : (x1 == 0) = false := by simp [hz]
          go_wp2_with fail
          refine (pick_is _ w30 base g _ A cap code HC30.out (by omega) (Nat.le_trans hbw HG30.out.size)).mono ?_; rintro e w31 ⟨x31, rfl, hx0, hx1, hC, hg⟩
          have HO31 := hide (HO30.out.grown hg (cur_ne HC30.out HO30.out (by decide))); have HG31 := hide (grownTrans HG30.out hg); have HC31 := hide hC; clear hC hg
          have hy0 : 0 ≤ x31 ∧ x31 < x1 := by omega
          clear hx0 hx1
          go_wp2_with fail
          have hlit : Own 1 encI 3 (w31.alloc (.cells #[.int .i64 (-100), .int .i64 (-30), .int .i64 (-5), .int .i64 0, .int .i64 10] 3)) base (.slice (some ⟨w31.heap.size, 0, none⟩) 5 5) [-100, -30, -5, 0, 10] := own_ints w31 [-100, -30, -5, 0, 10] base (Nat.le_trans hbw HG31.out.size) (by simp [maxLen])
          have ba := below_alloc w31 (.cells #[.int .i64 (-100), .int .i64 (-30), .int .i64 (-5), .int .i64 0, .int .i64 10] 3)
          have HC31a := hide (HC31.out.below ba HC31.out.lt); have HG31a := hide (grownTrans HG31.out (World.grownBy_alloc w31 (.cells #[.int .i64 (-100), .int .i64 (-30), .int .i64 (-5), .int .i64 0, .int .i64 10] 3) _)); have HLIT := hide hlit
          have HO31a := hide (HO31.out.below ba)
          clear hlit ba
          go_wp2_with fail
          refine (among_is _ _ _ base g _ A cap code HLIT.out (by simp) (by simp) HC31a.out (by omega) (Nat.le_trans hbw HG31a.out.size)).mono ?_; rintro e w32 ⟨x32, rfl, hm, hC, hg⟩
          have HO32 := hide (HO31a.out.grown hg (cur_ne HC31a.out HO31a.out (by decide))); have HG32 := hide (grownTrans HG31a.out hg); have HC32 := hide hC; clear hC hg
          clear HLIT
          clear hm
          have hlit : Own 1 encI 3 (w32.alloc (.cells #[.int .i64 5, .int .i64 20, .int .i64 50, .int .i64 130] 3)) base (.slice (some ⟨w32.heap.size, 0, none⟩) 4 4) [5, 20, 50, 130] := own_ints w32 [5, 20, 50, 130] base (Nat.le_trans hbw HG32.out.size) (by simp [maxLen])
          have ba := below_alloc w32 (.cells #[.int .i64 5, .int .i64 20, .int .i64 50, .int .i64 130] 3)
          have bd := (Below.refl (w32.alloc (.cells #[.int .i64 5, .int .i64 20, .int .i64 50, .int .i64 130] 3)).heap.size (w32.alloc (.cells #[.int .i64 5, .int .i64 20, .int .i64 50, .int .i64 130] 3))).drew
          have HCd := hide (HC32.out.below ba HC32.out.lt).drew; have HGd := hide (grownDrew (grownTrans HG32.out (World.grownBy_alloc w32 (.cells #[.int .i64 5, .int .i64 20, .int .i64 50, .int .i64 130] 3) _))); have HLd := hide (hlit.below bd); have HOd := hide ((HO32.out.below ba).below bd)
          have bd2 := (Below.refl w32.heap.size w32).drew
          clear hlit ba bd
          have hxl16 : xs.length ≤ 16777216 := by omega
          have hw1 : IntKind.i64.wrap (x1 - 1) = x1 - 1 := IntWalk.i64_in _ (by omega)
          go_wp2_with fail
          go_region_held3 (fun _ => True) (trivial)
            (first
              | (go_at_call 82; refine (pick_is _ _ base g _ A cap code HCd.out (by omega) (Nat.le_trans hbw HGd.out.size)).mono ?_; rintro e w33 ⟨x33, rfl, hp0, hp1, hC, hg⟩; have HL33 := hide (HLd.out.grown hg (cur_ne HCd.out HLd.out (by decide))); have HO33 := hide (HOd.out.grown hg (cur_ne HCd.out HOd.out (by decide))); have HG33 := hide (grownTrans HGd.out hg); have HC33 := hide hC; clear hC hg)
              | (go_at_call 82; refine (pick_is _ _ base g _ A cap code HC32.out.drew (by omega) (Nat.le_trans hbw HG32.out.size)).mono ?_; rintro e w33 ⟨x33, rfl, hp0, hp1, hC, hg⟩; have hO3 := (HO32.out.below bd2).grown hg (cur_ne HC32.out.drew (HO32.out.below bd2) (by decide)); have hG3 := grownTrans (grownDrew HG32.out) hg; have HL33 := hide (own_ints w33 [5, 20, 50, 130] base (Nat.le_trans hbw hG3.size) (by simp [maxLen])); have HO33 := hide (hO3.below (below_alloc w33 (.cells #[.int .i64 5, .int .i64 20, .int .i64 50, .int .i64 130] 3))); have HG33 := hide (grownTrans hG3 (World.grownBy_alloc w33 (.cells #[.int .i64 5, .int .i64 20, .int .i64 50, .int .i64 130] 3) _)); have HC33 := hide (hC.below (below_alloc w33 (.cells #[.int .i64 5, .int .i64 20, .int .i64 50, .int .i64 130] 3)) hC.lt); clear hC hg hO3 hG3)
              | (go_at_call 81; refine (among_is _ _ _ base g _ A cap code HL33.out (by simp) (by simp) HC33.out (by omega) (Nat.le_trans hbw HG33.out.size)).mono ?_; rintro e w34 ⟨x34, rfl, hm, hC, hg⟩; have HO34 := hide (HO33.out.grown hg (cur_ne HC33.out HO33.out (by decide))); have HG34 := hide (grownTrans HG33.out hg); have HC34 := hide hC; clear hC hg hm)
              | (refine step_push1 (k := 4) (enc := SClaim.enc) _ (by rfl) _ _ 34 (by rfl) 23 (.agg #[.int .i64 0, .int .i64 0, .int .i64 0, .int .i64 0]) 32 Try.underlying34 SClaim.info rfl (by omega) (by omega) SClaim.one w0.heap.size _ xs (by rfl) HO34.out ⟨_, _, _, _⟩ _ (by rfl) (by rfl) hxl16 HG34.out.size (Below.refl w0.heap.size w34) (Nat.le_refl _) (by rfl) ?_; intro v1 w35 ho1 hb1 hg1; have hgx := own_push_grown HG34.out HC34.out HO34.out (Nat.le_refl _) hg1 (by decide) hbw; have HO35 := hide ho1; have HG35 := hide hgx.1; have HC35 := hide hgx.2; clear ho1 hb1 hg1 hgx))
          all_goals
            obtain ⟨q, rfl⟩ : ∃ q, kk = q + 1 := ⟨kk - 1, by omega⟩
            go_wp2_with fail
            go_round
            case measure => (simp [intOf] <;> omega)
            case rel => exact ⟨q, xs ++ [_], by go_num, by omega, by simp; omega, HO35.out, HC35.out.le_k (by omega), HG35.out⟩
        · have hno : ¬ (0 : Int) < kk ∨ ((0 : Int) < kk ∧ ¬ 1 < x1) := by omega
          rcases hno with hno | ⟨hno1, hno2⟩
          all_goals
            go_wp2_with fail
            refine (pick_is 32 w30 base g _ A cap code HC30.out (by omega) (Nat.le_trans hbw HG30.out.size)).mono ?_; rintro e w31 ⟨x31, rfl, hx0, hx1, hC, hg⟩
            have HO31 := hide (HO30.out.grown hg (cur_ne HC30.out HO30.out (by decide))); have HG31 := hide (grownTrans HG30.out hg); have HC31 := hide hC; clear hC hg
            by_cases hz0 : x31 = 0
            · subst hz0
              go_wp2_with fail
              have hlit : Own 1 encI 3 (w31.alloc (.cells #[.int .i64 (-1), .int .i64 0, .int .i64 x1] 3)) base (.slice (some ⟨w31.heap.size, 0, none⟩) 3 3) [-1, 0, x1] := own_ints w31 [-1, 0, x1] base (Nat.le_trans hbw HG31.out.size) (by simp [maxLen])
              have ba := below_alloc w31 (.cells #[.int .i64 (-1), .int .i64 0, .int .i64 x1] 3)
              have HC31a := hide (HC31.out.below ba HC31.out.lt); have HG31a := hide (grownTrans HG31.out (World.grownBy_alloc w31 (.cells #[.int .i64 (-1), .int .i64 0, .int .i64 x1] 3) _)); have HLIT := hide hlit
              have HO31a := hide (HO31.out.below ba)
              clear hlit ba
              go_wp2_with fail
              refine (among_is _ _ _ base g _ A cap code HLIT.out (by simp) (by simp) HC31a.out (by omega) (Nat.le_trans hbw HG31a.out.size)).mono ?_; rintro e w32 ⟨x32, rfl, hm, hC, hg⟩
              have HO32 := hide (HO31a.out.grown hg (cur_ne HC31a.out HO31a.out (by decide))); have HG32 := hide (grownTrans HG31a.out hg); have HC32 := hide hC; clear hC hg
              clear HLIT
              clear hm
              go_wp2_with fail
              have hlit : Own 1 encI 3 (w32.alloc (.cells #[.int .i64 0, .int .i64 1, .int .i64 x1] 3)) base (.slice (some ⟨w32.heap.size, 0, none⟩) 3 3) [0, 1, x1] := own_ints w32 [0, 1, x1] base (Nat.le_trans hbw HG32.out.size) (by simp [maxLen])
              have ba := below_alloc w32 (.cells #[.int .i64 0, .int .i64 1, .int .i64 x1] 3)
              have HC32a := hide (HC32.out.below ba HC32.out.lt); have HG32a := hide (grownTrans HG32.out (World.grownBy_alloc w32 (.cells #[.int .i64 0, .int .i64 1, .int .i64 x1] 3) _)); have HLIT := hide hlit
              have HO32a := hide (HO32.out.below ba)
              clear hlit ba
              go_wp2_with fail
              refine (among_is _ _ _ base g _ A cap code HLIT.out (by simp) (by simp) HC32a.out (by omega) (Nat.le_trans hbw HG32a.out.size)).mono ?_; rintro e w33 ⟨x33, rfl, hm, hC, hg⟩
              have HO33 := hide (HO32a.out.grown hg (cur_ne HC32a.out HO32a.out (by decide))); have HG33 := hide (grownTrans HG32a.out hg); have HC33 := hide hC; clear hC hg
              clear HLIT
              clear hm
              go_wp2_with fail
              have hlit : Own 1 encI 3 (w33.alloc (.cells #[.int .i64 (-10000), .int .i64 0, .int .i64 6] 3)) base (.slice (some ⟨w33.heap.size, 0, none⟩) 3 3) [-10000, 0, 6] := own_ints w33 [-10000, 0, 6] base (Nat.le_trans hbw HG33.out.size) (by simp [maxLen])
              have ba := below_alloc w33 (.cells #[.int .i64 (-10000), .int .i64 0, .int .i64 6] 3)
              have HC33a := hide (HC33.out.below ba HC33.out.lt); have HG33a := hide (grownTrans HG33.out (World.grownBy_alloc w33 (.cells #[.int .i64 (-10000), .int .i64 0, .int .i64 6] 3) _)); have HLIT := hide hlit
              have HO33a := hide (HO33.out.below ba)
              clear hlit ba
              go_wp2_with fail
              refine (among_is _ _ _ base g _ A cap code HLIT.out (by simp) (by simp) HC33a.out (by omega) (Nat.le_trans hbw HG33a.out.size)).mono ?_; rintro e w34 ⟨x34, rfl, hm, hC, hg⟩
              have HO34 := hide (HO33a.out.grown hg (cur_ne HC33a.out HO33a.out (by decide))); have HG34 := hide (grownTrans HG33a.out hg); have HC34 := hide hC; clear hC hg
              clear HLIT
              clear hm
              go_wp2_with fail
              have hlit : Own 1 encI 3 (w34.alloc (.cells #[.int .i64 5, .int .i64 10000] 3)) base (.slice (some ⟨w34.heap.size, 0, none⟩) 2 2) [5, 10000] := own_ints w34 [5, 10000] base (Nat.le_trans hbw HG34.out.size) (by simp [maxLen])
              have ba := below_alloc w34 (.cells #[.int .i64 5, .int .i64 10000] 3)
              have HC34a := hide (HC34.out.below ba HC34.out.lt); have HG34a := hide (grownTrans HG34.out (World.grownBy_alloc w34 (.cells #[.int .i64 5, .int .i64 10000] 3) _)); have HLIT := hide hlit
              have HO34a := hide (HO34.out.below ba)
              clear hlit ba
              go_wp2_with fail
              refine (among_is _ _ _ base g _ A cap code HLIT.out (by simp) (by simp) HC34a.out (by omega) (Nat.le_trans hbw HG34a.out.size)).mono ?_; rintro e w35 ⟨x35, rfl, hm, hC, hg⟩
              have HO35 := hide (HO34a.out.grown hg (cur_ne HC34a.out HO34a.out (by decide))); have HG35 := hide (grownTrans HG34a.out hg); have HC35 := hide hC; clear hC hg
              clear HLIT
              clear hm
              go_wp2_with (at_builtin; refine wpList_push1 (k := 4) (enc := SClaim.enc) _ rfl _ _ 34 rfl 23 (.agg #[.int .i64 0, .int .i64 0, .int .i64 0, .int .i64 0]) 32 Try.underlying34 SClaim.info rfl (by omega) (by omega) SClaim.one w0.heap.size _ (xs) rfl HO35.out ⟨_, _, _, _⟩ _ rfl rfl (by omega) HG35.out.size (Below.refl w0.heap.size w35) (Nat.le_refl _) rfl ?_; intro v1 w36 ho1 hb1 hg1)
              have hgx := own_push_grown HG35.out HC35.out HO35.out (Nat.le_refl _) hg1 (by decide) hbw
              have HO36 := hide ho1; have HG36 := hide hgx.1; have HC36 := hide hgx.2; clear ho1 hb1 hg1 hgx
              go_wp2_with fail
              go_ret2
              exact ⟨x1, _, rfl, by omega, xs ++ [_], by simp; omega, HO36.out, HC36.out.le_k (by omega), HG36.out⟩
            by_cases hz1 : x31 = 1
            · subst hz1
              go_wp2_with fail
              have hlit : Own 1 encI 3 (w31.alloc (.cells #[.int .i64 0, .int .i64 11, .int .i64 x1] 3)) base (.slice (some ⟨w31.heap.size, 0, none⟩) 3 3) [0, 11, x1] := own_ints w31 [0, 11, x1] base (Nat.le_trans hbw HG31.out.size) (by simp [maxLen])
              have ba := below_alloc w31 (.cells #[.int .i64 0, .int .i64 11, .int .i64 x1] 3)
              have HC31a := hide (HC31.out.below ba HC31.out.lt); have HG31a := hide (grownTrans HG31.out (World.grownBy_alloc w31 (.cells #[.int .i64 0, .int .i64 11, .int .i64 x1] 3) _)); have HLIT := hide hlit
              have HO31a := hide (HO31.out.below ba)
              clear hlit ba
              go_wp2_with fail
              refine (among_is _ _ _ base g _ A cap code HLIT.out (by simp) (by simp) HC31a.out (by omega) (Nat.le_trans hbw HG31a.out.size)).mono ?_; rintro e w32 ⟨x32, rfl, hm, hC, hg⟩
              have HO32 := hide (HO31a.out.grown hg (cur_ne HC31a.out HO31a.out (by decide))); have HG32 := hide (grownTrans HG31a.out hg); have HC32 := hide hC; clear hC hg
              clear HLIT
              have hn2 : 0 ≤ x32 ∧ x32 ≤ 11 := by simp at hm; omega
              clear hm
              go_wp2_with fail
              go_ret2
              exact ⟨x32, _, rfl, by omega, xs, by omega, HO32.out, HC32.out.le_k (by omega), HG32.out⟩
            by_cases hz2 : x31 = 2
            · subst hz2
              go_wp2_with fail
              go_loopw [5] (fun s wr => ∃ xs : List SClaim, xs.length ≤ 25 ∧ Own 4 SClaim.enc 23 wr w0.heap.size s xs ∧ Cur wr base g (k + 500 + 4 * xs.length) A cap code ∧ w0.grownBy wr (some g)) (fun s _ => 26 - lenV s)
              case atStart => exact ⟨xs, by omega, HO31.out, HC31.out.le_k (by omega), HG31.out⟩
              case round =>
                clear HO31 HC31 HG31 HO30 HC30 HG30
                obtain ⟨xs, hxl2, ho, hC, hG⟩ := hrel
                generalize wr = w40 at *
                have hlv := own_lenV ho
                obtain ⟨A8, cap8, rfl, _, _, _⟩ := ho.is
                have HO40 := hide ho; have HC40 := hide hC; have HG40 := hide hG; clear ho hC hG
                go_wp2_with fail
                refine (pick_is 2 w40 base g _ A cap code HC40.out (by omega) (Nat.le_trans hbw HG40.out.size)).mono ?_; rintro e w41 ⟨x41, rfl, hx0, hx1, hC, hg⟩
                have HO41 := hide (HO40.out.grown hg (cur_ne HC40.out HO40.out (by decide))); have HG41 := hide (grownTrans HG40.out hg); have HC41 := hide hC; clear hC hg
                by_cases hgo : (xs.length : Int) < 24 + x41 ∧ 1 < x1
                · obtain ⟨hgo1, hgo2⟩ := hgo
                  first
                    | (exfalso; omega)
                    | go_wp2_with (at_builtin; refine wpList_push1 (k := 4) (enc := SClaim.enc) _ rfl _ _ 34 rfl 23 (.agg #[.int .i64 0, .int .i64 0, .int .i64 0, .int .i64 0]) 32 Try.underlying34 SClaim.info rfl (by omega) (by omega) SClaim.one w0.heap.size _ (xs) rfl HO41.out ⟨_, _, _, _⟩ _ rfl rfl (by omega) HG41.out.size (Below.refl w0.heap.size w41) (Nat.le_refl _) rfl ?_; intro v1 w42 ho1 hb1 hg1)
                      have hgx := own_push_grown HG41.out HC41.out HO41.out (Nat.le_refl _) hg1 (by decide) hbw
                      have HO42 := hide ho1; have HG42 := hide hgx.1; have HC42 := hide hgx.2; clear ho1 hb1 hg1 hgx
                      have hlv2 := own_lenV HO42.out
                      go_wp2_with fail
                      go_round
                      case measure => (rw [List.length_append, List.length_singleton] at hlv2; simp [lenV] at *; omega)
                      case rel => exact ⟨xs ++ [_], by simp; omega, HO42.out, HC42.out.le_k (by simp; omega), HG42.out⟩
                · have hno : ¬ (xs.length : Int) < 24 + x41 ∨ ((xs.length : Int) < 24 + x41 ∧ ¬ 1 < x1) := by omega
                  rcases hno with hno | ⟨hno1, hno2⟩
                  all_goals
                    go_wp2_with fail
                    go_ret2
                    exact ⟨x1, _, rfl, by omega, xs, by omega, HO41.out, HC41.out.le_k (by omega), HG41.out⟩
            · have hz0b : (x31 == 0) = false := by simp [hz0]
              have hz1b : (x31 == 1) = false := by simp [hz1]
              have hz2b : (x31 == 2) = false := by simp [hz2]
              go_wp2_with fail
              go_ret2
              exact ⟨x1, _, rfl, by omega, xs, by omega, HO31.out, HC31.out.le_k (by omega), HG31.out⟩
end Go.Proofs.Ytijjecckfcbaoaa
