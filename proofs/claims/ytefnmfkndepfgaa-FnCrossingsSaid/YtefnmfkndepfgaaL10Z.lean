/- The drawing of roads over a cursor, part 2. (Printed by mkroad.py.) -/
import Derived.Test.YtefnmfkndepfgaaL10Y
namespace Go.Proofs.Ytefnmfkndepfgaa
open Go.RowKit
set_option linter.unusedVariables false
theorem own_oneC (w : World) {B : Nat} (hB : B ≤ w.heap.size) (x y : Int) : Own 2 SCorner.enc 58 (w.alloc (.cells #[.int .i64 x, .int .i64 y] 58)) B (.slice (some ⟨w.heap.size, 0, none⟩) 1 1) [(⟨x, y⟩ : SCorner)] :=
  Own.made (cs := #[.int .i64 x, .int .i64 y]) rfl hB (Blk.new _ _ _) rfl (by simp only [maxLen, List.length_singleton]; omega) (by
    intro j z hj hz c hc
    have hj0 : j = 0 := by simpa using hj
    subst hj0
    simp at hz
    subst hz
    have : c = 0 ∨ c = 1 := by omega
    rcases this with rfl | rfl <;> rfl)
/-- the last corner, at its place -/
theorem own_lastC {w : World} {B : Nat} {v : Value} {xs : List SCorner} (h : Own 2 SCorner.enc 58 w B v xs) (h1 : 1 ≤ xs.length) :
    ∃ b off cp m lx ly, v = .slice (some ⟨b, off, none⟩) xs.length cp ∧ ((xs.length : Int) - 1).toNat = m ∧ m < xs.length ∧ (B ≤ b ∧ b < w.heap.size) ∧ w.cell? ⟨b, off + m * 2, none⟩ = some (.int .i64 lx) ∧ w.cell? ⟨b, off + m * 2 + 1, none⟩ = some (.int .i64 ly) := by
  obtain ⟨A, cp, rfl, hr, _, _⟩ := h.is
  obtain ⟨b, off, rfl, hb, c0, c1⟩ := SCorner.cells hr (i := xs.length - 1) (by omega) (Below.refl _ _)
  have hlt := h.lt b rfl
  exact ⟨b, off, cp, xs.length - 1, _, _, rfl, by omega, by omega, ⟨hlt.1, hb⟩, c0, c1⟩
set_option maxRecDepth 100000 in
set_option maxHeartbeats 8000000 in
theorem road10_is (w0 w : World) (base g k : Nat) (A : Option Addr) (cap : Nat) (code : List Int) (hD : DS w0 base g A cap code k w) (hk : k + 1000 < 2305843009213693952) :
    Calls Try.prog 73 #[.pointer (some ⟨g, 0, none⟩)] w fun e w' => ∃ (v : Value) (xs : List SCorner), e = .returned v ∧ 1 ≤ xs.length ∧ xs.length ≤ 16 ∧ Own 2 SCorner.enc 58 w' w.heap.size v xs ∧ DS w0 base g A cap code (k + 1000) w' ∧ w.grownBy w' (some g) := by
  have hgw := hD.lt
  have HD0 := hide hD
  have HD := hide (DS.start hD.cur hD.sz); clear hD
  have hrun := SCorner.neq_run
  go_enter Try.func73, Try.ntmps73
  go_wp2_with fail
  refine (corner_is w _ base g _ A cap code HD.out (by omega)).mono ?_; rintro e w1 ⟨x1, y1, rfl, hD, hg⟩
  replace HD := hide hD; clear hD hg
  go_wp2_with fail
  have HO := hide (own_oneC w1 HD.out.gr.size x1 y1)
  replace HD := hide (HD.out.alloc (.cells #[.int .i64 x1, .int .i64 y1] 58))
  generalize w1.alloc (.cells #[.int .i64 x1, .int .i64 y1] 58) = w2 at *
  go_wp2_with fail
  refine (pickD 5 HD.out (by omega)).mono ?_; rintro e w3 ⟨x3, rfl, p3, q3, hD, hg⟩
  replace HO := hide (HD.out.own HO.out hg (by decide))
  replace HD := hide hD; clear hD hg
  obtain ⟨q, rfl⟩ : ∃ q : Nat, x3 = (q : Int) := ⟨x3.toNat, by omega⟩
  go_wp2_with fail
  go_loopw [3, 4] (fun s i wr => ∃ (j : Nat) (xs : List SCorner), i = .int .i64 (j : Int) ∧ j ≤ 5 ∧ 1 ≤ xs.length ∧ xs.length ≤ 7 - j ∧ Own 2 SCorner.enc 58 wr w.heap.size s xs ∧ DS w base g A cap code (k + 300 - 50 * j) wr) (fun _ i _ => (intOf i).toNat)
  case atStart => exact ⟨q + 1, [_], by go_num, by omega, by simp, by simp; omega, HO.out, HD.out.le (by omega)⟩
  case round =>
    clear HO HD p3 q3
    obtain ⟨j, xs, rfl, hj5, hx1, hxl, ho, hD⟩ := hrel
    generalize wr = w10 at *
    have HO := hide ho; have HD := hide hD; clear ho hD
    by_cases hlt : (0 : Int) < j
    · go_wp2_with fail
      refine (corner_is w _ base g _ A cap code HD.out (by omega)).mono ?_; rintro e w11 ⟨x11, y11, rfl, hD, hg⟩
      replace HO := hide (HD.out.own HO.out hg (by decide))
      replace HD := hide hD; clear hD hg
      obtain ⟨b, off, cp, m, lx, ly, rfl, hidx, hm, ⟨hbB, hbw⟩, l0, l1⟩ := own_lastC HO.out hx1
      have hwc : Blk (w11.alloc (.cells #[.int .i64 x11, .int .i64 y11] 58)) w11.heap.size 58 #[.int .i64 x11, .int .i64 y11] := Blk.new _ _ _
      have H5 := hide hwc; clear hwc
      have l0 := ((below_alloc w11 (.cells #[.int .i64 x11, .int .i64 y11] 58)).cell (p := ⟨b, off + m * 2, none⟩) hbw).trans l0
      have l1 := ((below_alloc w11 (.cells #[.int .i64 x11, .int .i64 y11] 58)).cell (p := ⟨b, off + m * 2 + 1, none⟩) hbw).trans l1
      have hg5 : w.heap.size ≤ w11.heap.size := HD.out.gr.size
      have hs12 : (w11.alloc (.cells #[.int .i64 x11, .int .i64 y11] 58)).heap.size = w11.heap.size + 1 := by simp
      go_wp2_with fail
      replace HO := hide (HO.out.alloc (.cells #[.int .i64 x11, .int .i64 y11] 58))
      replace HD := hide (HD.out.alloc (.cells #[.int .i64 x11, .int .i64 y11] 58))
      generalize w11.alloc (.cells #[.int .i64 x11, .int .i64 y11] 58) = w12 at *
      generalize hb5 : w11.heap.size = b5 at *
      have H6 := hide (Blk.new w12 58 #[.int .i64 lx, .int .i64 ly])
      have hb6 : w.heap.size ≤ w12.heap.size := HD.out.gr.size
      rw [hs12] at H6 hb6
      replace HO := hide (HO.out.alloc (.cells #[.int .i64 lx, .int .i64 ly] 58))
      replace H5 := hide (H5.out.alloc (.cells #[.int .i64 lx, .int .i64 ly] 58))
      replace HD := hide (HD.out.alloc (.cells #[.int .i64 lx, .int .i64 ly] 58))
      generalize w12.alloc (.cells #[.int .i64 lx, .int .i64 ly] 58) = w13 at *
      generalize hb6e : b5 + 1 = b6 at *
      clear l0 l1
      refine (oneD 3 HD.out (by omega)).mono ?_; rintro e w14 ⟨x14, rfl, hD, hg⟩
      replace HO := hide (HD.out.own HO.out hg (by decide))
      replace H5 := hide (HD.out.blk H5.out hg (by decide))
      replace H6 := hide (HD.out.blk H6.out hg (by decide))
      replace HD := hide hD; clear hD hg
      go_upto_if 26 with fail
      go_cut [] (fun wx => Own 2 SCorner.enc 58 wx w.heap.size (.slice (some ⟨b, off, none⟩) xs.length cp) xs ∧ (∃ x5 y5 : Int, Blk wx b5 58 #[.int .i64 x5, .int .i64 y5]) ∧ DS w base g A cap code (k + 330 - 50 * j) wx)
      case first =>
        cases x14 with
        | false =>
          go_wp2_with fail
          go_meet
          exact ⟨HO.out, ⟨_, _, H5.out⟩, HD.out.le (by omega)⟩
        | true =>
          have hdr := (Below.refl w14.heap.size w14).drew
          have HDd := hide (HD.out.below hdr); have HOd := hide (HO.out.below hdr); have H5d := hide (H5.out.below hdr H5.out.lt); have H6d := hide (H6.out.below hdr H6.out.lt)
          clear hdr
          obtain ⟨k0, k1⟩ := blk2_cells H6.out
          have ne65 : ¬ b6 = b5 := by omega
          have ne56 : ¬ b5 = b6 := by omega
          go_wp2_with fail
          go_region_held3 (fun W => W.cell? ⟨b6, 0, none⟩ = some (.int .i64 lx) ∧ W.cell? ⟨b6, 1, none⟩ = some (.int .i64 ly)) (go_keep)
            (first
              | (go_at_call 94; refine (l1Least_any _ _ _).mono ?_; rintro e w' ⟨rfl, rfl⟩)
              | (go_at_call 93; refine (pickD 3 HDd.out (by omega)).mono ?_; rintro e w15 ⟨x15, rfl, _, _, hD, hg⟩; have HO15 := hide (HDd.out.own HOd.out hg (by decide)); have H515 := hide (HDd.out.blk H5d.out hg (by decide)); have H615 := hide (HDd.out.blk H6d.out hg (by decide)); have HD15 := hide hD; clear hD hg; obtain ⟨k0, k1⟩ := blk2_cells H615.out)
              | (go_at_call 93; refine (pickD 3 HD15.out (by omega)).mono ?_; rintro e w16 ⟨x16, rfl, _, _, hD, hg⟩; have HO16 := hide (HD15.out.own HO15.out hg (by decide)); have H516 := hide (HD15.out.blk H515.out hg (by decide)); have H616 := hide (HD15.out.blk H615.out hg (by decide)); have HD16 := hide hD; clear hD hg; obtain ⟨k0, k1⟩ := blk2_cells H616.out; obtain ⟨m0, m1⟩ := blk2_cells H516.out; have mf := fun o => H516.out.frozen o))
          go_wp2_with fail
          go_meet
          refine ⟨?_, ⟨_, _, (H516.out.set 0 _).set 1 _⟩, ((HD16.out.set (b := b5) (by omega) (by omega) 0 _).set (b := b5) (by omega) (by omega) 1 _).le (by omega)⟩
          exact (HO16.out.setCell (p := ⟨b5, 0, none⟩) (fun g' hg' => by simp [Value.ownBlock] at hg'; simp only; omega) _).setCell (p := ⟨b5, 1, none⟩) (fun g' hg' => by simp [Value.ownBlock] at hg'; simp only; omega) _
      case rest =>
        obtain ⟨ho, ⟨x5, y5, h5⟩, hD⟩ := hcut
        generalize wc = w20 at *
        replace HO := hide ho; replace H5 := hide h5; replace HD := hide hD; clear ho h5 hD H6
        clear hidx hm hbw hbB
        obtain ⟨b, off, cp, m, lx, ly, heq, hidx, hm, ⟨hbB, hbw⟩, l0, l1⟩ := own_lastC HO.out hx1
        injection heq with e1 e2 e3; injection e1 with e1; injection e1 with e1 e4; subst e1 e3 e4; clear e2
        obtain ⟨m0, m1⟩ := blk2_cells H5.out
        have ix0 : (0 : Int) ≤ (xs.length : Int) - 1 := by omega
        have ix1 : (xs.length : Int) - 1 < (xs.length : Int) := by omega
        have ix2 : IntKind.i64.wrap ((xs.length : Int) - 1) = (xs.length : Int) - 1 := IntWalk.i64_in _ (by omega)
        have hdr := (Below.refl w20.heap.size w20).drew
        have HDd := hide (HD.out.below hdr); have HOd := hide (HO.out.below hdr); have H5d := hide (H5.out.below hdr H5.out.lt)
        clear hdr
        by_cases hs : sameC x5 y5 lx ly = true
        · have hne := fun W => (hrun x5 y5 lx ly W).trans (by rw [hs]; rfl : _ = Result.ok (Value.bool false) W)
          go_wp2_with fail
          generalize hN : xs.length = N at HO HOd hx1 hxl hidx hm ix0 ix1 ix2 ⊢
          have HN := hide hN; clear hN
          have zz0 : 0 < N := by omega
          have zz1 : (1 : Int) ≤ (N : Int) := by omega
          have zz2 : 1 ≤ N := by omega
          have zz4 : ¬ (N : Int) ≤ 0 := by omega
          have zz5 : ¬ N = 0 := by omega
          go_region_held3 (fun W => W.cell? ⟨b5, 0, none⟩ = some (.int .i64 x5) ∧ W.cell? ⟨b5, 1, none⟩ = some (.int .i64 y5) ∧ W.cell? ⟨b, off + m * 2, none⟩ = some (.int .i64 lx) ∧ W.cell? ⟨b, off + m * 2 + 1, none⟩ = some (.int .i64 ly)) (go_keep)
            ((go_at_call 74; refine (oneD 40 HDd.out (by omega)).mono ?_; rintro e w30 ⟨x30, rfl, hD, hg⟩; have HO30 := hide (HDd.out.own HOd.out hg (by decide)); have H530 := hide (HDd.out.blk H5d.out hg (by decide)); have HD30 := hide hD; have l0 := hg.cell (a := ⟨b, off + m * 2, none⟩) l0 (by simp; omega); have l1 := hg.cell (a := ⟨b, off + m * 2 + 1, none⟩) l1 (by simp; omega); clear hD hg; obtain ⟨m0, m1⟩ := blk2_cells H530.out))
          replace HO := hide HO30.out; replace HD := hide HD30.out; replace H5 := hide H530.out
          have hNN := HN.out
          subst hNN
          cases x30 with
          | true =>
            obtain ⟨jj, rfl⟩ : ∃ jj, j = jj + 1 := ⟨j - 1, by omega⟩
            obtain ⟨m0, m1⟩ := blk2_cells H5.out
            go_wp2_with (at_builtin; refine wpList_push1 (k := 2) (enc := SCorner.enc) _ rfl _ _ 25 rfl 58 (.agg #[.int .i64 0, .int .i64 0]) 16 Try.underlying25 SCorner.info rfl (by omega) (by omega) SCorner.one w.heap.size _ (xs) rfl HO.out (⟨_, _⟩) _ rfl rfl (by omega) HD.out.gr.size (Below.refl w.heap.size w30) (Nat.le_refl _) rfl ?_; intro v1 w31 ho1 hb1 hg1)
            replace HD := hide (HD.out.push HO.out (Nat.le_refl _) hg1 (by decide)); replace HO := hide ho1; clear ho1 hb1 hg1
            go_wp2_with fail
            go_round
            case measure => (first | (simp [intOf]; done) | (simp [intOf] <;> omega))
            case rel => exact ⟨jj, xs ++ [_], by go_num, by omega, by simp, by simp; omega, HO.out, HD.out.le (by omega)⟩
          | false =>
            obtain ⟨jj, rfl⟩ : ∃ jj, j = jj + 1 := ⟨j - 1, by omega⟩
            go_wp2_with fail
            go_round
            case measure => (first | (simp [intOf]; done) | (simp [intOf] <;> omega))
            case rel => exact ⟨jj, xs, by go_num, by omega, by omega, by omega, HO.out, HD.out.le (by omega)⟩
        · rw [Bool.not_eq_true] at hs
          have hne := fun W => (hrun x5 y5 lx ly W).trans (by rw [hs]; rfl : _ = Result.ok (Value.bool true) W)
          go_wp2_with fail
          go_region
          replace HO := hide HOd.out; replace HD := hide HDd.out; replace H5 := hide H5d.out
          generalize w20.drew = w30 at *
          obtain ⟨jj, rfl⟩ : ∃ jj, j = jj + 1 := ⟨j - 1, by omega⟩
          obtain ⟨m0, m1⟩ := blk2_cells H5.out
          go_wp2_with (at_builtin; refine wpList_push1 (k := 2) (enc := SCorner.enc) _ rfl _ _ 25 rfl 58 (.agg #[.int .i64 0, .int .i64 0]) 16 Try.underlying25 SCorner.info rfl (by omega) (by omega) SCorner.one w.heap.size _ (xs) rfl HO.out (⟨_, _⟩) _ rfl rfl (by omega) HD.out.gr.size (Below.refl w.heap.size w30) (Nat.le_refl _) rfl ?_; intro v1 w31 ho1 hb1 hg1)
          replace HD := hide (HD.out.push HO.out (Nat.le_refl _) hg1 (by decide)); replace HO := hide ho1; clear ho1 hb1 hg1
          go_wp2_with fail
          go_round
          case measure => (first | (simp [intOf]; done) | (simp [intOf] <;> omega))
          case rel => exact ⟨jj, xs ++ [_], by go_num, by omega, by simp, by simp; omega, HO.out, HD.out.le (by omega)⟩
    · have hz : j = 0 := by omega
      subst hz
      go_wp2_with fail
      refine (oneD 32 HD.out (by omega)).mono ?_; rintro e w11 ⟨x11, rfl, hD, hg⟩
      replace HO := hide (HD.out.own HO.out hg (by decide))
      replace HD := hide hD; clear hD hg
      cases x11 with
      | false =>
        go_wp2_with fail
        go_ret
        exact ⟨_, xs, rfl, by omega, by omega, HO.out, ⟨(HD.out.le (by omega)).cur, grownTrans HD0.out.gr HD.out.gr, HD0.out.hb⟩, HD.out.gr⟩
      | true =>
        go_wp2_with fail
        go_loopw [3] (fun s wr => ∃ xs : List SCorner, 1 ≤ xs.length ∧ xs.length ≤ 14 ∧ Own 2 SCorner.enc 58 wr w.heap.size s xs ∧ DS w base g A cap code (k + 500 + 10 * xs.length) wr) (fun s _ => 20 - lenV s)
        case atStart => exact ⟨xs, by omega, by omega, HO.out, HD.out.le (by omega)⟩
        case round =>
          clear HO HD
          obtain ⟨xs, hx1, hx2, ho, hD⟩ := hrel
          generalize wr = w40 at *
          have hlv := own_lenV ho
          obtain ⟨A8, cap8, rfl, _, _, _⟩ := ho.is
          have HO := hide ho; have HD := hide hD; clear ho hD
          go_wp2_with fail
          refine (pickD 2 HD.out (by omega)).mono ?_; rintro e w41 ⟨x41, rfl, p41, q41, hD, hg⟩
          replace HO := hide (HD.out.own HO.out hg (by decide))
          replace HD := hide hD; clear hD hg
          by_cases hgo : (xs.length : Int) < 12 + x41
          · go_wp2_with (at_builtin; refine wpList_push1 (k := 2) (enc := SCorner.enc) _ rfl _ _ 25 rfl 58 (.agg #[.int .i64 0, .int .i64 0]) 16 Try.underlying25 SCorner.info rfl (by omega) (by omega) SCorner.one w.heap.size _ (xs) rfl HO.out (⟨_, _⟩) _ rfl rfl (by omega) HD.out.gr.size (Below.refl w.heap.size w41) (Nat.le_refl _) rfl ?_; intro v1 w42 ho1 hb1 hg1)
            replace HD := hide (HD.out.push HO.out (Nat.le_refl _) hg1 (by decide)); replace HO := hide ho1; clear ho1 hb1 hg1
            have hlv2 := own_lenV HO.out
            go_wp2_with fail
            go_round
            case measure => (rw [List.length_append, List.length_singleton] at hlv2; simp [lenV] at *; omega)
            case rel => exact ⟨xs ++ [_], by simp, by simp; omega, HO.out, HD.out.le (by simp; omega)⟩
          · go_wp2_with fail
            go_ret
            exact ⟨_, xs, rfl, by omega, by omega, HO.out, ⟨(HD.out.le (by omega)).cur, grownTrans HD0.out.gr HD.out.gr, HD0.out.hb⟩, HD.out.gr⟩
end Go.Proofs.Ytefnmfkndepfgaa
