/- The drawing of flats over a cursor: some flats of small grams, at most twenty-one. Condition: a cursor that has stepped less than 2^60 times. (Printed by mkflats5.py.) -/
import Derived.Test.YtdbcilinoieabaaD5A
namespace Go.Proofs.Ytdbcilinoieabaa
open Go.RowKit
set_option linter.unusedVariables false
theorem own_adrM {α : Type} {kk : Nat} {enc : α → Nat → Value} {e : TypeId} {w : World} {b : Nat} {v : Value} {xs : List α} (h : Own kk enc e w b v xs) (ha : ∃ gx, v.ownBlock = some gx) : ∃ gx c, v = .slice (some ⟨gx, 0, none⟩) xs.length c := by
  rcases h with ⟨rfl, rfl⟩ | ⟨gx, c, cs, rfl, _⟩
  · obtain ⟨gx, hg⟩ := ha; cases hg
  · exact ⟨gx, c, rfl⟩
theorem own_adrM1 {α : Type} {kk : Nat} {enc : α → Nat → Value} {e : TypeId} {w : World} {b : Nat} {v : Value} {xs : List α} (h : Own kk enc e w b v xs) (hp : 0 < xs.length) : ∃ gx, v.ownBlock = some gx := by
  rcases h with ⟨rfl, rfl⟩ | ⟨gx, c, cs, rfl, _⟩
  · simp at hp
  · exact ⟨gx, rfl⟩
theorem own_noF (w : World) {B : Nat} (hB : B ≤ w.heap.size) : Own 4 SFlat.enc 68 (w.alloc (.cells #[] 68)) B (.slice (some ⟨w.heap.size, 0, none⟩) 0 0) ([] : List SFlat) :=
  Own.made (cs := #[]) rfl hB (Blk.new _ _ _) rfl (by simp only [maxLen, List.length_nil]; omega) (by intro j z hj; simp at hj)
theorem fit_snoc {xs : List SFlat} {z : SFlat} (h : ∀ y ∈ xs, y.Fit) (hz : z.Fit) : ∀ y ∈ xs ++ [z], y.Fit := fun y hy => by
  rcases List.mem_append.1 hy with h1 | h1
  · exact h y h1
  · rw [List.mem_singleton.1 h1]; exact hz
set_option maxRecDepth 100000 in
set_option maxHeartbeats 8000000 in
theorem flats_is (w0 w : World) (base g k : Nat) (A : Option Addr) (cap : Nat) (code : List Int) (hD : DS w0 base g A cap code k w) (hk : k + 4000 < 2305843009213693952) :
    Calls Try.prog 104 #[.pointer (some ⟨g, 0, none⟩)] w fun e w' => ∃ (v : Value) (xs : List SFlat), e = .returned v ∧ (∀ z ∈ xs, z.Fit) ∧ xs.length ≤ 21 ∧ Own 4 SFlat.enc 68 w' w.heap.size v xs ∧ DS w0 base g A cap code (k + 4000) w' ∧ w.grownBy w' (some g) := by
  have hgw := hD.lt
  have HD0 := hide hD
  have HD := hide (DS.start hD.cur hD.sz); clear hD
  go_enter Try.func104, Try.ntmps104
  go_upto_region 2 with fail
  have HO := hide (own_noF w (Nat.le_refl w.heap.size))
  replace HD := hide (HD.out.alloc (.cells #[] 68))
  generalize w.alloc (.cells #[] 68) = w1 at *
  go_wp2_with fail
  refine (pickD 9 HD.out (by omega)).mono ?_; rintro e w2 ⟨x2, rfl, p2, q2, hD, hg⟩
  replace HO := hide (HD.out.own HO.out hg (by decide))
  replace HD := hide hD; clear hD hg
  obtain ⟨q, rfl⟩ : ∃ q : Nat, x2 = (q : Int) := ⟨x2.toNat, by omega⟩
  go_wp2_with fail
  go_loopw [3, 4, 5] (fun s t i wr => ∃ (j : Nat) (xs : List SFlat) (y : Int), i = .int .i64 (j : Int) ∧ t = .int .i64 y ∧ j ≤ 9 ∧ (0 ≤ y ∧ y ≤ 2 * (9 - (j : Int))) ∧ xs.length ≤ 9 - j ∧ (∀ z ∈ xs, z.Fit) ∧ (∃ gx, s.ownBlock = some gx) ∧ Own 4 SFlat.enc 68 wr w.heap.size s xs ∧ DS w base g A cap code (k + 700 - 40 * j) wr) (fun _ _ i _ => (intOf i).toNat)
  case atStart => exact ⟨q, [], 0, rfl, rfl, by omega, ⟨by omega, by omega⟩, by simp, by simp, ⟨_, rfl⟩, HO.out, HD.out.le (by omega)⟩
  case round =>
    clear HO HD p2 q2
    obtain ⟨j, xs, y, rfl, rfl, hj9, ⟨hy0, hy1⟩, hxl, hfit, hadr, ho, hD⟩ := hrel
    generalize wr = w10 at *
    obtain ⟨A7, cap7, rfl, _, _, _⟩ := ho.is
    have HO := hide ho; have HD := hide hD; have HFIT := hide hfit; clear ho hD hfit
    by_cases hlt : (0 : Int) < j
    · go_wp2_with fail
      refine (pickD 2 HD.out (by omega)).mono ?_; rintro e w11 ⟨x11, rfl, p11, q11, hD, hg⟩
      replace HO := hide (HD.out.own HO.out hg (by decide))
      replace HD := hide hD; clear hD hg
      go_wp2_with fail
      refine (pickD 150 HD.out (by omega)).mono ?_; rintro e w12 ⟨x12, rfl, p12, q12, hD, hg⟩
      replace HO := hide (HD.out.own HO.out hg (by decide))
      replace HD := hide hD; clear hD hg
      have hdv : 0 ≤ x12 / 149 ∧ x12 / 149 ≤ 1 := by omega
      go_wp2_with fail
      refine (flat5_is w _ base g _ A cap code HD.out (y + 1 + x11 - x12 / 149) (by omega)).mono ?_; rintro e w13 ⟨zz, rfl, hzf, hD, hg⟩
      replace HO := hide (HD.out.own HO.out hg (by decide))
      replace HD := hide hD; clear hD hg
      obtain ⟨jj, rfl⟩ : ∃ jj, j = jj + 1 := ⟨j - 1, by omega⟩
      have HZF := hide hzf; clear hzf
      obtain ⟨za, zb, zc, zd⟩ := zz
      simp only
      go_wp2_with (at_builtin; refine wpList_push1 (k := 4) (enc := SFlat.enc) _ rfl _ _ 57 rfl 68 (.agg #[.int .i64 0, .int .i64 0, .int .i64 0, .int .i64 0]) 32 Try.underlying57 SFlat.info rfl (by omega) (by omega) SFlat.one w.heap.size _ (xs) rfl HO.out (⟨_, _, _, _⟩) _ rfl rfl (by omega) HD.out.gr.size (Below.refl w.heap.size w13) (Nat.le_refl _) rfl ?_; intro v1 w14 ho1 hb1 hg1)
      replace HD := hide (HD.out.push HO.out (Nat.le_refl _) hg1 (by decide)); replace HO := hide ho1; clear ho1 hb1 hg1
      go_wp2_with fail
      go_round
      case measure => (first | (simp [intOf]; done) | (simp [intOf] <;> omega))
      case rel => exact ⟨jj, xs ++ [_], y + 1 + x11 - x12 / 149, by go_num, rfl, by omega, ⟨by omega, by omega⟩, by simp; omega, fit_snoc HFIT.out HZF.out, own_adrM1 HO.out (by simp), HO.out, HD.out.le (by omega)⟩
    · have hz : j = 0 := by omega
      subst hz
      go_wp2_with fail
      refine (oneD 30 HD.out (by omega)).mono ?_; rintro e w11 ⟨x11, rfl, hD, hg⟩
      replace HO := hide (HD.out.own HO.out hg (by decide))
      replace HD := hide hD; clear hD hg
      cases x11 with
      | false =>
        go_wp2_with fail
        go_ret
        exact ⟨_, xs, rfl, HFIT.out, by omega, HO.out, ⟨(HD.out.le (by omega)).cur, grownTrans HD0.out.gr HD.out.gr, HD0.out.hb⟩, HD.out.gr⟩
      | true =>
        clear HO HFIT hxl hadr
        have hwz : w.heap.size ≤ w11.heap.size := HD.out.gr.size
        go_upto_region 10 with fail
        have HO := hide (own_noF w11 hwz)
        replace HD := hide (HD.out.alloc (.cells #[] 68))
        generalize w11.alloc (.cells #[] 68) = w30 at *
        go_wp2_with fail
        go_loopw [3, 6] (fun s i wr => ∃ (n : Nat) (xs : List SFlat), i = .int .i64 (n : Int) ∧ n ≤ 21 ∧ xs.length = n ∧ (∀ z ∈ xs, z.Fit) ∧ (∃ gx, s.ownBlock = some gx) ∧ Own 4 SFlat.enc 68 wr w.heap.size s xs ∧ DS w base g A cap code (k + 720 + 10 * n) wr) (fun _ i _ => 40 - (intOf i).toNat)
        case atStart => exact ⟨0, [], rfl, by omega, rfl, by simp, ⟨_, rfl⟩, HO.out, HD.out.le (by omega)⟩
        case round =>
          clear HO HD
          obtain ⟨n, xs, rfl, hn21, hxn, hfit, hadr, ho, hD⟩ := hrel
          generalize wr = w40 at *
          have hxb : xs.length ≤ 21 := by omega
          have HXN := hide hxn; clear hxn
          obtain ⟨A8, cap8, rfl, _, _, _⟩ := ho.is
          have HO := hide ho; have HD := hide hD; have HFIT := hide hfit; clear ho hD hfit
          go_wp2_with fail
          refine (pickD 2 HD.out (by omega)).mono ?_; rintro e w41 ⟨x41, rfl, p41, q41, hD, hg⟩
          replace HO := hide (HD.out.own HO.out hg (by decide))
          replace HD := hide hD; clear hD hg
          by_cases hgo : (n : Int) < 20 + x41
          · go_wp2_with (at_builtin; refine wpList_push1 (k := 4) (enc := SFlat.enc) _ rfl _ _ 57 rfl 68 (.agg #[.int .i64 0, .int .i64 0, .int .i64 0, .int .i64 0]) 32 Try.underlying57 SFlat.info rfl (by omega) (by omega) SFlat.one w.heap.size _ (xs) rfl HO.out (⟨_, _, _, _⟩) _ rfl rfl (by omega) HD.out.gr.size (Below.refl w.heap.size w41) (Nat.le_refl _) rfl ?_; intro v1 w42 ho1 hb1 hg1)
            replace HD := hide (HD.out.push HO.out (Nat.le_refl _) hg1 (by decide)); replace HO := hide ho1; clear ho1 hb1 hg1
            go_wp2_with fail
            go_round
            case measure => (first | (simp [intOf]; done) | (simp [intOf] <;> omega))
            case rel => exact ⟨n + 1, xs ++ [_], by go_num, by omega, by simp [HXN.out], fit_snoc HFIT.out (by refine ⟨?_, ?_⟩ <;> simp only <;> first | omega | decide), own_adrM1 HO.out (by simp), HO.out, HD.out.le (by omega)⟩
          · go_wp2_with fail
            go_ret
            exact ⟨_, xs, rfl, HFIT.out, by omega, HO.out, ⟨(HD.out.le (by omega)).cur, grownTrans HD0.out.gr HD.out.gr, HD0.out.hb⟩, HD.out.gr⟩
end Go.Proofs.Ytdbcilinoieabaa
