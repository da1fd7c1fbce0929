/- The drawing of sheets over a cursor: some sheets of small numbers, at most thirteen. Condition: a cursor that has stepped less than 2^60 times. (Printed by mksheets.py.) -/
import Derived.Test.YtplemibckjnbhaaGreatDoorD2A
namespace Go.Proofs.YtplemibckjnbhaaGreatDoor
open Go.RowKit
set_option linter.unusedVariables false
theorem own_adrS {α : Type} {kk : Nat} {enc : α → Nat → Value} {e : TypeId} {w : World} {b : Nat} {v : Value} {xs : List α} (h : Own kk enc e w b v xs) (ha : ∃ gx, v.ownBlock = some gx) : ∃ gx c, v = .slice (some ⟨gx, 0, none⟩) xs.length c := by
  rcases h with ⟨rfl, rfl⟩ | ⟨gx, c, cs, rfl, _⟩
  · obtain ⟨gx, hg⟩ := ha; cases hg
  · exact ⟨gx, c, rfl⟩
theorem own_adrS1 {α : Type} {kk : Nat} {enc : α → Nat → Value} {e : TypeId} {w : World} {b : Nat} {v : Value} {xs : List α} (h : Own kk enc e w b v xs) (hp : 0 < xs.length) : ∃ gx, v.ownBlock = some gx := by
  rcases h with ⟨rfl, rfl⟩ | ⟨gx, c, cs, rfl, _⟩
  · simp at hp
  · exact ⟨gx, rfl⟩
theorem own_noS (w : World) {B : Nat} (hB : B ≤ w.heap.size) : Own 5 SSheet.enc 50 (w.alloc (.cells #[] 50)) B (.slice (some ⟨w.heap.size, 0, none⟩) 0 0) ([] : List SSheet) :=
  Own.made (cs := #[]) rfl hB (Blk.new _ _ _) rfl (by simp only [maxLen, List.length_nil]; omega) (by intro j z hj; simp at hj)
theorem fit_snocS {xs : List SSheet} {z : SSheet} (h : ∀ y ∈ xs, y.Fit) (hz : z.Fit) : ∀ y ∈ xs ++ [z], y.Fit := fun y hy => by
  rcases List.mem_append.1 hy with h1 | h1
  · exact h y h1
  · rw [List.mem_singleton.1 h1]; exact hz
/-- s[:q] of a row of the call's own -/
theorem Own.takeS {α : Type} {kk : Nat} {enc : α → Nat → Value} {e : TypeId} {w : World} {b gx n c q : Nat} {xs : List α} (h : Own kk enc e w b (.slice (some ⟨gx, 0, none⟩) n c) xs) (hq : q ≤ xs.length) : Own kk enc e w b (.slice (some ⟨gx, 0, none⟩) q c) (xs.take q) := by
  rcases h with ⟨h, _⟩ | ⟨g, cap, cs, h, hb, hblk, h1, h2, h3, hf⟩
  · cases h
  · injection h with e1 e2 e3
    injection e1 with e1; injection e1 with e1
    subst e1 e3
    have hl : (xs.take q).length = q := List.length_take_of_le hq
    refine .inr ⟨gx, c, cs, by rw [hl], hb, hblk, by omega, h2, h3, ?_⟩
    intro j x hj hx cc hc
    rw [hl] at hj
    rw [List.getElem?_take, if_pos hj] at hx
    exact hf j x (by omega) hx cc hc
set_option maxRecDepth 100000 in
set_option maxHeartbeats 8000000 in
theorem sheets_is (w0 w : World) (base g k : Nat) (A : Option Addr) (cap : Nat) (code : List Int) (hD : DS w0 base g A cap code k w) (hk : k + 4000 < 2305843009213693952) :
    Calls Tryz.prog 84 #[.pointer (some ⟨g, 0, none⟩)] w fun e w' => ∃ (v : Value) (xs : List SSheet), e = .returned v ∧ (∀ z ∈ xs, z.Fit) ∧ xs.length ≤ 13 ∧ Own 5 SSheet.enc 50 w' w.heap.size v xs ∧ DS w0 base g A cap code (k + 4000) w' ∧ w.grownBy w' (some g) := by
  have hgw := hD.lt
  have HD0 := hide hD
  have HD := hide (DS.start hD.cur hD.sz); clear hD
  go_enter Tryz.func84, Tryz.ntmps84
  go_upto_region 2 with fail
  have HO := hide (own_noS w (Nat.le_refl w.heap.size))
  replace HD := hide (HD.out.alloc (.cells #[] 50))
  generalize w.alloc (.cells #[] 50) = w1 at *
  go_wp2_with fail
  go_loopw [3, 4] (fun s i wr => ∃ (j : Nat) (xs : List SSheet), i = .int .i64 (j : Int) ∧ 1 ≤ j ∧ j ≤ 9 ∧ xs.length + 1 ≤ j ∧ (∀ z ∈ xs, z.Fit) ∧ (∃ gx, s.ownBlock = some gx) ∧ Own 5 SSheet.enc 50 wr w.heap.size s xs ∧ DS w base g A cap code (k + 100 * j) wr) (fun _ i _ => 9 - (intOf i).toNat)
  case atStart => exact ⟨1, [], rfl, by omega, by omega, by simp, by simp, ⟨_, rfl⟩, HO.out, HD.out.le (by omega)⟩
  case round =>
    clear HO HD
    obtain ⟨j, xs, rfl, hj1, hj9, hxl, hfit, hadr, ho, hD⟩ := hrel
    generalize wr = w10 at *
    obtain ⟨gx, c7, rfl⟩ := own_adrS ho hadr
    have HO := hide ho; have HD := hide hD; have HFIT := hide hfit; clear ho hD hfit hadr
    by_cases hlt : (j : Int) < 9
    · go_wp2_with fail
      refine (sheet_is w _ base g _ A cap code HD.out (9 * (j : Int)) (by omega) (by omega)).mono ?_; rintro e w11 ⟨zz, rfl, hzf, hD, hg⟩
      replace HO := hide (HD.out.own HO.out hg (by decide))
      replace HD := hide hD; clear hD hg
      have HZF := hide hzf; clear hzf
      obtain ⟨za, zb, zc, zd, ze⟩ := zz
      simp only
      have HT := hide (Blk.new w11 50 #[.int .i64 za, .int .i64 zb, .int .i64 zc, .int .i64 zd, .int .i64 ze])
      have hszw : w.heap.size ≤ w11.heap.size := HD.out.gr.size
      go_upto_region 6 with fail
      replace HO := hide (HO.out.alloc (.cells #[.int .i64 za, .int .i64 zb, .int .i64 zc, .int .i64 zd, .int .i64 ze] 50))
      replace HD := hide (HD.out.alloc (.cells #[.int .i64 za, .int .i64 zb, .int .i64 zc, .int .i64 zd, .int .i64 ze] 50))
      generalize w11.alloc (.cells #[.int .i64 za, .int .i64 zb, .int .i64 zc, .int .i64 zd, .int .i64 ze] 50) = w12 at *
      generalize hb1 : w11.heap.size = b1 at *
      obtain ⟨t0, t1, t2, t3, t4⟩ := mk5S HT.out
      have HAT := hide (l2At_any _ xs zb zc zd w12 HO.out.is)
      generalize hav : atV xs zb zc zd = av at *
      clear hav
      go_wp2_with fail
      refine HAT.out.mono ?_; rintro e w9 ⟨rfl, rfl⟩
      clear HAT
      by_cases hav : av < 0
      · skip
        clear t0 t1 t2 t3 t4
        obtain ⟨t0, t1, t2, t3, t4⟩ := mk5S HT.out
        go_wp2_with (at_builtin; refine wpList_push1 (k := 5) (enc := SSheet.enc) _ rfl _ _ 56 rfl 50 (.agg #[.int .i64 0, .int .i64 0, .int .i64 0, .int .i64 0, .int .i64 0]) 40 Tryz.underlying56 SSheet.info rfl (by omega) (by omega) SSheet.one w.heap.size _ (xs) rfl HO.out (⟨za, zb, zc, zd, ze⟩) _ rfl rfl (by omega) HD.out.gr.size (Below.refl w.heap.size w12) (Nat.le_refl _) rfl ?_; intro v1 w13 ho1 hb1 hg1)
        replace HD := hide (HD.out.push HO.out (Nat.le_refl _) hg1 (by decide)); replace HO := hide ho1; clear ho1 hb1 hg1
        go_wp2_with fail
        go_round
        case measure => (first | (simp [intOf]; done) | (simp [intOf] <;> omega))
        case rel => exact ⟨j + 1, xs ++ [_], by go_num, by omega, by omega, by simp; omega, fit_snocS HFIT.out HZF.out, own_adrS1 HO.out (by simp), HO.out, HD.out.le (by omega)⟩
      · have hav2 : decide (av < 0) = false := decide_eq_false hav
        go_wp2_with fail
        refine (oneD 40 HD.out (by omega)).mono ?_; rintro e w13 ⟨x13, rfl, hD, hg⟩
        replace HO := hide (HD.out.own HO.out hg (by decide))
        replace HT := hide (HD.out.blk HT.out hg (by decide))
        replace HD := hide hD; clear hD hg
        cases x13 with
        | true =>
          clear t0 t1 t2 t3 t4
          obtain ⟨t0, t1, t2, t3, t4⟩ := mk5S HT.out
          go_wp2_with (at_builtin; refine wpList_push1 (k := 5) (enc := SSheet.enc) _ rfl _ _ 56 rfl 50 (.agg #[.int .i64 0, .int .i64 0, .int .i64 0, .int .i64 0, .int .i64 0]) 40 Tryz.underlying56 SSheet.info rfl (by omega) (by omega) SSheet.one w.heap.size _ (xs) rfl HO.out (⟨za, zb, zc, zd, ze⟩) _ rfl rfl (by omega) HD.out.gr.size (Below.refl w.heap.size w13) (Nat.le_refl _) rfl ?_; intro v1 w14 ho1 hb1 hg1)
          replace HD := hide (HD.out.push HO.out (Nat.le_refl _) hg1 (by decide)); replace HO := hide ho1; clear ho1 hb1 hg1
          go_wp2_with fail
          go_round
          case measure => (first | (simp [intOf]; done) | (simp [intOf] <;> omega))
          case rel => exact ⟨j + 1, xs ++ [_], by go_num, by omega, by omega, by simp; omega, fit_snocS HFIT.out HZF.out, own_adrS1 HO.out (by simp), HO.out, HD.out.le (by omega)⟩
        | false =>
          go_wp2_with fail
          go_round
          case measure => (first | (simp [intOf]; done) | (simp [intOf] <;> omega))
          case rel => exact ⟨j + 1, xs, by go_num, by omega, by omega, by omega, HFIT.out, ⟨_, rfl⟩, HO.out, HD.out.le (by omega)⟩
    · have hz : j = 9 := by omega
      subst hz
      have hxl8 : xs.length ≤ 8 := by omega
      go_wp2_with fail
      refine (pickD ((xs.length : Int) + 1) HD.out (by omega)).mono ?_; rintro e w11 ⟨x11, rfl, p11, q11, hD, hg⟩
      replace HO := hide (HD.out.own HO.out hg (by decide))
      replace HD := hide hD; clear hD hg
      obtain ⟨q, rfl⟩ : ∃ q : Nat, x11 = (q : Int) := ⟨x11.toNat, by omega⟩
      have hq : q ≤ xs.length := by omega
      have hqi : (q : Int) ≤ xs.length := by omega
      have hcq : xs.length ≤ c7 := by obtain ⟨_, _, he, _, h1, _⟩ := HO.out.is; injection he with _ _ e3; omega
      have hqc : (q : Int) ≤ c7 := by omega
      have hq8 : q ≤ 8 := by omega
      go_upto_region 9 with fail
      replace HO := hide (HO.out.takeS hq)
      have hyl : (xs.take q).length = q := List.length_take_of_le hq
      have hfit2 : ∀ z ∈ xs.take q, z.Fit := fun z hz => HFIT.out z (List.mem_of_mem_take hz)
      generalize xs.take q = ys at *
      replace HFIT := hide hfit2
      clear hfit2 hq hqi hqc hxl hxl8 hcq
      subst hyl
      go_wp2_with fail
      refine (pickD 32 HD.out (by omega)).mono ?_; rintro e w12 ⟨x12, rfl, p12, q12, hD, hg⟩
      replace HO := hide (HD.out.own HO.out hg (by decide))
      replace HD := hide hD; clear hD hg
      by_cases z0 : x12 = 0
      · subst z0
        go_wp2_with fail
        refine (amongD [0, 9, 999, 1000] HD.out (by rfl) (by rfl) (by rfl) (by simp) (by simp) (by omega)).mono ?_; rintro e w13 ⟨x13, rfl, hm, hD, hg⟩
        replace HO := hide (HD.out.own HO.out hg (by decide))
        replace HD := hide hD; clear hD hg
        have b13 := (by decide : ∀ x ∈ ([0, 9, 999, 1000] : List Int), 0 ≤ x ∧ x ≤ 1000) _ hm; clear hm
        obtain ⟨hb9, hb10⟩ := b13
        go_wp2_with fail
        refine (sheet_is w _ base g _ A cap code HD.out x13 (by omega) (by omega)).mono ?_; rintro e w14 ⟨zz, rfl, hzf, hD, hg⟩
        replace HO := hide (HD.out.own HO.out hg (by decide))
        replace HD := hide hD; clear hD hg
        have HZF := hide hzf; clear hzf
        obtain ⟨za, zb, zc, zd, ze⟩ := zz
        simp only
        go_wp2_with (at_builtin; refine wpList_push1 (k := 5) (enc := SSheet.enc) _ rfl _ _ 56 rfl 50 (.agg #[.int .i64 0, .int .i64 0, .int .i64 0, .int .i64 0, .int .i64 0]) 40 Tryz.underlying56 SSheet.info rfl (by omega) (by omega) SSheet.one w.heap.size _ (ys) rfl HO.out (⟨_, _, _, _, _⟩) _ rfl rfl (by omega) HD.out.gr.size (Below.refl w.heap.size w14) (Nat.le_refl _) rfl ?_; intro v1 w15 ho1 hb1 hg1)
        replace HD := hide (HD.out.push HO.out (Nat.le_refl _) hg1 (by decide)); replace HO := hide ho1; clear ho1 hb1 hg1
        replace HFIT := hide (fit_snocS HFIT.out HZF.out)
        go_wp2_with fail
        go_ret
        exact ⟨_, rfl, ys ++ [_], HFIT.out, by simp; omega, HO.out, ⟨(HD.out.le (by omega)).cur, grownTrans HD0.out.gr HD.out.gr, HD0.out.hb⟩, HD.out.gr⟩
      · by_cases z1 : x12 = 1
        · subst z1
          go_wp2_with fail
          go_loopw [3] (fun s wr => ∃ (xs : List SSheet), xs.length ≤ 13 ∧ (∀ z ∈ xs, z.Fit) ∧ (∃ gx, s.ownBlock = some gx) ∧ Own 5 SSheet.enc 50 wr w.heap.size s xs ∧ DS w base g A cap code (k + 1200 + 10 * xs.length) wr) (fun s _ => 20 - lenV s)
          case atStart => exact ⟨ys, by omega, HFIT.out, ⟨_, rfl⟩, HO.out, HD.out.le (by omega)⟩
          case round =>
            clear HO HD HFIT
            obtain ⟨xs, hx13, hfit, hadr, ho, hD⟩ := hrel
            generalize wr = w40 at *
            obtain ⟨gx, c9, rfl⟩ := own_adrS ho hadr
            have HO := hide ho; have HD := hide hD; have HFIT := hide hfit; clear ho hD hfit hadr
            go_wp2_with fail
            refine (pickD 2 HD.out (by omega)).mono ?_; rintro e w41 ⟨x41, rfl, p41, q41, hD, hg⟩
            replace HO := hide (HD.out.own HO.out hg (by decide))
            replace HD := hide hD; clear hD hg
            by_cases hgo : (xs.length : Int) < 12 + x41
            · go_wp2_with (at_builtin; refine wpList_push1 (k := 5) (enc := SSheet.enc) _ rfl _ _ 56 rfl 50 (.agg #[.int .i64 0, .int .i64 0, .int .i64 0, .int .i64 0, .int .i64 0]) 40 Tryz.underlying56 SSheet.info rfl (by omega) (by omega) SSheet.one w.heap.size _ (xs) rfl HO.out (⟨_, _, _, _, _⟩) _ rfl rfl (by omega) HD.out.gr.size (Below.refl w.heap.size w41) (Nat.le_refl _) rfl ?_; intro v1 w42 ho1 hb1 hg1)
              replace HD := hide (HD.out.push HO.out (Nat.le_refl _) hg1 (by decide)); replace HO := hide ho1; clear ho1 hb1 hg1
              have hlv := own_lenV HO.out
              have HLV := hide hlv; clear hlv
              go_wp2_with fail
              go_round
              case measure => (rw [HLV.out]; simp [lenV] <;> omega)
              case rel => exact ⟨xs ++ [_], by simp; omega, fit_snocS HFIT.out (by refine ⟨⟨?_, ?_⟩, ⟨?_, ?_⟩, ⟨?_, ?_⟩, ⟨?_, ?_⟩, ⟨?_, ?_⟩⟩ <;> simp only <;> omega), own_adrS1 HO.out (by simp), HO.out, by have := HD.out.le (k' := k + 1200 + 10 * (xs ++ [(⟨100 + (xs.length : Int), 10, 10 + (xs.length : Int), 50, 1900⟩ : SSheet)]).length) (by simp; omega); exact this⟩
            · go_wp2_with fail
              go_ret
              exact ⟨_, xs, rfl, HFIT.out, by omega, HO.out, ⟨(HD.out.le (by omega)).cur, grownTrans HD0.out.gr HD.out.gr, HD0.out.hb⟩, HD.out.gr⟩
        · go_wp2_with fail
          go_ret
          exact ⟨_, ys, rfl, HFIT.out, by omega, HO.out, ⟨(HD.out.le (by omega)).cur, grownTrans HD0.out.gr HD.out.gr, HD0.out.hb⟩, HD.out.gr⟩
end Go.Proofs.YtplemibckjnbhaaGreatDoor
