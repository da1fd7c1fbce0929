/- The drawing of turns, chains and places over a cursor. Condition: a cursor that has stepped less than 2^60 times. (Printed by mkturn.py.) -/
import Derived.Test.YtplemibckjnbhaaDoorDr
import Derived.Test.YtplemibckjnbhaaDoorL4K
namespace Go.Proofs.YtplemibckjnbhaaDoor
open Go.RowKit
set_option linter.unusedVariables false
set_option maxRecDepth 100000 in
set_option maxHeartbeats 2000000 in
theorem place4_is (w0 w : World) (base g k : Nat) (A : Option Addr) (cap : Nat) (code : List Int) (hD : DS w0 base g A cap code k w) (hk : k + 10 < 2305843009213693952) :
    Calls Tryd.prog 68 #[.pointer (some ⟨g, 0, none⟩)] w fun e w' => ∃ x y : Int, e = .returned (.tuple #[.int .i64 x, .int .i64 y]) ∧ DS w0 base g A cap code (k + 10) w' ∧ w.grownBy w' (some g) := by
  have hgw := hD.lt
  have HD0 := hide hD
  have HD := hide (DS.start hD.cur hD.sz); clear hD
  go_enter Tryd.func68, Tryd.ntmps68
  go_wp2_with fail
  refine (oneD 40 HD.out (by omega)).mono ?_; rintro e w1 ⟨x1, rfl, hD, hg⟩
  replace HD := hide hD; clear hD hg
  cases x1 with
  | true =>
    go_wp2_with fail
    refine (amongD [-1, 100000] HD.out (by rfl) (by rfl) (by rfl) (by simp) (by simp) (by omega)).mono ?_; rintro e w2 ⟨x2, rfl, hm, hD, hg⟩
    replace HD := hide hD; clear hD hg
    clear hm
    go_wp2_with fail
    go_ret2
    exact ⟨_, _, rfl, ⟨(HD.out.le (by omega)).cur, grownTrans HD0.out.gr HD.out.gr, HD0.out.hb⟩, HD.out.gr⟩
  | false =>
    go_wp2_with fail
    refine (amongD [0, 1, 499, 500, 750, 1000, 99999] HD.out (by rfl) (by rfl) (by rfl) (by simp) (by simp) (by omega)).mono ?_; rintro e w2 ⟨x2, rfl, hm, hD, hg⟩
    replace HD := hide hD; clear hD hg
    clear hm
    go_wp2_with fail
    refine (amongD [0, 2, 499, 500, 1000, 1250, 99999] HD.out (by rfl) (by rfl) (by rfl) (by simp) (by simp) (by omega)).mono ?_; rintro e w3 ⟨x3, rfl, hm, hD, hg⟩
    replace HD := hide hD; clear hD hg
    clear hm
    go_wp2_with fail
    go_ret2
    exact ⟨_, _, rfl, ⟨(HD.out.le (by omega)).cur, grownTrans HD0.out.gr HD.out.gr, HD0.out.hb⟩, HD.out.gr⟩
set_option maxRecDepth 100000 in
set_option maxHeartbeats 2000000 in
theorem gridTurn_is (w0 w : World) (base g k : Nat) (A : Option Addr) (cap : Nat) (code : List Int) (hD : DS w0 base g A cap code k w) (hk : k + 20 < 2305843009213693952) :
    Calls Tryd.prog 98 #[.pointer (some ⟨g, 0, none⟩)] w fun e w' => ∃ t : STurn, e = .returned (.agg #[.int .i64 t.q, .int .i64 t.num, .int .i64 t.den, .int .i64 t.e, .int .i64 t.n]) ∧ DS w0 base g A cap code (k + 20) w' ∧ w.grownBy w' (some g) := by
  have hB := Blk.new w 35 #[.int .i64 0, .int .i64 0, .int .i64 0, .int .i64 0, .int .i64 0]
  have hD1 := (DS.start hD.cur hD.sz).alloc (.cells #[.int .i64 0, .int .i64 0, .int .i64 0, .int .i64 0, .int .i64 0] 35)
  have hgw := hD.lt
  have HD0 := hide hD
  have HD := hide hD1; have HB := hide hB; clear hD hD1 hB
  go_enter Tryd.func98, Tryd.ntmps98
  go_wp2_with fail
  generalize hb0 : w.heap.size = b0 at *
  generalize w.alloc (.cells #[.int .i64 0, .int .i64 0, .int .i64 0, .int .i64 0, .int .i64 0] 35) = w1 at *
  refine (pickD 4 HD.out (by omega)).mono ?_; rintro e w2 ⟨x2, rfl, p2, q2, hD, hg⟩
  replace HB := hide (HD.out.blk HB.out hg (by decide))
  replace HD := hide hD; clear hD hg
  go_wp2_with fail
  refine (amongD [1, 1, 2, 3, 20] HD.out (by rfl) (by rfl) (by rfl) (by simp) (by simp) (by omega)).mono ?_; rintro e w3 ⟨x3, rfl, hm, hD, hg⟩
  replace HB := hide (HD.out.blk HB.out hg (by decide))
  replace HD := hide hD; clear hD hg
  clear hm
  go_wp2_with fail
  refine (amongD [1, 1, 2, 4, 20] HD.out (by rfl) (by rfl) (by rfl) (by simp) (by simp) (by omega)).mono ?_; rintro e w4 ⟨x4, rfl, hm, hD, hg⟩
  replace HB := hide (HD.out.blk HB.out hg (by decide))
  replace HD := hide hD; clear hD hg
  clear hm
  go_wp2_with fail
  refine (amongD [0, 1, -7, 500, 99999, -99999] HD.out (by rfl) (by rfl) (by rfl) (by simp) (by simp) (by omega)).mono ?_; rintro e w5 ⟨x5, rfl, hm, hD, hg⟩
  replace HB := hide (HD.out.blk HB.out hg (by decide))
  replace HD := hide hD; clear hD hg
  clear hm
  go_wp2_with fail
  refine (amongD [0, 3, -50, 1000, 99999, -99999] HD.out (by rfl) (by rfl) (by rfl) (by simp) (by simp) (by omega)).mono ?_; rintro e w6 ⟨x6, rfl, hm, hD, hg⟩
  replace HB := hide (HD.out.blk HB.out hg (by decide))
  replace HD := hide hD; clear hD hg
  clear hm
  go_wp2_with fail
  have hbw : b0 < w6.heap.size := HB.out.lt
  have HT := hide (Blk.new w6 35 #[.int .i64 x2, .int .i64 x3, .int .i64 x4, .int .i64 x5, .int .i64 x6])
  have hwt : b0 < w6.heap.size := HB.out.lt
  replace HB := hide (HB.out.alloc (.cells #[.int .i64 x2, .int .i64 x3, .int .i64 x4, .int .i64 x5, .int .i64 x6] 35))
  replace HD := hide (HD.out.alloc (.cells #[.int .i64 x2, .int .i64 x3, .int .i64 x4, .int .i64 x5, .int .i64 x6] 35))
  generalize w6.alloc (.cells #[.int .i64 x2, .int .i64 x3, .int .i64 x4, .int .i64 x5, .int .i64 x6] 35) = w7 at *
  generalize hb1 : w6.heap.size = b1 at *
  refine (pickD 64 HD.out (by omega)).mono ?_; rintro e w8 ⟨x8, rfl, p8, q8, hD, hg⟩
  replace HB := hide (HD.out.blk HB.out hg (by decide))
  replace HT := hide (HD.out.blk HT.out hg (by decide))
  replace HD := hide hD; clear hD hg
  by_cases z0 : x8 = 0
  · subst z0
    go_wp2_with fail
    refine (amongD [-1, 4] HD.out (by rfl) (by rfl) (by rfl) (by simp) (by simp) (by omega)).mono ?_; rintro e w9 ⟨x9, rfl, hm, hD, hg⟩
    replace HB := hide (HD.out.blk HB.out hg (by decide))
    replace HT := hide (HD.out.blk HT.out hg (by decide))
    replace HD := hide hD; clear hD hg
    clear hm
    obtain ⟨t0, t1, t2, t3, t4⟩ := turn5 HT.out
    have tf := fun o => HT.out.frozen o
    obtain ⟨m0, m1, m2, m3, m4⟩ := turn5 HB.out
    have mf := fun o => HB.out.frozen o
    have nb : ¬ b1 = b0 := by omega
    have nb2 : ¬ b0 = b1 := by omega
    go_wp2_with fail
    have hF := ((((((HB.out.far (p := ⟨b1, 0, none⟩) (by simp only; omega) (.int .i64 x9)).set 0 (.int .i64 x9)).set 1 (.int .i64 x3)).set 2 (.int .i64 x4)).set 3 (.int .i64 x5)).set 4 (.int .i64 x6))
    have f0 := hF.cell 0; have f1 := hF.cell 1; have f2 := hF.cell 2; have f3 := hF.cell 3; have f4 := hF.cell 4
    simp at f0 f1 f2 f3 f4
    have hE := ((((((HD.out.set (b := b1) (by omega) (by omega) 0 (.int .i64 x9)).set (b := b0) (by omega) (by omega) 0 (.int .i64 x9)).set (b := b0) (by omega) (by omega) 1 (.int .i64 x3)).set (b := b0) (by omega) (by omega) 2 (.int .i64 x4)).set (b := b0) (by omega) (by omega) 3 (.int .i64 x5)).set (b := b0) (by omega) (by omega) 4 (.int .i64 x6))
    exact bodyPost_ret (v := .agg #[.int .i64 x9, .int .i64 x3, .int .i64 x4, .int .i64 x5, .int .i64 x6]) (by simp [results, Tryd.results98, go_sem, f0, f1, f2, f3, f4]) rfl ⟨⟨x9, x3, x4, x5, x6⟩, rfl, ⟨(hE.le (by omega)).cur, grownTrans HD0.out.gr hE.gr, HD0.out.hb⟩, hE.gr⟩
  · by_cases z1 : x8 = 1
    · subst z1
      go_wp2_with fail
      refine (amongD [0, 21] HD.out (by rfl) (by rfl) (by rfl) (by simp) (by simp) (by omega)).mono ?_; rintro e w9 ⟨x9, rfl, hm, hD, hg⟩
      replace HB := hide (HD.out.blk HB.out hg (by decide))
      replace HT := hide (HD.out.blk HT.out hg (by decide))
      replace HD := hide hD; clear hD hg
      clear hm
      obtain ⟨t0, t1, t2, t3, t4⟩ := turn5 HT.out
      have tf := fun o => HT.out.frozen o
      obtain ⟨m0, m1, m2, m3, m4⟩ := turn5 HB.out
      have mf := fun o => HB.out.frozen o
      have nb : ¬ b1 = b0 := by omega
      have nb2 : ¬ b0 = b1 := by omega
      go_wp2_with fail
      have hF := ((((((HB.out.far (p := ⟨b1, 2, none⟩) (by simp only; omega) (.int .i64 x9)).set 0 (.int .i64 x2)).set 1 (.int .i64 x3)).set 2 (.int .i64 x9)).set 3 (.int .i64 x5)).set 4 (.int .i64 x6))
      have f0 := hF.cell 0; have f1 := hF.cell 1; have f2 := hF.cell 2; have f3 := hF.cell 3; have f4 := hF.cell 4
      simp at f0 f1 f2 f3 f4
      have hE := ((((((HD.out.set (b := b1) (by omega) (by omega) 2 (.int .i64 x9)).set (b := b0) (by omega) (by omega) 0 (.int .i64 x2)).set (b := b0) (by omega) (by omega) 1 (.int .i64 x3)).set (b := b0) (by omega) (by omega) 2 (.int .i64 x9)).set (b := b0) (by omega) (by omega) 3 (.int .i64 x5)).set (b := b0) (by omega) (by omega) 4 (.int .i64 x6))
      exact bodyPost_ret (v := .agg #[.int .i64 x2, .int .i64 x3, .int .i64 x9, .int .i64 x5, .int .i64 x6]) (by simp [results, Tryd.results98, go_sem, f0, f1, f2, f3, f4]) rfl ⟨⟨x2, x3, x9, x5, x6⟩, rfl, ⟨(hE.le (by omega)).cur, grownTrans HD0.out.gr hE.gr, HD0.out.hb⟩, hE.gr⟩
    · by_cases z2 : x8 = 2
      · subst z2
        go_wp2_with fail
        refine (amongD [100000, -100000] HD.out (by rfl) (by rfl) (by rfl) (by simp) (by simp) (by omega)).mono ?_; rintro e w9 ⟨x9, rfl, hm, hD, hg⟩
        replace HB := hide (HD.out.blk HB.out hg (by decide))
        replace HT := hide (HD.out.blk HT.out hg (by decide))
        replace HD := hide hD; clear hD hg
        clear hm
        obtain ⟨t0, t1, t2, t3, t4⟩ := turn5 HT.out
        have tf := fun o => HT.out.frozen o
        obtain ⟨m0, m1, m2, m3, m4⟩ := turn5 HB.out
        have mf := fun o => HB.out.frozen o
        have nb : ¬ b1 = b0 := by omega
        have nb2 : ¬ b0 = b1 := by omega
        go_wp2_with fail
        have hF := ((((((HB.out.far (p := ⟨b1, 3, none⟩) (by simp only; omega) (.int .i64 x9)).set 0 (.int .i64 x2)).set 1 (.int .i64 x3)).set 2 (.int .i64 x4)).set 3 (.int .i64 x9)).set 4 (.int .i64 x6))
        have f0 := hF.cell 0; have f1 := hF.cell 1; have f2 := hF.cell 2; have f3 := hF.cell 3; have f4 := hF.cell 4
        simp at f0 f1 f2 f3 f4
        have hE := ((((((HD.out.set (b := b1) (by omega) (by omega) 3 (.int .i64 x9)).set (b := b0) (by omega) (by omega) 0 (.int .i64 x2)).set (b := b0) (by omega) (by omega) 1 (.int .i64 x3)).set (b := b0) (by omega) (by omega) 2 (.int .i64 x4)).set (b := b0) (by omega) (by omega) 3 (.int .i64 x9)).set (b := b0) (by omega) (by omega) 4 (.int .i64 x6))
        exact bodyPost_ret (v := .agg #[.int .i64 x2, .int .i64 x3, .int .i64 x4, .int .i64 x9, .int .i64 x6]) (by simp [results, Tryd.results98, go_sem, f0, f1, f2, f3, f4]) rfl ⟨⟨x2, x3, x4, x9, x6⟩, rfl, ⟨(hE.le (by omega)).cur, grownTrans HD0.out.gr hE.gr, HD0.out.hb⟩, hE.gr⟩
      · obtain ⟨t0, t1, t2, t3, t4⟩ := turn5 HT.out
        have tf := fun o => HT.out.frozen o
        obtain ⟨m0, m1, m2, m3, m4⟩ := turn5 HB.out
        have mf := fun o => HB.out.frozen o
        have nb : ¬ b1 = b0 := by omega
        have nb2 : ¬ b0 = b1 := by omega
        go_wp2_with fail
        have hF := (((((HB.out.set 0 (.int .i64 x2)).set 1 (.int .i64 x3)).set 2 (.int .i64 x4)).set 3 (.int .i64 x5)).set 4 (.int .i64 x6))
        have f0 := hF.cell 0; have f1 := hF.cell 1; have f2 := hF.cell 2; have f3 := hF.cell 3; have f4 := hF.cell 4
        simp at f0 f1 f2 f3 f4
        have hE := (((((HD.out.set (b := b0) (by omega) (by omega) 0 (.int .i64 x2)).set (b := b0) (by omega) (by omega) 1 (.int .i64 x3)).set (b := b0) (by omega) (by omega) 2 (.int .i64 x4)).set (b := b0) (by omega) (by omega) 3 (.int .i64 x5)).set (b := b0) (by omega) (by omega) 4 (.int .i64 x6))
        exact bodyPost_ret (v := .agg #[.int .i64 x2, .int .i64 x3, .int .i64 x4, .int .i64 x5, .int .i64 x6]) (by simp [results, Tryd.results98, go_sem, f0, f1, f2, f3, f4]) rfl ⟨⟨x2, x3, x4, x5, x6⟩, rfl, ⟨(hE.le (by omega)).cur, grownTrans HD0.out.gr hE.gr, HD0.out.hb⟩, hE.gr⟩
theorem own_oneT (w : World) {B : Nat} (hB : B ≤ w.heap.size) (t : STurn) : Own 5 STurn.enc 35 (w.alloc (.cells #[.int .i64 t.q, .int .i64 t.num, .int .i64 t.den, .int .i64 t.e, .int .i64 t.n] 35)) B (.slice (some ⟨w.heap.size, 0, none⟩) 1 1) [t] :=
  Own.made (cs := #[.int .i64 t.q, .int .i64 t.num, .int .i64 t.den, .int .i64 t.e, .int .i64 t.n]) rfl hB (Blk.new _ _ _) rfl (by simp only [maxLen, List.length_singleton]; omega) (by
    intro j z hj hz c hc
    have hj0 : j = 0 := by simpa using hj
    subst hj0
    simp at hz
    subst hz
    have : c = 0 ∨ c = 1 ∨ c = 2 ∨ c = 3 ∨ c = 4 := by omega
    rcases this with rfl | rfl | rfl | rfl | rfl <;> rfl)
theorem own_adr {α : Type} {kk : Nat} {enc : α → Nat → Value} {e : TypeId} {w : World} {b : Nat} {v : Value} {xs : List α} (h : Own kk enc e w b v xs) (ha : ∃ gx, v.ownBlock = some gx) : ∃ gx c, v = .slice (some ⟨gx, 0, none⟩) xs.length c := by
  rcases h with ⟨rfl, rfl⟩ | ⟨gx, c, cs, rfl, _⟩
  · obtain ⟨gx, hg⟩ := ha; cases hg
  · exact ⟨gx, c, rfl⟩
theorem own_nn {α : Type} {kk : Nat} {enc : α → Nat → Value} {e : TypeId} {w : World} {b : Nat} {v : Value} {xs : List α} (h : Own kk enc e w b v xs) (hn : v ≠ .slice none 0 0) : ∃ gx, v.ownBlock = some gx := by
  rcases h with ⟨rfl, rfl⟩ | ⟨gx, c, cs, rfl, _⟩
  · exact absurd rfl hn
  · exact ⟨gx, rfl⟩
theorem own_adr1 {α : Type} {kk : Nat} {enc : α → Nat → Value} {e : TypeId} {w : World} {b : Nat} {v : Value} {xs : List α} (h : Own kk enc e w b v xs) (hp : 0 < xs.length) : ∃ gx, v.ownBlock = some gx := by
  rcases h with ⟨rfl, rfl⟩ | ⟨gx, c, cs, rfl, _⟩
  · simp at hp
  · exact ⟨gx, rfl⟩
theorem own_noT (w : World) {B : Nat} (hB : B ≤ w.heap.size) : Own 5 STurn.enc 35 (w.alloc (.cells #[] 35)) B (.slice (some ⟨w.heap.size, 0, none⟩) 0 0) ([] : List STurn) :=
  Own.made (cs := #[]) rfl hB (Blk.new _ _ _) rfl (by simp only [maxLen, List.length_nil]; omega) (by intro j z hj; simp at hj)
set_option maxRecDepth 100000 in
set_option maxHeartbeats 8000000 in
theorem chain_is (w0 w : World) (base g k : Nat) (A : Option Addr) (cap : Nat) (code : List Int) (hD : DS w0 base g A cap code k w) (hk : k + 400 < 2305843009213693952) :
    Calls Tryd.prog 78 #[.pointer (some ⟨g, 0, none⟩)] w fun e w' => ∃ (v : Value) (xs : List STurn), e = .returned v ∧ xs.length ≤ 10 ∧ (∃ gx, v.ownBlock = some gx) ∧ Own 5 STurn.enc 35 w' w.heap.size v xs ∧ DS w0 base g A cap code (k + 400) w' ∧ w.grownBy w' (some g) := by
  have hgw := hD.lt
  have HD0 := hide hD
  have HD := hide (DS.start hD.cur hD.sz); clear hD
  go_enter Tryd.func78, Tryd.ntmps78
  go_upto_region 2 with fail
  have HO := hide (own_noT w (Nat.le_refl w.heap.size))
  replace HD := hide (HD.out.alloc (.cells #[] 35))
  generalize w.alloc (.cells #[] 35) = w1 at *
  go_wp2_with fail
  refine (pickD 4 HD.out (by omega)).mono ?_; rintro e w2 ⟨x2, rfl, p2, q2, hD, hg⟩
  replace HO := hide (HD.out.own HO.out hg (by decide))
  replace HD := hide hD; clear hD hg
  obtain ⟨q, rfl⟩ : ∃ q : Nat, x2 = (q : Int) := ⟨x2.toNat, by omega⟩
  go_wp2_with fail
  go_loopw [3, 4] (fun s i wr => ∃ (j : Nat) (xs : List STurn), i = .int .i64 (j : Int) ∧ j ≤ 4 ∧ xs.length ≤ 4 - j ∧ (∃ gx, s.ownBlock = some gx) ∧ Own 5 STurn.enc 35 wr w.heap.size s xs ∧ DS w base g A cap code (k + 200 - 40 * j) wr) (fun _ i _ => (intOf i).toNat)
  case atStart => exact ⟨q, [], rfl, by omega, by simp, ⟨_, rfl⟩, HO.out, HD.out.le (by omega)⟩
  case round =>
    clear HO HD p2 q2
    obtain ⟨j, xs, rfl, hj5, hxl, hadr, ho, hD⟩ := hrel
    generalize wr = w10 at *
    obtain ⟨A7, cap7, rfl, _, _, _⟩ := ho.is
    have HO := hide ho; have HD := hide hD; clear ho hD
    by_cases hlt : (0 : Int) < j
    · go_wp2_with fail
      refine (gridTurn_is w _ base g _ A cap code HD.out (by omega)).mono ?_; rintro e w11 ⟨tt, rfl, hD, hg⟩
      replace HO := hide (HD.out.own HO.out hg (by decide))
      replace HD := hide hD; clear hD hg
      obtain ⟨jj, rfl⟩ : ∃ jj, j = jj + 1 := ⟨j - 1, by omega⟩
      obtain ⟨tq, tn, td, te, tm⟩ := tt
      simp only
      go_wp2_with (at_builtin; refine wpList_push1 (k := 5) (enc := STurn.enc) _ rfl _ _ 43 rfl 35 (.agg #[.int .i64 0, .int .i64 0, .int .i64 0, .int .i64 0, .int .i64 0]) 40 Tryd.underlying43 STurn.info rfl (by omega) (by omega) STurn.one w.heap.size _ (xs) rfl HO.out (⟨_, _, _, _, _⟩) _ rfl rfl (by omega) HD.out.gr.size (Below.refl w.heap.size w11) (Nat.le_refl _) rfl ?_; intro v1 w12 ho1 hb1 hg1)
      replace HD := hide (HD.out.push HO.out (Nat.le_refl _) hg1 (by decide)); replace HO := hide ho1; clear ho1 hb1 hg1
      go_wp2_with fail
      go_round
      case measure => (first | (simp [intOf]; done) | (simp [intOf] <;> omega))
      case rel => exact ⟨jj, xs ++ [_], by go_num, by omega, by simp; omega, own_adr1 HO.out (by simp), HO.out, HD.out.le (by omega)⟩
    · have hz : j = 0 := by omega
      subst hz
      go_wp2_with fail
      refine (oneD 32 HD.out (by omega)).mono ?_; rintro e w11 ⟨x11, rfl, hD, hg⟩
      replace HO := hide (HD.out.own HO.out hg (by decide))
      replace HD := hide hD; clear hD hg
      cases x11 with
      | false =>
        go_wp2_with fail
        go_ret
        exact ⟨_, xs, rfl, by omega, hadr, HO.out, ⟨(HD.out.le (by omega)).cur, grownTrans HD0.out.gr HD.out.gr, HD0.out.hb⟩, HD.out.gr⟩
      | true =>
        go_wp2_with fail
        go_loopw [3] (fun s wr => ∃ xs : List STurn, xs.length ≤ 6 ∧ (∃ gx, s.ownBlock = some gx) ∧ Own 5 STurn.enc 35 wr w.heap.size s xs ∧ DS w base g A cap code (k + 220 + 10 * xs.length) wr) (fun s _ => 20 - lenV s)
        case atStart => exact ⟨xs, by omega, hadr, HO.out, HD.out.le (by omega)⟩
        case round =>
          clear HO HD
          obtain ⟨xs, hx2, hadr, ho, hD⟩ := hrel
          generalize wr = w40 at *
          have hlv := own_lenV ho
          obtain ⟨A8, cap8, rfl, _, _, _⟩ := ho.is
          have HO := hide ho; have HD := hide hD; clear ho hD
          go_wp2_with fail
          refine (pickD 2 HD.out (by omega)).mono ?_; rintro e w41 ⟨x41, rfl, p41, q41, hD, hg⟩
          replace HO := hide (HD.out.own HO.out hg (by decide))
          replace HD := hide hD; clear hD hg
          by_cases hgo : (xs.length : Int) < 4 + x41
          · go_wp2_with (at_builtin; refine wpList_push1 (k := 5) (enc := STurn.enc) _ rfl _ _ 43 rfl 35 (.agg #[.int .i64 0, .int .i64 0, .int .i64 0, .int .i64 0, .int .i64 0]) 40 Tryd.underlying43 STurn.info rfl (by omega) (by omega) STurn.one w.heap.size _ (xs) rfl HO.out (⟨_, _, _, _, _⟩) _ rfl rfl (by omega) HD.out.gr.size (Below.refl w.heap.size w41) (Nat.le_refl _) rfl ?_; intro v1 w42 ho1 hb1 hg1)
            replace HD := hide (HD.out.push HO.out (Nat.le_refl _) hg1 (by decide)); replace HO := hide ho1; clear ho1 hb1 hg1
            have hlv2 := own_lenV HO.out
            go_wp2_with fail
            go_round
            case measure => (rw [List.length_append, List.length_singleton] at hlv2; simp [lenV] at *; omega)
            case rel => exact ⟨xs ++ [_], by simp; omega, own_adr1 HO.out (by simp), HO.out, HD.out.le (by simp; omega)⟩
          · go_wp2_with fail
            go_ret
            exact ⟨_, xs, rfl, by omega, hadr, HO.out, ⟨(HD.out.le (by omega)).cur, grownTrans HD0.out.gr HD.out.gr, HD0.out.hb⟩, HD.out.gr⟩
end Go.Proofs.YtplemibckjnbhaaDoor
