/- Spoilt texts, and the drawing functions of FnSheets. No condition beyond a cursor that has stepped less than 2^60 times. (Printed by mkshd.py.) -/
import Derived.Test.YtplemibckjnbhaaGreatDoorD2C
import Derived.Test.YtplemibckjnbhaaGreatDoorL2T
namespace Go.Proofs.YtplemibckjnbhaaGreatDoor
open Go.RowKit
set_option linter.unusedVariables false
set_option maxRecDepth 100000 in
set_option maxHeartbeats 4000000 in
theorem spoilt_is (w0 w : World) (base g k : Nat) (A : Option Addr) (cap : Nat) (code : List Int) (hD : DS w0 base g A cap code k w) (s q : ByteArray) (hs : s.size ≤ 3000) (hq : 1 ≤ q.size) (hq2 : q.size ≤ 100) (hk : k + 10 < 2305843009213693952) :
    Calls Tryz.prog 56 #[.pointer (some ⟨g, 0, none⟩), .string s, .string q] w fun e w' => ∃ t : ByteArray, e = .returned (.string t) ∧ t.size ≤ s.size + 1 ∧ DS w0 base g A cap code (k + 10) w' ∧ w.grownBy w' (some g) := by
  have hgw := hD.lt
  have HD0 := hide hD
  have HD := hide (DS.start hD.cur hD.sz); clear hD
  by_cases hz : s.size = 0
  · have he : s = ⟨#[]⟩ := by
      have h0 : s.data.toList.length = 0 := hz
      cases s; simp_all
    subst he
    have he2 : (⟨#[]⟩ : ByteArray).toList.isEmpty = true := by rw [ByteArray.toList_eq]; rfl
    have hsz : (q.extract 0 1).size ≤ 1 := by rw [ByteArray.size_extract]; omega
    have HSZ := hide hsz; clear hsz hz
    go_enter Tryz.func56, Tryz.ntmps56
    go_wp2_with fail
    go_ret
    exact ⟨_, rfl, by have := HSZ.out; omega, ⟨(HD.out.le (by omega)).cur, grownTrans HD0.out.gr HD.out.gr, HD0.out.hb⟩, HD.out.gr⟩
  · have hne : s.toList.isEmpty = false := by
      rw [ByteArray.toList_eq]
      cases hl : s.data.toList with
      | nil => exact absurd (show s.data.toList.length = 0 by rw [hl]; rfl) hz
      | cons _ _ => rfl
    go_enter Tryz.func56, Tryz.ntmps56
    go_wp2_with fail
    refine (pickD (s.size : Int) HD.out (by omega)).mono ?_; rintro e w1 ⟨x1, rfl, p1, q1, hD, hg⟩
    replace HD := hide hD; clear hD hg
    obtain ⟨i, rfl⟩ : ∃ i : Nat, x1 = (i : Int) := ⟨x1.toNat, by omega⟩
    have hi : i < s.size := by omega
    go_wp2_with fail
    refine (pickD (q.size : Int) HD.out (by omega)).mono ?_; rintro e w2 ⟨x2, rfl, p2, q2, hD, hg⟩
    replace HD := hide hD; clear hD hg
    obtain ⟨j, rfl⟩ : ∃ j : Nat, x2 = (j : Int) := ⟨x2.toNat, by omega⟩
    have hj : j < q.size := by omega
    have hj1 : (q.extract j q.size).size = q.size - j := by rw [ByteArray.size_extract]; omega
    have hj2 : 1 ≤ (q.extract j q.size).size := by omega
    have hc : ((q.extract j q.size).extract 0 1).size = 1 := by rw [ByteArray.size_extract]; omega
    have a1 : (s.extract 0 i).size = i := by rw [ByteArray.size_extract]; omega
    have a2 : (s.extract i s.size).size = s.size - i := by rw [ByteArray.size_extract]; omega
    have a3 : (s.extract (i + 1) s.size).size = s.size - (i + 1) := by rw [ByteArray.size_extract]; omega
    clear p1 q1 p2 q2
    go_wp2_with fail
    refine (pickD 3 HD.out (by omega)).mono ?_; rintro e w3 ⟨x3, rfl, p3, q3, hD, hg⟩
    replace HD := hide hD; clear hD hg
    generalize (q.extract j q.size).extract 0 1 = c at *
    have b1 : ¬ 9223372036854775807 < (s.extract 0 i).size + c.size := by omega
    have b2 : ¬ 9223372036854775807 < (s.extract 0 i).size + c.size + (s.extract i s.size).size := by omega
    have b3 : ¬ 9223372036854775807 < (s.extract 0 i).size + c.size + (s.extract (i + 1) s.size).size := by omega
    have b4 : ¬ 9223372036854775807 < (s.extract 0 i).size + (s.extract (i + 1) s.size).size := by omega
    have d1 : (s.extract 0 i ++ c ++ s.extract i s.size).size ≤ s.size + 1 := by rw [ByteArray.size_append, ByteArray.size_append]; omega
    have d2 : (s.extract 0 i ++ c ++ s.extract (i + 1) s.size).size ≤ s.size + 1 := by rw [ByteArray.size_append, ByteArray.size_append]; omega
    have d3 : (s.extract 0 i ++ s.extract (i + 1) s.size).size ≤ s.size + 1 := by rw [ByteArray.size_append]; omega
    have D1 := hide d1; have D2 := hide d2; have D3 := hide d3; clear d1 d2 d3
    have hx : x3 = 0 ∨ x3 = 1 ∨ x3 = 2 := by omega
    clear p3 q3
    rcases hx with rfl | rfl | rfl
    · go_wp2_with fail
      go_region
      all_goals
        go_wp2_with fail
        go_ret
        exact ⟨_, rfl, D1.out, ⟨((HD.out.drew).le (by omega)).cur, grownTrans HD0.out.gr HD.out.drew.gr, HD0.out.hb⟩, HD.out.drew.gr⟩
    · go_wp2_with fail
      go_region
      all_goals
        go_wp2_with fail
        go_ret
        exact ⟨_, rfl, D2.out, ⟨((HD.out.drew).le (by omega)).cur, grownTrans HD0.out.gr HD.out.drew.gr, HD0.out.hb⟩, HD.out.drew.gr⟩
    · go_wp2_with fail
      go_region
      all_goals
        go_wp2_with fail
        go_ret
        exact ⟨_, rfl, D3.out, ⟨((HD.out.drew).le (by omega)).cur, grownTrans HD0.out.gr HD.out.drew.gr, HD0.out.hb⟩, HD.out.drew.gr⟩
theorem below5Q {w w' : World} {B g : Nat} (h : Below B w w') (hg : B ≤ g) (p q r s u : Value) : Below B w (((((w'.setCell ⟨g, 0, none⟩ p).setCell ⟨g, 1, none⟩ q).setCell ⟨g, 2, none⟩ r).setCell ⟨g, 3, none⟩ s).setCell ⟨g, 4, none⟩ u) := ((((h.setCell (p := ⟨g, 0, none⟩) hg p).setCell (p := ⟨g, 1, none⟩) hg q).setCell (p := ⟨g, 2, none⟩) hg r).setCell (p := ⟨g, 3, none⟩) hg s).setCell (p := ⟨g, 4, none⟩) hg u
theorem results_tmp4_s {fn : Func} {t u v x : Tmp} (h : fn.results = #[.tmp t, .tmp u, .tmp v, .tmp x]) (tmps : Array Value) (P : Program) (w : World) :
    (results fn tmps).run P w = .ok (.tuple #[tmps.getD t undef, tmps.getD u undef, tmps.getD v undef, tmps.getD x undef]) w := by
  simp [results, h]
set_option maxRecDepth 100000 in
set_option maxHeartbeats 4000000 in
theorem drawIsSheet_is (w : World) (v : Value) (A : Option Addr) (cap : Nat) (code : List Int) (h : Code w v A cap code) :
    Calls Tryz.prog 76 #[v] w fun e w' => ∃ z : SSheet, e = .returned (.agg #[.int .i64 z.id, .int .i64 z.row, .int .i64 z.col, .int .i64 z.scale, .int .i64 z.year]) ∧ Below w.heap.size w w' := by
  have hk := Blk.new w 50 #[.int .i64 0, .int .i64 0, .int .i64 0, .int .i64 0, .int .i64 0]
  have hbz := below_alloc w (.cells #[.int .i64 0, .int .i64 0, .int .i64 0, .int .i64 0, .int .i64 0] 50)
  have hcz := h.below hbz (Nat.le_refl _)
  have hgz : w.heap.size < (w.alloc (.cells #[.int .i64 0, .int .i64 0, .int .i64 0, .int .i64 0, .int .i64 0] 50)).heap.size := by simp
  generalize hwz : w.alloc (.cells #[.int .i64 0, .int .i64 0, .int .i64 0, .int .i64 0, .int .i64 0] 50) = wz at *
  obtain rfl := h.eq
  have HCZ := hide hcz; have HK := hide hk; have HZ := hide hbz; clear h hcz hk hbz
  go_enter Tryz.func76, Tryz.ntmps76
  go_upto_region 1 with fail
  (try simp only [hwz])
  clear hwz
  have HD := hide (DS.new HCZ.out)
  have hgw : wz.heap.size < (wz.alloc (.cells #[.slice A code.length cap, .int .i64 0, .int .u64 0] 83)).heap.size := by simp
  go_upto_region 2 with fail
  generalize hb0 : w.heap.size = b0 at *
  have HEQ := hide hb0
  generalize hgs : wz.heap.size = g at *
  generalize hw0 : wz.alloc (.cells #[.slice A code.length cap, .int .i64 0, .int .u64 0] 83) = w0 at *
  have HB0 := hide (Nat.le_of_lt hgw)
  go_wp2_with fail
  refine (amongD [1, 12, 999, 0, 1000] HD.out (by rfl) (by rfl) (by rfl) (by simp) (by simp) (by omega)).mono ?_; rintro e w1 ⟨x1, rfl, hm, hD, hg⟩
  replace HD := hide hD; clear hD hg
  have b1 := (by decide : ∀ x ∈ ([1, 12, 999, 0, 1000] : List Int), 0 ≤ x ∧ x ≤ 1000) _ hm; clear hm
  go_wp2_with fail
  refine (sheet_is w0 _ g g _ A cap code HD.out x1 ⟨by omega, by omega⟩ (by omega)).mono ?_; rintro e w2 ⟨⟨zi, zr, zc, zs, zy⟩, rfl, hf, hD, hg⟩
  replace HD := hide hD; clear hD hg hf b1
  have hend : Below g wz w2 := by subst hw0 hgs; exact HD.out.end
  have K1 := HK.out.below hend hgz
  have HBF := hide (HZ.out.trans (hend.mono (by omega))); clear hend
  obtain ⟨c0, c1, c2, c3, c4⟩ := mk5S K1
  have cf := fun o => K1.frozen o
  have HK1 := hide K1; clear K1
  go_wp2_with fail
  have hF := ((((HK1.out.set 0 (.int .i64 zi)).set 1 (.int .i64 zr)).set 2 (.int .i64 zc)).set 3 (.int .i64 zs)).set 4 (.int .i64 zy)
  have f0 := hF.cell 0; have f1 := hF.cell 1; have f2 := hF.cell 2; have f3 := hF.cell 3; have f4 := hF.cell 4
  simp at f0 f1 f2 f3 f4
  exact bodyPost_ret (v := .agg #[.int .i64 zi, .int .i64 zr, .int .i64 zc, .int .i64 zs, .int .i64 zy]) (by simp [results, Tryz.results76, go_sem, f0, f1, f2, f3, f4]) rfl ⟨⟨zi, zr, zc, zs, zy⟩, rfl, by rw [HEQ.out]; exact below5Q HBF.out (Nat.le_refl _) _ _ _ _ _⟩
set_option maxRecDepth 100000 in
set_option maxHeartbeats 4000000 in
theorem drawSheetText_is (w : World) (v : Value) (A : Option Addr) (cap : Nat) (code : List Int) (h : Code w v A cap code) :
    Calls Tryz.prog 26 #[v] w fun e w' => ∃ z : SSheet, e = .returned (.agg #[.int .i64 z.id, .int .i64 z.row, .int .i64 z.col, .int .i64 z.scale, .int .i64 z.year]) ∧ Below w.heap.size w w' := by
  have hk := Blk.new w 50 #[.int .i64 0, .int .i64 0, .int .i64 0, .int .i64 0, .int .i64 0]
  have hbz := below_alloc w (.cells #[.int .i64 0, .int .i64 0, .int .i64 0, .int .i64 0, .int .i64 0] 50)
  have hcz := h.below hbz (Nat.le_refl _)
  have hgz : w.heap.size < (w.alloc (.cells #[.int .i64 0, .int .i64 0, .int .i64 0, .int .i64 0, .int .i64 0] 50)).heap.size := by simp
  generalize hwz : w.alloc (.cells #[.int .i64 0, .int .i64 0, .int .i64 0, .int .i64 0, .int .i64 0] 50) = wz at *
  obtain rfl := h.eq
  have HCZ := hide hcz; have HK := hide hk; have HZ := hide hbz; clear h hcz hk hbz
  go_enter Tryz.func26, Tryz.ntmps26
  go_upto_region 1 with fail
  (try simp only [hwz])
  clear hwz
  generalize hb0 : w.heap.size = b0 at *
  have HEQ := hide hb0
  go_wp2_with fail
  refine (drawIsSheet_is wz _ A cap code HCZ.out).mono ?_; rintro e w1 ⟨⟨zi, zr, zc, zs, zy⟩, rfl, hend⟩
  have K1 := HK.out.below hend hgz
  have HBF := hide (HZ.out.trans (hend.mono (by omega))); clear hend
  obtain ⟨c0, c1, c2, c3, c4⟩ := mk5S K1
  have cf := fun o => K1.frozen o
  have HK1 := hide K1; clear K1
  go_wp2_with fail
  have hF := ((((HK1.out.set 0 (.int .i64 zi)).set 1 (.int .i64 zr)).set 2 (.int .i64 zc)).set 3 (.int .i64 zs)).set 4 (.int .i64 zy)
  have f0 := hF.cell 0; have f1 := hF.cell 1; have f2 := hF.cell 2; have f3 := hF.cell 3; have f4 := hF.cell 4
  simp at f0 f1 f2 f3 f4
  exact bodyPost_ret (v := .agg #[.int .i64 zi, .int .i64 zr, .int .i64 zc, .int .i64 zs, .int .i64 zy]) (by simp [results, Tryz.results26, go_sem, f0, f1, f2, f3, f4]) rfl ⟨⟨zi, zr, zc, zs, zy⟩, rfl, by rw [HEQ.out]; exact below5Q HBF.out (Nat.le_refl _) _ _ _ _ _⟩
set_option maxRecDepth 100000 in
set_option maxHeartbeats 4000000 in
theorem drawOnPaper_is (w : World) (v : Value) (A : Option Addr) (cap : Nat) (code : List Int) (h : Code w v A cap code) :
    Calls Tryz.prog 41 #[v] w fun e w' => ∃ (z : SSheet) (m : Int), e = .returned (.tuple #[.agg #[.int .i64 z.id, .int .i64 z.row, .int .i64 z.col, .int .i64 z.scale, .int .i64 z.year], .int .i64 m]) ∧ Below w.heap.size w w' := by
  have hk := Blk.new w 50 #[.int .i64 0, .int .i64 0, .int .i64 0, .int .i64 0, .int .i64 0]
  have hbz := below_alloc w (.cells #[.int .i64 0, .int .i64 0, .int .i64 0, .int .i64 0, .int .i64 0] 50)
  have hcz := h.below hbz (Nat.le_refl _)
  have hgz : w.heap.size < (w.alloc (.cells #[.int .i64 0, .int .i64 0, .int .i64 0, .int .i64 0, .int .i64 0] 50)).heap.size := by simp
  generalize hwz : w.alloc (.cells #[.int .i64 0, .int .i64 0, .int .i64 0, .int .i64 0, .int .i64 0] 50) = wz at *
  obtain rfl := h.eq
  have HCZ := hide hcz; have HK := hide hk; have HZ := hide hbz; clear h hcz hk hbz
  go_enter Tryz.func41, Tryz.ntmps41
  go_upto_region 1 with fail
  (try simp only [hwz])
  clear hwz
  have HD := hide (DS.new HCZ.out)
  have hgw : wz.heap.size < (wz.alloc (.cells #[.slice A code.length cap, .int .i64 0, .int .u64 0] 83)).heap.size := by simp
  go_upto_region 2 with fail
  generalize hb0 : w.heap.size = b0 at *
  have HEQ := hide hb0
  generalize hgs : wz.heap.size = g at *
  generalize hw0 : wz.alloc (.cells #[.slice A code.length cap, .int .i64 0, .int .u64 0] 83) = w0 at *
  have HB0 := hide (Nat.le_of_lt hgw)
  go_wp2_with fail
  refine (sheet_is w0 _ g g _ A cap code HD.out 12 ⟨by omega, by omega⟩ (by omega)).mono ?_; rintro e w1 ⟨⟨zi, zr, zc, zs, zy⟩, rfl, hf, hD, hg⟩
  replace HD := hide hD; clear hD hg hf
  go_wp2_with fail
  refine (amongD [1, 25, 1000, 7500, 1000000, 0, 1000001] HD.out (by rfl) (by rfl) (by rfl) (by simp) (by simp) (by omega)).mono ?_; rintro e w2 ⟨x2, rfl, hm, hD, hg⟩
  replace HD := hide hD; clear hD hg
  clear hm
  have hend : Below g wz w2 := by subst hw0 hgs; exact HD.out.end
  have K1 := HK.out.below hend hgz
  have HBF := hide (HZ.out.trans (hend.mono (by omega))); clear hend
  obtain ⟨c0, c1, c2, c3, c4⟩ := mk5S K1
  have cf := fun o => K1.frozen o
  have HK1 := hide K1; clear K1
  go_wp2_with fail
  have hF := ((((HK1.out.set 0 (.int .i64 zi)).set 1 (.int .i64 zr)).set 2 (.int .i64 zc)).set 3 (.int .i64 zs)).set 4 (.int .i64 zy)
  have f0 := hF.cell 0; have f1 := hF.cell 1; have f2 := hF.cell 2; have f3 := hF.cell 3; have f4 := hF.cell 4
  simp at f0 f1 f2 f3 f4
  exact bodyPost_ret (v := .tuple #[.agg #[.int .i64 zi, .int .i64 zr, .int .i64 zc, .int .i64 zs, .int .i64 zy], .int .i64 x2]) (by simp [results, Tryz.results41, go_sem, f0, f1, f2, f3, f4]) rfl ⟨⟨zi, zr, zc, zs, zy⟩, x2, rfl, by rw [HEQ.out]; exact below5Q HBF.out (Nat.le_refl _) _ _ _ _ _⟩
set_option maxRecDepth 100000 in
set_option maxHeartbeats 4000000 in
theorem drawParseSheet_is (w : World) (v : Value) (A : Option Addr) (cap : Nat) (code : List Int) (h : Code w v A cap code) :
    Calls Tryz.prog 31 #[v] w fun e w' => ∃ t : ByteArray, e = .returned (.string t) ∧ t.size ≤ 200 ∧ Below w.heap.size w w' := by
  have hD := DS.new h
  obtain rfl := h.eq
  have HD := hide hD; clear hD h
  have hgw : w.heap.size < (w.alloc (.cells #[.slice A code.length cap, .int .i64 0, .int .u64 0] 83)).heap.size := by simp
  go_enter Tryz.func31, Tryz.ntmps31
  go_upto_region 2 with fail
  generalize hgs : w.heap.size = g at *
  generalize hw0 : w.alloc (.cells #[.slice A code.length cap, .int .i64 0, .int .u64 0] 83) = w0 at *
  have HB0 := hide (Nat.le_of_lt hgw)
  go_wp2_with fail
  refine (amongD [1, 12, 999] HD.out (by rfl) (by rfl) (by rfl) (by simp) (by simp) (by omega)).mono ?_; rintro e w1 ⟨x1, rfl, hm, hD, hg⟩
  replace HD := hide hD; clear hD hg
  have b1 := (by decide : ∀ x ∈ ([1, 12, 999] : List Int), 0 ≤ x ∧ x ≤ 1000) _ hm; clear hm
  go_wp2_with fail
  refine (sheet_is w0 _ g g _ A cap code HD.out x1 ⟨by omega, by omega⟩ (by omega)).mono ?_; rintro e w2 ⟨⟨zi, zr, zc, zs, zy⟩, rfl, hf, hD, hg⟩
  replace HD := hide hD; clear hD hg hf b1
  have hK := Blk.new w2 50 #[.int .i64 zi, .int .i64 zr, .int .i64 zc, .int .i64 zs, .int .i64 zy]
  replace HD := hide (HD.out.alloc (.cells #[.int .i64 zi, .int .i64 zr, .int .i64 zc, .int .i64 zs, .int .i64 zy] 50))
  have HK := hide hK; clear hK
  go_upto_region 4 with fail
  generalize w2.alloc (.cells #[.int .i64 zi, .int .i64 zr, .int .i64 zc, .int .i64 zs, .int .i64 zy] 50) = w3 at *
  generalize w2.heap.size = b5 at *
  obtain ⟨c0, c1, c2, c3, c4⟩ := mk5S HK.out
  have ct := fun W => l2Sheet_any zi zr zc zs zy W
  cases hok : SSheet.okB ⟨zi, zr, zc, zs, zy⟩ with
  | false =>
    rw [hok] at ct
    have CT := hide ct; clear ct hok
    have hz : (⟨#[49, 50, 58, 32, 114, 51, 32, 99, 52, 32, 49, 58, 53, 48, 48, 48, 48, 32, 49, 57, 56, 55]⟩ : ByteArray).size = 22 := rfl
    have HSZ := hide hz; clear hz
    go_wp2_with fail
    refine (CT.out _).mono ?_; rintro e w4 ⟨rfl, hb⟩
    replace HD := hide (HD.out.below hb); replace HK := hide (HK.out.below hb HK.out.lt)
    clear hb c0 c1 c2 c3 c4
    obtain ⟨c0, c1, c2, c3, c4⟩ := mk5S HK.out
    clear HK c0 c1 c2 c3 c4
    go_wp2_with fail
    refine (oneD 4 HD.out (by omega)).mono ?_; rintro e w8 ⟨x8, rfl, hD, hg⟩
    replace HD := hide hD; clear hD hg
    cases x8 with
    | false =>
      go_wp2_with fail
      go_ret
      subst hw0 hgs
      exact ⟨_, rfl, by have := HSZ.out; omega, HD.out.end⟩
    | true =>
      go_wp2_with fail
      refine (spoilt_is w0 _ g g _ A cap code HD.out ⟨#[49, 50, 58, 32, 114, 51, 32, 99, 52, 32, 49, 58, 53, 48, 48, 48, 48, 32, 49, 57, 56, 55]⟩ ⟨#[58, 114, 99, 32, 48, 49, 53]⟩ (by have := HSZ.out; omega) (by decide) (by decide) (by omega)).mono ?_; rintro e w9 ⟨tt, rfl, htt, hD, hg⟩
      replace HD := hide hD; have HTT := hide htt; clear hD hg htt
      go_wp2_with fail
      go_ret
      subst hw0 hgs
      exact ⟨tt, rfl, by have := HTT.out; have := HSZ.out; omega, HD.out.end⟩
  | true =>
    rw [hok] at ct
    have hv := SSheet.okB_iff.1 hok
    have cx := fun W => l2Text_is zi zr zc zs zy W (by omega) (by omega) (by omega) (by omega) (by omega)
    have hz : (sheetT ⟨zi, zr, zc, zs, zy⟩).size ≤ 150 := by
      have z0 := num_sz (n := zi) (by omega) (by omega); have z1 := num_sz (n := zr) (by omega) (by omega); have z2 := num_sz (n := zc) (by omega) (by omega); have z3 := num_sz (n := zs) (by omega) (by omega); have z4 := num_sz (n := zy) (by omega) (by omega)
      unfold sheetT
      simp only [ByteArray.size_append]
      show (numS zi).size + 3 + (numS zr).size + 2 + (numS zc).size + 3 + (numS zs).size + 4 + (numS zy).size ≤ 150
      omega
    generalize sheetT ⟨zi, zr, zc, zs, zy⟩ = tx at *
    have CT := hide ct; have CX := hide cx; have HSZ := hide hz; clear ct cx hz hv hok
    go_wp2_with fail
    refine (CT.out _).mono ?_; rintro e w4 ⟨rfl, hb⟩
    replace HD := hide (HD.out.below hb); replace HK := hide (HK.out.below hb HK.out.lt)
    clear hb c0 c1 c2 c3 c4
    obtain ⟨c0, c1, c2, c3, c4⟩ := mk5S HK.out
    go_wp2_with fail
    refine (CX.out _).mono ?_; rintro e w5 ⟨rfl, hb⟩
    replace HD := hide (HD.out.below hb); replace HK := hide (HK.out.below hb HK.out.lt)
    clear hb c0 c1 c2 c3 c4
    obtain ⟨c0, c1, c2, c3, c4⟩ := mk5S HK.out
    clear HK c0 c1 c2 c3 c4
    go_wp2_with fail
    refine (oneD 4 HD.out (by omega)).mono ?_; rintro e w8 ⟨x8, rfl, hD, hg⟩
    replace HD := hide hD; clear hD hg
    cases x8 with
    | false =>
      go_wp2_with fail
      go_ret
      subst hw0 hgs
      exact ⟨_, rfl, by have := HSZ.out; omega, HD.out.end⟩
    | true =>
      go_wp2_with fail
      refine (spoilt_is w0 _ g g _ A cap code HD.out tx ⟨#[58, 114, 99, 32, 48, 49, 53]⟩ (by have := HSZ.out; omega) (by decide) (by decide) (by omega)).mono ?_; rintro e w9 ⟨tt, rfl, htt, hD, hg⟩
      replace HD := hide hD; have HTT := hide htt; clear hD hg htt
      go_wp2_with fail
      go_ret
      subst hw0 hgs
      exact ⟨tt, rfl, by have := HTT.out; have := HSZ.out; omega, HD.out.end⟩
set_option maxRecDepth 100000 in
set_option maxHeartbeats 4000000 in
theorem drawSheetAt_is (w : World) (v : Value) (A : Option Addr) (cap : Nat) (code : List Int) (h : Code w v A cap code) :
    Calls Tryz.prog 33 #[v] w fun e w' => ∃ (v : Value) (xs : List SSheet) (row col scale : Int), e = .returned (.tuple #[v, .int .i64 row, .int .i64 col, .int .i64 scale]) ∧ (∀ z ∈ xs, z.Fit) ∧ xs.length ≤ 13 ∧ Own 5 SSheet.enc 50 w' w.heap.size v xs ∧ Below w.heap.size w w' := by
  have hD := DS.new h
  obtain rfl := h.eq
  have HD := hide hD; clear hD h
  have hgw : w.heap.size < (w.alloc (.cells #[.slice A code.length cap, .int .i64 0, .int .u64 0] 83)).heap.size := by simp
  go_enter Tryz.func33, Tryz.ntmps33
  go_wp2_with fail
  generalize hgs : w.heap.size = g at *
  generalize hw0 : w.alloc (.cells #[.slice A code.length cap, .int .i64 0, .int .u64 0] 83) = w0 at *
  have HB0 := hide (Nat.le_of_lt hgw)
  have HGS := hide HD.out.gr.size
  refine (sheets_is w0 _ g g _ A cap code HD.out (by omega)).mono ?_; rintro e w1 ⟨v1, xs, rfl, hfit, hl, ho, hD, hg⟩
  replace HD := hide hD; clear hD hg
  have HX := hide (ownLow ho HGS.out); clear ho HGS
  have HWF := hide hfit; clear hfit
  obtain ⟨A7, c7, rfl, _, _, _⟩ := HX.out.is
  by_cases hz : xs.length = 0
  · have hz1 : ¬ (0 : Int) < xs.length := by omega
    clear hz
    go_wp2_with fail
    refine (amongD [0, 1, 2, 100] HD.out (by rfl) (by rfl) (by rfl) (by simp) (by simp) (by omega)).mono ?_; rintro e w5 ⟨x5, rfl, hm, hD, hg⟩
    replace HX := hide (HD.out.own HX.out hg (by decide)); replace HD := hide hD; clear hD hg
    clear hm
    go_wp2_with fail
    refine (amongD [0, 1, 2] HD.out (by rfl) (by rfl) (by rfl) (by simp) (by simp) (by omega)).mono ?_; rintro e w6 ⟨x6, rfl, hm, hD, hg⟩
    replace HX := hide (HD.out.own HX.out hg (by decide)); replace HD := hide hD; clear hD hg
    clear hm
    go_wp2_with fail
    refine (scaleOf_is w0 _ g g _ A cap code HD.out _ _ _ HX.out HWF.out (by omega) (by omega)).mono ?_; rintro e w7 ⟨x7, rfl, hx7, hD, hg⟩
    replace HX := hide (HD.out.own HX.out hg (by decide)); replace HD := hide hD; clear hD hg hx7
    go_wp2_with fail
    (try simp only [Exit.inBlock, Exit.then]); refine bodyPost_ret (results_tmp4_s rfl _ _ _) rfl ?_
    subst hw0 hgs
    exact ⟨_, _, _, _, _, rfl, HWF.out, hl, ownLow HX.out HB0.out, HD.out.end⟩
  · have hz1 : (0 : Int) < xs.length := by omega
    go_wp2_with fail
    refine (oneD 4 HD.out (by omega)).mono ?_; rintro e w2 ⟨x1, rfl, hD, hg⟩
    replace HX := hide (HD.out.own HX.out hg (by decide)); replace HD := hide hD; clear hD hg
    cases x1 with
    | true =>
      go_wp2_with fail
      refine (amongD [0, 1, 2, 100] HD.out (by rfl) (by rfl) (by rfl) (by simp) (by simp) (by omega)).mono ?_; rintro e w5 ⟨x5, rfl, hm, hD, hg⟩
      replace HX := hide (HD.out.own HX.out hg (by decide)); replace HD := hide hD; clear hD hg
      clear hm
      go_wp2_with fail
      refine (amongD [0, 1, 2] HD.out (by rfl) (by rfl) (by rfl) (by simp) (by simp) (by omega)).mono ?_; rintro e w6 ⟨x6, rfl, hm, hD, hg⟩
      replace HX := hide (HD.out.own HX.out hg (by decide)); replace HD := hide hD; clear hD hg
      clear hm
      go_wp2_with fail
      refine (scaleOf_is w0 _ g g _ A cap code HD.out _ _ _ HX.out HWF.out (by omega) (by omega)).mono ?_; rintro e w7 ⟨x7, rfl, hx7, hD, hg⟩
      replace HX := hide (HD.out.own HX.out hg (by decide)); replace HD := hide hD; clear hD hg hx7
      go_wp2_with fail
      (try simp only [Exit.inBlock, Exit.then]); refine bodyPost_ret (results_tmp4_s rfl _ _ _) rfl ?_
      subst hw0 hgs
      exact ⟨_, _, _, _, _, rfl, HWF.out, hl, ownLow HX.out HB0.out, HD.out.end⟩
    | false =>
      go_wp2_with fail
      refine (pickD (xs.length : Int) HD.out (by omega)).mono ?_; rintro e w3 ⟨x2, rfl, p2, q2, hD, hg⟩
      replace HX := hide (HD.out.own HX.out hg (by decide)); replace HD := hide hD; clear hD hg
      obtain ⟨q, rfl⟩ : ∃ q : Nat, x2 = (q : Int) := ⟨x2.toNat, by omega⟩
      have hq : q < xs.length := by omega
      have hq' : (q : Int) < xs.length := by omega
      obtain ⟨A8, c8, he8, hr8, _, _⟩ := HX.out.is
      injection he8 with e1 e2 e3; subst e1 e3; clear e2
      obtain ⟨b8, off8, rfl, _, f0, f1, f2, f3, f4⟩ := SSheet.cells hr8 hq (Below.refl _ _)
      clear hr8
      generalize xs[q] = yy at *
      obtain ⟨yid, row, col, sc, yyear⟩ := yy
      simp only at f0 f1 f2 f3 f4
      have HT := hide (Blk.new w3 50 #[.int .i64 yid, .int .i64 row, .int .i64 col, .int .i64 sc, .int .i64 yyear])
      replace HX := hide (HX.out.below (below_alloc w3 (.cells #[.int .i64 yid, .int .i64 row, .int .i64 col, .int .i64 sc, .int .i64 yyear] 50)))
      replace HD := hide (HD.out.alloc (.cells #[.int .i64 yid, .int .i64 row, .int .i64 col, .int .i64 sc, .int .i64 yyear] 50))
      go_upto_region 5 with fail
      clear f0 f1 f2 f3 f4 hz hz1 p2 q2 hq hq'
      generalize w3.alloc (.cells #[.int .i64 yid, .int .i64 row, .int .i64 col, .int .i64 sc, .int .i64 yyear] 50) = w4 at *
      generalize w3.heap.size = b7 at *
      obtain ⟨t0, t1, t2, t3, t4⟩ := mk5S HT.out
      go_region
      all_goals
        go_wp2_with fail
        (try simp only [Exit.inBlock, Exit.then]); refine bodyPost_ret (results_tmp4_s rfl _ _ _) rfl ?_
        subst hw0 hgs
        exact ⟨_, _, _, _, _, rfl, HWF.out, hl, ownLow (HX.out.below (Below.refl _ _).drew) HB0.out, HD.out.drew.end⟩
end Go.Proofs.YtplemibckjnbhaaGreatDoor
