/- Contracts of SheetAt and OnPaper in impl and spec: the Lean functions shAtV and paperV. No condition. (Printed by mkshat.py.) -/
import Derived.Test.YtplemibckjnbhaaGreatDoorL2C
import Derived.Test.YtplemibckjnbhaaGreatDoorLFr
namespace Go.Proofs.YtplemibckjnbhaaGreatDoor
open Go.RowKit
set_option linter.unusedVariables false
def shAtV (xs : List SSheet) (row col scale : Int) : Int × Bool := if goodS xs = true ∧ 0 ≤ atV xs row col scale then ((SSheet.at xs (atV xs row col scale).toNat).id, true) else (0, false)
def paperV (z : SSheet) (m : Int) : Int × Int × Bool := if z.okB = true ∧ (1 ≤ m ∧ m ≤ 1000000) then ((frac m z.scale).1, (frac m z.scale).2, true) else (0, 0, false)
theorem results_tmp3_p {fn : Func} {t u v : Tmp} (h : fn.results = #[.tmp t, .tmp u, .tmp v]) (tmps : Array Value) (P : Program) (w : World) :
    (results fn tmps).run P w = .ok (.tuple #[tmps.getD t undef, tmps.getD u undef, tmps.getD v undef]) w := by
  simp [results, h]
set_option maxHeartbeats 2000000 in
theorem SheetAtI_is (v : Value) (xs : List SSheet) (row col scale : Int) (w : World) (h : Is 5 SSheet.enc w v xs) :
    Calls Tryz.prog 34 #[v, .int .i64 row, .int .i64 col, .int .i64 scale] w fun e w' => e = .returned (.tuple #[.int .i64 (shAtV xs row col scale).1, .bool (shAtV xs row col scale).2]) ∧ Below w.heap.size w w' := by
  obtain ⟨nv, hnv⟩ : ∃ nv, nv = shAtV xs row col scale := ⟨_, rfl⟩
  rw [← hnv]
  have hno : ¬ (goodS xs = true ∧ 0 ≤ atV xs row col scale) → nv = (0, false) := fun h => by rw [hnv]; exact if_neg h
  have hyes : goodS xs = true → 0 ≤ atV xs row col scale → nv = ((SSheet.at xs (atV xs row col scale).toNat).id, true) := fun h1 h2 => by rw [hnv]; exact if_pos ⟨h1, h2⟩
  have hcs := atV_cases xs row col scale
  have HI := hide h
  have hat := fun W hi => sheetOn_any v xs row col scale W hi
  have hgc := fun W hi => AreSheets_is v xs W hi
  generalize atV xs row col scale = at_ at *
  have HAT := hide hat; have HG := hide hgc; have HNO := hide hno; have HYES := hide hyes; have HCS := hide hcs
  clear hat hgc hno hyes hcs hnv h
  generalize hB : w.heap.size = B
  go_enter Tryz.func34, Tryz.ntmps34
  go_wp2_with fail
  refine (HAT.out _ HI.out).mono ?_; rintro e w2 ⟨rfl, hb⟩
  have HI2 := hide (HI.out.below hb (Nat.le_refl _))
  have hs2 : B ≤ w2.heap.size := by have := hb.size; omega
  have HB2 := hide (show Below B w w2 by rw [← hB]; exact hb)
  clear hb
  have HGG := hide (HG.out _ HI2.out); clear HG
  cases hg : goodS xs with
  | false =>
    rw [hg] at HGG
    have hx := HNO.out (by rw [hg]; simp)
    subst hx
    clear hg
    go_wp2_with fail
    refine HGG.out.mono ?_; rintro e w3 ⟨rfl, hb⟩
    have HB3 := hide (HB2.out.trans (hb.mono hs2)); clear hb
    go_wp2_with fail
    go_ret2
    exact ⟨rfl, HB3.out⟩
  | true =>
    rw [hg] at HGG
    by_cases hk : at_ < 0
    · have hx := HNO.out (by omega)
      subst hx
      clear hg
      go_wp2_with fail
      refine HGG.out.mono ?_; rintro e w3 ⟨rfl, hb⟩
      have HB3 := hide (HB2.out.trans (hb.mono hs2)); clear hb
      go_wp2_with fail
      go_ret2
      exact ⟨rfl, HB3.out⟩
    · have hx := HYES.out hg (by omega)
      obtain ⟨k, hkl, hke⟩ : ∃ k, k < xs.length ∧ at_ = (k : Int) := by
        rcases HCS.out with ⟨h1, _⟩ | ⟨k, h1, h2, _⟩
        · omega
        · exact ⟨k, h1, h2⟩
      subst hke
      rw [Int.toNat_natCast, SSheet.at_lt hkl] at hx
      have HX := hide hx
      clear hg hx HCS HNO HYES hk
      go_wp2_with fail
      refine HGG.out.mono ?_; rintro e w3 ⟨rfl, hb⟩
      have HI3 := hide (HI2.out.below hb (Nat.le_refl _)); have HB3 := hide (HB2.out.trans (hb.mono hs2)); clear hb
      obtain ⟨A, cap, rfl, hr, _, _⟩ := HI3.out
      have hkl2 : (k : Int) < xs.length := by omega
      obtain ⟨b, off, rfl, hbb, c0, c1, c2, c3, c4⟩ := SSheet.cells hr hkl (Below.refl _ _)
      clear hr
      generalize xs[k].id = yid at *
      go_wp2_with fail
      go_ret2
      exact ⟨by rw [HX.out]; rfl, HB3.out⟩
set_option maxHeartbeats 2000000 in
theorem SheetAtS_is (v : Value) (xs : List SSheet) (row col scale : Int) (w : World) (h : Is 5 SSheet.enc w v xs) :
    Calls Tryz.prog 35 #[v, .int .i64 row, .int .i64 col, .int .i64 scale] w fun e w' => e = .returned (.tuple #[.int .i64 (shAtV xs row col scale).1, .bool (shAtV xs row col scale).2]) ∧ Below w.heap.size w w' := by
  obtain ⟨nv, hnv⟩ : ∃ nv, nv = shAtV xs row col scale := ⟨_, rfl⟩
  rw [← hnv]
  have hno : ¬ (goodS xs = true ∧ 0 ≤ atV xs row col scale) → nv = (0, false) := fun h => by rw [hnv]; exact if_neg h
  have hyes : goodS xs = true → 0 ≤ atV xs row col scale → nv = ((SSheet.at xs (atV xs row col scale).toNat).id, true) := fun h1 h2 => by rw [hnv]; exact if_pos ⟨h1, h2⟩
  have hcs := atV_cases xs row col scale
  have HI := hide h
  have hat := fun W hi => l2At_any v xs row col scale W hi
  have hgc := fun W hi => l2Sheets_is v xs W hi
  generalize atV xs row col scale = at_ at *
  have HAT := hide hat; have HG := hide hgc; have HNO := hide hno; have HYES := hide hyes; have HCS := hide hcs
  clear hat hgc hno hyes hcs hnv h
  generalize hB : w.heap.size = B
  go_enter Tryz.func35, Tryz.ntmps35
  go_wp2_with fail
  refine (HAT.out _ HI.out).mono ?_; rintro e w2 ⟨rfl, rfl⟩
  have HI2 := HI
  have HB2 := hide (show Below B w w by rw [← hB]; exact Below.refl _ _)
  have hs2 : B ≤ w.heap.size := by omega
  have HGG := hide (HG.out _ HI2.out); clear HG
  cases hg : goodS xs with
  | false =>
    rw [hg] at HGG
    have hx := HNO.out (by rw [hg]; simp)
    subst hx
    clear hg
    go_wp2_with fail
    refine HGG.out.mono ?_; rintro e w3 ⟨rfl, hb⟩
    have HB3 := hide (HB2.out.trans (hb.mono hs2)); clear hb
    go_wp2_with fail
    go_ret2
    exact ⟨rfl, HB3.out⟩
  | true =>
    rw [hg] at HGG
    by_cases hk : at_ < 0
    · have hx := HNO.out (by omega)
      subst hx
      clear hg
      go_wp2_with fail
      refine HGG.out.mono ?_; rintro e w3 ⟨rfl, hb⟩
      have HB3 := hide (HB2.out.trans (hb.mono hs2)); clear hb
      go_wp2_with fail
      go_ret2
      exact ⟨rfl, HB3.out⟩
    · have hx := HYES.out hg (by omega)
      obtain ⟨k, hkl, hke⟩ : ∃ k, k < xs.length ∧ at_ = (k : Int) := by
        rcases HCS.out with ⟨h1, _⟩ | ⟨k, h1, h2, _⟩
        · omega
        · exact ⟨k, h1, h2⟩
      subst hke
      rw [Int.toNat_natCast, SSheet.at_lt hkl] at hx
      have HX := hide hx
      clear hg hx HCS HNO HYES hk
      go_wp2_with fail
      refine HGG.out.mono ?_; rintro e w3 ⟨rfl, hb⟩
      have HI3 := hide (HI2.out.below hb (Nat.le_refl _)); have HB3 := hide (HB2.out.trans (hb.mono hs2)); clear hb
      obtain ⟨A, cap, rfl, hr, _, _⟩ := HI3.out
      have hkl2 : (k : Int) < xs.length := by omega
      obtain ⟨b, off, rfl, hbb, c0, c1, c2, c3, c4⟩ := SSheet.cells hr hkl (Below.refl _ _)
      clear hr
      generalize xs[k].id = yid at *
      go_wp2_with fail
      go_ret2
      exact ⟨by rw [HX.out]; rfl, HB3.out⟩
set_option maxHeartbeats 2000000 in
theorem OnPaperI_is (a0 a1 a2 a3 a4 m : Int) (w : World) :
    Calls Tryz.prog 42 #[.agg #[.int .i64 a0, .int .i64 a1, .int .i64 a2, .int .i64 a3, .int .i64 a4], .int .i64 m] w fun e w' => e = .returned (.tuple #[.int .i64 (paperV ⟨a0, a1, a2, a3, a4⟩ m).1, .int .i64 (paperV ⟨a0, a1, a2, a3, a4⟩ m).2.1, .bool (paperV ⟨a0, a1, a2, a3, a4⟩ m).2.2]) ∧ Below w.heap.size w w' := by
  have hT := fun W => IsSheet_any a0 a1 a2 a3 a4 W
  have hI := fun W => within_any m 1 1000000 W
  have hno : ¬ (SSheet.okB ⟨a0, a1, a2, a3, a4⟩ = true ∧ (1 ≤ m ∧ m ≤ 1000000)) → paperV ⟨a0, a1, a2, a3, a4⟩ m = (0, 0, false) := fun h => if_neg h
  have hyes : (SSheet.okB ⟨a0, a1, a2, a3, a4⟩ = true ∧ (1 ≤ m ∧ m ≤ 1000000)) → paperV ⟨a0, a1, a2, a3, a4⟩ m = ((frac m a3).1, (frac m a3).2, true) := fun h => if_pos h
  have hii := @inB_iff m 1 1000000
  generalize paperV ⟨a0, a1, a2, a3, a4⟩ m = pv at *
  have hbe := below_alloc w (.cells #[.int .i64 a0, .int .i64 a1, .int .i64 a2, .int .i64 a3, .int .i64 a4] 50)
  have hk := Blk.new w 50 #[.int .i64 a0, .int .i64 a1, .int .i64 a2, .int .i64 a3, .int .i64 a4]
  generalize hw1 : w.alloc (.cells #[.int .i64 a0, .int .i64 a1, .int .i64 a2, .int .i64 a3, .int .i64 a4] 50) = w1 at *
  have hs1 : w.heap.size < w1.heap.size := by rw [← hw1]; simp
  generalize hgm : w.heap.size = B at *
  have HK := hide hk; have HB := hide hbe; have HT := hide hT; have HI := hide hI; clear hk hbe hT hI
  go_enter Tryz.func42, Tryz.ntmps42
  go_upto_region 1 with fail
  (try simp only [hgm, hw1])
  clear hw1
  obtain ⟨c0, c1, c2, c3, c4⟩ := mk5S HK.out
  cases hok : SSheet.okB ⟨a0, a1, a2, a3, a4⟩ with
  | false =>
    rw [hok] at HT
    have hx := hno (by rw [hok]; simp)
    subst hx
    clear hno hyes hii hok
    go_wp2_with fail
    refine (HT.out _).mono ?_; rintro e w2 ⟨rfl, hb⟩
    replace HK := hide (HK.out.below hb (by omega)); replace HB := hide (HB.out.trans (hb.mono (by omega)))
    have hs2 : B < w2.heap.size := by have := hb.size; omega
    clear hb c0 c1 c2 c3 c4
    obtain ⟨c0, c1, c2, c3, c4⟩ := mk5S HK.out
    go_wp2_with fail
    (try simp only [Exit.inBlock, Exit.then]); refine bodyPost_ret (results_tmp3_p rfl _ _ _) rfl ?_
    exact ⟨rfl, HB.out⟩
  | true =>
    rw [hok] at HT
    cases hin : inB m 1 1000000 with
    | false =>
      rw [hin] at HI
      have hx := hno (by rw [← hii, hin]; simp)
      subst hx
      clear hno hyes hii hok hin
      go_wp2_with fail
      refine (HT.out _).mono ?_; rintro e w2 ⟨rfl, hb⟩
      replace HK := hide (HK.out.below hb (by omega)); replace HB := hide (HB.out.trans (hb.mono (by omega)))
      have hs2 : B < w2.heap.size := by have := hb.size; omega
      clear hb c0 c1 c2 c3 c4
      obtain ⟨c0, c1, c2, c3, c4⟩ := mk5S HK.out
      go_wp2_with fail
      refine (HI.out _).mono ?_; rintro e w3 ⟨rfl, rfl⟩
      go_wp2_with fail
      (try simp only [Exit.inBlock, Exit.then]); refine bodyPost_ret (results_tmp3_p rfl _ _ _) rfl ?_
      exact ⟨rfl, HB.out⟩
    | true =>
      rw [hin] at HI
      have hmm := hii.1 hin
      have hx := hyes ⟨hok, hmm⟩
      have hv := SSheet.okB_iff.1 hok
      have hf := fun W => fraction4_any m a3 W (by omega) (by omega) (by omega) (by omega)
      generalize frac m a3 = fr at *
      obtain ⟨f1, f2⟩ := fr
      have HF := hide hf; have HX := hide hx
      clear hno hyes hii hok hin hf hx
      go_wp2_with fail
      refine (HT.out _).mono ?_; rintro e w2 ⟨rfl, hb⟩
      replace HK := hide (HK.out.below hb (by omega)); replace HB := hide (HB.out.trans (hb.mono (by omega)))
      have hs2 : B < w2.heap.size := by have := hb.size; omega
      clear hb c0 c1 c2 c3 c4
      obtain ⟨c0, c1, c2, c3, c4⟩ := mk5S HK.out
      go_wp2_with fail
      refine (HI.out _).mono ?_; rintro e w3 ⟨rfl, rfl⟩
      go_wp2_with fail
      refine (HF.out _).mono ?_; rintro e w4 ⟨rfl, hb⟩
      have HB4 := hide (HB.out.trans (hb.mono (by omega))); clear hb
      go_wp2_with fail
      (try simp only [Exit.inBlock, Exit.then]); refine bodyPost_ret (results_tmp3_p rfl _ _ _) rfl ?_
      exact ⟨by rw [HX.out]; rfl, HB4.out⟩
set_option maxHeartbeats 2000000 in
theorem OnPaperS_is (a0 a1 a2 a3 a4 m : Int) (w : World) :
    Calls Tryz.prog 43 #[.agg #[.int .i64 a0, .int .i64 a1, .int .i64 a2, .int .i64 a3, .int .i64 a4], .int .i64 m] w fun e w' => e = .returned (.tuple #[.int .i64 (paperV ⟨a0, a1, a2, a3, a4⟩ m).1, .int .i64 (paperV ⟨a0, a1, a2, a3, a4⟩ m).2.1, .bool (paperV ⟨a0, a1, a2, a3, a4⟩ m).2.2]) ∧ Below w.heap.size w w' := by
  have hT := fun W => l2Sheet_any a0 a1 a2 a3 a4 W
  have hI := fun W => l1In_any m 1 1000000 W
  have hno : ¬ (SSheet.okB ⟨a0, a1, a2, a3, a4⟩ = true ∧ (1 ≤ m ∧ m ≤ 1000000)) → paperV ⟨a0, a1, a2, a3, a4⟩ m = (0, 0, false) := fun h => if_neg h
  have hyes : (SSheet.okB ⟨a0, a1, a2, a3, a4⟩ = true ∧ (1 ≤ m ∧ m ≤ 1000000)) → paperV ⟨a0, a1, a2, a3, a4⟩ m = ((frac m a3).1, (frac m a3).2, true) := fun h => if_pos h
  have hii := @inB_iff m 1 1000000
  generalize paperV ⟨a0, a1, a2, a3, a4⟩ m = pv at *
  have hbe := below_alloc w (.cells #[.int .i64 a0, .int .i64 a1, .int .i64 a2, .int .i64 a3, .int .i64 a4] 50)
  have hk := Blk.new w 50 #[.int .i64 a0, .int .i64 a1, .int .i64 a2, .int .i64 a3, .int .i64 a4]
  generalize hw1 : w.alloc (.cells #[.int .i64 a0, .int .i64 a1, .int .i64 a2, .int .i64 a3, .int .i64 a4] 50) = w1 at *
  have hs1 : w.heap.size < w1.heap.size := by rw [← hw1]; simp
  generalize hgm : w.heap.size = B at *
  have HK := hide hk; have HB := hide hbe; have HT := hide hT; have HI := hide hI; clear hk hbe hT hI
  go_enter Tryz.func43, Tryz.ntmps43
  go_upto_region 1 with fail
  (try simp only [hgm, hw1])
  clear hw1
  obtain ⟨c0, c1, c2, c3, c4⟩ := mk5S HK.out
  cases hok : SSheet.okB ⟨a0, a1, a2, a3, a4⟩ with
  | false =>
    rw [hok] at HT
    have hx := hno (by rw [hok]; simp)
    subst hx
    clear hno hyes hii hok
    go_wp2_with fail
    refine (HT.out _).mono ?_; rintro e w2 ⟨rfl, hb⟩
    replace HK := hide (HK.out.below hb (by omega)); replace HB := hide (HB.out.trans (hb.mono (by omega)))
    have hs2 : B < w2.heap.size := by have := hb.size; omega
    clear hb c0 c1 c2 c3 c4
    obtain ⟨c0, c1, c2, c3, c4⟩ := mk5S HK.out
    go_wp2_with fail
    (try simp only [Exit.inBlock, Exit.then]); refine bodyPost_ret (results_tmp3_p rfl _ _ _) rfl ?_
    exact ⟨rfl, HB.out⟩
  | true =>
    rw [hok] at HT
    cases hin : inB m 1 1000000 with
    | false =>
      rw [hin] at HI
      have hx := hno (by rw [← hii, hin]; simp)
      subst hx
      clear hno hyes hii hok hin
      go_wp2_with fail
      refine (HT.out _).mono ?_; rintro e w2 ⟨rfl, hb⟩
      replace HK := hide (HK.out.below hb (by omega)); replace HB := hide (HB.out.trans (hb.mono (by omega)))
      have hs2 : B < w2.heap.size := by have := hb.size; omega
      clear hb c0 c1 c2 c3 c4
      obtain ⟨c0, c1, c2, c3, c4⟩ := mk5S HK.out
      go_wp2_with fail
      refine (HI.out _).mono ?_; rintro e w3 ⟨rfl, rfl⟩
      go_wp2_with fail
      (try simp only [Exit.inBlock, Exit.then]); refine bodyPost_ret (results_tmp3_p rfl _ _ _) rfl ?_
      exact ⟨rfl, HB.out⟩
    | true =>
      rw [hin] at HI
      have hmm := hii.1 hin
      have hx := hyes ⟨hok, hmm⟩
      have hv := SSheet.okB_iff.1 hok
      have hf := fun W => l2Reduce4_any m a3 W (by omega) (by omega) (by omega) (by omega)
      generalize frac m a3 = fr at *
      obtain ⟨f1, f2⟩ := fr
      have HF := hide hf; have HX := hide hx
      clear hno hyes hii hok hin hf hx
      go_wp2_with fail
      refine (HT.out _).mono ?_; rintro e w2 ⟨rfl, hb⟩
      replace HK := hide (HK.out.below hb (by omega)); replace HB := hide (HB.out.trans (hb.mono (by omega)))
      have hs2 : B < w2.heap.size := by have := hb.size; omega
      clear hb c0 c1 c2 c3 c4
      obtain ⟨c0, c1, c2, c3, c4⟩ := mk5S HK.out
      go_wp2_with fail
      refine (HI.out _).mono ?_; rintro e w3 ⟨rfl, rfl⟩
      go_wp2_with fail
      refine (HF.out _).mono ?_; rintro e w4 ⟨rfl, hb⟩
      have HB4 := hide (HB.out.trans (hb.mono (by omega))); clear hb
      go_wp2_with fail
      (try simp only [Exit.inBlock, Exit.then]); refine bodyPost_ret (results_tmp3_p rfl _ _ _) rfl ?_
      exact ⟨by rw [HX.out]; rfl, HB4.out⟩
end Go.Proofs.YtplemibckjnbhaaGreatDoor
