/- Contracts of PayFines, in impl and spec: the Lean function payV. Condition: the readers fit. -/
import Derived.Test.YtdbcilinoieabaaL3E
namespace Go.Proofs.Ytdbcilinoieabaa
open Go.RowKit Go.Lib
set_option linter.unusedVariables false
def payV (xs : List SReader) (id cents : Int) : List SReader × Int × Bool :=
  if goodR xs = true ∧ 0 ≤ findR xs id ∧ inB cents 1 10000 = true then
    (xs.set (findR xs id).toNat ⟨(SReader.at xs (findR xs id).toNat).ident, (SReader.at xs (findR xs id).toNat).name, (SReader.at xs (findR xs id).toNat).joined, (SReader.at xs (findR xs id).toNat).cls, (SReader.at xs (findR xs id).toNat).fines - min cents (SReader.at xs (findR xs id).toNat).fines⟩,
      cents - min cents (SReader.at xs (findR xs id).toNat).fines, true)
  else ([], 0, false)
theorem payV_no {xs : List SReader} {id cents : Int} (h : ¬ (goodR xs = true ∧ 0 ≤ findR xs id ∧ inB cents 1 10000 = true)) : payV xs id cents = ([], 0, false) := if_neg h
theorem payV_yes {xs : List SReader} {id cents : Int} (h : goodR xs = true ∧ 0 ≤ findR xs id ∧ inB cents 1 10000 = true) {k : Nat} (hk : findR xs id = (k : Int)) {y0 : Int} {y1 : ByteArray} {y2 y3 y4 : Int} (hy : SReader.at xs k = ⟨y0, y1, y2, y3, y4⟩) :
    payV xs id cents = (xs.set k ⟨y0, y1, y2, y3, y4 - min cents y4⟩, cents - min cents y4, true) := by
  unfold payV
  rw [if_pos h, hk, Int.toNat_natCast, hy]
/-- a reader that is found in a valid list -/
theorem found_k {xs : List SReader} {id : Int} (hg : goodR xs = true) (h : 0 ≤ findR xs id) : ∃ k, k < xs.length ∧ findR xs id = (k : Int) ∧ ∃ y0 y1 y2 y3 y4, SReader.at xs k = ⟨y0, y1, y2, y3, y4⟩ ∧ xs[k]? = some ⟨y0, y1, y2, y3, y4⟩ ∧ y0 = id ∧ SReader.okB ⟨y0, y1, y2, y3, y4⟩ = true := by
  rcases findR_cases xs id with ⟨h1, _⟩ | ⟨k, hk, hf, hi⟩
  · omega
  · have hok := (goodR_ok hg hk).1
    have hat := SReader.at_lt hk
    refine ⟨k, hk, hf, (SReader.at xs k).ident, (SReader.at xs k).name, (SReader.at xs k).joined, (SReader.at xs k).cls, (SReader.at xs k).fines, rfl, ?_, hi, hok⟩
    rw [List.getElem?_eq_getElem hk, ← hat]
set_option maxHeartbeats 2000000 in
set_option maxRecDepth 10000 in
theorem PayFines_is (v : Value) (xs : List SReader) (id cents : Int) (w : World) (h : Is 5 SReader.enc w v xs) (hw : ∀ z ∈ xs, z.wf) :
    Calls Try.prog 25 #[v, .int .i64 id, .int .i64 cents] w fun e w' => ∃ r, e = .returned (.tuple #[r, .int .i64 (payV xs id cents).2.1, .bool (payV xs id cents).2.2]) ∧ Own 5 SReader.enc 49 w' w.heap.size r (payV xs id cents).1 ∧ Below w.heap.size w w' := by
  have HF := hide (readerAt_any v xs id w h)
  have hA := fun W hi => AreReaders_is v xs W hi hw
  have HI := hide h
  by_cases hall : goodR xs = true ∧ 0 ≤ findR xs id ∧ inB cents 1 10000 = true
  · obtain ⟨hg, hf0, hic⟩ := hall
    have hlen := goodR_len hg
    obtain ⟨k, hk, hfk, y0, y1, y2, y3, y4, hat, hsome, hyid, hok⟩ := found_k hg hf0
    clear hyid
    have hpv := payV_yes ⟨hg, hf0, hic⟩ hfk hat
    rw [hpv]
    rw [hg] at hA
    obtain ⟨_, _, _, _, _, _, _, h40, h41⟩ := SReader.okB_iff.1 hok
    obtain ⟨hc0, hc1⟩ := inB_iff.1 hic
    have HA := hide hA; have HC := hide (fun W => isCents_any cents W); have HIC := hide hic; have HSOME := hide hsome
    rw [hfk] at HF
    clear hA hg hf0 hic hfk hat hpv hok hsome hw h
    have hk' : (k : Int) < xs.length := by omega
    go_enter Try.func25, Try.ntmps25
    go_wp2_with fail
    refine HF.out.mono ?_; rintro e w1 ⟨rfl, hb1⟩
    have I1 := hide (HI.out.below hb1 (Nat.le_refl _))
    go_wp2_with fail
    refine (HA.out _ I1.out).mono ?_; rintro e w2 ⟨rfl, hb2⟩
    have B2 := hide (bstep hb1 hb2 hb1.size)
    have I2 := hide (I1.out.below hb2 (Nat.le_refl _))
    clear hb1 hb2
    go_wp2_with fail
    refine (HC.out _).mono ?_; rintro e w3 ⟨rfl, rfl⟩
    rw [HIC.out]
    go_wp2_with fail
    refine (cloneR_any v xs w2 I2.out (by omega)).mono ?_; rintro e w3 ⟨r, rfl, ho, hb3⟩
    have B3 := hide (bstep B2.out hb3 B2.out.size)
    obtain ⟨g, cap, cs, rfl, hgb, hblk, hle, hcm, hs, hfi⟩ := own_blk ho (by omega)
    have HO := hide ho
    have qf := hblk.frozen (k * 5 + 4)
    have c4 : w3.cell? ⟨g, k * 5 + 4, none⟩ = some (.int .i64 y4) := by
      rw [hblk.cell, hfi k _ hk HSOME.out 4 (by omega)]; rfl
    have HS := hide (ho.set1 (c0 := 4) (a := k * 5 + 4) rfl (by omega) hk (⟨y0, y1, y2, y3, y4 - min cents y4⟩ : SReader) ⟨y0, y1, y2, y3, y4⟩ HSOME.out rfl (fun c hc hne => by rcases (show c = 0 ∨ c = 1 ∨ c = 2 ∨ c = 3 by omega) with rfl | rfl | rfl | rfl <;> rfl))
    have HBS := hide (B3.out.setCell (p := ⟨g, k * 5 + 4, none⟩) (Nat.le_trans B2.out.size hgb) (.int .i64 (y4 - min cents y4)))
    clear hblk hfi ho hb3
    have hmn : min cents y4 = min cents y4 := rfl
    go_wp2_with fail
    go_ret3
    exact ⟨_, rfl, HS.out.mono B2.out.size, HBS.out⟩
  · rw [payV_no hall]
    generalize goodR xs = gd at hall hA
    generalize findR xs id = kk at hall HF
    have HA := hide hA; have HC := hide (fun W => isCents_any cents W); clear hA
    generalize inB cents 1 10000 = ib at hall HC
    have HALL := hide hall; clear hall
    cases gd with
    | false =>
      go_enter Try.func25, Try.ntmps25
      go_wp2_with fail
      refine HF.out.mono ?_; rintro e w1 ⟨rfl, hb1⟩
      have I1 := hide (HI.out.below hb1 (Nat.le_refl _))
      go_wp2_with fail
      refine (HA.out _ I1.out).mono ?_; rintro e w2 ⟨rfl, hb2⟩
      have B2 := hide (bstep hb1 hb2 hb1.size)
      clear hb1 hb2
      go_wp2_with fail
      go_ret3
      exact ⟨_, rfl, Own.nil, B2.out⟩
    | true =>
      by_cases hk : kk < 0
      · go_enter Try.func25, Try.ntmps25
        go_wp2_with fail
        refine HF.out.mono ?_; rintro e w1 ⟨rfl, hb1⟩
        have I1 := hide (HI.out.below hb1 (Nat.le_refl _))
        go_wp2_with fail
        refine (HA.out _ I1.out).mono ?_; rintro e w2 ⟨rfl, hb2⟩
        have B2 := hide (bstep hb1 hb2 hb1.size)
        clear hb1 hb2
        go_wp2_with fail
        go_ret3
        exact ⟨_, rfl, Own.nil, B2.out⟩
      · cases ib with
        | true => exact absurd ⟨rfl, by omega, rfl⟩ HALL.out
        | false =>
          go_enter Try.func25, Try.ntmps25
          go_wp2_with fail
          refine HF.out.mono ?_; rintro e w1 ⟨rfl, hb1⟩
          have I1 := hide (HI.out.below hb1 (Nat.le_refl _))
          go_wp2_with fail
          refine (HA.out _ I1.out).mono ?_; rintro e w2 ⟨rfl, hb2⟩
          have B2 := hide (bstep hb1 hb2 hb1.size)
          clear hb1 hb2
          go_wp2_with fail
          refine (HC.out _).mono ?_; rintro e w3 ⟨rfl, rfl⟩
          go_wp2_with fail
          go_ret3
          exact ⟨_, rfl, Own.nil, B2.out⟩
theorem findGR_good {xs : List SReader} {id : Int} (h : goodR xs = true) : findGR xs id = findR xs id := by unfold findGR; rw [h]; rfl
theorem findGR_iff {xs : List SReader} {id : Int} : 0 ≤ findGR xs id ↔ (goodR xs = true ∧ 0 ≤ findR xs id) := by
  unfold findGR
  cases goodR xs <;> simp
set_option maxHeartbeats 2000000 in
set_option maxRecDepth 10000 in
theorem l3PayFines_is (v : Value) (xs : List SReader) (id cents : Int) (w : World) (h : Is 5 SReader.enc w v xs) (hw : ∀ z ∈ xs, z.wf) :
    Calls Try.prog 26 #[v, .int .i64 id, .int .i64 cents] w fun e w' => ∃ r, e = .returned (.tuple #[r, .int .i64 (payV xs id cents).2.1, .bool (payV xs id cents).2.2]) ∧ Own 5 SReader.enc 49 w' w.heap.size r (payV xs id cents).1 ∧ Below w.heap.size w w' := by
  have HF := hide (l3Find_is v xs id w h hw)
  have HI := hide h
  by_cases hall : goodR xs = true ∧ 0 ≤ findR xs id ∧ inB cents 1 10000 = true
  · obtain ⟨hg, hf0, hic⟩ := hall
    have hlen := goodR_len hg
    obtain ⟨k, hk, hfk, y0, y1, y2, y3, y4, hat, hsome, hyid, hok⟩ := found_k hg hf0
    clear hyid
    have hpv := payV_yes ⟨hg, hf0, hic⟩ hfk hat
    rw [hpv]
    obtain ⟨k0, k1, k2, k3, k4, k5, k6, h40, h41⟩ := SReader.okB_iff.1 hok
    obtain ⟨hc0, hc1⟩ := inB_iff.1 hic
    have hx : SReader.okB ⟨y0, y1, y2, y3, y4 - min cents y4⟩ = true := SReader.okB_iff.2 ⟨k0, k1, k2, k3, k4, k5, k6, by omega, by omega⟩
    have hgs := goodR_set hg hk hx (by rw [hat])
    have hwk : (⟨y0, y1, y2, y3, y4⟩ : SReader).wf := hw _ (List.mem_of_getElem? hsome)
    have hwx : (⟨y0, y1, y2, y3, y4 - min cents y4⟩ : SReader).wf := ⟨hwk.1, hwk.2.1, hwk.2.2.1, hwk.2.2.2.1, ident_fit (by simp only []; omega)⟩
    have HC := hide (fun W => l3Cents_any cents W); have HIC := hide hic; have HSOME := hide hsome; have HGS := hide hgs; have HWX := hide hwx; have HW := hide hw
    rw [findGR_good hg, hfk] at HF
    clear hg hf0 hic hfk hat hpv hok hsome hw h hgs hwx hwk hx k0 k1 k2 k3 k4 k5 k6
    have hk' : (k : Int) < xs.length := by omega
    go_enter Try.func26, Try.ntmps26
    go_wp2_with fail
    refine HF.out.mono ?_; rintro e w1 ⟨rfl, hb1⟩
    have I1 := hide (HI.out.below hb1 (Nat.le_refl _))
    have B1 := hide hb1
    clear hb1
    go_wp2_with fail
    refine (HC.out _).mono ?_; rintro e w2 ⟨rfl, rfl⟩
    rw [HIC.out]
    obtain ⟨A, cap, rfl, hr, _, _⟩ := I1.out
    obtain ⟨b, off, rfl, hb, c0, c1, c2, c3, c4⟩ := SReader.cells hr hk (Below.refl _ _)
    obtain ⟨hi', hget⟩ := List.getElem?_eq_some_iff.1 HSOME.out
    rw [hget] at c0 c1 c2 c3 c4
    simp only at c0 c1 c2 c3 c4
    clear hget hi' hr
    have HB0 := hide (Blk.new w1 49 #[.int .i64 y0, .string y1, .int .i64 y2, .int .i64 y3, .int .i64 y4])
    have B2 := hide (B1.out.alloc B1.out.size (.cells #[.int .i64 y0, .string y1, .int .i64 y2, .int .i64 y3, .int .i64 y4] 49))
    have I2 := hide (I1.out.below (below_alloc w1 (.cells #[.int .i64 y0, .string y1, .int .i64 y2, .int .i64 y3, .int .i64 y4] 49)) (Nat.le_refl _))
    have hs2 : w1.heap.size < (w1.alloc (.cells #[.int .i64 y0, .string y1, .int .i64 y2, .int .i64 y3, .int .i64 y4] 49)).heap.size := by simp
    have I3 := hide (fun u => I1.out.below ((below_alloc w1 (.cells #[.int .i64 y0, .string y1, .int .i64 y2, .int .i64 y3, .int .i64 y4] 49)).setCell (p := ⟨w1.heap.size, 4, none⟩) (Nat.le_refl _) u) (Nat.le_refl _))
    go_upto_region 5 with fail
    clear c0 c1 c2 c3 c4
    have hs1 := B1.out.size
    generalize w1.alloc (.cells #[.int .i64 y0, .string y1, .int .i64 y2, .int .i64 y3, .int .i64 y4] 49) = w2 at *
    generalize hb1 : w1.heap.size = g at *
    obtain ⟨t0, t1, t2, t3, t4⟩ := cells5 HB0.out
    have tf := fun o => HB0.out.frozen o
    go_wp2_with (go_at_call 97; refine (l1Least_any _ _ _).mono ?_; rintro e w' ⟨rfl, rfl⟩)
    have HB3 := hide (HB0.out.set 4 (.int .i64 (y4 - min cents y4)))
    have B3 := hide (B2.out.setCell (p := ⟨g, 4, none⟩) hs1 (.int .i64 (y4 - min cents y4)))
    have I4 := hide (I3.out (.int .i64 (y4 - min cents y4)))
    clear t0 t1 t2 t3 t4 tf
    obtain ⟨t0, t1, t2, t3, t4⟩ := cells5 HB3.out
    go_wp2_with fail
    refine (l3With_any _ xs k y0 y1 y2 y3 (y4 - min cents y4) _ I4.out HW.out HWX.out hk hlen HGS.out).mono ?_; rintro e w4 ⟨r, rfl, ho, hb4⟩
    have B4 := hide (bstep B3.out hb4 B3.out.size)
    have HO4 := hide (ho.mono B3.out.size)
    clear ho hb4
    go_wp2_with fail
    go_ret3
    exact ⟨_, rfl, HO4.out, B4.out⟩
  · rw [payV_no hall]
    have hall2 : ¬ (0 ≤ findGR xs id ∧ inB cents 1 10000 = true) := fun h => hall ⟨(findGR_iff.1 h.1).1, (findGR_iff.1 h.1).2, h.2⟩
    clear hall
    generalize findGR xs id = kk at hall2 HF
    have HC := hide (fun W => l3Cents_any cents W)
    generalize inB cents 1 10000 = ib at hall2 HC
    have HALL := hide hall2; clear hall2
    by_cases hk : kk < 0
    · go_enter Try.func26, Try.ntmps26
      go_wp2_with fail
      refine HF.out.mono ?_; rintro e w1 ⟨rfl, hb1⟩
      have B1 := hide hb1
      clear hb1
      go_wp2_with fail
      go_ret3
      exact ⟨_, rfl, own_emptyR w1 B1.out.size, B1.out.alloc B1.out.size _⟩
    · cases ib with
      | true => exact absurd ⟨by omega, rfl⟩ HALL.out
      | false =>
        go_enter Try.func26, Try.ntmps26
        go_wp2_with fail
        refine HF.out.mono ?_; rintro e w1 ⟨rfl, hb1⟩
        have B1 := hide hb1
        clear hb1
        go_wp2_with fail
        refine (HC.out _).mono ?_; rintro e w3 ⟨rfl, rfl⟩
        go_wp2_with fail
        go_ret3
        exact ⟨_, rfl, own_emptyR w1 B1.out.size, B1.out.alloc B1.out.size _⟩
end Go.Proofs.Ytdbcilinoieabaa
