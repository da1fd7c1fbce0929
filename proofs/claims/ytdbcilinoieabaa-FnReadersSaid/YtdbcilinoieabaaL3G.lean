/- Contracts of RaiseClass, in impl and spec: the Lean function raiseV. Conditions: the readers fit; a small day. -/
import Derived.Test.YtdbcilinoieabaaL3F
namespace Go.Proofs.Ytdbcilinoieabaa
open Go.RowKit Go.Lib
set_option linter.unusedVariables false
def raiseV (xs : List SReader) (id day : Int) : List SReader × Bool :=
  if goodR xs = true ∧ 0 ≤ findR xs id ∧ inB day 0 4000 = true ∧ ripeB (SReader.at xs (findR xs id).toNat) day = true then
    (xs.set (findR xs id).toNat ⟨(SReader.at xs (findR xs id).toNat).ident, (SReader.at xs (findR xs id).toNat).name, (SReader.at xs (findR xs id).toNat).joined, (SReader.at xs (findR xs id).toNat).cls + 1, (SReader.at xs (findR xs id).toNat).fines⟩, true)
  else ([], false)
theorem raiseV_no {xs : List SReader} {id day : Int} (h : ¬ (goodR xs = true ∧ 0 ≤ findR xs id ∧ inB day 0 4000 = true ∧ ripeB (SReader.at xs (findR xs id).toNat) day = true)) : raiseV xs id day = ([], false) := if_neg h
theorem raiseV_yes {xs : List SReader} {id day : Int} (h1 : goodR xs = true) (h3 : inB day 0 4000 = true) {k : Nat} (hk : findR xs id = (k : Int)) {y0 : Int} {y1 : ByteArray} {y2 y3 y4 : Int} (hy : SReader.at xs k = ⟨y0, y1, y2, y3, y4⟩) (h4 : ripeB ⟨y0, y1, y2, y3, y4⟩ day = true) :
    raiseV xs id day = (xs.set k ⟨y0, y1, y2, y3 + 1, y4⟩, true) := by
  unfold raiseV
  rw [hk, Int.toNat_natCast, hy, if_pos ⟨h1, by omega, h3, h4⟩]
set_option maxHeartbeats 4000000 in
set_option maxRecDepth 10000 in
theorem RaiseClass_is (v : Value) (xs : List SReader) (id day : Int) (w : World) (h : Is 5 SReader.enc w v xs) (hw : ∀ z ∈ xs, z.wf) :
    Calls Try.prog 28 #[v, .int .i64 id, .int .i64 day] w fun e w' => ∃ r, e = .returned (.tuple #[r, .bool (raiseV xs id day).2]) ∧ Own 5 SReader.enc 49 w' w.heap.size r (raiseV xs id day).1 ∧ Below w.heap.size w w' := by
  have HF := hide (readerAt_any v xs id w h)
  have hA := fun W hi => AreReaders_is v xs W hi hw
  have HI := hide h
  by_cases hall : goodR xs = true ∧ 0 ≤ findR xs id ∧ inB day 0 4000 = true
  · obtain ⟨hg, hf0, hic⟩ := hall
    have hlen := goodR_len hg
    obtain ⟨k, hk, hfk, y0, y1, y2, y3, y4, hat, hsome, hyid, hok⟩ := found_k hg hf0
    clear hyid
    rw [hg] at hA
    obtain ⟨_, _, _, h20, h21, h30, h31, h40, h41⟩ := SReader.okB_iff.1 hok
    have HR := hide (fun W => isRipe_any y0 y1 y2 y3 y4 day W ⟨h20, h21⟩ ⟨h30, h31⟩)
    have hyes := raiseV_yes (id := id) hg hic hfk hat
    have hno := raiseV_no (xs := xs) (id := id) (day := day)
    rw [hfk, Int.toNat_natCast, hat] at hno
    have hle := fun (hr : ripeB ⟨y0, y1, y2, y3, y4⟩ day = true) => (of_decide_eq_true hr).1
    have HYES := hide hyes; have HNO := hide hno; have HLE := hide hle
    generalize ripeB ⟨y0, y1, y2, y3, y4⟩ day = rb at *
    generalize raiseV xs id day = rv at *
    have HA := hide hA; have HC := hide (fun W => isDay_any day W); have HIC := hide hic; have HSOME := hide hsome
    rw [hfk] at HF
    clear hA hg hf0 hic hfk hat hok hsome hw h hyes hno hle
    have hk' : (k : Int) < xs.length := by omega
    go_enter Try.func28, Try.ntmps28
    go_wp2_with fail
    refine HF.out.mono ?_; rintro e w1 ⟨rfl, hb1⟩
    have I1 := hide (HI.out.below hb1 (Nat.le_refl _))
    go_wp2_with fail
    refine (HA.out _ I1.out).mono ?_; rintro e w2 ⟨rfl, hb2⟩
    have B2 := hide (bstep hb1 hb2 hb1.size)
    have I2 := hide (I1.out.below hb2 (Nat.le_refl _))
    clear hb1 hb2
    go_wp2_with fail
    refine (HC.out _).mono ?_; rintro e w3 ⟨rfl, rfl⟩
    rw [HIC.out]
    obtain ⟨A, cap, rfl, hr, _, _⟩ := I2.out
    obtain ⟨b, off, rfl, hb, c0, c1, c2, c3, c4⟩ := SReader.cells hr hk (Below.refl _ _)
    obtain ⟨hi', hget⟩ := List.getElem?_eq_some_iff.1 HSOME.out
    rw [hget] at c0 c1 c2 c3 c4
    simp only at c0 c1 c2 c3 c4
    clear hget hi' hr
    go_wp2_with fail
    refine (HR.out _).mono ?_; rintro e w3 ⟨rfl, hb3⟩
    have B3 := hide (bstep B2.out hb3 B2.out.size)
    have I3 := hide (I2.out.below hb3 (Nat.le_refl _))
    clear hb3 c0 c1 c2 c3 c4
    cases rb with
    | false =>
      have hrv := HNO.out (by simp)
      subst hrv
      go_wp2_with fail
      go_ret2
      exact ⟨_, rfl, Own.nil, B3.out⟩
    | true =>
      have hrv := HYES.out rfl
      subst hrv
      have hcl := HLE.out rfl
      go_wp2_with fail
      refine (cloneR_any _ xs w3 I3.out (by omega)).mono ?_; rintro e w4 ⟨r, rfl, ho, hb4⟩
      have B4 := hide (bstep B3.out hb4 B3.out.size)
      obtain ⟨g, cap', cs, rfl, hgb, hblk, hle, hcm, hs, hfi⟩ := own_blk ho (by omega)
      have HO := hide ho
      have qf := hblk.frozen (k * 5 + 3)
      have c4 : w4.cell? ⟨g, k * 5 + 3, none⟩ = some (.int .i64 y3) := by
        rw [hblk.cell, hfi k _ hk HSOME.out 3 (by omega)]; rfl
      have HS := hide (ho.set1 (c0 := 3) (a := k * 5 + 3) rfl (by omega) hk (⟨y0, y1, y2, y3 + 1, y4⟩ : SReader) ⟨y0, y1, y2, y3, y4⟩ HSOME.out rfl (fun c hc hne => by rcases (show c = 0 ∨ c = 1 ∨ c = 2 ∨ c = 4 by omega) with rfl | rfl | rfl | rfl <;> rfl))
      have HBS := hide (B4.out.setCell (p := ⟨g, k * 5 + 3, none⟩) (Nat.le_trans B3.out.size hgb) (.int .i64 (y3 + 1)))
      clear hblk hfi ho hb4
      go_wp2_with fail
      go_ret2
      exact ⟨_, rfl, HS.out.mono B3.out.size, HBS.out⟩
  · rw [raiseV_no (fun h => hall ⟨h.1, h.2.1, h.2.2.1⟩)]
    generalize goodR xs = gd at hall hA
    generalize findR xs id = kk at hall HF
    have HA := hide hA; have HC := hide (fun W => isDay_any day W); clear hA
    generalize inB day 0 4000 = ib at hall HC
    have HALL := hide hall; clear hall
    cases gd with
    | false =>
      go_enter Try.func28, Try.ntmps28
      go_wp2_with fail
      refine HF.out.mono ?_; rintro e w1 ⟨rfl, hb1⟩
      have I1 := hide (HI.out.below hb1 (Nat.le_refl _))
      go_wp2_with fail
      refine (HA.out _ I1.out).mono ?_; rintro e w2 ⟨rfl, hb2⟩
      have B2 := hide (bstep hb1 hb2 hb1.size)
      clear hb1 hb2
      go_wp2_with fail
      go_ret2
      exact ⟨_, rfl, Own.nil, B2.out⟩
    | true =>
      by_cases hk : kk < 0
      · go_enter Try.func28, Try.ntmps28
        go_wp2_with fail
        refine HF.out.mono ?_; rintro e w1 ⟨rfl, hb1⟩
        have I1 := hide (HI.out.below hb1 (Nat.le_refl _))
        go_wp2_with fail
        refine (HA.out _ I1.out).mono ?_; rintro e w2 ⟨rfl, hb2⟩
        have B2 := hide (bstep hb1 hb2 hb1.size)
        clear hb1 hb2
        go_wp2_with fail
        go_ret2
        exact ⟨_, rfl, Own.nil, B2.out⟩
      · cases ib with
        | true => exact absurd ⟨rfl, by omega, rfl⟩ HALL.out
        | false =>
          go_enter Try.func28, Try.ntmps28
          go_wp2_with fail
          refine HF.out.mono ?_; rintro e w1 ⟨rfl, hb1⟩
          have I1 := hide (HI.out.below hb1 (Nat.le_refl _))
          go_wp2_with fail
          refine (HA.out _ I1.out).mono ?_; rintro e w2 ⟨rfl, hb2⟩
          have B2 := hide (bstep hb1 hb2 hb1.size)
          clear hb1 hb2
          go_wp2_with fail
          refine (HC.out _).mono ?_; rintro e w3 ⟨rfl, rfl⟩
          go_wp2_with fail
          go_ret2
          exact ⟨_, rfl, Own.nil, B2.out⟩
set_option maxHeartbeats 4000000 in
set_option maxRecDepth 10000 in
theorem l3RaiseClass_is (v : Value) (xs : List SReader) (id day : Int) (w : World) (h : Is 5 SReader.enc w v xs) (hw : ∀ z ∈ xs, z.wf) (hd : -100000 ≤ day ∧ day ≤ 100000) :
    Calls Try.prog 29 #[v, .int .i64 id, .int .i64 day] w fun e w' => ∃ r, e = .returned (.tuple #[r, .bool (raiseV xs id day).2]) ∧ Own 5 SReader.enc 49 w' w.heap.size r (raiseV xs id day).1 ∧ Below w.heap.size w w' := by
  have HF := hide (l3Find_is v xs id w h hw)
  have HI := hide h
  by_cases hall : goodR xs = true ∧ 0 ≤ findR xs id ∧ inB day 0 4000 = true
  · obtain ⟨hg, hf0, hic⟩ := hall
    have hlen := goodR_len hg
    obtain ⟨k, hk, hfk, y0, y1, y2, y3, y4, hat, hsome, hyid, hok⟩ := found_k hg hf0
    clear hyid
    obtain ⟨k0, k1, k2, h20, h21, h30, h31, h40, h41⟩ := SReader.okB_iff.1 hok
    have HR := hide (fun W => l3Ripe_any y0 y1 y2 y3 y4 day W ⟨h20, h21⟩ ⟨h30, h31⟩ hd)
    have hyes := raiseV_yes (id := id) hg hic hfk hat
    have hno := raiseV_no (xs := xs) (id := id) (day := day)
    rw [hfk, Int.toNat_natCast, hat] at hno
    have hle := fun (hr : ripeB ⟨y0, y1, y2, y3, y4⟩ day = true) => (of_decide_eq_true hr).1
    have hx := fun (hr : y3 < 3) => SReader.okB_iff.2 (show 1 ≤ y0 ∧ y0 ≤ 999 ∧ wordB y1 = true ∧ 0 ≤ y2 ∧ y2 ≤ 4000 ∧ 1 ≤ y3 + 1 ∧ y3 + 1 ≤ 3 ∧ 0 ≤ y4 ∧ y4 ≤ 10000 from ⟨k0, k1, k2, h20, h21, by omega, by omega, h40, h41⟩)
    have hgs := fun (hr : y3 < 3) => goodR_set hg hk (hx hr) (by rw [hat])
    have hwk : (⟨y0, y1, y2, y3, y4⟩ : SReader).wf := hw _ (List.mem_of_getElem? hsome)
    have hwx : (⟨y0, y1, y2, y3 + 1, y4⟩ : SReader).wf := ⟨hwk.1, hwk.2.1, hwk.2.2.1, ident_fit (by simp only []; omega), hwk.2.2.2.2⟩
    have HYES := hide hyes; have HNO := hide hno; have HLE := hide hle; have HGS := hide hgs; have HWX := hide hwx; have HW := hide hw
    generalize ripeB ⟨y0, y1, y2, y3, y4⟩ day = rb at *
    generalize raiseV xs id day = rv at *
    have HC := hide (fun W => l2Day_any day W); have HIC := hide hic; have HSOME := hide hsome
    rw [findGR_good hg, hfk] at HF
    clear hg hf0 hic hfk hat hok hsome hw h hyes hno hle hx hgs hwk hwx k0 k1 k2
    have hk' : (k : Int) < xs.length := by omega
    go_enter Try.func29, Try.ntmps29
    go_wp2_with fail
    refine HF.out.mono ?_; rintro e w1 ⟨rfl, hb1⟩
    have I1 := hide (HI.out.below hb1 (Nat.le_refl _))
    have B1 := hide hb1
    clear hb1
    go_wp2_with fail
    refine (HC.out _).mono ?_; rintro e w2 ⟨rfl, rfl⟩
    rw [HIC.out]
    obtain ⟨A, cap, rfl, hr, _, _⟩ := I1.out
    obtain ⟨b, off, rfl, hb, c0, c1, c2, c3, c4⟩ := SReader.cells hr hk (Below.refl _ _)
    obtain ⟨hi', hget⟩ := List.getElem?_eq_some_iff.1 HSOME.out
    rw [hget] at c0 c1 c2 c3 c4
    simp only at c0 c1 c2 c3 c4
    have hcells := fun W (hbW : Below w1.heap.size w1 W) => SReader.cells hr hk hbW
    rw [hget] at hcells
    simp only at hcells
    have HCE := hide hcells
    clear hget hi' hr hcells
    go_wp2_with fail
    refine (HR.out _).mono ?_; rintro e w2 ⟨rfl, hb2⟩
    have B2 := hide (bstep B1.out hb2 B1.out.size)
    have I2 := hide (I1.out.below hb2 (Nat.le_refl _))
    obtain ⟨b', off', hA, _, d0, d1, d2, d3, d4⟩ := HCE.out w2 hb2
    simp only [Option.some.injEq, Addr.mk.injEq, and_true] at hA
    obtain ⟨hA1, hA2⟩ := hA
    subst hA1 hA2
    clear hb2 c0 c1 c2 c3 c4 HCE
    cases rb with
    | false =>
      have hrv := HNO.out (by simp)
      subst hrv
      go_wp2_with fail
      go_ret2
      exact ⟨_, rfl, own_emptyR w2 B2.out.size, B2.out.alloc B2.out.size _⟩
    | true =>
      have hrv := HYES.out rfl
      subst hrv
      have hcl := HLE.out rfl
      have HB0 := hide (Blk.new w2 49 #[.int .i64 y0, .string y1, .int .i64 y2, .int .i64 y3, .int .i64 y4])
      have B3 := hide (B2.out.alloc B2.out.size (.cells #[.int .i64 y0, .string y1, .int .i64 y2, .int .i64 y3, .int .i64 y4] 49))
      have hs2 : w2.heap.size < (w2.alloc (.cells #[.int .i64 y0, .string y1, .int .i64 y2, .int .i64 y3, .int .i64 y4] 49)).heap.size := by simp
      have I3 := hide (fun u => I2.out.below ((below_alloc w2 (.cells #[.int .i64 y0, .string y1, .int .i64 y2, .int .i64 y3, .int .i64 y4] 49)).setCell (p := ⟨w2.heap.size, 3, none⟩) (Nat.le_refl _) u) (Nat.le_refl _))
      go_upto_region 5 with fail
      clear d0 d1 d2 d3 d4
      have hs1 := B2.out.size
      generalize w2.alloc (.cells #[.int .i64 y0, .string y1, .int .i64 y2, .int .i64 y3, .int .i64 y4] 49) = w3 at *
      generalize hb1 : w2.heap.size = g at *
      obtain ⟨t0, t1, t2, t3, t4⟩ := cells5 HB0.out
      have tf := fun o => HB0.out.frozen o
      have HB3 := hide (HB0.out.set 3 (.int .i64 (y3 + 1)))
      have B4 := hide (B3.out.setCell (p := ⟨g, 3, none⟩) hs1 (.int .i64 (y3 + 1)))
      have I4 := hide (I3.out (.int .i64 (y3 + 1)))
      go_upto_region 6 with fail
      clear t0 t1 t2 t3 t4 tf
      obtain ⟨t0, t1, t2, t3, t4⟩ := cells5 HB3.out
      go_wp2_with fail
      refine (l3With_any _ xs k y0 y1 y2 (y3 + 1) y4 _ I4.out HW.out HWX.out hk hlen (HGS.out hcl)).mono ?_; rintro e w4 ⟨r, rfl, ho, hb4⟩
      have B5 := hide (bstep B4.out hb4 B4.out.size)
      have HO4 := hide (ho.mono B4.out.size)
      clear ho hb4
      go_wp2_with fail
      go_ret2
      exact ⟨_, rfl, HO4.out, B5.out⟩
  · rw [raiseV_no (fun h => hall ⟨h.1, h.2.1, h.2.2.1⟩)]
    have hall2 : ¬ (0 ≤ findGR xs id ∧ inB day 0 4000 = true) := fun h => hall ⟨(findGR_iff.1 h.1).1, (findGR_iff.1 h.1).2, h.2⟩
    clear hall
    generalize findGR xs id = kk at hall2 HF
    have HC := hide (fun W => l2Day_any day W)
    generalize inB day 0 4000 = ib at hall2 HC
    have HALL := hide hall2; clear hall2
    by_cases hk : kk < 0
    · go_enter Try.func29, Try.ntmps29
      go_wp2_with fail
      refine HF.out.mono ?_; rintro e w1 ⟨rfl, hb1⟩
      have B1 := hide hb1
      clear hb1
      go_wp2_with fail
      go_ret2
      exact ⟨_, rfl, own_emptyR w1 B1.out.size, B1.out.alloc B1.out.size _⟩
    · cases ib with
      | true => exact absurd ⟨by omega, rfl⟩ HALL.out
      | false =>
        go_enter Try.func29, Try.ntmps29
        go_wp2_with fail
        refine HF.out.mono ?_; rintro e w1 ⟨rfl, hb1⟩
        have B1 := hide hb1
        clear hb1
        go_wp2_with fail
        refine (HC.out _).mono ?_; rintro e w3 ⟨rfl, rfl⟩
        go_wp2_with fail
        go_ret2
        exact ⟨_, rfl, own_emptyR w1 B1.out.size, B1.out.alloc B1.out.size _⟩
end Go.Proofs.Ytdbcilinoieabaa
