/- Contracts of FineReader, in impl and spec: the Lean function fineV; what was fined is paid back. Condition: the readers fit. -/
import Derived.Test.YtplemibckjnbhaaGreatDoorL3F
namespace Go.Proofs.YtplemibckjnbhaaGreatDoor
open Go.RowKit Go.Lib
set_option linter.unusedVariables false
def fined (xs : List SReader) (id cents : Int) : List SReader := xs.set (findR xs id).toNat ⟨(SReader.at xs (findR xs id).toNat).ident, (SReader.at xs (findR xs id).toNat).name, (SReader.at xs (findR xs id).toNat).joined, (SReader.at xs (findR xs id).toNat).cls, (SReader.at xs (findR xs id).toNat).fines + cents⟩
def fineV (xs : List SReader) (id cents : Int) : List SReader × Bool :=
  if (goodR xs = true ∧ 0 ≤ findR xs id ∧ inB cents 1 10000 = true) ∧ goodR (fined xs id cents) = true then (fined xs id cents, true) else ([], false)
theorem fineV_no {xs : List SReader} {id cents : Int} (h : ¬ (goodR xs = true ∧ 0 ≤ findR xs id ∧ inB cents 1 10000 = true)) : fineV xs id cents = ([], false) := if_neg (fun h' => h h'.1)
theorem fineV_yes {xs : List SReader} {id cents : Int} (h : goodR xs = true ∧ 0 ≤ findR xs id ∧ inB cents 1 10000 = true) {k : Nat} (hk : findR xs id = (k : Int)) {y0 : Int} {y1 : ByteArray} {y2 y3 y4 : Int} (hy : SReader.at xs k = ⟨y0, y1, y2, y3, y4⟩) :
    fineV xs id cents = if goodR (xs.set k ⟨y0, y1, y2, y3, y4 + cents⟩) = true then (xs.set k ⟨y0, y1, y2, y3, y4 + cents⟩, true) else ([], false) := by
  have hf : fined xs id cents = xs.set k ⟨y0, y1, y2, y3, y4 + cents⟩ := by unfold fined; rw [hk, Int.toNat_natCast, hy]
  unfold fineV
  rw [hf]
  by_cases hg : goodR (xs.set k ⟨y0, y1, y2, y3, y4 + cents⟩) = true
  · rw [if_pos ⟨h, hg⟩, if_pos hg]
  · rw [if_neg (fun h' => hg h'.2), if_neg hg]
theorem findR_set {xs : List SReader} {id : Int} {k : Nat} (hk : k < xs.length) {x : SReader} (hid : x.ident = (SReader.at xs k).ident) : findR (xs.set k x) id = findR xs id := by
  unfold findR idxF
  have h : ∀ (l : List SReader) (i : Nat) (hi : i < l.length), x.ident = l[i].ident → List.findIdx? (fun c : SReader => c.ident == id) (l.set i x) = List.findIdx? (fun c => c.ident == id) l := by
    intro l
    induction l with
    | nil => intro i hi; simp at hi
    | cons a l ih =>
      intro i hi he
      cases i with
      | zero =>
        simp only [List.getElem_cons_zero] at he
        simp only [List.set_cons_zero, List.findIdx?_cons, he]
      | succ i =>
        simp only [List.getElem_cons_succ] at he
        simp only [List.set_cons_succ, List.findIdx?_cons, ih i (by simpa using hi) he]
  rw [h xs k hk (by rw [hid, SReader.at_lt hk])]
/-- what was fined is paid back: the list is as it was -/
theorem fine_pay {xs : List SReader} {id cents : Int} (h : (fineV xs id cents).2 = true) : payV (fineV xs id cents).1 id cents = (xs, 0, true) := by
  by_cases hall : goodR xs = true ∧ 0 ≤ findR xs id ∧ inB cents 1 10000 = true
  · obtain ⟨k, hk, hfk, y0, y1, y2, y3, y4, hat, hsome, hyid, hok⟩ := found_k hall.1 hall.2.1
    have hv := fineV_yes hall hfk hat
    rw [hv] at h ⊢
    by_cases hg : goodR (xs.set k ⟨y0, y1, y2, y3, y4 + cents⟩) = true
    · rw [if_pos hg]
      obtain ⟨_, _, _, _, _, _, _, h40, h41⟩ := SReader.okB_iff.1 hok
      obtain ⟨hc0, hc1⟩ := inB_iff.1 hall.2.2
      have hfs : findR (xs.set k ⟨y0, y1, y2, y3, y4 + cents⟩) id = (k : Int) := by rw [findR_set hk (by rw [hat]), hfk]
      have hat2 : SReader.at (xs.set k ⟨y0, y1, y2, y3, y4 + cents⟩) k = ⟨y0, y1, y2, y3, y4 + cents⟩ := by rw [SReader.at_set _ hk, if_pos rfl]
      show payV (xs.set k ⟨y0, y1, y2, y3, y4 + cents⟩) id cents = _
      rw [payV_yes ⟨hg, by rw [hfs]; omega, hall.2.2⟩ hfs hat2, show min cents (y4 + cents) = cents by omega, List.set_set, show y4 + cents - cents = y4 by omega, show cents - cents = 0 by omega]
      congr 1
      apply List.ext_getElem?
      intro i
      by_cases hi : i = k
      · subst hi; rw [List.getElem?_set_self hk, hsome]
      · rw [List.getElem?_set_ne (by omega)]
    · rw [if_neg hg] at h; cases h
  · rw [fineV_no hall] at h; cases h
set_option maxHeartbeats 1000000 in
set_option maxRecDepth 10000 in
theorem l3With2_any (v : Value) (xs : List SReader) (k : Nat) (x0 : Int) (x1 : ByteArray) (x2 x3 x4 : Int) (w : World) (h : Is 5 SReader.enc w v xs) (hw : ∀ z ∈ xs, z.wf) (hx : (⟨x0, x1, x2, x3, x4⟩ : SReader).wf) (hk : k < xs.length) (hl : xs.length ≤ 10) (hg : goodR (xs.set k ⟨x0, x1, x2, x3, x4⟩) = false) :
    Calls Tryz.prog 68 #[v, .int .i64 (k : Int), .agg #[.int .i64 x0, .string x1, .int .i64 x2, .int .i64 x3, .int .i64 x4]] w fun e w' => ∃ r, e = .returned (.tuple #[r, .bool false]) ∧ Own 5 SReader.enc 25 w' w.heap.size r [] ∧ Below w.heap.size w w' := by
  have hgg := fun W v' (hi : Is 5 SReader.enc W v' (xs.set k ⟨x0, x1, x2, x3, x4⟩)) => l3Good_is v' _ W hi (wf_set hw hx)
  rw [hg] at hgg
  have HGG := hide hgg; clear hgg hw hx hg
  have hk' : (k : Int) < xs.length := by omega
  have HBX := hide (Blk.new w 25 #[.int .i64 x0, .string x1, .int .i64 x2, .int .i64 x3, .int .i64 x4])
  have B1 := below_alloc w (.cells #[.int .i64 x0, .string x1, .int .i64 x2, .int .i64 x3, .int .i64 x4] 25)
  have HI := hide (h.below B1 (Nat.le_refl _)); clear h
  have hs1 : w.heap.size < (w.alloc (.cells #[.int .i64 x0, .string x1, .int .i64 x2, .int .i64 x3, .int .i64 x4] 25)).heap.size := by simp
  go_enter Tryz.func68, Tryz.ntmps68
  go_upto_region 1 with fail
  generalize hb0 : w.heap.size = b0 at *
  generalize w.alloc (.cells #[.int .i64 x0, .string x1, .int .i64 x2, .int .i64 x3, .int .i64 x4] 25) = w1 at *
  obtain ⟨A, cap, rfl, hr, _, _⟩ := HI.out
  clear HI
  obtain ⟨b, off, rfl, _, _⟩ := hr.get (show 0 < xs.length by omega)
  have HR := hide hr; clear hr
  have HE := hide (own_emptyR w1 (Nat.le_refl w1.heap.size))
  have B1e := below_alloc w1 (.cells #[] 25)
  go_wp2_with (at_builtin; refine wpList_push (k := 5) (enc := SReader.enc) _ rfl _ _ 33 rfl 25 (.agg #[.int .i64 0, .string ⟨#[]⟩, .int .i64 0, .int .i64 0, .int .i64 0]) 48 Tryz.underlying33 SReader.info rfl (by omega) SReader.one w1.heap.size _ [] rfl HE.out ⟨b, off, none⟩ cap xs rfl (src_row (HR.out.below B1e (Nat.le_refl _) B1e.size) (by omega)) (by simp; omega) (by simp; omega) B1e.size ?_; intro v1 w2 ho hg1 _; have hb2 := HE.out.belowGrown B1e hg1 (Nat.le_refl _) B1e.size; rw [List.nil_append] at ho; clear hg1; obtain ⟨g, gc, cs, rfl, hgb, hblk, hle, hcm, hs, hfi⟩ := own_blk ho (by omega); have HO := hide ho; clear ho; obtain ⟨t0, t1, t2, t3, t4⟩ := cells5 (HBX.out.below hb2 hs1); have qf := (fun o => hblk.frozen o); have g0 := hblk.some (i := k * 5) (by omega); have g1 := hblk.some (i := k * 5 + 1) (by omega); have g2 := hblk.some (i := k * 5 + 2) (by omega); have g3 := hblk.some (i := k * 5 + 3) (by omega); have g4 := hblk.some (i := k * 5 + 4) (by omega); clear hblk hfi)
  have hset := HO.out.set5 (a := k * 5) rfl hk (⟨x0, x1, x2, x3, x4⟩ : SReader) rfl rfl rfl rfl rfl
  have hbs := ((((hb2.setCell (p := ⟨g, k * 5, none⟩) hgb (.int .i64 x0)).setCell (p := ⟨g, k * 5 + 1, none⟩) hgb (.string x1)).setCell (p := ⟨g, k * 5 + 2, none⟩) hgb (.int .i64 x2)).setCell (p := ⟨g, k * 5 + 3, none⟩) hgb (.int .i64 x3)).setCell (p := ⟨g, k * 5 + 4, none⟩) hgb (.int .i64 x4)
  have HS := hide hset; have HBS := hide hbs; clear hset hbs
  have hlen : (xs.set k (⟨x0, x1, x2, x3, x4⟩ : SReader)).length = xs.length := List.length_set
  refine (HGG.out _ _ (by have := HS.out.is; exact this)).mono ?_; rintro e w4 ⟨rfl, hb4⟩
  have B4 := hide (B1.trans ((bstep HBS.out hb4 HBS.out.size).mono (Nat.le_of_lt hs1)))
  go_wp2_with fail
  go_ret2
  subst hb0
  have hs4 := B4.out.size
  exact ⟨_, rfl, own_emptyR w4 hs4, B4.out.alloc hs4 _⟩
set_option maxHeartbeats 2000000 in
set_option maxRecDepth 10000 in
theorem FineReader_is (v : Value) (xs : List SReader) (id cents : Int) (w : World) (h : Is 5 SReader.enc w v xs) (hw : ∀ z ∈ xs, z.wf) :
    Calls Tryz.prog 14 #[v, .int .i64 id, .int .i64 cents] w fun e w' => ∃ r, e = .returned (.tuple #[r, .bool (fineV xs id cents).2]) ∧ Own 5 SReader.enc 25 w' w.heap.size r (fineV xs id cents).1 ∧ Below w.heap.size w w' := by
  have HF := hide (readerAt_any v xs id w h)
  have hA := fun W hi => AreReaders_is v xs W hi hw
  have HI := hide h
  by_cases hall : goodR xs = true ∧ 0 ≤ findR xs id ∧ inB cents 1 10000 = true
  · obtain ⟨hg, hf0, hic⟩ := hall
    have hlen := goodR_len hg
    obtain ⟨k, hk, hfk, y0, y1, y2, y3, y4, hat, hsome, hyid, hok⟩ := found_k hg hf0
    clear hyid
    have hpv := fineV_yes ⟨hg, hf0, hic⟩ hfk hat
    rw [hpv]
    rw [hg] at hA
    have hwk : (⟨y0, y1, y2, y3, y4⟩ : SReader).wf := hw _ (List.mem_of_getElem? hsome)
    obtain ⟨_, _, _, _, _, _, _, h40, h41⟩ := SReader.okB_iff.1 hok
    obtain ⟨hc0, hc1⟩ := inB_iff.1 hic
    have hwx : (⟨y0, y1, y2, y3, y4 + cents⟩ : SReader).wf := ⟨hwk.1, hwk.2.1, hwk.2.2.1, hwk.2.2.2.1, ident_fit (by simp only []; omega)⟩
    have hgs := fun W v' hi => AreReaders_is v' (xs.set k ⟨y0, y1, y2, y3, y4 + cents⟩) W hi (wf_set hw hwx)
    generalize goodR (xs.set k ⟨y0, y1, y2, y3, y4 + cents⟩) = gs at hgs ⊢
    have HGS := hide hgs
    have HA := hide hA; have HC := hide (fun W => isCents_any cents W); have HIC := hide hic; have HSOME := hide hsome
    rw [hfk] at HF
    clear hA hg hf0 hic hfk hat hpv hok hsome hw h hgs hwx hwk
    have hk' : (k : Int) < xs.length := by omega
    go_enter Tryz.func14, Tryz.ntmps14
    go_wp2_with fail
    refine HF.out.mono ?_; rintro e w1 ⟨rfl, hb1⟩
    have I1 := hide (HI.out.below hb1 (Nat.le_refl _))
    go_wp2_with fail
    refine (HA.out _ I1.out).mono ?_; rintro e w2 ⟨rfl, hb2⟩
    have B2 := hide (bstep hb1 hb2 hb1.size)
    have I2 := hide (I1.out.below hb2 (Nat.le_refl _))
    clear hb1 hb2
    go_wp2_with fail
    refine (HC.out _).mono ?_; rintro e w3 ⟨rfl, rfl⟩
    rw [HIC.out]
    go_wp2_with fail
    refine (cloneR_any v xs w2 I2.out (by omega)).mono ?_; rintro e w3 ⟨r, rfl, ho, hb3⟩
    have B3 := hide (bstep B2.out hb3 B2.out.size)
    obtain ⟨g, cap, cs, rfl, hgb, hblk, hle, hcm, hs, hfi⟩ := own_blk ho (by omega)
    have HO := hide ho
    have qf := hblk.frozen (k * 5 + 4)
    have c4 : w3.cell? ⟨g, k * 5 + 4, none⟩ = some (.int .i64 y4) := by
      rw [hblk.cell, hfi k _ hk HSOME.out 4 (by omega)]; rfl
    have HS := hide (ho.set1 (c0 := 4) (a := k * 5 + 4) rfl (by omega) hk (⟨y0, y1, y2, y3, y4 + cents⟩ : SReader) ⟨y0, y1, y2, y3, y4⟩ HSOME.out rfl (fun c hc hne => by rcases (show c = 0 ∨ c = 1 ∨ c = 2 ∨ c = 3 by omega) with rfl | rfl | rfl | rfl <;> rfl))
    have HBS := hide (B3.out.setCell (p := ⟨g, k * 5 + 4, none⟩) (Nat.le_trans B2.out.size hgb) (.int .i64 (y4 + cents)))
    clear hblk hfi ho hb3
    have hls : (xs.set k (⟨y0, y1, y2, y3, y4 + cents⟩ : SReader)).length = xs.length := List.length_set
    go_wp2_with fail
    refine (HGS.out _ _ (by have := HS.out.is; exact this)).mono ?_; rintro e w5 ⟨rfl, hb5⟩
    have HO5 := hide (HS.out.below hb5)
    have B5 := hide (bstep HBS.out hb5 HBS.out.size)
    clear hb5
    cases gs with
    | true =>
      go_wp2_with fail
      go_ret2
      exact ⟨_, rfl, HO5.out.mono B2.out.size, B5.out⟩
    | false =>
      go_wp2_with fail
      go_ret2
      exact ⟨_, rfl, Own.nil, B5.out⟩
  · rw [fineV_no hall]
    generalize goodR xs = gd at hall hA
    generalize findR xs id = kk at hall HF
    have HA := hide hA; have HC := hide (fun W => isCents_any cents W); clear hA
    generalize inB cents 1 10000 = ib at hall HC
    have HALL := hide hall; clear hall
    cases gd with
    | false =>
      go_enter Tryz.func14, Tryz.ntmps14
      go_wp2_with fail
      refine HF.out.mono ?_; rintro e w1 ⟨rfl, hb1⟩
      have I1 := hide (HI.out.below hb1 (Nat.le_refl _))
      go_wp2_with fail
      refine (HA.out _ I1.out).mono ?_; rintro e w2 ⟨rfl, hb2⟩
      have B2 := hide (bstep hb1 hb2 hb1.size)
      clear hb1 hb2
      go_wp2_with fail
      go_ret2
      exact ⟨_, rfl, Own.nil, B2.out⟩
    | true =>
      by_cases hk : kk < 0
      · go_enter Tryz.func14, Tryz.ntmps14
        go_wp2_with fail
        refine HF.out.mono ?_; rintro e w1 ⟨rfl, hb1⟩
        have I1 := hide (HI.out.below hb1 (Nat.le_refl _))
        go_wp2_with fail
        refine (HA.out _ I1.out).mono ?_; rintro e w2 ⟨rfl, hb2⟩
        have B2 := hide (bstep hb1 hb2 hb1.size)
        clear hb1 hb2
        go_wp2_with fail
        go_ret2
        exact ⟨_, rfl, Own.nil, B2.out⟩
      · cases ib with
        | true => exact absurd ⟨rfl, by omega, rfl⟩ HALL.out
        | false =>
          go_enter Tryz.func14, Tryz.ntmps14
          go_wp2_with fail
          refine HF.out.mono ?_; rintro e w1 ⟨rfl, hb1⟩
          have I1 := hide (HI.out.below hb1 (Nat.le_refl _))
          go_wp2_with fail
          refine (HA.out _ I1.out).mono ?_; rintro e w2 ⟨rfl, hb2⟩
          have B2 := hide (bstep hb1 hb2 hb1.size)
          clear hb1 hb2
          go_wp2_with fail
          refine (HC.out _).mono ?_; rintro e w3 ⟨rfl, rfl⟩
          go_wp2_with fail
          go_ret2
          exact ⟨_, rfl, Own.nil, B2.out⟩
set_option maxHeartbeats 2000000 in
set_option maxRecDepth 10000 in
theorem l3FineReader_is (v : Value) (xs : List SReader) (id cents : Int) (w : World) (h : Is 5 SReader.enc w v xs) (hw : ∀ z ∈ xs, z.wf) :
    Calls Tryz.prog 15 #[v, .int .i64 id, .int .i64 cents] w fun e w' => ∃ r, e = .returned (.tuple #[r, .bool (fineV xs id cents).2]) ∧ Own 5 SReader.enc 25 w' w.heap.size r (fineV xs id cents).1 ∧ Below w.heap.size w w' := by
  have HF := hide (l3Find_is v xs id w h hw)
  have HI := hide h
  by_cases hall : goodR xs = true ∧ 0 ≤ findR xs id ∧ inB cents 1 10000 = true
  · obtain ⟨hg, hf0, hic⟩ := hall
    have hlen := goodR_len hg
    obtain ⟨k, hk, hfk, y0, y1, y2, y3, y4, hat, hsome, hyid, hok⟩ := found_k hg hf0
    clear hyid
    have hpv := fineV_yes ⟨hg, hf0, hic⟩ hfk hat
    have hyes : goodR (xs.set k ⟨y0, y1, y2, y3, y4 + cents⟩) = true → fineV xs id cents = (xs.set k ⟨y0, y1, y2, y3, y4 + cents⟩, true) := fun hh => by rw [hpv, if_pos hh]
    have hnot : ¬ goodR (xs.set k ⟨y0, y1, y2, y3, y4 + cents⟩) = true → fineV xs id cents = ([], false) := fun hh => by rw [hpv, if_neg hh]
    clear hpv
    generalize fineV xs id cents = nv at *
    have HYES := hide hyes; have HNOT := hide hnot; clear hyes hnot
    obtain ⟨k0, k1, k2, k3, k4, k5, k6, h40, h41⟩ := SReader.okB_iff.1 hok
    obtain ⟨hc0, hc1⟩ := inB_iff.1 hic
    have hwk : (⟨y0, y1, y2, y3, y4⟩ : SReader).wf := hw _ (List.mem_of_getElem? hsome)
    have hwx : (⟨y0, y1, y2, y3, y4 + cents⟩ : SReader).wf := ⟨hwk.1, hwk.2.1, hwk.2.2.1, hwk.2.2.2.1, ident_fit (by simp only []; omega)⟩
    have HC := hide (fun W => l3Cents_any cents W); have HIC := hide hic; have HSOME := hide hsome; have HWX := hide hwx; have HW := hide hw
    rw [findGR_good hg, hfk] at HF
    clear hg hf0 hic hfk hat hok hsome hw h hwx hwk k0 k1 k2 k3 k4 k5 k6
    have hk' : (k : Int) < xs.length := by omega
    go_enter Tryz.func15, Tryz.ntmps15
    go_wp2_with fail
    refine HF.out.mono ?_; rintro e w1 ⟨rfl, hb1⟩
    have I1 := hide (HI.out.below hb1 (Nat.le_refl _))
    have B1 := hide hb1
    clear hb1
    go_wp2_with fail
    refine (HC.out _).mono ?_; rintro e w2 ⟨rfl, rfl⟩
    rw [HIC.out]
    obtain ⟨A, cap, rfl, hr, _, _⟩ := I1.out
    obtain ⟨b, off, rfl, hb, c0, c1, c2, c3, c4⟩ := SReader.cells hr hk (Below.refl _ _)
    obtain ⟨hi', hget⟩ := List.getElem?_eq_some_iff.1 HSOME.out
    rw [hget] at c0 c1 c2 c3 c4
    simp only at c0 c1 c2 c3 c4
    clear hget hi' hr
    have HB0 := hide (Blk.new w1 25 #[.int .i64 y0, .string y1, .int .i64 y2, .int .i64 y3, .int .i64 y4])
    have B2 := hide (B1.out.alloc B1.out.size (.cells #[.int .i64 y0, .string y1, .int .i64 y2, .int .i64 y3, .int .i64 y4] 25))
    have I2 := hide (I1.out.below (below_alloc w1 (.cells #[.int .i64 y0, .string y1, .int .i64 y2, .int .i64 y3, .int .i64 y4] 25)) (Nat.le_refl _))
    have hs2 : w1.heap.size < (w1.alloc (.cells #[.int .i64 y0, .string y1, .int .i64 y2, .int .i64 y3, .int .i64 y4] 25)).heap.size := by simp
    have I3 := hide (fun u => I1.out.below ((below_alloc w1 (.cells #[.int .i64 y0, .string y1, .int .i64 y2, .int .i64 y3, .int .i64 y4] 25)).setCell (p := ⟨w1.heap.size, 4, none⟩) (Nat.le_refl _) u) (Nat.le_refl _))
    go_upto_region 5 with fail
    clear c0 c1 c2 c3 c4
    have hs1 := B1.out.size
    generalize w1.alloc (.cells #[.int .i64 y0, .string y1, .int .i64 y2, .int .i64 y3, .int .i64 y4] 25) = w2 at *
    generalize hb1 : w1.heap.size = g at *
    obtain ⟨t0, t1, t2, t3, t4⟩ := cells5 HB0.out
    have tf := fun o => HB0.out.frozen o
    go_upto_region 6 with fail
    have HB3 := hide (HB0.out.set 4 (.int .i64 (y4 + cents)))
    have B3 := hide (B2.out.setCell (p := ⟨g, 4, none⟩) hs1 (.int .i64 (y4 + cents)))
    have I4 := hide (I3.out (.int .i64 (y4 + cents)))
    clear t0 t1 t2 t3 t4 tf
    obtain ⟨t0, t1, t2, t3, t4⟩ := cells5 HB3.out
    go_wp2_with fail
    by_cases hgs : goodR (xs.set k ⟨y0, y1, y2, y3, y4 + cents⟩) = true
    · have hx := HYES.out hgs
      subst hx
      refine (l3With_any _ xs k y0 y1 y2 y3 (y4 + cents) _ I4.out HW.out HWX.out hk hlen hgs).mono ?_; rintro e w4 ⟨r, rfl, ho, hb4⟩
      have B4 := hide (bstep B3.out hb4 B3.out.size)
      have HO4 := hide (ho.mono B3.out.size)
      clear ho hb4 hgs
      go_wp2_with fail
      go_ret2
      exact ⟨_, rfl, HO4.out, B4.out⟩
    · have hx := HNOT.out hgs
      subst hx
      refine (l3With2_any _ xs k y0 y1 y2 y3 (y4 + cents) _ I4.out HW.out HWX.out hk hlen (by simpa using hgs)).mono ?_; rintro e w4 ⟨r, rfl, ho, hb4⟩
      have B4 := hide (bstep B3.out hb4 B3.out.size)
      have HO4 := hide (ho.mono B3.out.size)
      clear ho hb4 hgs
      go_wp2_with fail
      go_ret2
      exact ⟨_, rfl, HO4.out, B4.out⟩
  · rw [fineV_no hall]
    have hall2 : ¬ (0 ≤ findGR xs id ∧ inB cents 1 10000 = true) := fun h => hall ⟨(findGR_iff.1 h.1).1, (findGR_iff.1 h.1).2, h.2⟩
    clear hall
    generalize findGR xs id = kk at hall2 HF
    have HC := hide (fun W => l3Cents_any cents W)
    generalize inB cents 1 10000 = ib at hall2 HC
    have HALL := hide hall2; clear hall2
    by_cases hk : kk < 0
    · go_enter Tryz.func15, Tryz.ntmps15
      go_wp2_with fail
      refine HF.out.mono ?_; rintro e w1 ⟨rfl, hb1⟩
      have B1 := hide hb1
      clear hb1
      go_wp2_with fail
      go_ret2
      exact ⟨_, rfl, own_emptyR w1 B1.out.size, B1.out.alloc B1.out.size _⟩
    · cases ib with
      | true => exact absurd ⟨by omega, rfl⟩ HALL.out
      | false =>
        go_enter Tryz.func15, Tryz.ntmps15
        go_wp2_with fail
        refine HF.out.mono ?_; rintro e w1 ⟨rfl, hb1⟩
        have B1 := hide hb1
        clear hb1
        go_wp2_with fail
        refine (HC.out _).mono ?_; rintro e w3 ⟨rfl, rfl⟩
        go_wp2_with fail
        go_ret2
        exact ⟨_, rfl, own_emptyR w1 B1.out.size, B1.out.alloc B1.out.size _⟩
end Go.Proofs.YtplemibckjnbhaaGreatDoor
