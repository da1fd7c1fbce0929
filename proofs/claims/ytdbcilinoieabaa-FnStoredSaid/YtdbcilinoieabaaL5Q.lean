/- Contract of PutFlat in spec: the same as impl's. Condition: small grams. -/
import Derived.Test.YtdbcilinoieabaaL5P
namespace Go.Proofs.Ytdbcilinoieabaa
open Go.RowKit
set_option linter.unusedVariables false
theorem putL_insL : ∀ {xs : List Int} {x : Int}, xs.Pairwise (· < ·) → x ∉ xs → putL xs x = insL xs x
  | [], x, _, _ => rfl
  | y :: ys, x, hp, hn => by
    rw [List.pairwise_cons] at hp
    rw [List.mem_cons] at hn
    have ih := putL_insL (xs := ys) (x := x) hp.2 (fun h => hn (.inr h))
    by_cases hy : y < x
    · have h1 : putL (y :: ys) x = y :: putL ys x := by
        unfold putL
        rw [List.takeWhile_cons_of_pos (by simpa using hy), List.dropWhile_cons_of_pos (by simpa using hy)]
        rfl
      have h2 : below (y :: ys) x = below ys x + 1 := by
        unfold below
        rw [List.countP_cons_of_pos (by simpa using hy)]
      unfold insL
      rw [h1, ih, h2]
      rfl
    · have h2 : below (y :: ys) x = 0 := by
        unfold below
        rw [List.countP_eq_zero]
        intro a ha
        rcases List.mem_cons.1 ha with rfl | ha
        · simpa using hy
        · have := hp.1 a ha
          simp; omega
      unfold putL insL
      rw [h2, List.takeWhile_cons_of_neg (by simpa using hy), List.dropWhile_cons_of_neg (by simpa using hy)]
      rw [List.head?_cons, if_neg (fun h => hn (.inl (Option.some.inj h).symm))]
      rfl
theorem isD_empty (w : World) : IsD (w.alloc (.cells #[] 70)) (.slice (some ⟨w.heap.size, 0, none⟩) 0 0) [] :=
  (ownDs_nil (lo := w.heap.size) (Own.made (cs := #[]) rfl (Nat.le_refl _) (Blk.new _ _ _) rfl (Nat.zero_le _) Filled.zero)).isD
theorem l5IndexD (u : Value) (ds : List DrV) (id : Int) (w : World) (h : IsD w u ds) :
    Calls Try.prog 111 #[u, .int .i64 id] w fun e w' => e = .returned (.int .i64 (idxD ds id)) ∧ w = w' := by
  obtain ⟨rs, rfl, his, hok⟩ := h
  have hm := his.len
  obtain ⟨A, cap, rfl, hr, _, _⟩ := his
  exact l5Index_any A cap rs id w hr hm
theorem l5WhereD (u : Value) (ds : List DrV) (flat : Int) (w : World) (h : IsD w u ds) :
    Calls Try.prog 114 #[u, .int .i64 flat] w fun e w' => e = .returned (.int .i64 (whereD ds flat)) ∧ w = w' := by
  obtain ⟨rs, rfl, his, hok⟩ := h
  have hm := his.len
  obtain ⟨A, cap, rfl, hr, _, _⟩ := his
  exact l5Where_any A cap rs flat w hr hok hm
theorem l5WithD (u : Value) (ds : List DrV) (z : Int) (r : Value) (l : List Int) (w : World) (hu : IsD w u ds) (hz : Is 1 encI w r l) (hzl : l.length ≤ 1000) (hl : ds.length ≤ 1000) (hx : ∀ d ∈ ds, d.fl.length ≤ 1000) :
    Calls Try.prog 115 #[u, .int .i64 z, r] w fun e w' => ∃ r, e = .returned r ∧ Below w.heap.size w w' ∧ ∃ rs : List SDr, rs.map SDr.pl = setFl ds z l ∧ OwnDs w' w.heap.size r rs := by
  obtain ⟨A, cap, rfl, hr, _, _⟩ := hz
  exact l5With_any u ds z A cap l w hu hr hzl (fun h => by subst h; exact row_none hr) hl hx
set_option maxHeartbeats 2000000 in
theorem PutFlatS_is (v u : Value) (fs : List SFlat) (ds : List DrV) (flat id : Int) (w : World) (hv : Is 4 SFlat.enc w v fs) (hu : IsD w u ds) (hf : fitG fs) :
    Calls Try.prog 36 #[v, u, .int .i64 flat, .int .i64 id] w fun e w' => ∃ r, e = .returned (.tuple #[r, .bool (putV fs ds flat id).2]) ∧ IsD w' r (putV fs ds flat id).1 ∧ Below w.heap.size w w' := by
  have HV := hide hv; have HU := hide hu; have HF := hide hf; have HB := hide (Below.refl w.heap.size w)
  clear hv hu hf
  have cI := fun W (hu : IsD W u ds) => l5IndexD u ds id W hu
  have cG := fun W (hv : Is 4 SFlat.enc W v fs) (hu : IsD W u ds) => l5Good_any v u fs ds W hv hu HF.out
  have cF := fun W (hv : Is 4 SFlat.enc W v fs) => l5Find_any v fs flat W hv
  have cW := fun W (hu : IsD W u ds) => l5WhereD u ds flat W hu
  have hpl := idxD_place ds id
  have hno : ¬ (goodDs fs ds = true ∧ 0 ≤ idxD ds id ∧ 0 ≤ findF fs flat ∧ whereD ds flat < 0) → putV fs ds flat id = ([], false) := fun h => if_neg (fun h2 => h (by
    have := looseB_iff.1 h2.1.1
    exact ⟨this.1, h2.1.2, this.2.1, this.2.2⟩))
  by_cases hall : goodDs fs ds = true ∧ 0 ≤ idxD ds id ∧ 0 ≤ findF fs flat ∧ whereD ds flat < 0
  · obtain ⟨hgd, hix, hfi, hwh⟩ := hall
    have hlo : looseB fs ds flat = true := looseB_iff.2 ⟨hgd, hfi, hwh⟩
    obtain ⟨k, hk, hik, _⟩ : ∃ k, ∃ h : k < ds.length, idxD ds id = (k : Int) ∧ ds[k].ident = id := by
      rcases hpl with h | h
      · omega
      · exact h
    have hpv : putV fs ds flat id = if goodDs fs (putK ds flat k) = true then (putK ds flat k, true) else ([], false) := by
      unfold putV
      rw [hik, Int.toNat_natCast]
      simp [hlo]
    have hfl := goodDs_fl hgd _ (List.getElem_mem hk)
    have hnm : flat ∉ ds[k].fl := by
      rcases whereD_place ds flat with h | ⟨q, hq, h1, _⟩
      · exact h.2 _ (List.getElem_mem hk)
      · omega
    have hput : putK ds flat k = setFl ds (k : Int) (putL ds[k].fl flat) := by
      unfold putK
      rw [DrV.at_lt hk, putL_insL (rise_pair hfl.2) hnm]
    have hpl2 : (putL ds[k].fl flat).length ≤ 1000 := by
      rw [putL_insL (rise_pair hfl.2) hnm, insL_len]; have := hfl.1; omega
    have hln := goodDs_len hgd
    have hx : ∀ d ∈ ds, d.fl.length ≤ 1000 := fun d hd => by have := (goodDs_fl hgd d hd).1; omega
    have cP := fun W (hu : IsD W u ds) r (hz : Is 1 encI W r (putL ds[k].fl flat)) => l5WithD u ds (k : Int) r _ W hu hz hpl2 (by omega) hx
    have cG2 := fun W (hv : Is 4 SFlat.enc W v fs) r (hu : IsD W r (setFl ds (k : Int) (putL ds[k].fl flat))) => l5Good_any v r fs _ W hv hu HF.out
    rw [hgd] at cG
    rw [hik] at cI
    rw [← hput] at cP cG2
    generalize putV fs ds flat id = pv at *
    generalize putK ds flat k = out at *
    generalize hgdo : goodDs fs out = gd at *
    generalize findF fs flat = ff at *
    generalize whereD ds flat = wh at *
    have hk0 : ¬ (k : Int) < 0 := by omega
    have hf0 : ¬ ff < 0 := by omega
    have hw0 : ¬ 0 ≤ wh := by omega
    have hw1 : decide (0 ≤ wh) = false := decide_eq_false hw0
    have CI := hide cI; have CG := hide cG; have CF := hide cF; have CW := hide cW; have CP := hide cP; have CG2 := hide cG2; have HPV := hide hpv; have HFL := hide hfl.1; have HX := hide hx
    clear cI cG cF cW cP cG2 hpv hno hlo hix hik hgd hfi hwh hpl hfl hput hpl2 hx hnm hgdo
    go_enter Try.func36, Try.ntmps36
    go_wp2_with fail
    refine (CI.out _ HU.out).mono ?_; rintro e w1 ⟨rfl, rfl⟩
    go_wp2_with fail
    refine (CG.out _ HV.out HU.out).mono ?_; rintro e w2 ⟨rfl, hb⟩
    replace HV := hide (HV.out.below hb (Nat.le_refl _))
    replace HU := hide (HU.out.below hb (Nat.le_refl _))
    replace HB := hide (bstep HB.out hb HB.out.size); clear hb
    go_wp2_with fail
    refine (CF.out _ HV.out).mono ?_; rintro e w3 ⟨rfl, rfl⟩
    go_wp2_with fail
    refine (CW.out _ HU.out).mono ?_; rintro e w4 ⟨rfl, rfl⟩
    obtain ⟨rs, hmap, his, hok⟩ := HU.out
    have hlr : ds.length = rs.length := by rw [← hmap]; simp
    have hm := his.len
    obtain ⟨A, cap, rfl, hr, _, _⟩ := his
    have hkr : k < rs.length := by omega
    have hkr' : (k : Int) < rs.length := by omega
    obtain ⟨b, off, rfl, _, _, _, _, _, c4⟩ := SDr.cells hr hkr (Below.refl _ _)
    have hrok := hok _ (List.getElem_mem hkr)
    have hxs : ds[k].fl = rs[k].xs := by simp only [← hmap, List.getElem_map]; rfl
    rw [hxs] at HFL CP
    have hl1 := l1Put_any rs[k].A rs[k].cap rs[k].xs flat w2 hrok.1 (by have := HFL.out; omega) hrok.2.1 hrok.2.2
    generalize rs[k] = rk at *
    obtain ⟨r0, r1, r2, r3, rA, rcap, rxs⟩ := rk
    simp only at *
    have HL1 := hide hl1; have HLR := hide hlr; clear hr hok hrok hmap hl1 hlr hm hxs
    go_wp2_with fail
    refine HL1.out.mono ?_; rintro e w5 ⟨r5, rfl, h5, hb⟩
    replace HV := hide (HV.out.below hb (Nat.le_refl _))
    replace HU := hide (HU.out.below hb (Nat.le_refl _))
    replace HB := hide (bstep HB.out hb HB.out.size); clear hb
    have H5 := hide h5; clear h5
    go_wp2_with fail
    refine (CP.out _ HU.out _ H5.out).mono ?_; rintro e w6 ⟨r6, rfl, hb, qs, hqm, hown⟩
    have h6 := hown.isD
    rw [hqm] at h6
    replace HV := hide (HV.out.below hb (Nat.le_refl _))
    replace HB := hide (bstep HB.out hb HB.out.size); clear hb
    have H6 := hide h6; clear hqm hown h6 HL1
    go_wp2_with fail
    refine (CG2.out _ HV.out _ H6.out).mono ?_; rintro e w7 ⟨rfl, hb⟩
    replace H6 := hide (H6.out.below hb (Nat.le_refl _))
    replace HB := hide (bstep HB.out hb HB.out.size); clear hb
    cases gd with
    | true =>
      go_wp2_with fail
      go_ret2
      rw [show pv = (out, true) from HPV.out]
      exact ⟨_, rfl, H6.out, HB.out⟩
    | false =>
      go_wp2_with fail
      go_ret2
      rw [show pv = ([], false) from HPV.out]
      exact ⟨_, rfl, isD_empty _, HB.out.alloc HB.out.size _⟩
  · rw [hno hall]
    generalize goodDs fs ds = gd at *
    generalize idxD ds id = ix at *
    generalize findF fs flat = ff at *
    generalize whereD ds flat = wh at *
    have CI := hide cI; have CG := hide cG; have CF := hide cF; have CW := hide cW; have HALL := hide hall
    clear cI cG cF cW hno hall hpl
    cases gd with
    | false =>
      go_enter Try.func36, Try.ntmps36
      go_wp2_with fail
      refine (CI.out _ HU.out).mono ?_; rintro e w1 ⟨rfl, rfl⟩
      go_wp2_with fail
      refine (CG.out _ HV.out HU.out).mono ?_; rintro e w2 ⟨rfl, hb⟩
      replace HB := hide (bstep HB.out hb HB.out.size); clear hb
      go_wp2_with fail
      go_ret2
      exact ⟨_, rfl, isD_empty _, HB.out.alloc HB.out.size _⟩
    | true =>
      by_cases hix : ix < 0
      · go_enter Try.func36, Try.ntmps36
        go_wp2_with fail
        refine (CI.out _ HU.out).mono ?_; rintro e w1 ⟨rfl, rfl⟩
        go_wp2_with fail
        refine (CG.out _ HV.out HU.out).mono ?_; rintro e w2 ⟨rfl, hb⟩
        replace HB := hide (bstep HB.out hb HB.out.size); clear hb
        go_wp2_with fail
        go_ret2
        exact ⟨_, rfl, isD_empty _, HB.out.alloc HB.out.size _⟩
      · by_cases hff : ff < 0
        · go_enter Try.func36, Try.ntmps36
          go_wp2_with fail
          refine (CI.out _ HU.out).mono ?_; rintro e w1 ⟨rfl, rfl⟩
          go_wp2_with fail
          refine (CG.out _ HV.out HU.out).mono ?_; rintro e w2 ⟨rfl, hb⟩
          replace HV := hide (HV.out.below hb (Nat.le_refl _))
          replace HB := hide (bstep HB.out hb HB.out.size); clear hb
          go_wp2_with fail
          refine (CF.out _ HV.out).mono ?_; rintro e w3 ⟨rfl, rfl⟩
          go_wp2_with fail
          go_ret2
          exact ⟨_, rfl, isD_empty _, HB.out.alloc HB.out.size _⟩
        · have hwh : 0 ≤ wh := by
            have := HALL.out
            simp at this; omega
          have hwh2 : decide (0 ≤ wh) = true := decide_eq_true hwh
          go_enter Try.func36, Try.ntmps36
          go_wp2_with fail
          refine (CI.out _ HU.out).mono ?_; rintro e w1 ⟨rfl, rfl⟩
          go_wp2_with fail
          refine (CG.out _ HV.out HU.out).mono ?_; rintro e w2 ⟨rfl, hb⟩
          replace HV := hide (HV.out.below hb (Nat.le_refl _))
          replace HU := hide (HU.out.below hb (Nat.le_refl _))
          replace HB := hide (bstep HB.out hb HB.out.size); clear hb
          go_wp2_with fail
          refine (CF.out _ HV.out).mono ?_; rintro e w3 ⟨rfl, rfl⟩
          go_wp2_with fail
          refine (CW.out _ HU.out).mono ?_; rintro e w4 ⟨rfl, rfl⟩
          go_wp2_with fail
          go_ret2
          exact ⟨_, rfl, isD_empty _, HB.out.alloc HB.out.size _⟩
end Go.Proofs.Ytdbcilinoieabaa
