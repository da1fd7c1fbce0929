/- Contracts of DrawersFor, AreFlats and AreDrawers in spec. Condition: small grams. -/
import Derived.Test.YtdbcilinoieabaaL5Q
namespace Go.Proofs.Ytdbcilinoieabaa
open Go.RowKit
set_option linter.unusedVariables false
theorem AreFlatsS_is (v : Value) (xs : List SFlat) (w : World) (h : Is 4 SFlat.enc w v xs) :
    Calls Try.prog 47 #[v] w fun e w' => e = .returned (.bool (goodF xs)) ∧ Below w.heap.size w w' := by
  have HC := hide (l5Flats_is v xs w h); clear h
  go_enter Try.func47, Try.ntmps47
  go_wp2_with fail
  refine HC.out.mono ?_; rintro e w1 ⟨rfl, hb⟩
  go_wp2_with fail
  go_ret
  exact ⟨rfl, hb⟩
theorem AreDrawersS_is (v u : Value) (fs : List SFlat) (ds : List DrV) (w : World) (hv : Is 4 SFlat.enc w v fs) (hu : IsD w u ds) (hf : fitG fs) :
    Calls Try.prog 49 #[v, u] w fun e w' => e = .returned (.bool (goodDs fs ds)) ∧ Below w.heap.size w w' := by
  have HC := hide (l5Good_any v u fs ds w hv hu hf); clear hv hu hf
  go_enter Try.func49, Try.ntmps49
  go_wp2_with fail
  refine HC.out.mono ?_; rintro e w1 ⟨rfl, hb⟩
  go_wp2_with fail
  go_ret
  exact ⟨rfl, hb⟩
theorem ident_lt {fs : List SFlat} {ds : List DrV} (h : goodDs fs ds = true) {i : Nat} : ∀ {j : Nat}, i < j → (hj : j < ds.length) → (DrV.at ds i).ident < (DrV.at ds j).ident
  | 0, hij, _ => absurd hij (by omega)
  | j + 1, hij, hj => by
    have h1 := goodDs_at h hj
    unfold okDr at h1
    rw [Bool.and_eq_true, Bool.and_eq_true, Bool.and_eq_true, Bool.or_eq_true] at h1
    have h2 : (DrV.at ds j).ident < (DrV.at ds (j + 1)).ident := by
      rcases h1.2.2.1 with h3 | h3
      · simp at h3
      · simpa using h3
    by_cases he : i = j
    · subst he; exact h2
    · have := ident_lt h (i := i) (j := j) (by omega) (by omega)
      omega
theorem idxD_self {fs : List SFlat} {ds : List DrV} (h : goodDs fs ds = true) {i : Nat} (hi : i < ds.length) : idxD ds (DrV.at ds i).ident = (i : Int) := by
  rcases idxF_place (fun d : DrV => d.ident == (DrV.at ds i).ident) ds with ⟨_, h1⟩ | ⟨k, hk, h1, h2, _⟩
  · have := h1 _ (List.getElem_mem hi)
    rw [DrV.at_lt hi] at this
    simp at this
  · have h3 : ds[k].ident = (DrV.at ds i).ident := by simpa using h2
    rw [← DrV.at_lt hk] at h3
    rcases Nat.lt_trichotomy k i with h4 | h4 | h4
    · have := ident_lt h h4 hi; omega
    · subst h4; exact h1
    · have := ident_lt h h4 hk; omega
theorem putV_can {fs : List SFlat} {ds : List DrV} {flat : Int} (h : looseB fs ds flat = true) {i : Nat} (hi : i < ds.length) : (putV fs ds flat (DrV.at ds i).ident).2 = canB fs ds flat i := by
  unfold putV canB
  rw [idxD_self (looseB_iff.1 h).1 hi, Int.toNat_natCast]
  cases hg : goodDs fs (putK ds flat i) with
  | true => rw [if_pos ⟨⟨h, by omega⟩, rfl⟩]
  | false => rw [if_neg (fun h => by simp at h)]
theorem dfIds_succ {fs : List SFlat} {ds : List DrV} {flat : Int} (n : Nat) : dfIds fs ds flat (n + 1) = if canB fs ds flat n = true then dfIds fs ds flat n ++ [(DrV.at ds n).ident] else dfIds fs ds flat n := by
  unfold dfIds
  rw [List.range_succ, List.filter_append, List.map_append]
  cases h : canB fs ds flat n with
  | true => simp [h]
  | false => simp [h]
set_option maxHeartbeats 2000000 in
theorem DrawersForS_is (v u : Value) (fs : List SFlat) (ds : List DrV) (flat : Int) (w : World) (hv : Is 4 SFlat.enc w v fs) (hu : IsD w u ds) (hf : fitG fs) :
    Calls Try.prog 39 #[v, u, .int .i64 flat] w fun e w' => ∃ r, e = .returned (.tuple #[r, .bool (dfV fs ds flat).2]) ∧ Own 1 encI 3 w' w.heap.size r (dfV fs ds flat).1 ∧ Below w.heap.size w w' := by
  have B0 := below_alloc w (.cells #[] 3)
  have HE := hide (own_emptyI5 w (Nat.le_refl w.heap.size))
  have hs0 : w.heap.size ≤ (w.alloc (.cells #[] 3)).heap.size := by simp
  have HV0 := hide hv; have HU0 := hide hu
  have HV := hide (hv.below B0 (Nat.le_refl _)); have HU := hide (hu.below B0 (Nat.le_refl _)); have HF := hide hf; have HB := hide B0
  clear hv hu hf B0
  have cG := fun W (hv : Is 4 SFlat.enc W v fs) (hu : IsD W u ds) => l5Good_any v u fs ds W hv hu HF.out
  have cF := fun W (hv : Is 4 SFlat.enc W v fs) => l5Find_any v fs flat W hv
  have cW := fun W (hu : IsD W u ds) => l5WhereD u ds flat W hu
  cases hlo : looseB fs ds flat with
  | true =>
    obtain ⟨hgd, hfi, hwh⟩ := looseB_iff.1 hlo
    rw [show dfV fs ds flat = (dfIds fs ds flat ds.length, true) from if_pos hlo]
    have hln := goodDs_len hgd
    have hcan := fun i (hi : i < ds.length) => putV_can hlo hi
    have cP := fun W id (hv : Is 4 SFlat.enc W v fs) (hu : IsD W u ds) => PutFlatS_is v u fs ds flat id W hv hu HF.out
    rw [hgd] at cG
    generalize findF fs flat = ff at *
    generalize whereD ds flat = wh at *
    have hf0 : ¬ ff < 0 := by omega
    have hw0 : ¬ 0 ≤ wh := by omega
    have hw1 : decide (0 ≤ wh) = false := decide_eq_false hw0
    have CG := hide cG; have CF := hide cF; have CW := hide cW; have CP := hide cP; have HCAN := hide hcan
    clear cG cF cW cP hcan hlo hgd hfi hwh
    go_enter Try.func39, Try.ntmps39
    go_wp2_with fail
    refine (CG.out _ HV.out HU.out).mono ?_; rintro e w2 ⟨rfl, hb⟩
    replace HE := hide (HE.out.below hb)
    replace HV := hide (HV.out.below hb (Nat.le_refl _))
    replace HU := hide (HU.out.below hb (Nat.le_refl _))
    replace HB := hide (bstep HB.out hb HB.out.size); clear hb
    go_wp2_with fail
    refine (CF.out _ HV.out).mono ?_; rintro e w3 ⟨rfl, rfl⟩
    go_wp2_with fail
    refine (CW.out _ HU.out).mono ?_; rintro e w4 ⟨rfl, rfl⟩
    clear HV HU
    obtain ⟨rs, hmap, ⟨A, cap, rfl, hr, _, _⟩, _⟩ := HU0.out
    have hlr : ds.length = rs.length := by rw [← hmap]; simp
    generalize hB : w.heap.size = B at *
    have HR := hide hr; have HM := hide hmap; have HBB := hide hB; clear hr hmap
    go_wp2_with fail
    go_loopw [8, 9] (fun s i wr => ∃ k : Nat, k ≤ ds.length ∧ i = .int .i64 (k : Int) ∧ Own 1 encI 3 wr B s (dfIds fs ds flat k) ∧ Below B w wr) (fun _ i _ => ds.length - (intOf i).toNat)
    case atStart => exact ⟨0, Nat.zero_le _, rfl, HE.out, HB.out⟩
    case round =>
      obtain ⟨k, hk, rfl, hown, hbel⟩ := hrel
      have hsz : B ≤ wr.heap.size := by have := hbel.size; omega
      by_cases hlt : k < ds.length
      · have hkr : k < rs.length := by omega
        have hkr' : (k : Int) < rs.length := by omega
        obtain ⟨b, off, rfl, _, c0, _, _, _, _⟩ := SDr.cells HR.out hkr hbel
        have hat := DrV.at_map hkr
        rw [HM.out] at hat
        have hcan := HCAN.out k hlt
        have hst := dfIds_succ (fs := fs) (ds := ds) (flat := flat) k
        rw [hat] at hcan hst
        simp only at hcan hst
        have hP := CP.out wr rs[k].ident (HV0.out.below hbel (by omega)) (HU0.out.below hbel (by omega))
        rw [hcan] at hP
        generalize canB fs ds flat k = cb at *
        generalize putV fs ds flat rs[k].ident = pv at *
        generalize rs[k].ident = y0 at *
        have hdl : (dfIds fs ds flat k).length ≤ 16777216 := by have := dfIds_le fs ds flat k; omega
        have HO := hide hown; have HST := hide hst; have HP := hide hP; have HBW := hide hbel; clear hown hst hP hcan hat hbel
        have c0' := c0
        go_wp2_with fail
        refine HP.out.mono ?_; rintro e w5 ⟨r5, rfl, _, hb⟩
        have d0 := (hb.cell (p := ⟨b, off + k * 5, none⟩) (World.block_lt_of_cell? _ _ c0')).trans c0'
        have HO5 := hide (HO.out.below hb)
        have hb5 := bstep HBW.out hb hsz
        have hsz5 : B ≤ w5.heap.size := by have := hb.size; omega
        clear hb c0 c0' HP
        cases cb with
        | true =>
          go_wp2_with ((at_builtin; refine wpList_push1 (k := 1) (enc := encI) _ rfl _ _ 52 rfl 3 (.int .i64 0) 8 Try.underlying52 infoI rfl (by omega) (by omega) encI_one (B) _ (dfIds fs ds flat k) rfl (HO5.out) (y0) _ rfl rfl (hdl) (hsz5) (hb5) (Nat.le_refl _) rfl ?_; intro v1 w1 ho1 hb1 hg1))
          go_round
          case measure => (simp [intOf] <;> omega)
          case rel => exact ⟨k + 1, by omega, by go_num, by have h9 := HST.out; simp only [if_true] at h9; rw [h9]; exact ho1, hb1⟩
        | false =>
          go_wp2_with fail
          go_round
          case measure => (simp [intOf] <;> omega)
          case rel => exact ⟨k + 1, by omega, by go_num, by have h9 := HST.out; simp only [Bool.false_eq_true, if_false] at h9; rw [h9]; exact HO5.out, hb5⟩
      · have hkk : k = ds.length := by omega
        subst hkk
        have HO := hide hown; have HBW := hide hbel; clear hown hbel
        go_wp2_with fail
        go_ret2
        exact ⟨_, rfl, by rw [HBB.out]; exact HO.out, by rw [HBB.out]; exact HBW.out⟩
  | false =>
    rw [show dfV fs ds flat = ([], false) from if_neg (by rw [hlo]; simp)]
    have hall : ¬ (goodDs fs ds = true ∧ 0 ≤ findF fs flat ∧ whereD ds flat < 0) := fun h => by rw [looseB_iff.2 h] at hlo; cases hlo
    generalize goodDs fs ds = gd at *
    generalize findF fs flat = ff at *
    generalize whereD ds flat = wh at *
    have CG := hide cG; have CF := hide cF; have CW := hide cW; have HALL := hide hall
    clear cG cF cW hlo hall
    cases gd with
    | false =>
      go_enter Try.func39, Try.ntmps39
      go_wp2_with fail
      refine (CG.out _ HV.out HU.out).mono ?_; rintro e w2 ⟨rfl, hb⟩
      replace HE := hide (HE.out.below hb)
      replace HB := hide (bstep HB.out hb HB.out.size); clear hb
      go_wp2_with fail
      go_ret2
      exact ⟨_, rfl, HE.out, HB.out⟩
    | true =>
      by_cases hff : ff < 0
      · go_enter Try.func39, Try.ntmps39
        go_wp2_with fail
        refine (CG.out _ HV.out HU.out).mono ?_; rintro e w2 ⟨rfl, hb⟩
        replace HE := hide (HE.out.below hb)
        replace HV := hide (HV.out.below hb (Nat.le_refl _))
        replace HB := hide (bstep HB.out hb HB.out.size); clear hb
        go_wp2_with fail
        refine (CF.out _ HV.out).mono ?_; rintro e w3 ⟨rfl, rfl⟩
        go_wp2_with fail
        go_ret2
        exact ⟨_, rfl, HE.out, HB.out⟩
      · have hwh : 0 ≤ wh := by
          have := HALL.out
          simp at this; omega
        have hwh2 : decide (0 ≤ wh) = true := decide_eq_true hwh
        go_enter Try.func39, Try.ntmps39
        go_wp2_with fail
        refine (CG.out _ HV.out HU.out).mono ?_; rintro e w2 ⟨rfl, hb⟩
        replace HE := hide (HE.out.below hb)
        replace HV := hide (HV.out.below hb (Nat.le_refl _))
        replace HU := hide (HU.out.below hb (Nat.le_refl _))
        replace HB := hide (bstep HB.out hb HB.out.size); clear hb
        go_wp2_with fail
        refine (CF.out _ HV.out).mono ?_; rintro e w3 ⟨rfl, rfl⟩
        go_wp2_with fail
        refine (CW.out _ HU.out).mono ?_; rintro e w4 ⟨rfl, rfl⟩
        go_wp2_with fail
        go_ret2
        exact ⟨_, rfl, HE.out, HB.out⟩
end Go.Proofs.Ytdbcilinoieabaa
