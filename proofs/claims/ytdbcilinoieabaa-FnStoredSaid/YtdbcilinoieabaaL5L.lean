/- Contracts of isLoose, PutFlat, DrawerOf and GramsIn in impl. Condition: small grams. (Printed by mk5l.py.) -/
import Derived.Test.YtdbcilinoieabaaL5K
namespace Go.Proofs.Ytdbcilinoieabaa
open Go.RowKit
set_option linter.unusedVariables false
/-- a flat is there and in no drawer, and all is right -/
def looseB (fs : List SFlat) (ds : List DrV) (flat : Int) : Bool := goodDs fs ds && (decide (0 ≤ findF fs flat) && decide (whereD ds flat < 0))
theorem looseB_iff {fs : List SFlat} {ds : List DrV} {flat : Int} : looseB fs ds flat = true ↔ goodDs fs ds = true ∧ 0 ≤ findF fs flat ∧ whereD ds flat < 0 := by
  unfold looseB; rw [Bool.and_eq_true, Bool.and_eq_true, decide_eq_true_iff, decide_eq_true_iff]
theorem isLoose_any (v u : Value) (fs : List SFlat) (ds : List DrV) (flat : Int) (w : World) (hv : Is 4 SFlat.enc w v fs) (hu : IsD w u ds) (hf : fitG fs) :
    Calls Try.prog 109 #[v, u, .int .i64 flat] w fun e w' => e = .returned (.bool (looseB fs ds flat)) ∧ Below w.heap.size w w' := by
  have HV := hide hv; have HU := hide hu; have HF := hide hf; have HB := hide (Below.refl w.heap.size w)
  clear hv hu hf
  have hlo : looseB fs ds flat = (goodDs fs ds && (decide (0 ≤ findF fs flat) && decide (whereD ds flat < 0))) := rfl
  generalize looseB fs ds flat = lo at *
  have cA := fun W (hv : Is 4 SFlat.enc W v fs) (hu : IsD W u ds) => AreDrawers_any v u fs ds W hv hu HF.out
  have cF := fun W (hv : Is 4 SFlat.enc W v fs) (hu : IsD W u ds) => flatAt_any v fs flat W hv
  have cD := fun W (hv : Is 4 SFlat.enc W v fs) (hu : IsD W u ds) => drawerWith_any u ds flat W hu
  generalize goodDs fs ds = gd at *
  generalize findF fs flat = ff at *
  generalize whereD ds flat = wd at *
  have CA := hide cA; have CF := hide cF; have CD := hide cD; have HLO := hide hlo; clear cA cF cD hlo
  cases gd with
  | false =>
    go_enter Try.func109, Try.ntmps109
    go_wp2_with fail
    refine (CA.out _ HV.out HU.out).mono ?_; rintro e w1 ⟨rfl, hb⟩
    replace HV := hide (HV.out.below hb (Nat.le_refl _))
    replace HU := hide (HU.out.below hb (Nat.le_refl _))
    replace HB := hide (bstep HB.out hb HB.out.size); clear hb
    go_wp2_with fail
    go_ret
    exact ⟨ret_bool (by rw [HLO.out]; rfl), HB.out⟩
  | true =>
    by_cases hq : 0 ≤ ff
    · have hq1 : decide (ff ≥ 0) = true := decide_eq_true hq
      go_enter Try.func109, Try.ntmps109
      go_wp2_with fail
      refine (CA.out _ HV.out HU.out).mono ?_; rintro e w1 ⟨rfl, hb⟩
      replace HV := hide (HV.out.below hb (Nat.le_refl _))
      replace HU := hide (HU.out.below hb (Nat.le_refl _))
      replace HB := hide (bstep HB.out hb HB.out.size); clear hb
      go_wp2_with fail
      refine (CF.out _ HV.out HU.out).mono ?_; rintro e w2 ⟨rfl, hb⟩
      replace HV := hide (HV.out.below hb (Nat.le_refl _))
      replace HU := hide (HU.out.below hb (Nat.le_refl _))
      replace HB := hide (bstep HB.out hb HB.out.size); clear hb
      go_wp2_with fail
      refine (CD.out _ HV.out HU.out).mono ?_; rintro e w3 ⟨rfl, hb⟩
      replace HV := hide (HV.out.below hb (Nat.le_refl _))
      replace HU := hide (HU.out.below hb (Nat.le_refl _))
      replace HB := hide (bstep HB.out hb HB.out.size); clear hb
      go_wp2_with fail
      go_ret
      exact ⟨ret_bool (by rw [HLO.out, decide_eq_true hq]; rfl), HB.out⟩
    · have HQ := hide hq
      go_enter Try.func109, Try.ntmps109
      go_wp2_with fail
      refine (CA.out _ HV.out HU.out).mono ?_; rintro e w1 ⟨rfl, hb⟩
      replace HV := hide (HV.out.below hb (Nat.le_refl _))
      replace HU := hide (HU.out.below hb (Nat.le_refl _))
      replace HB := hide (bstep HB.out hb HB.out.size); clear hb
      go_wp2_with fail
      refine (CF.out _ HV.out HU.out).mono ?_; rintro e w2 ⟨rfl, hb⟩
      replace HV := hide (HV.out.below hb (Nat.le_refl _))
      replace HU := hide (HU.out.below hb (Nat.le_refl _))
      replace HB := hide (bstep HB.out hb HB.out.size); clear hb
      go_wp2_with fail
      go_ret
      exact ⟨ret_bool (by rw [HLO.out, decide_eq_false (show ¬ 0 ≤ ff by have := HQ.out; omega)]; rfl), HB.out⟩
/-- what PutFlat gives -/
def putV (fs : List SFlat) (ds : List DrV) (flat id : Int) : List DrV × Bool :=
  if (looseB fs ds flat = true ∧ 0 ≤ idxD ds id) ∧ goodDs fs (putK ds flat (idxD ds id).toNat) = true then (putK ds flat (idxD ds id).toNat, true) else ([], false)
theorem idxD_place (ds : List DrV) (id : Int) : idxD ds id = -1 ∨ ∃ k, ∃ h : k < ds.length, idxD ds id = (k : Int) ∧ ds[k].ident = id := by
  rcases idxF_place (fun d : DrV => d.ident == id) ds with ⟨h, _⟩ | ⟨k, h, h1, h2, _⟩
  · exact .inl h
  · exact .inr ⟨k, h, h1, by simpa using h2⟩
theorem PutFlatI_is (v u : Value) (fs : List SFlat) (ds : List DrV) (flat id : Int) (w : World) (hv : Is 4 SFlat.enc w v fs) (hu : IsD w u ds) (hf : fitG fs) :
    Calls Try.prog 35 #[v, u, .int .i64 flat, .int .i64 id] w fun e w' => ∃ r, e = .returned (.tuple #[r, .bool (putV fs ds flat id).2]) ∧ IsD w' r (putV fs ds flat id).1 ∧ Below w.heap.size w w' := by
  have HV := hide hv; have HU := hide hu; have HF := hide hf; have HB := hide (Below.refl w.heap.size w)
  clear hv hu hf
  have cL := fun W (hv : Is 4 SFlat.enc W v fs) (hu : IsD W u ds) => isLoose_any v u fs ds flat W hv hu HF.out
  have cX := fun W (hv : Is 4 SFlat.enc W v fs) (hu : IsD W u ds) => drawerAt_any u ds id W hu
  have hno : ¬ (looseB fs ds flat = true ∧ 0 ≤ idxD ds id) → putV fs ds flat id = ([], false) := fun h => if_neg (fun h2 => h h2.1)
  by_cases hall : looseB fs ds flat = true ∧ 0 ≤ idxD ds id
  · obtain ⟨hlo, hix⟩ := hall
    obtain ⟨k, hk, hik, _⟩ : ∃ k, ∃ h : k < ds.length, idxD ds id = (k : Int) ∧ ds[k].ident = id := by
      rcases idxD_place ds id with h | h
      · omega
      · exact h
    have hpv : putV fs ds flat id = if goodDs fs (putK ds flat k) = true then (putK ds flat k, true) else ([], false) := by
      unfold putV
      rw [hik, Int.toNat_natCast]
      simp [hlo]
    have cP := fun W (hv : Is 4 SFlat.enc W v fs) (hu : IsD W u ds) => putFlatK_is v u fs ds flat k W hv hu HF.out (looseB_iff.1 hlo).1 hk
    rw [hlo] at cL
    rw [hik] at cX
    generalize putV fs ds flat id = pv at *
    generalize putK ds flat k = out at *
    generalize goodDs fs out = gd at *
    have hk0 : ¬ (k : Int) < 0 := by omega
    have CL := hide cL; have CX := hide cX; have CP := hide cP; have HPV := hide hpv
    clear cL cX cP hpv hno hlo hix hik
    go_enter Try.func35, Try.ntmps35
    go_wp2_with fail
    refine (CX.out _ HV.out HU.out).mono ?_; rintro e w1 ⟨rfl, hb⟩
    replace HV := hide (HV.out.below hb (Nat.le_refl _))
    replace HU := hide (HU.out.below hb (Nat.le_refl _))
    replace HB := hide (bstep HB.out hb HB.out.size); clear hb
    go_wp2_with fail
    refine (CL.out _ HV.out HU.out).mono ?_; rintro e w2 ⟨rfl, hb⟩
    replace HV := hide (HV.out.below hb (Nat.le_refl _))
    replace HU := hide (HU.out.below hb (Nat.le_refl _))
    replace HB := hide (bstep HB.out hb HB.out.size); clear hb
    go_wp2_with fail
    refine (CP.out _ HV.out HU.out).mono ?_; rintro e w3 ⟨r, rfl, hd, hb⟩
    replace HV := hide (HV.out.below hb (Nat.le_refl _))
    replace HU := hide (HU.out.below hb (Nat.le_refl _))
    replace HB := hide (bstep HB.out hb HB.out.size); clear hb
    have HD := hide hd; clear hd
    cases gd with
    | true =>
      go_wp2_with fail
      go_ret2
      rw [show pv = (out, true) from HPV.out]
      exact ⟨_, rfl, HD.out, HB.out⟩
    | false =>
      go_wp2_with fail
      go_ret2
      rw [show pv = ([], false) from HPV.out]
      exact ⟨_, rfl, HD.out, HB.out⟩
  · rw [hno hall]
    generalize looseB fs ds flat = lo at *
    generalize idxD ds id = ix at *
    have CL := hide cL; have CX := hide cX; have HALL := hide hall
    clear cL cX hno hall
    cases lo with
    | false =>
      go_enter Try.func35, Try.ntmps35
      go_wp2_with fail
      refine (CX.out _ HV.out HU.out).mono ?_; rintro e w1 ⟨rfl, hb⟩
      replace HV := hide (HV.out.below hb (Nat.le_refl _))
      replace HU := hide (HU.out.below hb (Nat.le_refl _))
      replace HB := hide (bstep HB.out hb HB.out.size); clear hb
      go_wp2_with fail
      refine (CL.out _ HV.out HU.out).mono ?_; rintro e w2 ⟨rfl, hb⟩
      replace HV := hide (HV.out.below hb (Nat.le_refl _))
      replace HU := hide (HU.out.below hb (Nat.le_refl _))
      replace HB := hide (bstep HB.out hb HB.out.size); clear hb
      go_wp2_with fail
      go_ret2
      exact ⟨_, rfl, IsD.nil, HB.out⟩
    | true =>
      have hix : ix < 0 := by
        have := HALL.out
        simp at this; omega
      go_enter Try.func35, Try.ntmps35
      go_wp2_with fail
      refine (CX.out _ HV.out HU.out).mono ?_; rintro e w1 ⟨rfl, hb⟩
      replace HV := hide (HV.out.below hb (Nat.le_refl _))
      replace HU := hide (HU.out.below hb (Nat.le_refl _))
      replace HB := hide (bstep HB.out hb HB.out.size); clear hb
      go_wp2_with fail
      refine (CL.out _ HV.out HU.out).mono ?_; rintro e w2 ⟨rfl, hb⟩
      replace HV := hide (HV.out.below hb (Nat.le_refl _))
      replace HU := hide (HU.out.below hb (Nat.le_refl _))
      replace HB := hide (bstep HB.out hb HB.out.size); clear hb
      go_wp2_with fail
      go_ret2
      exact ⟨_, rfl, IsD.nil, HB.out⟩
def drOfV (fs : List SFlat) (ds : List DrV) (flat : Int) : Int × Bool :=
  if goodDs fs ds = true ∧ 0 ≤ findF fs flat then (if 0 ≤ whereD ds flat then (DrV.at ds (whereD ds flat).toNat).ident else 0, true) else (0, false)
theorem DrawerOf_is (v u : Value) (fs : List SFlat) (ds : List DrV) (flat : Int) (w : World) (hv : Is 4 SFlat.enc w v fs) (hu : IsD w u ds) (hf : fitG fs) :
    Calls Try.prog 40 #[v, u, .int .i64 flat] w fun e w' => e = .returned (.tuple #[.int .i64 (drOfV fs ds flat).1, .bool (drOfV fs ds flat).2]) ∧ Below w.heap.size w w' := by
  have HV := hide hv; have HU := hide hu; have HF := hide hf; have HB := hide (Below.refl w.heap.size w)
  clear hv hu hf
  have cA := fun W (hv : Is 4 SFlat.enc W v fs) (hu : IsD W u ds) => AreDrawers_any v u fs ds W hv hu HF.out
  have cF := fun W (hv : Is 4 SFlat.enc W v fs) (hu : IsD W u ds) => flatAt_any v fs flat W hv
  have cD := fun W (hv : Is 4 SFlat.enc W v fs) (hu : IsD W u ds) => drawerWith_any u ds flat W hu
  have hno : ¬ (goodDs fs ds = true ∧ 0 ≤ findF fs flat) → drOfV fs ds flat = (0, false) := fun h => if_neg h
  have hyes : goodDs fs ds = true ∧ 0 ≤ findF fs flat → drOfV fs ds flat = (if 0 ≤ whereD ds flat then (DrV.at ds (whereD ds flat).toNat).ident else 0, true) := fun h => if_pos h
  generalize drOfV fs ds flat = dv at *
  generalize goodDs fs ds = gd at *
  generalize findF fs flat = ff at *
  by_cases hall : gd = true ∧ 0 ≤ ff
  · have hdv := hyes hall
    obtain ⟨rfl, hff⟩ := hall
    have hf0 : ¬ ff < 0 := by omega
    have hf1 : decide (ff < 0) = false := decide_eq_false hf0
    clear hno hyes
    rcases whereD_place ds flat with ⟨hwd, _⟩ | ⟨k, hk, hwd, _, _⟩
    · rw [hwd] at cD hdv
      have hdv2 : dv = (0, true) := hdv
      have CA := hide cA; have CF := hide cF; have CD := hide cD; have HDV := hide hdv2
      clear cA cF cD hdv hdv2 hwd
      go_enter Try.func40, Try.ntmps40
      go_wp2_with fail
      refine (CA.out _ HV.out HU.out).mono ?_; rintro e w1 ⟨rfl, hb⟩
      replace HV := hide (HV.out.below hb (Nat.le_refl _))
      replace HU := hide (HU.out.below hb (Nat.le_refl _))
      replace HB := hide (bstep HB.out hb HB.out.size); clear hb
      go_wp2_with fail
      refine (CF.out _ HV.out HU.out).mono ?_; rintro e w2 ⟨rfl, hb⟩
      replace HV := hide (HV.out.below hb (Nat.le_refl _))
      replace HU := hide (HU.out.below hb (Nat.le_refl _))
      replace HB := hide (bstep HB.out hb HB.out.size); clear hb
      go_wp2_with fail
      refine (CD.out _ HV.out HU.out).mono ?_; rintro e w3 ⟨rfl, hb⟩
      replace HV := hide (HV.out.below hb (Nat.le_refl _))
      replace HU := hide (HU.out.below hb (Nat.le_refl _))
      replace HB := hide (bstep HB.out hb HB.out.size); clear hb
      go_wp2_with fail
      go_ret2
      rw [HDV.out]
      exact ⟨rfl, HB.out⟩
    · rw [hwd] at cD hdv
      have hdv2 : dv = (ds[k].ident, true) := by
        rw [hdv, if_pos (by omega), Int.toNat_natCast, DrV.at_lt hk]
      have hk0 : ¬ (k : Int) < 0 := by omega
      have CA := hide cA; have CF := hide cF; have CD := hide cD; have HDV := hide hdv2
      clear cA cF cD hdv hdv2 hwd
      go_enter Try.func40, Try.ntmps40
      go_wp2_with fail
      refine (CA.out _ HV.out HU.out).mono ?_; rintro e w1 ⟨rfl, hb⟩
      replace HV := hide (HV.out.below hb (Nat.le_refl _))
      replace HU := hide (HU.out.below hb (Nat.le_refl _))
      replace HB := hide (bstep HB.out hb HB.out.size); clear hb
      go_wp2_with fail
      refine (CF.out _ HV.out HU.out).mono ?_; rintro e w2 ⟨rfl, hb⟩
      replace HV := hide (HV.out.below hb (Nat.le_refl _))
      replace HU := hide (HU.out.below hb (Nat.le_refl _))
      replace HB := hide (bstep HB.out hb HB.out.size); clear hb
      go_wp2_with fail
      refine (CD.out _ HV.out HU.out).mono ?_; rintro e w3 ⟨rfl, hb⟩
      replace HV := hide (HV.out.below hb (Nat.le_refl _))
      replace HU := hide (HU.out.below hb (Nat.le_refl _))
      replace HB := hide (bstep HB.out hb HB.out.size); clear hb
      obtain ⟨rs, hmap, his, _⟩ := HU.out
      have hlr : ds.length = rs.length := by rw [← hmap]; simp
      have hkr : k < rs.length := by omega
      have hkl : (k : Int) < rs.length := by omega
      have hid : ds[k].ident = rs[k].ident := by subst hmap; simp [SDr.pl]
      rw [hid] at HDV
      obtain ⟨A, cap, rfl, hr, _, _⟩ := his
      obtain ⟨b, off, rfl, hb, c0, _, _, _, _⟩ := SDr.cells hr hkr (Below.refl _ _)
      generalize rs[k].ident = y0 at *
      clear hr hmap hlr hid HU
      go_wp2_with fail
      go_ret2
      rw [HDV.out]
      exact ⟨rfl, HB.out⟩
  · rw [hno hall]
    have CA := hide cA; have CF := hide cF; have HALL := hide hall
    clear cA cF cD hno hyes hall
    cases gd with
    | false =>
      go_enter Try.func40, Try.ntmps40
      go_wp2_with fail
      refine (CA.out _ HV.out HU.out).mono ?_; rintro e w1 ⟨rfl, hb⟩
      replace HV := hide (HV.out.below hb (Nat.le_refl _))
      replace HU := hide (HU.out.below hb (Nat.le_refl _))
      replace HB := hide (bstep HB.out hb HB.out.size); clear hb
      go_wp2_with fail
      go_ret2
      exact ⟨rfl, HB.out⟩
    | true =>
      have hix : ff < 0 := by
        have := HALL.out
        simp at this; omega
      go_enter Try.func40, Try.ntmps40
      go_wp2_with fail
      refine (CA.out _ HV.out HU.out).mono ?_; rintro e w1 ⟨rfl, hb⟩
      replace HV := hide (HV.out.below hb (Nat.le_refl _))
      replace HU := hide (HU.out.below hb (Nat.le_refl _))
      replace HB := hide (bstep HB.out hb HB.out.size); clear hb
      go_wp2_with fail
      refine (CF.out _ HV.out HU.out).mono ?_; rintro e w2 ⟨rfl, hb⟩
      replace HV := hide (HV.out.below hb (Nat.le_refl _))
      replace HU := hide (HU.out.below hb (Nat.le_refl _))
      replace HB := hide (bstep HB.out hb HB.out.size); clear hb
      go_wp2_with fail
      go_ret2
      exact ⟨rfl, HB.out⟩
def gramsInV (fs : List SFlat) (ds : List DrV) (id : Int) : Int × Bool :=
  if goodDs fs ds = true ∧ 0 ≤ idxD ds id then (sumW fs (DrV.at ds (idxD ds id).toNat).fl, true) else (0, false)
theorem okDr_right {fs : List SFlat} {ds : List DrV} {i : Nat} (h : okDr fs ds i = true) : rightB fs (DrV.at ds i) = true := by
  unfold okDr at h
  rw [Bool.and_eq_true, Bool.and_eq_true] at h
  exact h.2.1
theorem GramsIn_is (v u : Value) (fs : List SFlat) (ds : List DrV) (id : Int) (w : World) (hv : Is 4 SFlat.enc w v fs) (hu : IsD w u ds) (hf : fitG fs) :
    Calls Try.prog 41 #[v, u, .int .i64 id] w fun e w' => e = .returned (.tuple #[.int .i64 (gramsInV fs ds id).1, .bool (gramsInV fs ds id).2]) ∧ Below w.heap.size w w' := by
  have HV := hide hv; have HU := hide hu; have HF := hide hf; have HB := hide (Below.refl w.heap.size w)
  clear hv hu hf
  have cA := fun W (hv : Is 4 SFlat.enc W v fs) (hu : IsD W u ds) => AreDrawers_any v u fs ds W hv hu HF.out
  have cX := fun W (hv : Is 4 SFlat.enc W v fs) (hu : IsD W u ds) => drawerAt_any u ds id W hu
  by_cases hall : goodDs fs ds = true ∧ 0 ≤ idxD ds id
  · obtain ⟨hgd, hix⟩ := hall
    obtain ⟨k, hk, hik, _⟩ : ∃ k, ∃ h : k < ds.length, idxD ds id = (k : Int) ∧ ds[k].ident = id := by
      rcases idxD_place ds id with h | h
      · omega
      · exact h
    have hdv : gramsInV fs ds id = (sumW fs ds[k].fl, true) := by
      unfold gramsInV
      rw [if_pos ⟨hgd, hix⟩, hik, Int.toNat_natCast, DrV.at_lt hk]
    have hrt := okDr_right (goodDs_at hgd hk)
    rw [DrV.at_lt hk] at hrt
    have hfl := (goodDs_fl hgd _ (List.getElem_mem hk)).1
    have hk0 : ¬ (k : Int) < 0 := by omega
    rw [hgd] at cA
    rw [hik] at cX
    generalize gramsInV fs ds id = dv at *
    have CA := hide cA; have CX := hide cX; have HDV := hide hdv; have HRT := hide hrt; have HFL := hide hfl
    clear cA cX hdv hrt hfl hgd hix hik
    go_enter Try.func41, Try.ntmps41
    go_wp2_with fail
    refine (CX.out _ HV.out HU.out).mono ?_; rintro e w1 ⟨rfl, hb⟩
    replace HV := hide (HV.out.below hb (Nat.le_refl _))
    replace HU := hide (HU.out.below hb (Nat.le_refl _))
    replace HB := hide (bstep HB.out hb HB.out.size); clear hb
    go_wp2_with fail
    refine (CA.out _ HV.out HU.out).mono ?_; rintro e w2 ⟨rfl, hb⟩
    replace HV := hide (HV.out.below hb (Nat.le_refl _))
    replace HU := hide (HU.out.below hb (Nat.le_refl _))
    replace HB := hide (bstep HB.out hb HB.out.size); clear hb
    obtain ⟨rs, hmap, his, hok⟩ := HU.out
    have hlr : ds.length = rs.length := by rw [← hmap]; simp
    have hkr : k < rs.length := by omega
    have hkl : (k : Int) < rs.length := by omega
    have hid : ds[k] = ⟨rs[k].ident, rs[k].wide, rs[k].high, rs[k].holds, rs[k].xs⟩ := by subst hmap; simp [SDr.pl]
    rw [hid] at HDV HRT HFL
    obtain ⟨A, cap, rfl, hr, _, _⟩ := his
    obtain ⟨b, off, rfl, hb, c0, c1, c2, c3, c4⟩ := SDr.cells hr hkr (Below.refl _ _)
    have hco := hok _ (List.getElem_mem hkr)
    unfold SDr.ok at hco
    generalize rs[k].ident = y0 at *; generalize rs[k].wide = y1 at *; generalize rs[k].high = y2 at *; generalize rs[k].holds = y3 at *; generalize rs[k].A = Ay at *; generalize rs[k].xs = ys at *; generalize rs[k].cap = cy at *
    have hft : fitsV fs y1 y2 ys = true := by have := HRT.out; unfold rightB at this; rw [Bool.and_eq_true] at this; exact this.1
    have hfl3 : ys.length ≤ 12 := HFL.out
    have HG := hide (gramsIn_any v fs y0 y1 y2 y3 Ay cy ys _ HV.out hco.1 HF.out (by omega) (fitsV_found hft))
    clear hr hmap hlr hid HU hok hco hft HRT HFL hfl3
    skip
    go_wp2_with fail
    refine (HG.out).mono ?_; rintro e w3 ⟨rfl, hb⟩
    replace HV := hide (HV.out.below hb (Nat.le_refl _))
    replace HB := hide (bstep HB.out hb HB.out.size); clear hb
    go_wp2_with fail
    go_ret2
    rw [HDV.out]
    exact ⟨rfl, HB.out⟩
  · rw [show gramsInV fs ds id = (0, false) from if_neg hall]
    generalize goodDs fs ds = gd at *
    generalize idxD ds id = ix at *
    have CA := hide cA; have CX := hide cX; have HALL := hide hall
    clear cA cX hall
    cases gd with
    | false =>
      go_enter Try.func41, Try.ntmps41
      go_wp2_with fail
      refine (CX.out _ HV.out HU.out).mono ?_; rintro e w1 ⟨rfl, hb⟩
      replace HV := hide (HV.out.below hb (Nat.le_refl _))
      replace HU := hide (HU.out.below hb (Nat.le_refl _))
      replace HB := hide (bstep HB.out hb HB.out.size); clear hb
      go_wp2_with fail
      refine (CA.out _ HV.out HU.out).mono ?_; rintro e w2 ⟨rfl, hb⟩
      replace HV := hide (HV.out.below hb (Nat.le_refl _))
      replace HU := hide (HU.out.below hb (Nat.le_refl _))
      replace HB := hide (bstep HB.out hb HB.out.size); clear hb
      go_wp2_with fail
      go_ret2
      exact ⟨rfl, HB.out⟩
    | true =>
      have hix : ix < 0 := by
        have := HALL.out
        simp at this; omega
      go_enter Try.func41, Try.ntmps41
      go_wp2_with fail
      refine (CX.out _ HV.out HU.out).mono ?_; rintro e w1 ⟨rfl, hb⟩
      replace HV := hide (HV.out.below hb (Nat.le_refl _))
      replace HU := hide (HU.out.below hb (Nat.le_refl _))
      replace HB := hide (bstep HB.out hb HB.out.size); clear hb
      go_wp2_with fail
      refine (CA.out _ HV.out HU.out).mono ?_; rintro e w2 ⟨rfl, hb⟩
      replace HV := hide (HV.out.below hb (Nat.le_refl _))
      replace HU := hide (HU.out.below hb (Nat.le_refl _))
      replace HB := hide (bstep HB.out hb HB.out.size); clear hb
      go_wp2_with fail
      go_ret2
      exact ⟨rfl, HB.out⟩
end Go.Proofs.Ytdbcilinoieabaa
