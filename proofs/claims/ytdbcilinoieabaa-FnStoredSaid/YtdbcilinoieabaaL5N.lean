/- Contracts of drawersFor and DrawersFor in impl. Condition: small grams. (Printed by mk5n.py.) -/
import Derived.Test.YtdbcilinoieabaaL5M
namespace Go.Proofs.Ytdbcilinoieabaa
open Go.RowKit
set_option linter.unusedVariables false
/-- a flat can be put into the k-th drawer -/
def canB (fs : List SFlat) (ds : List DrV) (flat : Int) (k : Nat) : Bool := goodDs fs (putK ds flat k)
set_option maxHeartbeats 1000000 in
theorem drawersFor_any (v u : Value) (fs : List SFlat) (ds : List DrV) (flat : Int) (w : World) (hv : Is 4 SFlat.enc w v fs) (hu : IsD w u ds) (hf : fitG fs) (hg : goodDs fs ds = true) :
    Calls Try.prog 117 #[v, u, .int .i64 flat] w fun e w' => ∃ r, e = .returned r ∧ Own 1 encI 3 w' w.heap.size r (idxs (canB fs ds flat) ds.length) ∧ Below w.heap.size w w' := by
  have hln := goodDs_len hg
  have HP := hide (fun (W : World) (hv : Is 4 SFlat.enc W v fs) (hu : IsD W u ds) (k : Nat) (hk : k < ds.length) => putFlatK_is v u fs ds flat k W hv hu hf hg hk)
  have HV := hide hv; have HU := hide hu
  obtain ⟨rs, hmap, ⟨A, cap, rfl, _, _, _⟩, _⟩ := hu
  have hlr : rs.length = ds.length := by rw [← hmap]; simp
  clear hv hg hmap
  rw [hlr] at HP HU ⊢
  clear hlr
  go_enter Try.func117, Try.ntmps117
  go_wp2_with fail
  go_loopw [7, 13] (fun s i wr => ∃ k : Nat, k ≤ ds.length ∧ i = .int .i64 (k : Int) ∧ Own 1 encI 3 wr w.heap.size s (idxs (canB fs ds flat) k) ∧ Below w.heap.size w wr) (fun _ i _ => ds.length - (intOf i).toNat)
  case atStart => exact ⟨0, Nat.zero_le _, rfl, Own.nil, Below.refl _ _⟩
  case round =>
    obtain ⟨k, hk, rfl, hown, hbel⟩ := hrel
    have hsz := hbel.size
    have HO := hide hown; have HB := hide hbel; clear hown hbel
    by_cases hlt : k < ds.length
    · have hlt' : (k : Int) < ds.length := by omega
      have hst := idxs_succ (canB fs ds flat) k
      have hdl : (idxs (canB fs ds flat) k).length ≤ 16777216 := by have := idxs_le (canB fs ds flat) k; omega
      have hc := HP.out wr (HV.out.below HB.out (Nat.le_refl _)) (HU.out.below HB.out (Nat.le_refl _)) k hlt
      rw [show goodDs fs (putK ds flat k) = canB fs ds flat k from rfl] at hc
      have HST := hide hst; clear hst
      cases hcb : canB fs ds flat k with
      | true =>
        rw [hcb] at hc HST
        have HC := hide hc; clear hc hcb
        go_wp2_with fail
        refine HC.out.mono ?_; rintro e w1 ⟨r, rfl, _, hb⟩
        have HO1 := hide (HO.out.below hb); have hB1 := bstep HB.out hb hsz; have hs1 := hB1.size
        clear hb
        go_wp2_with ((at_builtin; refine wpList_push1 (k := 1) (enc := encI) _ rfl _ _ 52 rfl 3 (.int .i64 0) 8 Try.underlying52 infoI rfl (by omega) (by omega) encI_one (w.heap.size) _ (idxs (canB fs ds flat) k) rfl (HO1.out) ((k : Int)) _ rfl rfl (hdl) (hs1) (hB1) (Nat.le_refl _) rfl ?_; intro v1 w1 ho1 hb1 hg1))
        go_round
        case measure => (simp [intOf] <;> omega)
        case rel => exact ⟨k + 1, by omega, by go_num, by rw [HST.out]; exact ho1, hb1⟩
      | false =>
        rw [hcb] at hc HST
        have HC := hide hc; clear hc hcb
        go_wp2_with fail
        refine HC.out.mono ?_; rintro e w1 ⟨r, rfl, _, hb⟩
        have HO1 := hide (HO.out.below hb); have HB1 := hide (bstep HB.out hb hsz)
        clear hb
        go_wp2_with fail
        go_round
        case measure => (simp [intOf] <;> omega)
        case rel => exact ⟨k + 1, by omega, by go_num, by rw [HST.out]; simpa using HO1.out, HB1.out⟩
    · have hkk : k = ds.length := by omega
      subst hkk
      go_wp2_with fail
      go_ret
      exact ⟨_, rfl, HO.out, HB.out⟩
/-- the ids of the drawers into which a flat can be put -/
def dfIds (fs : List SFlat) (ds : List DrV) (flat : Int) (n : Nat) : List Int := ((List.range n).filter (canB fs ds flat)).map fun k => (DrV.at ds k).ident
def dfV (fs : List SFlat) (ds : List DrV) (flat : Int) : List Int × Bool := if looseB fs ds flat = true then (dfIds fs ds flat ds.length, true) else ([], false)
theorem dfIds_le (fs : List SFlat) (ds : List DrV) (flat : Int) (n : Nat) : (dfIds fs ds flat n).length ≤ n := by
  unfold dfIds; rw [List.length_map]; exact Nat.le_trans (List.length_filter_le _ _) (by simp)
theorem idxs_get {p : Nat → Bool} {n : Nat} {j : Nat} (h : j < (idxs p n).length) : ∃ k, k < n ∧ p k = true ∧ (idxs p n)[j] = (k : Int) ∧ ((List.range n).filter p)[j]? = some k := by
  have h2 : j < ((List.range n).filter p).length := by simpa [idxs] using h
  have hm := List.getElem_mem h2
  rw [List.mem_filter, List.mem_range] at hm
  exact ⟨((List.range n).filter p)[j], hm.1, hm.2, by simp [idxs], List.getElem?_eq_getElem h2⟩
def dfTo (fs : List SFlat) (ds : List DrV) (flat : Int) (j : Nat) : List Int := (((List.range ds.length).filter (canB fs ds flat)).take j).map fun k => (DrV.at ds k).ident
theorem dfTo_succ {fs : List SFlat} {ds : List DrV} {flat : Int} {j k : Nat} (h : ((List.range ds.length).filter (canB fs ds flat))[j]? = some k) : dfTo fs ds flat (j + 1) = dfTo fs ds flat j ++ [(DrV.at ds k).ident] := by
  obtain ⟨hj, hk⟩ := List.getElem?_eq_some_iff.1 h
  unfold dfTo; rw [take_snoc' hj, List.map_append, hk]; rfl
theorem dfTo_le (fs : List SFlat) (ds : List DrV) (flat : Int) (j : Nat) : (dfTo fs ds flat j).length ≤ j := by simp [dfTo]; omega
theorem dfTo_all (fs : List SFlat) (ds : List DrV) (flat : Int) : dfTo fs ds flat (idxs (canB fs ds flat) ds.length).length = dfIds fs ds flat ds.length := by
  unfold dfTo dfIds
  rw [List.take_of_length_le (by simp [idxs])]
set_option maxHeartbeats 1000000 in
theorem DrawersForI_is (v u : Value) (fs : List SFlat) (ds : List DrV) (flat : Int) (w : World) (hv : Is 4 SFlat.enc w v fs) (hu : IsD w u ds) (hf : fitG fs) :
    Calls Try.prog 38 #[v, u, .int .i64 flat] w fun e w' => ∃ r, e = .returned (.tuple #[r, .bool (dfV fs ds flat).2]) ∧ Own 1 encI 3 w' w.heap.size r (dfV fs ds flat).1 ∧ Below w.heap.size w w' := by
  have HV := hide hv; have HU := hide hu
  have hL := isLoose_any v u fs ds flat w hv hu hf
  cases hlo : looseB fs ds flat with
  | false =>
    rw [hlo] at hL
    rw [show dfV fs ds flat = ([], false) from if_neg (by rw [hlo]; simp)]
    have HL := hide hL; clear hL hlo hv hu
    go_enter Try.func38, Try.ntmps38
    go_wp2_with fail
    refine HL.out.mono ?_; rintro e w1 ⟨rfl, hb⟩
    have HB := hide hb; clear hb
    go_wp2_with fail
    go_ret2
    exact ⟨_, rfl, Own.nil, HB.out⟩
  | true =>
    rw [hlo] at hL
    rw [show dfV fs ds flat = (dfIds fs ds flat ds.length, true) from if_pos hlo]
    have hgd := (looseB_iff.1 hlo).1
    have hln := goodDs_len hgd
    have HD := hide (fun (W : World) (hv : Is 4 SFlat.enc W v fs) (hu : IsD W u ds) => drawersFor_any v u fs ds flat W hv hu hf hgd)
    have HL := hide hL; clear hL hlo hv hu hgd
    go_enter Try.func38, Try.ntmps38
    go_wp2_with fail
    refine HL.out.mono ?_; rintro e w1 ⟨rfl, hb⟩
    have hU1 := HU.out.below hb (Nat.le_refl _)
    have hD := HD.out w1 (HV.out.below hb (Nat.le_refl _)) hU1
    have HDD := hide hD; have HB := hide hb; have HU1 := hide hU1; clear hb hD hU1
    go_wp2_with fail
    refine HDD.out.mono ?_; rintro e w2 ⟨r, rfl, ho, hb⟩
    have hs1 := HB.out.size
    have hB2 := bstep HB.out hb hs1
    obtain ⟨rs, hmap, ⟨A, cap, rfl, hr, _, _⟩, _⟩ := HU1.out.below hb (Nat.le_refl _)
    have hlr : ds.length = rs.length := by rw [← hmap]; simp
    obtain ⟨AI, cI, rfl, hrI, _, _⟩ := ho.row
    have hil := idxs_le (canB fs ds flat) ds.length
    have hgt := fun j hj => @idxs_get (canB fs ds flat) ds.length j hj
    have hall := dfTo_all fs ds flat
    generalize hLi : idxs (canB fs ds flat) ds.length = li at *
    have hs2 := hB2.size
    generalize hB : w2.heap.size = B2 at hr hrI
    have HR := hide hr; have HRI := hide hrI; have HG := hide hgt; have HM := hide hmap; have HALL := hide hall; have HB2 := hide hB2
    have hlr8 : rs.length ≤ 8 := by omega
    clear hr hrI hgt hmap ho hb HDD hall hLi HU1 HU hB2
    go_wp2_with fail
    go_loopw [8, 21] (fun s i wr => ∃ j : Nat, j ≤ li.length ∧ i = .int .i64 (j : Int) ∧ Own 1 encI 3 wr B2 s (dfTo fs ds flat j) ∧ Below B2 w2 wr) (fun _ i _ => li.length - (intOf i).toNat)
    case atStart => exact ⟨0, Nat.zero_le _, rfl, Own.nil, by rw [← hB]; exact Below.refl _ _⟩
    case round =>
      obtain ⟨j, hj, rfl, hown, hbel⟩ := hrel
      have hsz : B2 ≤ wr.heap.size := by have := hbel.size; omega
      have HO := hide hown; clear hown
      by_cases hlt : j < li.length
      · have hlt' : (j : Int) < li.length := by omega
        obtain ⟨k, hk, _, hkv, hkg⟩ := HG.out j hlt
        obtain ⟨bi, offi, rfl, _, i0⟩ := Ints.cells HRI.out hlt hbel
        rw [hkv] at i0
        have hkr : k < rs.length := by omega
        have hkr' : (k : Int) < rs.length := by omega
        obtain ⟨b, off, rfl, _, c0, _, _, _, _⟩ := SDr.cells HR.out hkr hbel
        have hst := dfTo_succ hkg
        have hat := DrV.at_map hkr
        rw [HM.out] at hat
        rw [hat] at hst
        have hdl : (dfTo fs ds flat j).length ≤ 16777216 := by have := dfTo_le fs ds flat j; omega
        generalize rs[k].ident = y0 at *
        have HST := hide hst; have hbb := hbel
        have hk00 : (0 : Int) ≤ (k : Int) := by omega
        clear hst hat hkg hkv hbel
        go_wp2_with ((at_builtin; refine wpList_push1 (k := 1) (enc := encI) _ rfl _ _ 52 rfl 3 (.int .i64 0) 8 Try.underlying52 infoI rfl (by omega) (by omega) encI_one (B2) _ (dfTo fs ds flat j) rfl (HO.out) (y0) _ rfl rfl (hdl) (hsz) (hbb) (Nat.le_refl _) rfl ?_; intro v1 w1 ho1 hb1 hg1))
        go_round
        case measure => (simp [intOf] <;> omega)
        case rel => exact ⟨j + 1, by omega, by go_num, by rw [HST.out]; exact ho1, hb1⟩
      · have hjj : j = li.length := by omega
        subst hjj
        have HBB := hide hbel; clear hbel
        go_wp2_with fail
        go_ret2
        exact ⟨_, rfl, by rw [← HALL.out]; exact HO.out.mono (by omega), HB2.out.trans (HBB.out.mono (by omega))⟩
end Go.Proofs.Ytdbcilinoieabaa
