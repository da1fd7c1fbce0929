/- Contract of TakeFlat in impl. Condition: small grams. -/
import Derived.Test.YtdbcilinoieabaaL5L
namespace Go.Proofs.Ytdbcilinoieabaa
open Go.RowKit
set_option linter.unusedVariables false
/-- the list without a flat of the k-th drawer -/
def takeK (ds : List DrV) (flat : Int) (k : Nat) : List DrV := setFl ds (k : Int) ((DrV.at ds k).fl.filter fun y => !(y == flat))
def takeV (fs : List SFlat) (ds : List DrV) (flat : Int) : List DrV × Bool := if goodDs fs ds = true ∧ 0 ≤ whereD ds flat then (takeK ds flat (whereD ds flat).toNat, true) else ([], false)
set_option maxHeartbeats 2000000 in
theorem TakeFlat_is (v u : Value) (fs : List SFlat) (ds : List DrV) (flat : Int) (w : World) (hv : Is 4 SFlat.enc w v fs) (hu : IsD w u ds) (hf : fitG fs) :
    Calls Try.prog 42 #[v, u, .int .i64 flat] w fun e w' => ∃ r, e = .returned (.tuple #[r, .bool (takeV fs ds flat).2]) ∧ IsD w' r (takeV fs ds flat).1 ∧ Below w.heap.size w w' := by
  have B0 := below_alloc w (.cells #[.int .i64 flat] 3)
  have hk0 := Blk.new w 3 #[.int .i64 flat]
  have hs0 : w.heap.size < (w.alloc (.cells #[.int .i64 flat] 3)).heap.size := by simp
  have HV := hide (hv.below B0 (Nat.le_refl _)); have HU := hide (hu.below B0 (Nat.le_refl _)); have HF := hide hf; have HB := hide B0; have HK := hide hk0
  have cA := fun W (hv : Is 4 SFlat.enc W v fs) (hu : IsD W u ds) => AreDrawers_any v u fs ds W hv hu HF.out
  have cD := fun W (hu : IsD W u ds) => drawerWith_any u ds flat W hu
  clear hv hu hf
  by_cases hall : goodDs fs ds = true ∧ 0 ≤ whereD ds flat
  · obtain ⟨hg, hwd⟩ := hall
    obtain ⟨k, hk, hwk, hmem, _⟩ : ∃ k, ∃ h : k < ds.length, whereD ds flat = (k : Int) ∧ flat ∈ ds[k].fl ∧ ∀ d ∈ ds.take k, flat ∉ d.fl := by
      rcases whereD_place ds flat with ⟨h, _⟩ | h
      · omega
      · exact h
    have hput : takeV fs ds flat = (ds.set k ⟨ds[k].ident, ds[k].wide, ds[k].high, ds[k].holds, ds[k].fl.filter fun y => !(y == flat)⟩, true) := by
      unfold takeV takeK
      rw [if_pos ⟨hg, hwd⟩, hwk, Int.toNat_natCast, DrV.at_lt hk, setFl_set hk]
    rw [hput]
    simp only []
    generalize hout : ds.set k ⟨ds[k].ident, ds[k].wide, ds[k].high, ds[k].holds, ds[k].fl.filter fun y => !(y == flat)⟩ = out at *
    have hln := goodDs_len hg
    have hfl := goodDs_fl hg
    have hcp := fun W (hu : IsD W u ds) => copyDrawers_any u ds W hu (by omega) (fun d hd => by have := (hfl d hd).1; omega)
    have hri := hfl _ (List.getElem_mem hk)
    rw [hg] at cA; rw [hwk] at cD
    have CA := hide cA; have CD := hide cD; have CC := hide hcp; have HOUT := hide hout; have HRI := hide hri; have HMEM := hide hmem
    clear cA cD hcp hg hfl hput hri hln hwd hwk hmem hout
    have hkn : ¬ (k : Int) < 0 := by omega
    have hc0 := HK.out.cell 0
    simp only [List.getElem?_toArray, List.getElem?_cons_zero] at hc0
    go_enter Try.func42, Try.ntmps42
    go_upto_region 1 with fail
    generalize w.alloc (.cells #[.int .i64 flat] 3) = w0 at *
    generalize hgp : w.heap.size = gp at *
    have HGP := hide hgp; clear hgp
    go_wp2_with fail
    refine (CD.out _ HU.out).mono ?_; rintro e w1 ⟨rfl, hb⟩
    replace HV := hide (HV.out.below hb (Nat.le_refl _)); replace HU := hide (HU.out.below hb (Nat.le_refl _)); replace HK := hide (HK.out.below hb hs0); replace HB := hide (HB.out.trans (hb.mono (Nat.le_of_lt hs0))); have hs1 := Nat.lt_of_lt_of_le hs0 hb.size; clear hb hc0 hs0
    have hc0 := HK.out.cell 0
    simp only [List.getElem?_toArray, List.getElem?_cons_zero] at hc0
    go_wp2_with fail
    refine (CA.out _ HV.out HU.out).mono ?_; rintro e w2 ⟨rfl, hb⟩
    replace HV := hide (HV.out.below hb (Nat.le_refl _)); replace HU := hide (HU.out.below hb (Nat.le_refl _)); replace HK := hide (HK.out.below hb hs1); replace HB := hide (HB.out.trans (hb.mono (Nat.le_of_lt hs1))); have hs2 := Nat.lt_of_lt_of_le hs1 hb.size; clear hb hc0 hs1
    have hc0 := HK.out.cell 0
    simp only [List.getElem?_toArray, List.getElem?_cons_zero] at hc0
    go_wp2_with fail
    refine (CC.out _ HU.out).mono ?_; rintro e w3 ⟨r, rfl, hb3, rs, hmap, hown⟩
    have hK3 := HK.out.below hb3 hs2
    have hc3 := hK3.cell 0
    simp only [List.getElem?_toArray, List.getElem?_cons_zero] at hc3
    have hB3 := HB.out.trans (hb3.mono (Nat.le_of_lt hs2))
    have hlr : rs.length = ds.length := by rw [← hmap]; simp
    have hkr : k < rs.length := by omega
    obtain ⟨gs, cps, cs, rfl, hgb, hblk, hle, hcm, hcs, hfi⟩ := own_blk5 hown.spine (by omega)
    have hget : rs[k]? = some rs[k] := List.getElem?_eq_getElem hkr
    have hrow := hown.rows k _ hget
    have hdk : ds[k] = ⟨rs[k].ident, rs[k].wide, rs[k].high, rs[k].holds, rs[k].xs⟩ := by
      subst hmap; simp [SDr.pl]
    have hmm : flat ∈ rs[k].xs := by have := HMEM.out; rw [hdk] at this; exact this
    have HP2 := hide (show out = (rs.map SDr.pl).set k ⟨rs[k].ident, rs[k].wide, rs[k].high, rs[k].holds, rs[k].xs.filter fun y => !(y == flat)⟩ by rw [← HOUT.out, hmap]; rw [hdk])
    have hri2 : rs[k].xs.length ≤ 12 := by have := HRI.out.1; rw [hdk] at this; exact this
    have c4 : w3.cell? ⟨gs, k * 5 + 4, none⟩ = some (.slice rs[k].A rs[k].xs.length rs[k].cap) := by
      have := hfi k _ hkr hget 4 (by omega)
      rw [hblk.cell, this]; rfl
    have hkl : (k : Int) < rs.length := by omega
    have hdel := del_is rs[k].fv rs[k].xs flat gp w3 hrow hc3 (fun e => by have := (hrow.lt gp e).1; omega) (List.length_pos_of_mem hmm) (by omega)
    have hfin := fun (W' : World) (A' : Option Addr) (cap' lo' : Nat) (ys : List Int) (hg : w3.grownBy W' rs[k].fv.ownBlock) (ho : Own 1 encI 3 W' lo' (.slice A' ys.length cap') ys) => hown.setRow hkr hg ho ⟨rs[k].ident, rs[k].wide, rs[k].high, rs[k].holds, A', ys, cap'⟩ rfl
    have hbel4 := fun (W' : World) (hg : w3.grownBy W' rs[k].fv.ownBlock) => hrow.belowGrown (hB3.mono (Nat.le_refl _)) hg (by omega) (by have := hb3.size; omega)
    have hne : rs[k].fv.ownBlock ≠ some gs := fun e => own_ne5 hrow hown.spine (by decide) gs e rfl
    unfold SDr.fv at hdel hfin hbel4 hne
    have hs3 := hb3.size
    clear hown hrow hri2 hfi hdk hmap HOUT HRI CC CA CD hcs hget hlr hmm hK3 HMEM hb3 hc0
    generalize rs[k].ident = y0 at *; generalize rs[k].wide = y1 at *; generalize rs[k].high = y2 at *; generalize rs[k].holds = y3 at *
    generalize rs[k].A = Ak at *; generalize rs[k].xs = xk at *; generalize rs[k].cap = ck at *
    have HDEL := hide hdel; have HFIN := hide hfin; have HBEL := hide hbel4; have HBK := hide hblk
    clear hdel hfin hbel4 hblk
    have hgl := World.block_lt_of_cell? w3 _ c4
    have C4 := hide c4
    go_wp2_with fail
    refine HDEL.out.mono ?_
    rintro e w4 ⟨r4, rfl, ho4, hg4, hr4⟩
    clear c4 hc3
    obtain ⟨A4, cp4, rfl, _, _, _⟩ := ho4.row
    have c44 := hg4.cell C4.out (fun e => hne e.symm)
    have hb4 : Blk w4 gs 70 cs := (hg4.block gs HBK.out.lt (fun e => hne e.symm)).trans HBK.out
    have kf := (fun o => hb4.frozen o)
    have hD5 := HFIN.out w4 A4 cp4 _ _ hg4 ho4
    have hB5 := (HBEL.out w4 hg4).setCell (p := ⟨gs, k * 5 + 4, none⟩) (by show gp ≤ gs; omega) (.slice A4 (xk.filter fun y => !(y == flat)).length cp4)
    have hout : out = (rs.map SDr.pl).set k (⟨y0, y1, y2, y3, A4, xk.filter fun y => !(y == flat), cp4⟩ : SDr).pl := HP2.out
    rw [← hout] at hD5
    have HD5 := hide hD5; have HB5 := hide hB5
    clear hD5 hB5 ho4 hg4 hr4 hout hb4
    generalize (xk.filter fun y => !(y == flat)) = zs at *
    go_wp2_with fail
    go_ret2
    exact ⟨_, rfl, HD5.out, by rw [HGP.out]; exact HB5.out⟩
  · rw [show takeV fs ds flat = ([], false) from if_neg hall]
    generalize goodDs fs ds = gd at *; generalize whereD ds flat = wd at *
    have CA := hide cA; have CD := hide cD; have HALL := hide hall
    clear cA cD hall
    have hc0 := HK.out.cell 0
    simp only [List.getElem?_toArray, List.getElem?_cons_zero] at hc0
    cases gd with
    | false =>
      go_enter Try.func42, Try.ntmps42
      go_wp2_with fail
      refine (CD.out _ HU.out).mono ?_; rintro e w1 ⟨rfl, hb⟩
      replace HV := hide (HV.out.below hb (Nat.le_refl _)); replace HU := hide (HU.out.below hb (Nat.le_refl _)); replace HB := hide (HB.out.trans (hb.mono (Nat.le_of_lt hs0))); clear hb hc0 HK
      go_wp2_with fail
      refine (CA.out _ HV.out HU.out).mono ?_; rintro e w2 ⟨rfl, hb⟩
      have HB2 := hide (bstep HB.out hb HB.out.size); clear hb
      go_wp2_with fail
      go_ret2
      exact ⟨_, rfl, IsD.nil, HB2.out⟩
    | true =>
      have hwd : wd < 0 := by have := HALL.out; simp at this; omega
      go_enter Try.func42, Try.ntmps42
      go_wp2_with fail
      refine (CD.out _ HU.out).mono ?_; rintro e w1 ⟨rfl, hb⟩
      replace HV := hide (HV.out.below hb (Nat.le_refl _)); replace HU := hide (HU.out.below hb (Nat.le_refl _)); replace HB := hide (HB.out.trans (hb.mono (Nat.le_of_lt hs0))); clear hb hc0 HK
      go_wp2_with fail
      refine (CA.out _ HV.out HU.out).mono ?_; rintro e w2 ⟨rfl, hb⟩
      have HB2 := hide (bstep HB.out hb HB.out.size); clear hb
      go_wp2_with fail
      go_ret2
      exact ⟨_, rfl, IsD.nil, HB2.out⟩
end Go.Proofs.Ytdbcilinoieabaa
