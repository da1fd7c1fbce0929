/- Contracts of TightestFor, l5Loose and EmptyDrawers in spec, and of EmptyDrawers in impl. Condition: small grams. -/
import Derived.Test.YtdbcilinoieabaaL6B
namespace Go.Proofs.Ytdbcilinoieabaa
open Go.RowKit
set_option linter.unusedVariables false
/-- the id of the drawer at b, and its area; nothing where b tells none -/
def idB (ds : List DrV) (b : Int) : Int := if b < 0 then 0 else (DrV.at ds b.toNat).ident
def arB (ds : List DrV) (b : Int) : Int := if b < 0 then 0 else areaD ds b
theorem idB_at (ds : List DrV) (k : Nat) : idB ds (k : Int) = (DrV.at ds k).ident := by unfold idB; rw [if_neg (by omega), Int.toNat_natCast]
theorem arB_at (ds : List DrV) (k : Nat) : arB ds (k : Int) = areaD ds (k : Int) := by unfold arB; rw [if_neg (by omega)]
theorem ident_pos {fs : List SFlat} {ds : List DrV} (hg : goodDs fs ds = true) {k : Nat} (hk : k < ds.length) : 1 ≤ (DrV.at ds k).ident := (DrV.okB_iff.1 (okDr_ok (goodDs_at hg hk))).1
set_option maxHeartbeats 4000000 in
theorem TightestForS_is (v u : Value) (fs : List SFlat) (ds : List DrV) (flat : Int) (w : World) (hv : Is 4 SFlat.enc w v fs) (hu : IsD w u ds) (hf : fitG fs) :
    Calls Try.prog 67 #[v, u, .int .i64 flat] w fun e w' => e = .returned (.tuple #[.int .i64 (tiForV fs ds flat).1, .bool (tiForV fs ds flat).2]) ∧ Below w.heap.size w w' := by
  have HDF := hide (DrawersForS_is v u fs ds flat w hv hu hf)
  have HU := hide hu
  cases hlo : looseB fs ds flat with
  | false =>
    rw [show dfV fs ds flat = ([], false) from if_neg (by rw [hlo]; simp)] at HDF
    rw [show tiForV fs ds flat = (0, false) from if_neg (by rw [hlo]; simp)]
    clear hlo hv hu
    go_enter Try.func67, Try.ntmps67
    go_wp2_with fail
    refine HDF.out.mono ?_; rintro e w1 ⟨r, rfl, ho, hb⟩
    obtain ⟨A, c, rfl, _, _, _⟩ := ho.row
    have HB := hide hb; clear hb ho
    go_wp2_with fail
    go_loopw [10, 11, 12] (fun a c i wr => a = .int .i64 0 ∧ i = .int .i64 0 ∧ Below w.heap.size w wr) (fun _ _ _ _ => 0)
    case atStart => exact ⟨rfl, rfl, HB.out⟩
    case round =>
      obtain ⟨rfl, rfl, hbel⟩ := hrel
      have HBB := hide hbel; clear hbel
      go_wp2_with fail
      go_ret2
      exact ⟨rfl, HBB.out⟩
  | true =>
    have hgd := (looseB_iff.1 hlo).1
    rw [show dfV fs ds flat = (dfIds fs ds flat ds.length, true) from if_pos hlo] at HDF
    have hln := goodDs_len hgd
    have HAR := hide (fun k hk => @area_bd fs ds hgd k hk)
    have HID := hide (fun k hk => @ident_pos fs ds hgd k hk)
    have HSELF := hide (fun i hi => @idxD_self fs ds hgd i hi)
    have htf : tiForV fs ds flat = (idB ds (tiV fs ds flat), decide (0 < idB ds (tiV fs ds flat))) := by
      unfold tiForV
      rcases tiV_place fs ds flat with ⟨h, _⟩ | ⟨k, hk, _, h⟩
      · rw [h, if_neg (by rintro ⟨_, h⟩; exact absurd h (by decide))]; rfl
      · rw [h, if_pos ⟨hlo, by omega⟩, Int.toNat_natCast, idB_at, decide_eq_true (by have := HID.out k hk; omega)]
    rw [htf]
    have htv : tiV fs ds flat = (idxs (canB fs ds flat) ds.length).foldl (tstep ds) (-1) := rfl
    generalize tiV fs ds flat = tv at *
    have HTV := hide htv; clear htv hlo hv hu hgd htf
    go_enter Try.func67, Try.ntmps67
    go_wp2_with fail
    refine HDF.out.mono ?_; rintro e w2 ⟨r, rfl, ho, hb⟩
    have hU2 := HU.out.below hb (Nat.le_refl _)
    have hU2' := hU2
    obtain ⟨rs, hmap, ⟨A, cap, rfl, hr, _, _⟩, _⟩ := hU2
    have hlr : ds.length = rs.length := by rw [← hmap]; simp
    obtain ⟨AI, cI, rfl, hrI, _, _⟩ := ho.row
    have hil := idxs_le (canB fs ds flat) ds.length
    have hgt := fun j hj => @idxs_get (canB fs ds flat) ds.length j hj
    have hdl : (dfIds fs ds flat ds.length).length = (idxs (canB fs ds flat) ds.length).length := by unfold dfIds idxs; rw [List.length_map, List.length_map]
    have hdg : ∀ j k, ((List.range ds.length).filter (canB fs ds flat))[j]? = some k → ∀ h : j < (dfIds fs ds flat ds.length).length, (dfIds fs ds flat ds.length)[j] = (DrV.at ds k).ident := fun j k hk h => by
      have h2 : (dfIds fs ds flat ds.length)[j]? = some (DrV.at ds k).ident := by unfold dfIds; rw [List.getElem?_map, hk]; rfl
      exact Option.some.inj ((List.getElem?_eq_getElem h).symm.trans h2)
    generalize hLi : idxs (canB fs ds flat) ds.length = li at *
    generalize dfIds fs ds flat ds.length = di at *
    have hs2 := hb.size
    have hmI := ho.is.len
    generalize hB : w2.heap.size = B2 at hr hrI
    have HR := hide hr; have HRI := hide hrI; have HG := hide hgt; have HM := hide hmap; have HB2 := hide hb; have HDG := hide hdg; have HU2 := hide hU2'; have HDL := hide hdl
    have hlr8 : rs.length ≤ 8 := by omega
    clear hr hrI hgt hmap ho hb HDF hLi HU hdg hU2' hmI
    rw [hdl] 
    go_wp2_with fail
    go_loopw [10, 11, 12] (fun a c i wr => ∃ (j : Nat) (b : Int), j ≤ li.length ∧ i = .int .i64 (j : Int) ∧ a = .int .i64 (idB ds b) ∧ c = .int .i64 (arB ds b) ∧ b = (li.take j).foldl (tstep ds) (-1) ∧ (b = -1 ∨ ∃ q : Nat, q < ds.length ∧ b = (q : Int)) ∧ Below B2 w2 wr) (fun _ _ i _ => li.length - (intOf i).toNat)
    case atStart => exact ⟨0, -1, Nat.zero_le _, rfl, rfl, rfl, rfl, .inl rfl, by rw [← hB]; exact Below.refl _ _⟩
    case round =>
      obtain ⟨j, b, hj, rfl, rfl, rfl, hbv, hbp, hbel⟩ := hrel
      have hsz : B2 ≤ wr.heap.size := by have := hbel.size; omega
      by_cases hlt : j < li.length
      · have hlt' : (j : Int) < li.length := by omega
        obtain ⟨k, hk, _, hkv, hkg⟩ := HG.out j hlt
        have hjd : j < di.length := by have := HDL.out; omega
        obtain ⟨bi, offi, rfl, _, i0⟩ := Ints.cells HRI.out hjd hbel
        have hst := foldl_take (tstep ds) (-1) hlt
        rw [hkv] at hst
        rw [← hbv] at hst
        rw [HDG.out j k hkg hjd] at i0
        have hpl := tstep_place (ds := ds) hbp ⟨k, hk, rfl⟩
        have hkr : k < rs.length := by omega
        have hkr' : (k : Int) < rs.length := by omega
        obtain ⟨b', off', rfl, _, c0, c1, c2, c3, c4⟩ := SDr.cells HR.out hkr hbel
        have hse := HSELF.out k hk
        have hix := l5IndexD _ ds (DrV.at ds k).ident wr (HU2.out.below hbel (by omega))
        rw [hse] at hix
        have hat := DrV.at_map hkr
        rw [HM.out] at hat
        have hdk : ds[k].wide = rs[k].wide ∧ ds[k].high = rs[k].high := by have := HM.out; subst this; simp [SDr.pl]
        have hak := HAR.out k hk
        have hik := HID.out k hk
        rw [hdk.1, hdk.2] at hak
        have hark : areaD ds (k : Int) = rs[k].wide * rs[k].high := by unfold areaD; rw [Int.toNat_natCast, DrV.at_lt hk, hdk.1, hdk.2]
        have hidk : idB ds (k : Int) = rs[k].ident := by rw [idB_at, hat]
        have harb : arB ds (k : Int) = rs[k].wide * rs[k].high := by rw [arB_at, hark]
        rw [hat] at i0 hix hik
        simp only at i0 hix hik
        generalize rs[k].ident = y0 at *; generalize rs[k].wide = y1 at *; generalize rs[k].high = y2 at *; generalize rs[k].holds = y3 at *; generalize rs[k].A = yA at *; generalize rs[k].xs.length = yl at *; generalize rs[k].cap = yc at *
        have hwk : IntKind.i64.wrap (y1 * y2) = y1 * y2 := by rw [IntKind.wrap_i64]; omega
        have hk1 := Blk.new wr 70 #[.int .i64 y0, .int .i64 y1, .int .i64 y2, .int .i64 y3, .slice yA yl yc]
        have hbx := hbel.alloc hsz (.cells #[.int .i64 y0, .int .i64 y1, .int .i64 y2, .int .i64 y3, .slice yA yl yc] 70)
        have HBV := hide hbv; have HST := hide hst; have HPL := hide hpl; have HIX := hide hix; have HIDK := hide hidk; have HARB := hide harb; have HARK := hide hark
        have hk00 : (0 : Int) ≤ (k : Int) := by omega
        clear hbv hst hpl hdk hkv hat hix hkg hidk harb hark hse
        go_wp2_with fail
        refine HIX.out.mono ?_; rintro e w3 ⟨rfl, rfl⟩
        go_upto_region 7 with fail
        have HBX := hide hbx; clear c0 c1 c2 c3 c4 i0 hbel hbx HIX
        generalize wr.alloc (.cells #[.int .i64 y0, .int .i64 y1, .int .i64 y2, .int .i64 y3, .slice yA yl yc] 70) = w4 at *
        generalize wr.heap.size = g4 at *
        obtain ⟨t0, t1, t2, t3, t4⟩ := dr5 hk1
        clear hk1 t3 t4
        rcases hbp with rfl | ⟨q, hq, rfl⟩
        · have hts : tstep ds (-1) (k : Int) = (k : Int) := if_pos (.inl (by omega))
          rw [hts] at HST HPL
          rw [show idB ds (-1) = 0 from rfl, show arB ds (-1) = 0 from rfl]
          clear hts
          go_wp2_with fail
          go_round
          case measure => (simp [intOf] <;> omega)
          case rel => exact ⟨j + 1, (k : Int), by omega, by go_num, by rw [HIDK.out], by rw [HARB.out], HST.out.symm, HPL.out, HBX.out⟩
        · have hiq := HID.out q hq
          have haq := HAR.out q hq
          have hqa : arB ds (q : Int) = areaD ds (q : Int) := arB_at ds q
          rw [← idB_at] at hiq
          have hna : idB ds (q : Int) ≠ 0 := by omega
          have hnb : (idB ds (q : Int) == 0) = false := by simpa using hna
          by_cases hlv : y1 * y2 < arB ds (q : Int)
          · have hts : tstep ds (q : Int) (k : Int) = (k : Int) := if_pos (.inr (by rw [HARK.out, ← hqa]; exact hlv))
            rw [hts] at HST HPL
            have hd : decide (y1 * y2 < arB ds (q : Int)) = true := decide_eq_true hlv
            clear hts hqa haq
            go_wp2_with fail
            go_round
            case measure => (simp [intOf] <;> omega)
            case rel => exact ⟨j + 1, (k : Int), by omega, by go_num, by rw [HIDK.out], by rw [HARB.out], HST.out.symm, HPL.out, HBX.out⟩
          · have hts : tstep ds (q : Int) (k : Int) = (q : Int) := if_neg (by rw [HARK.out, ← hqa]; intro h; rcases h with h | h; exact absurd h (by omega); exact hlv h)
            rw [hts] at HST HPL
            have hd : decide (y1 * y2 < arB ds (q : Int)) = false := decide_eq_false hlv
            clear hts hqa haq
            go_wp2_with fail
            go_round
            case measure => (simp [intOf] <;> omega)
            case rel => exact ⟨j + 1, (q : Int), by omega, by go_num, rfl, rfl, HST.out.symm, HPL.out, HBX.out⟩
      · have hjj : j = li.length := by omega
        have hbe : b = tv := by rw [hbv, HTV.out, hjj, List.take_length]
        subst hbe
        have HBB := hide hbel; clear hbel hbp hbv hjj
        generalize hib : idB ds b = ib at *
        have HIB := hide hib; clear hib
        go_wp2_with fail
        go_ret2
        exact ⟨by rw [HIB.out]; rfl, HB2.out.trans (HBB.out.mono (by omega))⟩
theorem l5Loose_any (v u : Value) (fs : List SFlat) (ds : List DrV) (w : World) (hv : Is 4 SFlat.enc w v fs) (hu : IsD w u ds) (hl : fs.length ≤ 1048576) :
    Calls Try.prog 159 #[v, u] w fun e w' => ∃ r, e = .returned r ∧ Own 1 encI 3 w' w.heap.size r (looseIds fs ds) ∧ Below w.heap.size w w' := by
  obtain ⟨A, cap, rfl, hr, _, _⟩ := hv
  have B0 := below_alloc w (.cells #[] 3)
  have HE := hide (own_emptyI5 w (Nat.le_refl w.heap.size))
  have HU := hide hu; clear hu
  generalize hB : w.heap.size = B at *
  have HBB := hide hB
  have HR := hide hr; have HB0 := hide B0; clear hr hB B0
  go_enter Try.func159, Try.ntmps159
  go_wp2_with fail
  (try simp only [HBB.out])
  go_loopw [5, 6] (fun s i wr => ∃ k : Nat, k ≤ fs.length ∧ i = .int .i64 (k : Int) ∧ Own 1 encI 3 wr B s (looseIds (fs.take k) ds) ∧ Below B w wr) (fun _ i _ => fs.length - (intOf i).toNat)
  case atStart => exact ⟨0, Nat.zero_le _, rfl, HE.out, HB0.out⟩
  case round =>
    obtain ⟨k, hk, rfl, hown, hbel⟩ := hrel
    have hsz : B ≤ wr.heap.size := by have := hbel.size; have := HBB.out; omega
    by_cases hlt : k < fs.length
    · have hlt' : (k : Int) < fs.length := by omega
      obtain ⟨b, off, rfl, _, c0, _, _, _⟩ := SFlat.cells HR.out hlt hbel
      have hst : looseIds (fs.take (k + 1)) ds = looseIds (fs.take k) ds ++ if 0 ≤ whereD ds fs[k].ident then [] else [fs[k].ident] := by
        unfold looseIds looseL
        rw [take_snoc' hlt, List.filter_append, List.map_append]
        by_cases h : 0 ≤ whereD ds fs[k].ident
        · simp [h]
        · simp [h]
      have hll : (looseIds (fs.take k) ds).length ≤ 16777216 := by
        have := looseL_le (fs.take k) ds
        unfold looseIds; rw [List.length_map]; have := List.length_take_le k fs; omega
      have hwc := l5WhereD _ ds fs[k].ident wr (HU.out.below hbel (by have := HBB.out; omega))
      generalize fs[k].ident = y0 at *
      generalize whereD ds y0 = wh at *
      have HST := hide hst; have HO := hide hown; have HW := hide hwc; have hbb := hbel
      clear hst hown hwc hbel
      by_cases h : 0 ≤ wh
      · have h2 : ¬ wh < 0 := by omega
        go_wp2_with fail
        refine HW.out.mono ?_; rintro e w3 ⟨rfl, rfl⟩
        go_wp2_with fail
        go_round
        case measure => (simp [intOf] <;> omega)
        case rel => exact ⟨k + 1, by omega, by go_num, by rw [HST.out, if_pos h, List.append_nil]; exact HO.out, hbb⟩
      · have h2 : wh < 0 := by omega
        have HN := hide h
        clear h
        go_wp2_with fail
        refine HW.out.mono ?_; rintro e w3 ⟨rfl, rfl⟩
        go_wp2_with ((at_builtin; refine wpList_push1 (k := 1) (enc := encI) _ rfl _ _ 52 rfl 3 (.int .i64 0) 8 Try.underlying52 infoI rfl (by omega) (by omega) encI_one (B) _ (looseIds (fs.take k) ds) rfl (HO.out) (y0) _ rfl rfl (hll) (hsz) (hbb) (Nat.le_refl _) rfl ?_; intro v1 w1 ho1 hb1 hg1))
        go_round
        case measure => (simp [intOf] <;> omega)
        case rel => exact ⟨k + 1, by omega, by go_num, by rw [HST.out, if_neg (by have := HN.out; omega)]; exact ho1, hb1⟩
    · have hkk : k = fs.length := by omega
      subst hkk
      rw [List.take_length] at hown
      have HO := hide hown; have HB := hide hbel; clear hown hbel
      go_wp2_with fail
      go_ret
      exact ⟨_, rfl, HO.out, HB.out⟩
end Go.Proofs.Ytdbcilinoieabaa
