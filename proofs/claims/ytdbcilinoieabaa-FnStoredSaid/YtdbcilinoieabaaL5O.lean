/- Contracts of tightest, TightestFor, EmptyDrawers and DoesFit in impl. Condition: small grams. -/
import Derived.Test.YtdbcilinoieabaaL5N
namespace Go.Proofs.Ytdbcilinoieabaa
open Go.RowKit
set_option linter.unusedVariables false
theorem fl4 {w : World} {g : Nat} {t : TypeId} {a b c d : Value} (h : Blk w g t #[a, b, c, d]) : w.cell? ⟨g, 0, none⟩ = some a ∧ w.cell? ⟨g, 1, none⟩ = some b ∧ w.cell? ⟨g, 2, none⟩ = some c ∧ w.cell? ⟨g, 3, none⟩ = some d := by
  refine ⟨?_, ?_, ?_, ?_⟩ <;> (rw [h.cell]; rfl)
def areaD (ds : List DrV) (k : Int) : Int := (DrV.at ds k.toNat).wide * (DrV.at ds k.toNat).high
/-- the smaller of two drawers, told by their places; the first one of two alike; -1: none yet -/
def tstep (ds : List DrV) (b k : Int) : Int := if b < 0 ∨ areaD ds k < areaD ds b then k else b
def tiV (fs : List SFlat) (ds : List DrV) (flat : Int) : Int := (idxs (canB fs ds flat) ds.length).foldl (tstep ds) (-1)
theorem area_bd {fs : List SFlat} {ds : List DrV} (hg : goodDs fs ds = true) {k : Nat} (hk : k < ds.length) : (100 ≤ ds[k].wide ∧ ds[k].wide ≤ 2000 ∧ 100 ≤ ds[k].high ∧ ds[k].high ≤ 2000) ∧ 0 ≤ ds[k].wide * ds[k].high ∧ ds[k].wide * ds[k].high ≤ 4000000 := by
  have h := DrV.okB_iff.1 (okDr_ok (goodDs_at hg hk))
  rw [DrV.at_lt hk] at h
  have h1 : 0 ≤ ds[k].wide * ds[k].high := Int.mul_nonneg (by omega) (by omega)
  have h2 : ds[k].wide * ds[k].high ≤ 2000 * 2000 := Int.mul_le_mul (by omega) (by omega) (by omega) (by omega)
  exact ⟨⟨by omega, by omega, by omega, by omega⟩, h1, by omega⟩
theorem tstep_place {ds : List DrV} {b k : Int} {n : Nat} (hb : b = -1 ∨ ∃ q : Nat, q < n ∧ b = (q : Int)) (hk : ∃ q : Nat, q < n ∧ k = (q : Int)) : tstep ds b k = -1 ∨ ∃ q : Nat, q < n ∧ tstep ds b k = (q : Int) := by
  unfold tstep
  split
  · exact .inr hk
  · exact hb
theorem foldl_take {α β : Type} (f : α → β → α) (a : α) {l : List β} {j : Nat} (h : j < l.length) : (l.take (j + 1)).foldl f a = f ((l.take j).foldl f a) l[j] := by
  rw [take_snoc' h, List.foldl_append]; rfl
set_option maxHeartbeats 2000000 in
theorem tightest_any (v u : Value) (fs : List SFlat) (ds : List DrV) (flat : Int) (w : World) (hv : Is 4 SFlat.enc w v fs) (hu : IsD w u ds) (hf : fitG fs) (hg : goodDs fs ds = true) :
    Calls Try.prog 157 #[v, u, .int .i64 flat] w fun e w' => e = .returned (.int .i64 (tiV fs ds flat)) ∧ Below w.heap.size w w' ∧ (tiV fs ds flat = -1 ∨ ∃ q : Nat, q < ds.length ∧ tiV fs ds flat = (q : Int)) := by
  have hln := goodDs_len hg
  have HD := hide (drawersFor_any v u fs ds flat w hv hu hf hg)
  have HU := hide hu
  have har := fun k hk => @area_bd fs ds hg k hk
  have HAR := hide har
  clear hv hu hf hg har
  have htv : tiV fs ds flat = (idxs (canB fs ds flat) ds.length).foldl (tstep ds) (-1) := rfl
  generalize tiV fs ds flat = tv at *
  have HTV := hide htv; clear htv
  go_enter Try.func157, Try.ntmps157
  go_wp2_with fail
  refine HD.out.mono ?_; rintro e w2 ⟨r, rfl, ho, hb⟩
  obtain ⟨rs, hmap, ⟨A, cap, rfl, hr, _, _⟩, _⟩ := HU.out.below hb (Nat.le_refl _)
  have hlr : ds.length = rs.length := by rw [← hmap]; simp
  obtain ⟨AI, cI, rfl, hrI, _, _⟩ := ho.row
  have hil := idxs_le (canB fs ds flat) ds.length
  have hgt := fun j hj => @idxs_get (canB fs ds flat) ds.length j hj
  generalize hLi : idxs (canB fs ds flat) ds.length = li at *
  have hs2 := hb.size
  generalize hB : w2.heap.size = B2 at hr hrI
  have HR := hide hr; have HRI := hide hrI; have HG := hide hgt; have HM := hide hmap; have HB2 := hide hb
  have hlr8 : rs.length ≤ 8 := by omega
  clear hr hrI hgt hmap ho hb HD hLi HU
  go_wp2_with fail
  go_loopw [7, 15] (fun s i wr => ∃ (j : Nat) (b : Int), j ≤ li.length ∧ i = .int .i64 (j : Int) ∧ s = .int .i64 b ∧ b = (li.take j).foldl (tstep ds) (-1) ∧ (b = -1 ∨ ∃ q : Nat, q < ds.length ∧ b = (q : Int)) ∧ Below B2 w2 wr) (fun _ i _ => li.length - (intOf i).toNat)
  case atStart => exact ⟨0, -1, Nat.zero_le _, rfl, rfl, rfl, .inl rfl, by rw [← hB]; exact Below.refl _ _⟩
  case round =>
    obtain ⟨j, b, hj, rfl, rfl, hbv, hbp, hbel⟩ := hrel
    have hsz : B2 ≤ wr.heap.size := by have := hbel.size; omega
    by_cases hlt : j < li.length
    · have hlt' : (j : Int) < li.length := by omega
      obtain ⟨k, hk, _, hkv, _⟩ := HG.out j hlt
      obtain ⟨bi, offi, rfl, _, i0⟩ := Ints.cells HRI.out hlt hbel
      have hst := foldl_take (tstep ds) (-1) hlt
      rw [hkv] at i0 hst
      rw [← hbv] at hst
      have hpl := tstep_place (ds := ds) hbp ⟨k, hk, rfl⟩
      have hkr : k < rs.length := by omega
      have hkr' : (k : Int) < rs.length := by omega
      obtain ⟨b', off', rfl, _, _, c1, c2, _, _⟩ := SDr.cells HR.out hkr hbel
      have hdk : ds[k].wide = rs[k].wide ∧ ds[k].high = rs[k].high := by have := HM.out; subst this; simp [SDr.pl]
      have hak := HAR.out k hk
      rw [hdk.1, hdk.2] at hak
      have hark : areaD ds (k : Int) = rs[k].wide * rs[k].high := by unfold areaD; rw [Int.toNat_natCast, DrV.at_lt hk, hdk.1, hdk.2]
      generalize rs[k].wide = y1 at *; generalize rs[k].high = y2 at *
      have m1 := fun n => later_cell c1 n; have m2 := fun n => later_cell c2 n
      have hwk : IntKind.i64.wrap (y1 * y2) = y1 * y2 := by rw [IntKind.wrap_i64]; omega
      have HBV := hide hbv; have HST := hide hst; have HPL := hide hpl; have HBB := hide hbel
      have hk00 : (0 : Int) ≤ (k : Int) := by omega
      clear hbv hst hpl hbel hdk hkv c1 c2
      rcases hbp with rfl | ⟨q, hq, rfl⟩
      · have hts : tstep ds (-1) (k : Int) = (k : Int) := if_pos (.inl (by omega))
        rw [hts] at HST HPL
        clear hts hark hwk hak
        go_wp2_with fail
        (refine wp_region_later (by kernel_rfl) (by kernel_rfl) ?_; (repeat (go_big_quiet_step (fail))); refine wpQuiet_nil ?_; intro _ hw'; obtain ⟨nq, hw''⟩ := hw'; subst hw'')
        have B5 := hide (HBB.out.trans (nq.h.mono hsz))
        clear m1 m2
        generalize nq.W = W5 at *
        go_wp2_with fail
        go_round
        case measure => (simp [intOf] <;> omega)
        case rel => exact ⟨j + 1, (k : Int), by omega, by go_num, rfl, HST.out.symm, HPL.out, B5.out⟩
      · have hqr : q < rs.length := by omega
        have hqr' : (q : Int) < rs.length := by omega
        obtain ⟨b'', off'', hA, _, _, d1, d2, _, _⟩ := SDr.cells HR.out hqr HBB.out
        injection hA with hA; injection hA with hA1 hA2; subst hA1 hA2
        have hdq : ds[q].wide = rs[q].wide ∧ ds[q].high = rs[q].high := by have := HM.out; subst this; simp [SDr.pl]
        have haq := HAR.out q hq
        rw [hdq.1, hdq.2] at haq
        have harq : areaD ds (q : Int) = rs[q].wide * rs[q].high := by unfold areaD; rw [Int.toNat_natCast, DrV.at_lt hq, hdq.1, hdq.2]
        generalize rs[q].wide = z1 at *; generalize rs[q].high = z2 at *
        have n1 := fun n => later_cell d1 n; have n2 := fun n => later_cell d2 n
        have hwq : IntKind.i64.wrap (z1 * z2) = z1 * z2 := by rw [IntKind.wrap_i64]; omega
        have hq0 : ¬ (q : Int) < 0 := by omega
        have hq1 : decide ((q : Int) < 0) = false := decide_eq_false hq0
        clear hdq d1 d2
        by_cases hlv : y1 * y2 < z1 * z2
        · have hts : tstep ds (q : Int) (k : Int) = (k : Int) := if_pos (.inr (by rw [hark, harq]; exact hlv))
          rw [hts] at HST HPL
          have hd : decide (y1 * y2 < z1 * z2) = true := decide_eq_true hlv
          clear hts hark harq hak haq
          go_wp2_with fail
          (refine wp_region_later (by kernel_rfl) (by kernel_rfl) ?_; (repeat (go_big_quiet_step (fail))); refine wpQuiet_nil ?_; intro _ hw'; obtain ⟨nq, hw''⟩ := hw'; subst hw'')
          have B5 := hide (HBB.out.trans (nq.h.mono hsz))
          clear m1 m2 n1 n2
          generalize nq.W = W5 at *
          go_wp2_with fail
          go_round
          case measure => (simp [intOf] <;> omega)
          case rel => exact ⟨j + 1, (k : Int), by omega, by go_num, rfl, HST.out.symm, HPL.out, B5.out⟩
        · have hts : tstep ds (q : Int) (k : Int) = (q : Int) := if_neg (by rw [hark, harq]; intro h; rcases h with h | h; exact hq0 h; exact hlv h)
          rw [hts] at HST HPL
          have hd : decide (y1 * y2 < z1 * z2) = false := decide_eq_false hlv
          clear hts hark harq hak haq
          go_wp2_with fail
          (refine wp_region_later (by kernel_rfl) (by kernel_rfl) ?_; (repeat (go_big_quiet_step (fail))); refine wpQuiet_nil ?_; intro _ hw'; obtain ⟨nq, hw''⟩ := hw'; subst hw'')
          have B5 := hide (HBB.out.trans (nq.h.mono hsz))
          clear m1 m2 n1 n2
          generalize nq.W = W5 at *
          go_wp2_with fail
          go_round
          case measure => (simp [intOf] <;> omega)
          case rel => exact ⟨j + 1, (q : Int), by omega, by go_num, rfl, HST.out.symm, HPL.out, B5.out⟩
    · have hjj : j = li.length := by omega
      have hbe : b = tv := by rw [hbv, HTV.out, hjj, List.take_length]
      subst hbe
      have HBB := hide hbel; have HBP := hide hbp; clear hbel hbp hbv hjj
      go_wp2_with fail
      go_ret
      exact ⟨rfl, HB2.out.trans (HBB.out.mono (by omega)), HBP.out⟩
/-- what TightestFor gives -/
def tiForV (fs : List SFlat) (ds : List DrV) (flat : Int) : Int × Bool := if looseB fs ds flat = true ∧ 0 ≤ tiV fs ds flat then ((DrV.at ds (tiV fs ds flat).toNat).ident, true) else (0, false)
theorem TightestFor_is (v u : Value) (fs : List SFlat) (ds : List DrV) (flat : Int) (w : World) (hv : Is 4 SFlat.enc w v fs) (hu : IsD w u ds) (hf : fitG fs) :
    Calls Try.prog 66 #[v, u, .int .i64 flat] w fun e w' => e = .returned (.tuple #[.int .i64 (tiForV fs ds flat).1, .bool (tiForV fs ds flat).2]) ∧ Below w.heap.size w w' := by
  have HV := hide hv; have HU := hide hu
  have hL := isLoose_any v u fs ds flat w hv hu hf
  cases hlo : looseB fs ds flat with
  | false =>
    rw [hlo] at hL
    rw [show tiForV fs ds flat = (0, false) from if_neg (by rw [hlo]; simp)]
    have HL := hide hL; clear hL hlo hv hu
    go_enter Try.func66, Try.ntmps66
    go_wp2_with fail
    refine HL.out.mono ?_; rintro e w1 ⟨rfl, hb⟩
    have HB := hide hb; clear hb
    go_wp2_with fail
    go_ret2
    exact ⟨rfl, HB.out⟩
  | true =>
    rw [hlo] at hL
    have hgd := (looseB_iff.1 hlo).1
    have HT := hide (fun (W : World) (hv : Is 4 SFlat.enc W v fs) (hu : IsD W u ds) => tightest_any v u fs ds flat W hv hu hf hgd)
    have hneg : tiV fs ds flat = -1 → tiForV fs ds flat = (0, false) := fun h => if_neg (by rw [h]; simp)
    have hpos : ∀ q : Nat, tiV fs ds flat = (q : Int) → tiForV fs ds flat = ((DrV.at ds q).ident, true) := fun q h => by
      unfold tiForV; rw [if_pos ⟨hlo, by omega⟩, h, Int.toNat_natCast]
    generalize tiV fs ds flat = tv at *
    generalize tiForV fs ds flat = fv at *
    have HL := hide hL; have HNEG := hide hneg; have HPOS := hide hpos; clear hL hlo hv hu hgd hneg hpos
    go_enter Try.func66, Try.ntmps66
    go_wp2_with fail
    refine HL.out.mono ?_; rintro e w1 ⟨rfl, hb⟩
    have hs1 := hb.size
    have HV1 := hide (HV.out.below hb (Nat.le_refl _)); have HU1 := hide (HU.out.below hb (Nat.le_refl _)); have HB := hide hb; clear hb
    go_wp2_with fail
    refine (HT.out _ HV1.out HU1.out).mono ?_; rintro e w2 ⟨rfl, hb, hp⟩
    have HB2 := hide (bstep HB.out hb hs1)
    rcases hp with rfl | ⟨q, hq, rfl⟩
    · have hf := HNEG.out rfl
      subst hf
      clear hb
      go_wp2_with fail
      go_ret2
      exact ⟨rfl, HB2.out⟩
    · have hf := HPOS.out q rfl
      subst hf
      obtain ⟨rs, hmap, ⟨A, cap, rfl, hr, _, _⟩, _⟩ := HU1.out.below hb (Nat.le_refl _)
      have hlr : ds.length = rs.length := by rw [← hmap]; simp
      have hqr : q < rs.length := by omega
      have hqr' : (q : Int) < rs.length := by omega
      obtain ⟨b', off', rfl, _, c0, _, _, _, _⟩ := SDr.cells hr hqr (Below.refl _ _)
      have hat := DrV.at_map hqr
      rw [hmap] at hat
      have HID := hide (show (DrV.at ds q).ident = rs[q].ident by rw [hat])
      clear hat
      generalize rs[q].ident = y0 at *
      have hq0 : ¬ (q : Int) < 0 := by omega
      clear hb hmap hlr hr HU1 HU HL
      go_wp2_with fail
      go_ret2
      exact ⟨by simp [HID.out], HB2.out⟩
theorem DoesFitI_is (a0 a1 a2 a3 b0 b1 b2 b3 : Int) (A : Option Addr) (cap : Nat) (xs : List Int) (w : World) (hr : Row 1 encI w w.heap.size A xs) (hm : xs.length ≤ 9223372036854775807) :
    Calls Try.prog 44 #[.agg #[.int .i64 a0, .int .i64 a1, .int .i64 a2, .int .i64 a3], .agg #[.int .i64 b0, .int .i64 b1, .int .i64 b2, .int .i64 b3, .slice A xs.length cap]] w fun e w' =>
      e = .returned (.tuple #[.bool (SFlat.okB ⟨a0, a1, a2, a3⟩ && DrV.okB ⟨b0, b1, b2, b3, xs⟩ && fitB a1 a2 b1 b2), .bool (SFlat.okB ⟨a0, a1, a2, a3⟩ && DrV.okB ⟨b0, b1, b2, b3, xs⟩)]) ∧ Below w.heap.size w w' := by
  have hbf := (Blk.new w 68 #[.int .i64 a0, .int .i64 a1, .int .i64 a2, .int .i64 a3]).alloc (.cells #[.int .i64 b0, .int .i64 b1, .int .i64 b2, .int .i64 b3, .slice A xs.length cap] 70)
  have hbd := Blk.new (w.alloc (.cells #[.int .i64 a0, .int .i64 a1, .int .i64 a2, .int .i64 a3] 68)) 70 #[.int .i64 b0, .int .i64 b1, .int .i64 b2, .int .i64 b3, .slice A xs.length cap]
  rw [World.size_alloc] at hbd
  have hB := (below_alloc w (.cells #[.int .i64 a0, .int .i64 a1, .int .i64 a2, .int .i64 a3] 68)).alloc (by simp) (.cells #[.int .i64 b0, .int .i64 b1, .int .i64 b2, .int .i64 b3, .slice A xs.length cap] 70)
  have hR := hr.below hB (Nat.le_refl _) hB.size
  clear hr
  go_enter Try.func44, Try.ntmps44
  go_upto_region 1 with fail
  have HB := hide hB; clear hB
  generalize (w.alloc (.cells #[.int .i64 a0, .int .i64 a1, .int .i64 a2, .int .i64 a3] 68)).alloc (.cells #[.int .i64 b0, .int .i64 b1, .int .i64 b2, .int .i64 b3, .slice A xs.length cap] 70) = w1 at *
  generalize hgg : w.heap.size = g at *
  have HGG := hide hgg; clear hgg
  have cF := fun W => isFlat_any a0 a1 a2 a3 W
  have cD := fun W (h : Row 1 encI W W.heap.size A xs) => isDrawer_any b0 b1 b2 b3 A cap xs W h hm
  generalize hkf : SFlat.okB ⟨a0, a1, a2, a3⟩ = kf at cF
  generalize hkd : DrV.okB ⟨b0, b1, b2, b3, xs⟩ = kd at cD
  have HKF := hide hkf; have HKD := hide hkd; clear hkf hkd
  have CF := hide cF; have CD := hide cD; have HR := hide hR; have HBF := hide hbf; have HBD := hide hbd; clear cF cD hR hbf hbd
  obtain ⟨f0, f1, f2, f3⟩ := fl4 HBF.out
  go_wp2_with fail
  refine (CF.out _).mono ?_; rintro e w2 ⟨rfl, hb⟩
  have HR2 := hide (HR.out.below hb (Nat.le_refl _) hb.size); have HBF2 := hide (HBF.out.below hb HBF.out.lt); have HBD2 := hide (HBD.out.below hb HBD.out.lt); have HB2 := hide (HB.out.trans (hb.mono (Nat.le_of_lt HBF.out.lt)))
  have hl2 := HBF2.out.lt
  clear hb f0 f1 f2 f3
  cases kf with
  | false =>
    go_wp2_with fail
    go_ret2
    exact ⟨by simp [HKF.out, HKD.out], by rw [HGG.out]; exact HB2.out⟩
  | true =>
    obtain ⟨t0, t1, t2, t3, t4⟩ := dr5 HBD2.out
    go_wp2_with fail
    refine (CD.out _ HR2.out).mono ?_; rintro e w3 ⟨rfl, hb⟩
    have HBF3 := hide (HBF2.out.below hb HBF2.out.lt); have HBD3 := hide (HBD2.out.below hb HBD2.out.lt); have HB3 := hide (HB2.out.trans (hb.mono (Nat.le_of_lt hl2)))
    have hl3 := HBF3.out.lt
    clear hb t0 t1 t2 t3 t4
    cases kd with
    | false =>
      go_wp2_with fail
      go_ret2
      exact ⟨by simp [HKF.out, HKD.out], by rw [HGG.out]; exact HB3.out⟩
    | true =>
      have CX := hide (fun W => fitsInto_any a0 a1 a2 a3 b0 b1 b2 b3 A xs.length cap W)
      obtain ⟨f0, f1, f2, f3⟩ := fl4 HBF3.out
      obtain ⟨t0, t1, t2, t3, t4⟩ := dr5 HBD3.out
      go_wp2_with fail
      refine (CX.out _).mono ?_; rintro e w4 ⟨rfl, hb⟩
      have HB4 := hide (HB3.out.trans (hb.mono (Nat.le_of_lt hl3)))
      clear hb
      go_wp2_with fail
      go_ret2
      exact ⟨by simp [HKF.out, HKD.out], by rw [HGG.out]; exact HB4.out⟩
end Go.Proofs.Ytdbcilinoieabaa
