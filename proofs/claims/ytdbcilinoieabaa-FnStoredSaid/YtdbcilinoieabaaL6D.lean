/- Contracts of EmptyDrawers in impl and spec. Condition: small grams. -/
import Derived.Test.YtdbcilinoieabaaL6C
namespace Go.Proofs.Ytdbcilinoieabaa
open Go.RowKit
set_option linter.unusedVariables false
def emL (ds : List DrV) : List Int := (ds.filter fun d => decide (d.fl.length = 0)).map DrV.ident
def emA (fs : List SFlat) (ds : List DrV) : List Int × Bool := if goodDs fs ds = true then (emL ds, true) else ([], false)
theorem emL_succ {ds : List DrV} {k : Nat} (h : k < ds.length) : emL (ds.take (k + 1)) = emL (ds.take k) ++ if ds[k].fl.length = 0 then [ds[k].ident] else [] := by
  unfold emL
  rw [take_snoc' h, List.filter_append, List.map_append]
  by_cases h0 : ds[k].fl.length = 0
  · rw [List.filter_cons_of_pos (by simpa using h0), if_pos h0]; rfl
  · rw [List.filter_cons_of_neg (by simpa using h0), if_neg h0]; rfl
theorem emL_le (ds : List DrV) (k : Nat) : (emL (ds.take k)).length ≤ k := by
  unfold emL; rw [List.length_map]; exact Nat.le_trans (List.length_filter_le _ _) (List.length_take_le _ _)
set_option maxHeartbeats 2000000 in
theorem EmptyDrawersI_is (v u : Value) (fs : List SFlat) (ds : List DrV) (w : World) (hv : Is 4 SFlat.enc w v fs) (hu : IsD w u ds) (hf : fitG fs) :
    Calls Try.prog 68 #[v, u] w fun e w' => ∃ r, e = .returned (.tuple #[r, .bool (emA fs ds).2]) ∧ Is 1 encI w' r (emA fs ds).1 ∧ Below w.heap.size w w' := by
  have hA := AreDrawers_any v u fs ds w hv hu hf
  have HU := hide hu; clear hv hu hf
  cases hg : goodDs fs ds with
  | false =>
    rw [hg] at hA
    rw [show emA fs ds = ([], false) from if_neg (by rw [hg]; simp)]
    have HA := hide hA; clear hA hg
    go_enter Try.func68, Try.ntmps68
    go_wp2_with fail
    refine HA.out.mono ?_; rintro e w1 ⟨rfl, hb⟩
    have HB := hide hb; clear hb
    go_wp2_with fail
    go_ret2
    exact ⟨_, rfl, Is.nil, HB.out⟩
  | true =>
    rw [hg] at hA
    rw [show emA fs ds = (emL ds, true) from if_pos hg]
    have hln := goodDs_len hg
    have HA := hide hA; clear hA hg
    go_enter Try.func68, Try.ntmps68
    go_wp2_with fail
    refine HA.out.mono ?_; rintro e w1 ⟨rfl, hb⟩
    obtain ⟨rs, hmap, ⟨A, cap, rfl, hr, _, _⟩, _⟩ := HU.out.below hb (Nat.le_refl _)
    have hlr : ds.length = rs.length := by rw [← hmap]; simp
    have hget : ∀ k, (h : k < rs.length) → (h2 : k < ds.length) → ds[k] = rs[k].pl := fun k h h2 => by simp [← hmap]
    have HGET := hide hget
    have HB := hide hb
    generalize hB : w1.heap.size = B at hr
    have HR := hide hr; clear hr hb HU hmap HA hget
    rw [← hlr]
    have HLR := hide hlr; clear hlr
    go_wp2_with fail
    go_loopw [6, 15] (fun s i wr => ∃ k : Nat, k ≤ ds.length ∧ i = .int .i64 (k : Int) ∧ Own 1 encI 3 wr B s (emL (ds.take k)) ∧ Below B w1 wr) (fun _ i _ => ds.length - (intOf i).toNat)
    case atStart => exact ⟨0, Nat.zero_le _, rfl, Own.nil, by rw [← hB]; exact Below.refl _ _⟩
    case round =>
      obtain ⟨k, hk, rfl, hown, hbel⟩ := hrel
      have hsz : B ≤ wr.heap.size := by have := hbel.size; omega
      by_cases hlt : k < ds.length
      · have hlt' : (k : Int) < ds.length := by omega
        have hkr : k < rs.length := by have := HLR.out; omega
        obtain ⟨b, off, rfl, _, c0, c1, c2, c3, c4⟩ := SDr.cells HR.out hkr hbel
        have hst := emL_succ hlt
        rw [HGET.out k hkr hlt] at hst
        unfold SDr.pl at hst
        simp only at hst
        have hdl : (emL (ds.take k)).length ≤ 16777216 := by have := emL_le ds k; omega
        generalize rs[k].ident = y0 at *; generalize rs[k].wide = y1 at *; generalize rs[k].high = y2 at *; generalize rs[k].holds = y3 at *; generalize rs[k].A = yA at *; generalize rs[k].xs.length = yl at *; generalize rs[k].cap = yc at *
        have hk2 := Blk.new wr 70 #[.int .i64 y0, .int .i64 y1, .int .i64 y2, .int .i64 y3, .slice yA yl yc]
        have hbx := hbel.alloc hsz (.cells #[.int .i64 y0, .int .i64 y1, .int .i64 y2, .int .i64 y3, .slice yA yl yc] 70)
        have ho2 := hown.alloc (.cells #[.int .i64 y0, .int .i64 y1, .int .i64 y2, .int .i64 y3, .slice yA yl yc] 70)
        have hsx : B ≤ (wr.alloc (.cells #[.int .i64 y0, .int .i64 y1, .int .i64 y2, .int .i64 y3, .slice yA yl yc] 70)).heap.size := Nat.le_trans hsz (by simp)
        have HST := hide hst; clear hst hown hbel
        go_upto_region 7 with fail
        generalize wr.alloc (.cells #[.int .i64 y0, .int .i64 y1, .int .i64 y2, .int .i64 y3, .slice yA yl yc] 70) = w4 at *
        generalize wr.heap.size = g4 at *
        obtain ⟨t0, t1, t2, t3, t4⟩ := dr5 hk2
        have HO := hide ho2; clear ho2 c0 c1 c2 c3 c4 hk2
        by_cases h0 : yl = 0
        · have h1 : (yl : Int) = 0 := by omega
          subst h0
          go_wp2_with ((at_builtin; refine wpList_push1 (k := 1) (enc := encI) _ rfl _ _ 52 rfl 3 (.int .i64 0) 8 Try.underlying52 infoI rfl (by omega) (by omega) encI_one (B) _ (emL (ds.take k)) rfl (HO.out) (y0) _ rfl rfl (hdl) (hsx) (hbx) (Nat.le_refl _) rfl ?_; intro v1 w1 ho1 hb1 hg1))
          go_round
          case measure => (simp [intOf] <;> omega)
          case rel => exact ⟨k + 1, by omega, by go_num, by rw [HST.out, if_pos rfl]; exact ho1, hb1⟩
        · have h1 : ((yl : Int) == 0) = false := by simpa using h0
          have HN := hide h0
          have HBX := hide hbx
          clear h0 hbx
          go_wp2_with fail
          go_round
          case measure => (simp [intOf] <;> omega)
          case rel => exact ⟨k + 1, by omega, by go_num, by rw [HST.out, if_neg HN.out, List.append_nil]; exact HO.out, HBX.out⟩
      · have hkk : k = ds.length := by omega
        subst hkk
        rw [List.take_length] at hown
        have HO := hide hown.is; have HBW := hide hbel; clear hown hbel
        go_wp2_with fail
        go_ret2
        exact ⟨_, rfl, HO.out, HB.out.trans (HBW.out.mono (by have := HB.out.size; omega))⟩
set_option maxHeartbeats 2000000 in
theorem EmptyDrawersS_is (v u : Value) (fs : List SFlat) (ds : List DrV) (w : World) (hv : Is 4 SFlat.enc w v fs) (hu : IsD w u ds) (hf : fitG fs) :
    Calls Try.prog 69 #[v, u] w fun e w' => ∃ r, e = .returned (.tuple #[r, .bool (emA fs ds).2]) ∧ Is 1 encI w' r (emA fs ds).1 ∧ Below w.heap.size w w' := by
  have B0 := below_alloc w (.cells #[] 3)
  have HE := hide (own_emptyI5 w (Nat.le_refl w.heap.size))
  have hA := l5Good_any v u fs ds _ (hv.below B0 (Nat.le_refl _)) (hu.below B0 (Nat.le_refl _)) hf
  have HU := hide hu; have HB0 := hide B0; clear hv hu hf B0
  cases hg : goodDs fs ds with
  | false =>
    rw [hg] at hA
    rw [show emA fs ds = ([], false) from if_neg (by rw [hg]; simp)]
    have HA := hide hA; clear hA hg
    go_enter Try.func69, Try.ntmps69
    go_wp2_with fail
    refine HA.out.mono ?_; rintro e w1 ⟨rfl, hb⟩
    have HO := hide (HE.out.below hb)
    have HB := hide (bstep HB0.out hb HB0.out.size); clear hb
    go_wp2_with fail
    go_ret2
    exact ⟨_, rfl, HO.out.is, HB.out⟩
  | true =>
    rw [hg] at hA
    rw [show emA fs ds = (emL ds, true) from if_pos hg]
    have hln := goodDs_len hg
    have HA := hide hA; clear hA hg
    obtain ⟨rs, hmap, ⟨A, cap, rfl, hr, _, _⟩, _⟩ := HU.out
    have hlr : ds.length = rs.length := by rw [← hmap]; simp
    have hget : ∀ k, (h : k < rs.length) → (h2 : k < ds.length) → ds[k] = rs[k].pl := fun k h h2 => by simp [← hmap]
    have HGET := hide hget
    have HR := hide hr; clear hr HU hmap hget
    go_enter Try.func69, Try.ntmps69
    go_wp2_with fail
    refine HA.out.mono ?_; rintro e w1 ⟨rfl, hb⟩
    have HO := hide (HE.out.below hb)
    have HB := hide (bstep HB0.out hb HB0.out.size); clear hb HE HB0 HA
    generalize hB : w.heap.size = B at *
    have HBB := hide hB
    rw [← hlr]
    have HLR := hide hlr; clear hlr
    go_wp2_with fail
    go_loopw [6, 7] (fun s i wr => ∃ k : Nat, k ≤ ds.length ∧ i = .int .i64 (k : Int) ∧ Own 1 encI 3 wr B s (emL (ds.take k)) ∧ Below B w wr) (fun _ i _ => ds.length - (intOf i).toNat)
    case atStart => exact ⟨0, Nat.zero_le _, rfl, HO.out, HB.out⟩
    case round =>
      clear HO HB
      obtain ⟨k, hk, rfl, hown, hbel⟩ := hrel
      have hsz : B ≤ wr.heap.size := by have := hbel.size; have := HBB.out; omega
      by_cases hlt : k < ds.length
      · have hlt' : (k : Int) < ds.length := by omega
        have hkr : k < rs.length := by have := HLR.out; omega
        obtain ⟨b, off, rfl, _, c0, c1, c2, c3, c4⟩ := SDr.cells HR.out hkr hbel
        have hst := emL_succ hlt
        rw [HGET.out k hkr hlt] at hst
        unfold SDr.pl at hst
        simp only at hst
        have hdl : (emL (ds.take k)).length ≤ 16777216 := by have := emL_le ds k; omega
        generalize rs[k].ident = y0 at *; generalize rs[k].A = yA at *; generalize rs[k].xs.length = yl at *; generalize rs[k].cap = yc at *
        have HST := hide hst; have HO := hide hown; clear hst hown c1 c2 c3
        by_cases h0 : yl = 0
        · have h1 : (yl : Int) = 0 := by omega
          subst h0
          go_wp2_with ((at_builtin; refine wpList_push1 (k := 1) (enc := encI) _ rfl _ _ 52 rfl 3 (.int .i64 0) 8 Try.underlying52 infoI rfl (by omega) (by omega) encI_one (B) _ (emL (ds.take k)) rfl (HO.out) (y0) _ rfl rfl (hdl) (hsz) (hbel) (Nat.le_refl _) rfl ?_; intro v1 w1 ho1 hb1 hg1))
          go_round
          case measure => (simp [intOf] <;> omega)
          case rel => exact ⟨k + 1, by omega, by go_num, by rw [HST.out, if_pos rfl]; exact ho1, hb1⟩
        · have h1 : ((yl : Int) == 0) = false := by simpa using h0
          have HN := hide h0
          have HBX := hide hbel
          clear h0 hbel
          go_wp2_with fail
          go_round
          case measure => (simp [intOf] <;> omega)
          case rel => exact ⟨k + 1, by omega, by go_num, by rw [HST.out, if_neg HN.out, List.append_nil]; exact HO.out, HBX.out⟩
      · have hkk : k = ds.length := by omega
        subst hkk
        rw [List.take_length] at hown
        have HO := hide hown.is; have HBW := hide hbel; clear hown hbel
        go_wp2_with fail
        go_ret2
        exact ⟨_, rfl, HO.out, by rw [HBB.out]; exact HBW.out⟩
end Go.Proofs.Ytdbcilinoieabaa
