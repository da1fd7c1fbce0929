/- Contracts of CrossingParts, in impl and spec: the Lean list crossN. No condition. -/
import Derived.Test.YtefnmfkndepfgaaL10U
import Derived.Test.YtefnmfkndepfgaaStA2
namespace Go.Proofs.Ytefnmfkndepfgaa
open Go.RowKit Go.Lib
set_option linter.unusedVariables false
/-- whether the part i of one road and the part k of another have a place in common -/
def pairC (xs ys : List SCorner) (i k : Nat) : Bool := crossB (xs.getD i SCorner.zero).x (xs.getD i SCorner.zero).y (xs.getD (i+1) SCorner.zero).x (xs.getD (i+1) SCorner.zero).y (ys.getD k SCorner.zero).x (ys.getD k SCorner.zero).y (ys.getD (k+1) SCorner.zero).x (ys.getD (k+1) SCorner.zero).y
theorem pairC_eq {xs ys : List SCorner} {i k : Nat} (hi : i + 1 < xs.length) (hk : k + 1 < ys.length) : pairC xs ys i k = crossB xs[i].x xs[i].y xs[i+1].x xs[i+1].y ys[k].x ys[k].y ys[k+1].x ys[k+1].y := by
  simp only [pairC, getD_lt _ (show i < xs.length by omega), getD_lt _ hi, getD_lt _ (show k < ys.length by omega), getD_lt _ hk]
def crossRow (xs ys : List SCorner) (i n : Nat) : List SA2 := ((List.range n).filter (pairC xs ys i)).map fun (k : Nat) => (⟨(i : Int), (k : Int)⟩ : SA2)
def crossN (xs ys : List SCorner) (m : Nat) : List SA2 := (List.range m).flatMap fun i => crossRow xs ys i (ys.length - 1)
theorem crossRow_succ (xs ys : List SCorner) (i n : Nat) : crossRow xs ys i (n + 1) = crossRow xs ys i n ++ if pairC xs ys i n then [(⟨(i : Int), (n : Int)⟩ : SA2)] else [] := by
  simp only [crossRow, List.range_succ, List.filter_append, List.map_append]
  congr 1
  by_cases h : pairC xs ys i n = true <;> simp [List.filter_cons, h]
theorem crossN_succ (xs ys : List SCorner) (m : Nat) : crossN xs ys (m + 1) = crossN xs ys m ++ crossRow xs ys m (ys.length - 1) := by
  simp only [crossN, List.range_succ, List.flatMap_append]; simp
theorem crossRow_le (xs ys : List SCorner) (i n : Nat) : (crossRow xs ys i n).length ≤ n := by
  simp only [crossRow, List.length_map]
  exact Nat.le_trans (List.length_filter_le _ _) (by simp)
theorem crossN_le (xs ys : List SCorner) : ∀ m, (crossN xs ys m).length ≤ m * ys.length
  | 0 => by simp [crossN]
  | m + 1 => by
    have h1 := crossN_le xs ys m
    have h2 := crossRow_le xs ys m (ys.length - 1)
    rw [crossN_succ, List.length_append, Nat.add_mul]; omega
def crossV (xs ys : List SCorner) : List SA2 × Bool := if roadB xs && roadB ys then (crossN xs ys (xs.length - 1), true) else ([], false)
theorem crossV_len (xs ys : List SCorner) : (crossV xs ys).1.length ≤ 1048576 := by
  unfold crossV; split
  · rename_i h
    rw [Bool.and_eq_true] at h
    have l1 := road_len h.1; have l2 := road_len h.2
    have h1 := crossN_le xs ys (xs.length - 1)
    have h2 : (xs.length - 1) * ys.length ≤ 12 * 12 := Nat.mul_le_mul (by omega) (by omega)
    simp only; omega
  · simp
theorem own_emptyP (w : World) {B : Nat} {a : World} (hb : Below B a w) (hB : B ≤ w.heap.size) : Own 2 SA2.enc 51 (w.alloc (.cells #[] 51)) B (.slice (some ⟨w.heap.size, 0, none⟩) 0 0) ([] : List SA2) :=
  Own.made (cs := #[]) rfl hB (Blk.new _ _ _) rfl (Nat.zero_le _) Filled.zero
theorem specCrossingParts_any (v : Value) (xs : List SCorner) (v' : Value) (ys : List SCorner) (w : World) (h : Is 2 SCorner.enc w v xs) (h' : Is 2 SCorner.enc w v' ys) :
    Calls Try.prog 36 #[v, v'] w fun e w' => ∃ r, e = .returned (.tuple #[r, .bool (crossV xs ys).2]) ∧ Own 2 SA2.enc 51 w' w.heap.size r (crossV xs ys).1 ∧ Below w.heap.size w w' := by
  have B1 := below_alloc w (.cells #[] 51)
  generalize hw0 : w.alloc (.cells #[] 51) = w0 at B1
  have hga := fun W (hb : Below w.heap.size w W) => l10Good_is v xs W (h.below hb (Nat.le_refl _))
  have hgb := fun W (hb : Below w.heap.size w W) => l10Good_is v' ys W (h'.below hb (Nat.le_refl _))
  by_cases h1 : roadB xs = true
  case neg =>
    rw [show crossV xs ys = ([], false) by simp [crossV, h1]]
    rw [Bool.not_eq_true] at h1
    rw [h1] at hga
    have HGa := hide hga; clear hga hgb h h'
    go_enter Try.func36, Try.ntmps36
    go_wp2_with fail
    subst hw0; refine (HGa.out _ B1).mono ?_; rintro e w1 ⟨rfl, hbz⟩
    go_wp2_with fail
    go_ret2
    exact ⟨_, rfl, (own_emptyP w (Below.refl _ _) (Nat.le_refl _)).below hbz, bstep B1 hbz B1.size⟩
  rw [h1] at hga
  have HGa := hide hga; clear hga
  by_cases h2 : roadB ys = true
  case neg =>
    rw [show crossV xs ys = ([], false) by simp [crossV, h2]]
    rw [Bool.not_eq_true] at h2
    rw [h2] at hgb
    have HGb := hide hgb; clear hgb h h'
    go_enter Try.func36, Try.ntmps36
    go_wp2_with fail
    subst hw0; refine (HGa.out _ B1).mono ?_; rintro e w1 ⟨rfl, hby⟩
    have B2 := bstep B1 hby B1.size
    go_wp2_with fail
    refine (HGb.out _ B2).mono ?_; rintro e w2 ⟨rfl, hbz2⟩
    have hbz := hby.trans (hbz2.mono hby.size)
    go_wp2_with fail
    go_ret2
    exact ⟨_, rfl, (own_emptyP w (Below.refl _ _) (Nat.le_refl _)).below hbz, bstep B1 hbz B1.size⟩
  rw [h2] at hgb
  have HGb := hide hgb; clear hgb
  obtain ⟨l1, l2⟩ := road_len h1
  obtain ⟨l3, l4⟩ := road_len h2
  rw [show crossV xs ys = (crossN xs ys (xs.length - 1), true) by simp [crossV, h1, h2]]
  have HOK := hide h1; have HOK' := hide h2; clear h1 h2
  obtain ⟨A, cap, rfl, hr, _, _⟩ := h
  obtain ⟨A', cap', rfl, hr', _, _⟩ := h'
  have HR := hide hr; have HR' := hide hr'; clear hr hr'
  have hsize : w.heap.size ≤ w.heap.size := Nat.le_refl _
  go_enter Try.func36, Try.ntmps36
  go_wp2_with fail
  subst hw0; refine (HGa.out _ B1).mono ?_; rintro e w1 ⟨rfl, hby⟩
  have B2 := bstep B1 hby B1.size
  go_wp2_with fail
  refine (HGb.out _ B2).mono ?_; rintro e w2 ⟨rfl, hbz2⟩
  have B3 := bstep B2 hbz2 B2.size
  have hbz := hby.trans (hbz2.mono hby.size)
  have hown := (own_emptyP w (Below.refl _ _) (Nat.le_refl _)).below hbz
  have HO := hide hown; clear hown hby hbz2 hbz
  generalize hB : w.heap.size = B at HR HR' HO B3
  have HB := hide hB; clear hB hsize B1 B2
  go_wp2_with fail
  go_loopw [6, 7] (fun s i wr => ∃ p : Nat, p + 1 ≤ xs.length ∧ i = .int .i64 ((p : Int) + 1) ∧ Own 2 SA2.enc 51 wr B s (crossN xs ys p) ∧ Below B w wr) (fun _ i _ => xs.length - (intOf i).toNat)
  case atStart => exact ⟨0, by omega, rfl, HO.out, B3⟩
  case round =>
    obtain ⟨p, hp, rfl, hown0, hbel0⟩ := hrel
    have HOW0 := hide hown0; clear hown0
    by_cases hlp : p + 1 < xs.length
    · have hlp' : (p : Int) + 1 < (xs.length : Int) := by omega
      go_wp2_with fail
      go_loopw [6, 8] (fun s k wr => ∃ r : Nat, r + 1 ≤ ys.length ∧ k = .int .i64 ((r : Int) + 1) ∧ Own 2 SA2.enc 51 wr B s (crossN xs ys p ++ crossRow xs ys p r) ∧ Below B w wr) (fun _ k _ => ys.length - (intOf k).toNat)
      case atStart => exact ⟨0, by omega, rfl, by simpa [crossRow] using HOW0.out, hbel0⟩
      case round =>
        obtain ⟨r, hr1, rfl, hown, hbel⟩ := hrel
        have HOW := hide hown; clear hown
        have hsz : B ≤ wr.heap.size := by have := hbel.size; rw [HB.out] at this; exact this
        have hl1 : (crossN xs ys p ++ crossRow xs ys p r).length ≤ 16777216 := by
          have q1 := crossN_le xs ys p; have q2 := crossRow_le xs ys p r
          have q3 : p * ys.length ≤ 12 * 12 := Nat.mul_le_mul (by omega) (by omega)
          rw [List.length_append]; omega
        by_cases hlt : r + 1 < ys.length
        · have hlt' : (r : Int) + 1 < (ys.length : Int) := by omega
          obtain ⟨b, off, rfl, hb, c0, c1⟩ := SCorner.cells HR.out (i := p) (by omega) hbel
          obtain ⟨b2, off2, hA, hb2, d0, d1⟩ := SCorner.cells HR.out (i := p + 1) (by omega) hbel
          injection hA with hA; injection hA with hA1 hA2; subst hA1 hA2
          obtain ⟨b', off', rfl, hb', e0, e1⟩ := SCorner.cells HR'.out (i := r) (by omega) hbel
          obtain ⟨b2', off2', hA, hb2', f0, f1⟩ := SCorner.cells HR'.out (i := r + 1) (by omega) hbel
          injection hA with hA; injection hA with hA1 hA2; subst hA1 hA2
          have i0 := road_corn HOK.out (i := p) (by omega)
          have i1 := road_corn HOK.out (i := p + 1) (by omega)
          have i2 := road_corn HOK'.out (i := r) (by omega)
          have i3 := road_corn HOK'.out (i := r + 1) (by omega)
          have hcall := fun W => l10Cross_any _ _ _ _ _ _ _ _ W i0 i1 i2 i3
          have hpair := pairC_eq (xs := xs) (ys := ys) (i := p) (k := r) (by omega) hlt
          clear i0 i1 i2 i3
          generalize xs[p].x = ax at *; generalize xs[p].y = ay at *
          generalize xs[p+1].x = bx at *; generalize xs[p+1].y = b_ at *
          generalize ys[r].x = px at *; generalize ys[r].y = py at *
          generalize ys[r+1].x = qx at *; generalize ys[r+1].y = qy at *
          rw [← hpair] at hcall
          have n0 := fun n => later_cell c0 n; have n1 := fun n => later_cell c1 n
          have n2 := fun n => later_cell d0 n; have n3 := fun n => later_cell d1 n
          have n4 := fun n => later_cell e0 n; have n5 := fun n => later_cell e1 n
          have n6 := fun n => later_cell f0 n; have n7 := fun n => later_cell f1 n
          have hrow := crossRow_succ xs ys p r
          cases hpr : pairC xs ys p r with
          | true =>
            rw [hpr] at hcall
            rw [hpr, if_pos rfl] at hrow
            have HC := hide hcall; have HROW := hide hrow
            clear hcall hpr hpair hrow
            go_wp2_with fail
            (refine wp_region_later (by kernel_rfl) (by kernel_rfl) ?_; (repeat (go_big_quiet_step ((go_at_call 70; exact later_call (HC.out _))))); refine wpQuiet_nil ?_; intro _ hw'; obtain ⟨nq, hw''⟩ := hw'; subst hw'')
            have B3 := bstep hbel nq.h hsz
            have ho2 := HOW.out.below nq.h
            have hs2 : B ≤ nq.W.heap.size := Nat.le_trans hsz nq.h.size
            generalize nq.W = W3 at B3 ho2 hs2
            have HO2 := hide ho2; clear ho2 nq n0 n1 n2 n3 n4 n5 n6 n7
            go_wp2_with (at_builtin; refine wpList_push1 (k := 2) (enc := SA2.enc) _ rfl _ _ 42 rfl 51 (.agg #[.int .i64 0, .int .i64 0]) 16 Try.underlying42 SA2.info rfl (by omega) (by omega) SA2.one B _ (crossN xs ys p ++ crossRow xs ys p r) rfl HO2.out (⟨(p : Int), (r : Int)⟩ : SA2) _ rfl rfl hl1 hs2 B3 (Nat.le_refl _) rfl ?_; intro v1 w1 ho1 hb1 hg1)
            go_round
            case measure => (simp [intOf] <;> omega)
            case rel =>
            refine ⟨r + 1, by omega, by go_num, ?_, hb1⟩
            rw [HROW.out, ← List.append_assoc]
            exact ho1
          | false =>
            rw [hpr] at hcall
            rw [hpr] at hrow
            have HC := hide hcall; have HROW := hide hrow
            clear hcall hpr hpair hrow
            go_wp2_with fail
            (refine wp_region_later (by kernel_rfl) (by kernel_rfl) ?_; (repeat (go_big_quiet_step ((go_at_call 70; exact later_call (HC.out _))))); refine wpQuiet_nil ?_; intro _ hw'; obtain ⟨nq, hw''⟩ := hw'; subst hw'')
            have B3 := bstep hbel nq.h hsz
            have ho2 := HOW.out.below nq.h
            generalize nq.W = W3 at B3 ho2
            have HO2 := hide ho2; clear ho2
            go_wp2_with fail
            go_round
            case measure => (simp [intOf] <;> omega)
            case rel =>
            refine ⟨r + 1, by omega, by go_num, ?_, B3⟩
            rw [HROW.out]
            simpa using HO2.out
        · have hge : ¬ ((r : Int) + 1 < (ys.length : Int)) := by omega
          have hrr : ys.length - 1 = r := by omega
          have HRR := hide hrr; clear hrr
          go_wp2_with fail
          go_round
          case measure => (simp [intOf] <;> omega)
          case rel =>
          refine ⟨p + 1, by omega, by go_num, ?_, hbel⟩
          rw [crossN_succ, HRR.out]
          exact HOW.out
    · have hk : xs.length - 1 = p := by omega
      have HK := hide hk; clear hk
      have hge : ¬ ((p : Int) + 1 < (xs.length : Int)) := by omega
      go_wp2_with fail
      go_ret2
      rw [HB.out, HK.out]
      exact ⟨_, rfl, HOW0.out, hbel0⟩
theorem implCrossingParts_any (v : Value) (xs : List SCorner) (v' : Value) (ys : List SCorner) (w : World) (h : Is 2 SCorner.enc w v xs) (h' : Is 2 SCorner.enc w v' ys) :
    Calls Try.prog 37 #[v, v'] w fun e w' => ∃ r, e = .returned (.tuple #[r, .bool (crossV xs ys).2]) ∧ Own 2 SA2.enc 51 w' w.heap.size r (crossV xs ys).1 ∧ Below w.heap.size w w' := by
  have B1 := Below.refl w.heap.size w
  have hga := fun W (hb : Below w.heap.size w W) => implIsRoadLine_any v xs W (h.below hb (Nat.le_refl _))
  have hgb := fun W (hb : Below w.heap.size w W) => implIsRoadLine_any v' ys W (h'.below hb (Nat.le_refl _))
  by_cases h1 : roadB xs = true
  case neg =>
    rw [show crossV xs ys = ([], false) by simp [crossV, h1]]
    rw [Bool.not_eq_true] at h1
    rw [h1] at hga
    have HGa := hide hga; clear hga hgb h h'
    go_enter Try.func37, Try.ntmps37
    go_wp2_with fail
    refine (HGa.out _ B1).mono ?_; rintro e w1 ⟨rfl, hbz⟩
    go_wp2_with fail
    go_ret2
    exact ⟨_, rfl, Own.nil, bstep B1 hbz (Nat.le_refl _)⟩
  rw [h1] at hga
  have HGa := hide hga; clear hga
  by_cases h2 : roadB ys = true
  case neg =>
    rw [show crossV xs ys = ([], false) by simp [crossV, h2]]
    rw [Bool.not_eq_true] at h2
    rw [h2] at hgb
    have HGb := hide hgb; clear hgb h h'
    go_enter Try.func37, Try.ntmps37
    go_wp2_with fail
    refine (HGa.out _ B1).mono ?_; rintro e w1 ⟨rfl, hby⟩
    have B2 := bstep B1 hby B1.size
    go_wp2_with fail
    refine (HGb.out _ B2).mono ?_; rintro e w2 ⟨rfl, hbz2⟩
    have hbz := hby.trans (hbz2.mono hby.size)
    go_wp2_with fail
    go_ret2
    exact ⟨_, rfl, Own.nil, bstep B1 hbz (Nat.le_refl _)⟩
  rw [h2] at hgb
  have HGb := hide hgb; clear hgb
  obtain ⟨l1, l2⟩ := road_len h1
  obtain ⟨l3, l4⟩ := road_len h2
  rw [show crossV xs ys = (crossN xs ys (xs.length - 1), true) by simp [crossV, h1, h2]]
  have HOK := hide h1; have HOK' := hide h2; clear h1 h2
  obtain ⟨A, cap, rfl, hr, _, _⟩ := h
  obtain ⟨A', cap', rfl, hr', _, _⟩ := h'
  have HR := hide hr; have HR' := hide hr'; clear hr hr'
  have hsize : w.heap.size ≤ w.heap.size := Nat.le_refl _
  go_enter Try.func37, Try.ntmps37
  go_wp2_with fail
  refine (HGa.out _ B1).mono ?_; rintro e w1 ⟨rfl, hby⟩
  have B2 := bstep B1 hby B1.size
  go_wp2_with fail
  refine (HGb.out _ B2).mono ?_; rintro e w2 ⟨rfl, hbz2⟩
  have B3 := bstep B2 hbz2 B2.size
  have hbz := hby.trans (hbz2.mono hby.size)
  have hown : Own 2 SA2.enc 51 w2 w.heap.size (.slice none 0 0) ([] : List SA2) := Own.nil
  have HO := hide hown; clear hown hby hbz2 hbz
  generalize hB : w.heap.size = B at HR HR' HO B3
  have HB := hide hB; clear hB hsize B1 B2
  go_wp2_with fail
  go_loopw [6, 7] (fun s i wr => ∃ p : Nat, p + 1 ≤ xs.length ∧ i = .int .i64 ((p : Int) + 1) ∧ Own 2 SA2.enc 51 wr B s (crossN xs ys p) ∧ Below B w wr) (fun _ i _ => xs.length - (intOf i).toNat)
  case atStart => exact ⟨0, by omega, rfl, HO.out, B3⟩
  case round =>
    obtain ⟨p, hp, rfl, hown0, hbel0⟩ := hrel
    have HOW0 := hide hown0; clear hown0
    by_cases hlp : p + 1 < xs.length
    · have hlp' : (p : Int) + 1 < (xs.length : Int) := by omega
      go_wp2_with fail
      go_loopw [6, 8] (fun s k wr => ∃ r : Nat, r + 1 ≤ ys.length ∧ k = .int .i64 ((r : Int) + 1) ∧ Own 2 SA2.enc 51 wr B s (crossN xs ys p ++ crossRow xs ys p r) ∧ Below B w wr) (fun _ k _ => ys.length - (intOf k).toNat)
      case atStart => exact ⟨0, by omega, rfl, by simpa [crossRow] using HOW0.out, hbel0⟩
      case round =>
        obtain ⟨r, hr1, rfl, hown, hbel⟩ := hrel
        have HOW := hide hown; clear hown
        have hsz : B ≤ wr.heap.size := by have := hbel.size; rw [HB.out] at this; exact this
        have hl1 : (crossN xs ys p ++ crossRow xs ys p r).length ≤ 16777216 := by
          have q1 := crossN_le xs ys p; have q2 := crossRow_le xs ys p r
          have q3 : p * ys.length ≤ 12 * 12 := Nat.mul_le_mul (by omega) (by omega)
          rw [List.length_append]; omega
        by_cases hlt : r + 1 < ys.length
        · have hlt' : (r : Int) + 1 < (ys.length : Int) := by omega
          obtain ⟨b, off, rfl, hb, c0, c1⟩ := SCorner.cells HR.out (i := p) (by omega) hbel
          obtain ⟨b2, off2, hA, hb2, d0, d1⟩ := SCorner.cells HR.out (i := p + 1) (by omega) hbel
          injection hA with hA; injection hA with hA1 hA2; subst hA1 hA2
          obtain ⟨b', off', rfl, hb', e0, e1⟩ := SCorner.cells HR'.out (i := r) (by omega) hbel
          obtain ⟨b2', off2', hA, hb2', f0, f1⟩ := SCorner.cells HR'.out (i := r + 1) (by omega) hbel
          injection hA with hA; injection hA with hA1 hA2; subst hA1 hA2
          have i0 := road_corn HOK.out (i := p) (by omega)
          have i1 := road_corn HOK.out (i := p + 1) (by omega)
          have i2 := road_corn HOK'.out (i := r) (by omega)
          have i3 := road_corn HOK'.out (i := r + 1) (by omega)
          have hcall := fun W => meet_any _ _ _ _ _ _ _ _ W i0 i1 i2 i3
          have hpair := pairC_eq (xs := xs) (ys := ys) (i := p) (k := r) (by omega) hlt
          have hmt := cross_meet (road_ne HOK.out (i := p) (by omega)) (road_ne HOK'.out (i := r) (by omega))
          rw [hmt] at hpair
          clear i0 i1 i2 i3
          generalize xs[p].x = ax at *; generalize xs[p].y = ay at *
          generalize xs[p+1].x = bx at *; generalize xs[p+1].y = b_ at *
          generalize ys[r].x = px at *; generalize ys[r].y = py at *
          generalize ys[r+1].x = qx at *; generalize ys[r+1].y = qy at *
          rw [← hpair] at hcall
          have n0 := fun n => later_cell c0 n; have n1 := fun n => later_cell c1 n
          have n2 := fun n => later_cell d0 n; have n3 := fun n => later_cell d1 n
          have n4 := fun n => later_cell e0 n; have n5 := fun n => later_cell e1 n
          have n6 := fun n => later_cell f0 n; have n7 := fun n => later_cell f1 n
          have hrow := crossRow_succ xs ys p r
          cases hpr : pairC xs ys p r with
          | true =>
            rw [hpr] at hcall
            rw [hpr, if_pos rfl] at hrow
            have HC := hide hcall; have HROW := hide hrow
            clear hcall hpr hpair hrow
            go_wp2_with fail
            (refine wp_region_later (by kernel_rfl) (by kernel_rfl) ?_; (repeat (go_big_quiet_step ((go_at_call 71; exact later_call (HC.out _))))); refine wpQuiet_nil ?_; intro _ hw'; obtain ⟨nq, hw''⟩ := hw'; subst hw'')
            have B3 := bstep hbel nq.h hsz
            have ho2 := HOW.out.below nq.h
            have hs2 : B ≤ nq.W.heap.size := Nat.le_trans hsz nq.h.size
            generalize nq.W = W3 at B3 ho2 hs2
            have HO2 := hide ho2; clear ho2 nq n0 n1 n2 n3 n4 n5 n6 n7
            go_wp2_with (at_builtin; refine wpList_push1 (k := 2) (enc := SA2.enc) _ rfl _ _ 42 rfl 51 (.agg #[.int .i64 0, .int .i64 0]) 16 Try.underlying42 SA2.info rfl (by omega) (by omega) SA2.one B _ (crossN xs ys p ++ crossRow xs ys p r) rfl HO2.out (⟨(p : Int), (r : Int)⟩ : SA2) _ rfl rfl hl1 hs2 B3 (Nat.le_refl _) rfl ?_; intro v1 w1 ho1 hb1 hg1)
            go_round
            case measure => (simp [intOf] <;> omega)
            case rel =>
            refine ⟨r + 1, by omega, by go_num, ?_, hb1⟩
            rw [HROW.out, ← List.append_assoc]
            exact ho1
          | false =>
            rw [hpr] at hcall
            rw [hpr] at hrow
            have HC := hide hcall; have HROW := hide hrow
            clear hcall hpr hpair hrow
            go_wp2_with fail
            (refine wp_region_later (by kernel_rfl) (by kernel_rfl) ?_; (repeat (go_big_quiet_step ((go_at_call 71; exact later_call (HC.out _))))); refine wpQuiet_nil ?_; intro _ hw'; obtain ⟨nq, hw''⟩ := hw'; subst hw'')
            have B3 := bstep hbel nq.h hsz
            have ho2 := HOW.out.below nq.h
            generalize nq.W = W3 at B3 ho2
            have HO2 := hide ho2; clear ho2
            go_wp2_with fail
            go_round
            case measure => (simp [intOf] <;> omega)
            case rel =>
            refine ⟨r + 1, by omega, by go_num, ?_, B3⟩
            rw [HROW.out]
            simpa using HO2.out
        · have hge : ¬ ((r : Int) + 1 < (ys.length : Int)) := by omega
          have hrr : ys.length - 1 = r := by omega
          have HRR := hide hrr; clear hrr
          go_wp2_with fail
          go_round
          case measure => (simp [intOf] <;> omega)
          case rel =>
          refine ⟨p + 1, by omega, by go_num, ?_, hbel⟩
          rw [crossN_succ, HRR.out]
          exact HOW.out
    · have hk : xs.length - 1 = p := by omega
      have HK := hide hk; clear hk
      have hge : ¬ ((p : Int) + 1 < (xs.length : Int)) := by omega
      go_wp2_with fail
      go_ret2
      rw [HB.out, HK.out]
      exact ⟨_, rfl, HOW0.out, hbel0⟩
end Go.Proofs.Ytefnmfkndepfgaa
