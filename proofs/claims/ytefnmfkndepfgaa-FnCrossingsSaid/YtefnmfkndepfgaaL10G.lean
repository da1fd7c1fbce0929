/- Contracts of RoadLength and AlongRoad, in impl and spec: they return the Lean functions rlV and alongV. No condition. -/
import Derived.Test.YtefnmfkndepfgaaL10F
namespace Go.Proofs.Ytefnmfkndepfgaa
open Go.RowKit
set_option linter.unusedVariables false
def rlV (xs : List SCorner) : Int × Bool := if roadB xs then ((lensL xs).sum, true) else (0, false)
theorem lensL_all {xs : List SCorner} (hok : roadB xs = true) : ∀ x ∈ lensL xs, 0 ≤ x ∧ x ≤ 2000000 := by
  intro x hx
  simp only [lensL, lensN, List.mem_map, List.mem_range] at hx
  obtain ⟨i, hi, rfl⟩ := hx
  have := partAt_bd hok (i := i) (by omega)
  omega
theorem lensL_len {xs : List SCorner} : (lensL xs).length = xs.length - 1 := lensN_len xs _
theorem specRoadLength_any (v : Value) (xs : List SCorner) (w : World) (h : Is 2 SCorner.enc w v xs) :
    Calls Try.prog 26 #[v] w fun e w' => e = .returned (.tuple #[.int .i64 (rlV xs).1, .bool (rlV xs).2]) ∧ Below w.heap.size w w' := by
  have hgood := l10Good_is v xs w h
  have HI := hide h; clear h
  by_cases hok : roadB xs = true
  · rw [show rlV xs = ((lensL xs).sum, true) by simp [rlV, hok]]
    rw [hok] at hgood
    have HG := hide hgood; have HOK := hide hok; clear hgood hok
    go_enter Try.func26, Try.ntmps26
    go_wp2_with fail
    refine HG.out.mono ?_; rintro e w1 ⟨rfl, hb1⟩
    go_wp2_with fail
    refine (l10Length_any v xs _ (HI.out.below hb1 (Nat.le_refl _)) HOK.out).mono ?_; rintro e w2 ⟨rfl, hb2⟩
    go_wp2_with fail
    go_ret2
    exact ⟨rfl, bstep hb1 hb2 hb1.size⟩
  · rw [show rlV xs = (0, false) by simp [rlV, hok]]
    rw [Bool.not_eq_true] at hok
    rw [hok] at hgood
    have HG := hide hgood; clear hgood
    go_enter Try.func26, Try.ntmps26
    go_wp2_with fail
    refine HG.out.mono ?_; rintro e w1 ⟨rfl, hb1⟩
    go_wp2_with fail
    go_ret2
    exact ⟨rfl, hb1⟩
theorem implRoadLength_any (v : Value) (xs : List SCorner) (w : World) (h : Is 2 SCorner.enc w v xs) :
    Calls Try.prog 27 #[v] w fun e w' => e = .returned (.tuple #[.int .i64 (rlV xs).1, .bool (rlV xs).2]) ∧ Below w.heap.size w w' := by
  have hgood := implIsRoadLine_any v xs w h
  have HI := hide h; clear h
  by_cases hok : roadB xs = true
  · rw [show rlV xs = ((lensL xs).sum, true) by simp [rlV, hok]]
    rw [hok] at hgood
    have HG := hide hgood; have HOK := hide hok; clear hgood hok
    go_enter Try.func27, Try.ntmps27
    go_wp2_with fail
    refine HG.out.mono ?_; rintro e w1 ⟨rfl, hb1⟩
    go_wp2_with fail
    refine (lengths_any v xs _ (HI.out.below hb1 (Nat.le_refl _)) HOK.out).mono ?_; rintro e w2 ⟨r, rfl, ho, hb2⟩
    have hlen := road_len HOK.out
    have HO := hide ho; clear ho
    go_wp2_with fail
    refine (sum_any r (lensL xs) _ HO.out.is 2000000 (by omega) (by rw [lensL_len]; omega) (lensL_all HOK.out)).mono ?_; rintro e w3 ⟨rfl, rfl⟩
    clear HO hlen
    go_wp2_with fail
    go_ret2
    exact ⟨rfl, bstep hb1 hb2 hb1.size⟩
  · rw [show rlV xs = (0, false) by simp [rlV, hok]]
    rw [Bool.not_eq_true] at hok
    rw [hok] at hgood
    have HG := hide hgood; clear hgood
    go_enter Try.func27, Try.ntmps27
    go_wp2_with fail
    refine HG.out.mono ?_; rintro e w1 ⟨rfl, hb1⟩
    go_wp2_with fail
    go_ret2
    exact ⟨rfl, hb1⟩

/-- the part in which a place lies, and how far it is behind its beginning -/
def along : List Int → Int → Nat × Int
  | [], n => (0, n)
  | [_], n => (0, n)
  | p :: q :: r, n => if p ≤ n then ((along (q :: r) (n - p)).1 + 1, (along (q :: r) (n - p)).2) else (0, n)
theorem along_stop {L : List Int} {n : Int} (h : L.length ≤ 1) : along L n = (0, n) := by
  match L, h with
  | [], _ => rfl
  | [_], _ => rfl
theorem along_less {L : List Int} {k : Nat} {n : Int} (hk : k + 1 < L.length) (h : ¬ L[k] ≤ n) : along (L.drop k) n = (0, n) := by
  rw [List.drop_eq_getElem_cons (by omega), List.drop_eq_getElem_cons hk]
  simp only [along]; rw [if_neg h]
theorem along_more {L : List Int} {k : Nat} {n : Int} (hk : k + 1 < L.length) (h : L[k] ≤ n) : along (L.drop k) n = ((along (L.drop (k + 1)) (n - L[k])).1 + 1, (along (L.drop (k + 1)) (n - L[k])).2) := by
  rw [List.drop_eq_getElem_cons (show k < L.length by omega), List.drop_eq_getElem_cons hk]
  simp only [along]; rw [if_pos h]
def alongV (xs : List SCorner) (n : Int) : Int × Int × Bool := if roadB xs && inB n 0 (lensL xs).sum then (((along (lensL xs) n).1 : Int), (along (lensL xs) n).2, true) else (0, 0, false)
theorem lensL_get {xs : List SCorner} {i : Nat} (h : i < (lensL xs).length) : (lensL xs)[i] = partAt xs i := by simp [lensL, lensN]

theorem implAlongRoad_any (v : Value) (xs : List SCorner) (n : Int) (w : World) (h : Is 2 SCorner.enc w v xs) :
    Calls Try.prog 31 #[v, .int .i64 n] w fun e w' => e = .returned (.tuple #[.int .i64 (alongV xs n).1, .int .i64 (alongV xs n).2.1, .bool (alongV xs n).2.2]) ∧ Below w.heap.size w w' := by
  have hgood := implIsRoadLine_any v xs w h
  have HI := hide h; clear h
  by_cases hok : roadB xs = true
  case neg =>
    rw [show alongV xs n = (0, 0, false) by simp [alongV, hok]]
    rw [Bool.not_eq_true] at hok
    rw [hok] at hgood
    have HG := hide hgood; clear hgood
    go_enter Try.func31, Try.ntmps31
    go_wp2_with fail
    refine HG.out.mono ?_; rintro e w1 ⟨rfl, hb1⟩
    go_wp2_with fail
    go_ret3
    exact ⟨rfl, hb1⟩
  rw [hok] at hgood
  have HG := hide hgood; have HOK := hide hok; clear hgood
  have hlen := road_len hok
  have hsb := sumN_bd hok (xs.length - 1) (by omega)
  by_cases hin : inB n 0 (lensL xs).sum = true
  case neg =>
    rw [show alongV xs n = (0, 0, false) by simp [alongV, hin]]
    rw [Bool.not_eq_true] at hin
    have HIN := hide hin
    clear hsb hok hin
    go_enter Try.func31, Try.ntmps31
    go_wp2_with fail
    refine HG.out.mono ?_; rintro e w1 ⟨rfl, hb1⟩
    go_wp2_with fail
    refine (lengths_any v xs _ (HI.out.below hb1 (Nat.le_refl _)) HOK.out).mono ?_; rintro e w2 ⟨r, rfl, ho, hb2⟩
    have B2 := bstep hb1 hb2 hb1.size
    have HO := hide ho; clear ho
    go_wp2_with fail
    refine (sum_any r (lensL xs) _ HO.out.is 2000000 (by omega) (by rw [lensL_len]; omega) (lensL_all HOK.out)).mono ?_; rintro e w3 ⟨rfl, rfl⟩
    go_wp2_with fail
    refine (within_any _ _ _ _).mono ?_; rintro e w' ⟨rfl, rfl⟩
    rw [HIN.out]
    go_wp2_with fail
    go_ret3
    exact ⟨rfl, B2⟩
  rw [show alongV xs n = (((along (lensL xs) n).1 : Int), (along (lensL xs) n).2, true) by simp [alongV, hok, hin]]
  have hin' := inB_iff.1 hin
  have HIN := hide hin
  have hall := lensL_all hok
  have HALL := hide hall
  have hLL := lensL_len (xs := xs)
  change 0 ≤ (lensL xs).sum ∧ (lensL xs).sum ≤ _ at hsb
  have hn0 : 0 ≤ n := hin'.1
  have hn1 : n ≤ 2000000 * ((xs.length - 1 : Nat) : Int) := by omega
  have hx12 : xs.length ≤ 12 := hlen.2
  have hx2 : 2 ≤ xs.length := hlen.1
  have HLL := hide hLL
  clear hok hin hin' hall hlen hsb hLL
  generalize hL : lensL xs = L at HIN HALL HLL ⊢
  have HLX := hide hL; clear hL
  go_enter Try.func31, Try.ntmps31
  go_wp2_with fail
  refine HG.out.mono ?_; rintro e w1 ⟨rfl, hb1⟩
  go_wp2_with fail
  refine (lengths_any v xs _ (HI.out.below hb1 (Nat.le_refl _)) HOK.out).mono ?_; rintro e w2 ⟨r, rfl, ho, hb2⟩
  have B2 := bstep hb1 hb2 hb1.size
  rw [HLX.out] at ho
  have HO := hide ho; clear ho
  go_wp2_with fail
  refine (sum_any r L _ HO.out.is 2000000 (by omega) (by rw [HLL.out]; omega) HALL.out).mono ?_; rintro e w3 ⟨rfl, rfl⟩
  go_wp2_with fail
  refine (within_any _ _ _ _).mono ?_; rintro e w' ⟨rfl, rfl⟩
  rw [HIN.out]
  obtain ⟨A, cap, rfl, hr, _, _⟩ := HO.out.row
  have HR := hide hr; clear hr
  have hlL : L.length + 1 = xs.length := by have := HLL.out; omega
  have HlL := hide hlL
  have hLpos : 1 ≤ L.length := by omega
  have hLmax : L.length ≤ 11 := by omega
  clear hlL
  go_wp2_with fail
  go_loop [1, 8] (fun m k => ∃ (i : Nat) (m' : Int), i + 1 ≤ L.length ∧ k = .int .i64 i ∧ m = .int .i64 m' ∧ 0 ≤ m' ∧ m' ≤ 22000000 ∧ Hid (along L n = ((along (L.drop i) m').1 + i, (along (L.drop i) m').2))) (fun _ k => L.length - (intOf k).toNat)
  case atStart => exact ⟨0, n, hLpos, rfl, rfl, hn0, by omega, (by simp : along L n = _)⟩
  case round =>
    obtain ⟨i, m, hi, rfl, rfl, m0, m1, hal⟩ := hrel
    by_cases hlt : i + 1 < L.length
    · have hlt' : (i : Int) < (L.length : Int) - 1 := by omega
      obtain ⟨b, off, rfl, hb, c0⟩ := Ints.cells HR.out (i := i) (by omega) (Below.refl _ _)
      obtain ⟨x0, x1⟩ := HALL.out _ (List.getElem_mem (show i < L.length by omega))
      by_cases hp : L[i] ≤ m
      · have HS := hide (along_more hlt hp)
        generalize L[i] = x at c0 x0 x1 hp HS
        go_wp2_with fail
        go_round
        case measure => simp [intOf]; omega
        case rel =>
          refine ⟨i + 1, m - x, by omega, by go_num, rfl, by omega, by omega, ?_⟩
          have h1 := hal.out
          rw [HS.out] at h1
          show along L n = _
          rw [h1]
          simp only [Prod.mk.injEq, and_true]; omega
      · have HS := hide (along_less hlt hp)
        generalize L[i] = x at c0 x0 x1 hp HS
        go_wp2_with fail
        go_ret3
        refine ⟨?_, B2⟩
        have h1 := hal.out
        rw [HS.out] at h1
        rw [h1]; simp
    · have hge : ¬ ((i : Int) < (L.length : Int) - 1) := by omega
      have HS := hide (along_stop (L := L.drop i) (n := m) (by simp; omega))
      go_wp2_with fail
      go_ret3
      refine ⟨?_, B2⟩
      have h1 := hal.out
      rw [HS.out] at h1
      rw [h1]; simp
theorem specAlongRoad_any (v : Value) (xs : List SCorner) (n : Int) (w : World) (h : Is 2 SCorner.enc w v xs) :
    Calls Try.prog 30 #[v, .int .i64 n] w fun e w' => e = .returned (.tuple #[.int .i64 (alongV xs n).1, .int .i64 (alongV xs n).2.1, .bool (alongV xs n).2.2]) ∧ Below w.heap.size w w' := by
  have hgood := l10Good_is v xs w h
  have HI := hide h; clear h
  by_cases hok : roadB xs = true
  case neg =>
    rw [show alongV xs n = (0, 0, false) by simp [alongV, hok]]
    rw [Bool.not_eq_true] at hok
    rw [hok] at hgood
    have HG := hide hgood; clear hgood
    go_enter Try.func30, Try.ntmps30
    go_wp2_with fail
    refine HG.out.mono ?_; rintro e w1 ⟨rfl, hb1⟩
    go_wp2_with fail
    go_ret3
    exact ⟨rfl, hb1⟩
  rw [hok] at hgood
  have HG := hide hgood; have HOK := hide hok; clear hgood
  have hlen := road_len hok
  have hsb := sumN_bd hok (xs.length - 1) (by omega)
  by_cases hin : inB n 0 (lensL xs).sum = true
  case neg =>
    rw [show alongV xs n = (0, 0, false) by simp [alongV, hin]]
    rw [inB_iff] at hin
    have HIN := hide hin
    by_cases hn0 : 0 ≤ n
    · have hn1 : ¬ n ≤ (lensL xs).sum := fun h => hin ⟨hn0, h⟩
      have hn1' : n > (lensL xs).sum := by omega
      clear hsb hok hin
      generalize hS : (lensL xs).sum = S at hn1 hn1'
      have HS := hide hS; clear hS
      go_enter Try.func30, Try.ntmps30
      go_wp2_with fail
      refine HG.out.mono ?_; rintro e w1 ⟨rfl, hb1⟩
      go_wp2_with fail
      refine (l10Length_any v xs _ (HI.out.below hb1 (Nat.le_refl _)) HOK.out).mono ?_; rintro e w2 ⟨rfl, hb2⟩
      have B2 := bstep hb1 hb2 hb1.size
      rw [HS.out]
      go_wp2_with fail
      go_ret3
      exact ⟨rfl, B2⟩
    · clear hsb hok hin
      have hn0' : n < 0 := by omega
      go_enter Try.func30, Try.ntmps30
      go_wp2_with fail
      refine HG.out.mono ?_; rintro e w1 ⟨rfl, hb1⟩
      go_wp2_with fail
      go_ret3
      exact ⟨rfl, hb1⟩
  rw [show alongV xs n = (((along (lensL xs) n).1 : Int), (along (lensL xs) n).2, true) by simp [alongV, hok, hin]]
  have hin' := inB_iff.1 hin
  have hall := lensL_all hok
  have HALL := hide hall
  have hLL := lensL_len (xs := xs)
  change 0 ≤ (lensL xs).sum ∧ (lensL xs).sum ≤ _ at hsb
  have hn0 : 0 ≤ n := hin'.1
  have hn2 : n ≤ (lensL xs).sum := hin'.2
  have hn1 : n ≤ 2000000 * ((xs.length - 1 : Nat) : Int) := by omega
  have hx12 : xs.length ≤ 12 := hlen.2
  have hx2 : 2 ≤ xs.length := hlen.1
  have HLL := hide hLL
  clear hok hin hin' hall hlen hsb hLL
  generalize hS : (lensL xs).sum = S at hn2
  generalize hL : lensL xs = L at HALL HLL ⊢ hS
  have HLX := hide hL; have HS := hide hS; clear hL hS
  generalize hB : w.heap.size = B
  have HB := hide hB; clear hB
  go_enter Try.func30, Try.ntmps30
  go_wp2_with fail
  refine HG.out.mono ?_; rintro e w1 ⟨rfl, hb1⟩
  rw [HB.out] at hb1
  go_wp2_with fail
  refine (l10Length_any v xs _ (HI.out.below hb1 (by rw [HB.out]; exact Nat.le_refl _)) HOK.out).mono ?_; rintro e w2 ⟨rfl, hb2⟩
  have B2 := bstep hb1 hb2 (by have := hb1.size; rw [HB.out] at this; exact this)
  clear hb1 hb2
  rw [HLX.out, HS.out]
  have hnS : ¬ n > S := by omega
  obtain ⟨A, cap, rfl, hr, _, _⟩ := HI.out
  rw [HB.out] at hr
  have HR := hide hr; clear hr
  have hlL : L.length + 1 = xs.length := by have := HLL.out; omega
  have hLpos : 1 ≤ L.length := by omega
  have hLmax : L.length ≤ 11 := by omega
  go_wp2_with fail
  go_loopw [1, 7] (fun m k wr => ∃ (i : Nat) (m' : Int), i + 1 ≤ L.length ∧ k = .int .i64 i ∧ m = .int .i64 m' ∧ 0 ≤ m' ∧ m' ≤ 22000000 ∧ Hid (along L n = ((along (L.drop i) m').1 + i, (along (L.drop i) m').2)) ∧ Below B w wr) (fun _ k _ => L.length - (intOf k).toNat)
  case atStart => exact ⟨0, n, hLpos, rfl, rfl, hn0, by omega, (by simp : along L n = _), B2⟩
  case round =>
    obtain ⟨i, m, hi, rfl, rfl, m0, m1, hal, hbel⟩ := hrel
    have hsz : B ≤ wr.heap.size := by have := hbel.size; rw [HB.out] at this; exact this
    by_cases hlt : i + 1 < L.length
    · have hlt' : (i : Int) + 2 < xs.length := by omega
      obtain ⟨b, off, rfl, hb, c0, c1⟩ := SCorner.cells HR.out (i := i) (by omega) hbel
      obtain ⟨b', off', hA, hb', d0, d1⟩ := SCorner.cells HR.out (i := i + 1) (by omega) hbel
      injection hA with hA; injection hA with hA1 hA2; subst hA1 hA2
      have i0 := road_corn HOK.out (i := i) (by omega)
      have i1 := road_corn HOK.out (i := i + 1) (by omega)
      have hcall := fun W => l10Part_any _ _ _ _ W i0 i1
      obtain ⟨x0, x1⟩ := HALL.out _ (List.getElem_mem (show i < L.length by omega))
      have hLi : L[i] = partI xs[i].x xs[i].y xs[i+1].x xs[i+1].y := by
        rw [← partAt_eq (by omega)]
        have := HLX.out; subst this
        exact lensL_get _
      rw [← hLi] at hcall
      clear hLi
      have n0 := fun n => later_cell c0 n; have n1 := fun n => later_cell c1 n
      have n2 := fun n => later_cell d0 n; have n3 := fun n => later_cell d1 n
      by_cases hp : L[i] ≤ m
      · have HS := hide (along_more hlt hp)
        generalize L[i] = x at hcall x0 x1 hp HS
        generalize xs[i].x = ax at c0 n0 hcall i0
        generalize xs[i].y = ay at c1 n1 hcall i0
        generalize xs[i+1].x = bx at d0 n2 hcall i1
        generalize xs[i+1].y = b_ at d1 n3 hcall i1
        have HC := hide hcall; clear hcall i0 i1
        have hp' : m ≥ x := hp
        go_wp2_with fail
        (refine wp_region_later (by kernel_rfl) (by kernel_rfl) ?_; (repeat (go_big_quiet_step ((go_at_call 66; exact later_call (HC.out _))))); refine wpQuiet_nil ?_; intro _ hw'; obtain ⟨nq, hw''⟩ := hw'; subst hw'')
        have bel2 := bstep hbel nq.h hsz
        have c0 := n0 nq; have c1 := n1 nq; have d0 := n2 nq; have d1 := n3 nq
        have nh := nq.h.size
        generalize nq.W = W2 at bel2 c0 c1 d0 d1 nh
        clear n0 n1 n2 n3 nq
        have n0 := fun n => later_cell c0 n; have n1 := fun n => later_cell c1 n
        have n2 := fun n => later_cell d0 n; have n3 := fun n => later_cell d1 n
        go_wp2_with fail
        (refine wp_region_later (by kernel_rfl) (by kernel_rfl) ?_; (repeat (go_big_quiet_step ((go_at_call 66; exact later_call (HC.out _))))); refine wpQuiet_nil ?_; intro _ hw'; obtain ⟨nq, hw''⟩ := hw'; subst hw'')
        have bel3 := bstep bel2 nq.h (by omega)
        generalize nq.W = W3 at bel3
        go_wp2_with fail
        refine ⟨⟨i + 1, m - x, by omega, by go_num, by go_num, by omega, by omega, ?_, bel3⟩, by simp [intOf]; omega⟩
        have h1 := hal.out
        rw [HS.out] at h1
        show along L n = _
        rw [h1]
        simp only [Prod.mk.injEq, and_true]; omega
      · have HS := hide (along_less hlt hp)
        generalize L[i] = x at hcall x0 x1 hp HS
        generalize xs[i].x = ax at c0 n0 hcall i0
        generalize xs[i].y = ay at c1 n1 hcall i0
        generalize xs[i+1].x = bx at d0 n2 hcall i1
        generalize xs[i+1].y = b_ at d1 n3 hcall i1
        have HC := hide hcall; clear hcall i0 i1
        have hp' : ¬ m ≥ x := hp
        go_wp2_with fail
        (refine wp_region_later (by kernel_rfl) (by kernel_rfl) ?_; (repeat (go_big_quiet_step ((go_at_call 66; exact later_call (HC.out _))))); refine wpQuiet_nil ?_; intro _ hw'; obtain ⟨nq, hw''⟩ := hw'; subst hw'')
        have bel2 := bstep hbel nq.h hsz
        generalize nq.W = W2 at bel2
        go_wp2_with fail
        go_ret3
        refine ⟨?_, bel2⟩
        have h1 := hal.out
        rw [HS.out] at h1
        rw [h1]; simp
    · have hge : ¬ ((i : Int) + 2 < xs.length) := by omega
      have HS := hide (along_stop (L := L.drop i) (n := m) (by simp; omega))
      go_wp2_with fail
      have hge2 : decide ((i : Int) + 2 < (xs.length : Int)) = false := by simpa using hge
      (refine wp_region_later (by kernel_rfl) (by kernel_rfl) ?_; (repeat (go_big_quiet_step (fail))); refine wpQuiet_nil ?_; intro _ hw'; obtain ⟨nq, hw''⟩ := hw'; subst hw'')
      have bel2 := bstep hbel nq.h hsz
      generalize nq.W = W2 at bel2
      go_wp2_with fail
      go_ret3
      refine ⟨?_, bel2⟩
      have h1 := hal.out
      rw [HS.out] at h1
      rw [h1]; simp
end Go.Proofs.Ytefnmfkndepfgaa
