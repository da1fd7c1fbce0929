/- Contracts of the letters of all bends of a road, in impl and spec: the Lean list bendsL. Conditions: the list is a road where the letters are asked. -/
import Derived.Test.YtefnmfkndepfgaaL10C
namespace Go.Proofs.Ytefnmfkndepfgaa
open Go.RowKit
set_option linter.unusedVariables false
def bendAt (xs : List SCorner) (i : Nat) : UInt8 := bendU (xs.getD i SCorner.zero).x (xs.getD i SCorner.zero).y (xs.getD (i+1) SCorner.zero).x (xs.getD (i+1) SCorner.zero).y (xs.getD (i+2) SCorner.zero).x (xs.getD (i+2) SCorner.zero).y
/-- the letters of the first n bends -/
def bendsN (xs : List SCorner) (n : Nat) : List UInt8 := (List.range n).map (bendAt xs)
def bendsL (xs : List SCorner) : List UInt8 := bendsN xs (xs.length - 2)
theorem bendsN_succ (xs : List SCorner) (n : Nat) : bendsN xs (n + 1) = bendsN xs n ++ [bendAt xs n] := by simp [bendsN, List.range_succ]
theorem bendsN_len (xs : List SCorner) (n : Nat) : (bendsN xs n).length = n := by simp [bendsN]
theorem bendAt_eq {xs : List SCorner} {i : Nat} (h : i + 2 < xs.length) : bendAt xs i = bendU xs[i].x xs[i].y xs[i+1].x xs[i+1].y xs[i+2].x xs[i+2].y := by
  simp only [bendAt, getD_lt _ (show i < xs.length by omega), getD_lt _ (show i + 1 < xs.length by omega), getD_lt _ h]
theorem road_corn {xs : List SCorner} (h : roadB xs = true) {i : Nat} (hi : i < xs.length) : inC xs[i].x xs[i].y := by
  simp only [roadB, Bool.and_eq_true, List.all_eq_true, List.mem_range] at h
  have := h.1 i hi
  simp only [cornB, getD_lt _ hi, Bool.and_eq_true, inB_iff] at this
  exact this.1
theorem road_len {xs : List SCorner} (h : roadB xs = true) : 2 ≤ xs.length ∧ xs.length ≤ 12 := by
  simp only [roadB, Bool.and_eq_true, inB_iff] at h
  omega
theorem road_ne {xs : List SCorner} (h : roadB xs = true) {i : Nat} (hi : i + 1 < xs.length) : ¬ (xs[i].x = xs[i+1].x ∧ xs[i].y = xs[i+1].y) := by
  simp only [roadB, Bool.and_eq_true, List.all_eq_true, List.mem_range] at h
  have := h.1 (i + 1) hi
  rw [corn_succ hi, Bool.and_eq_true] at this
  have h2 := this.2
  rw [Bool.not_eq_true', ← Bool.not_eq_true, sameC_iff] at h2
  exact h2
/-- the texts and the Bool -/
def bendsV (xs : List SCorner) : ByteArray × Bool := if roadB xs then (⟨(bendsL xs).toArray⟩, true) else (⟨#[]⟩, false)

theorem specBendsOf_any (v : Value) (xs : List SCorner) (w : World) (h : Is 2 SCorner.enc w v xs) :
    Calls Try.prog 20 #[v] w fun e w' => e = .returned (.tuple #[.string (bendsV xs).1, .bool (bendsV xs).2]) ∧ Below w.heap.size w w' := by
  have hgood := fun W (i : Is 2 SCorner.enc W v xs) => l10Good_is v xs W i
  have HI := hide h
  by_cases hok : roadB xs = true
  case neg =>
    rw [show bendsV xs = (⟨#[]⟩, false) by simp [bendsV, hok]]
    rw [Bool.not_eq_true] at hok
    rw [hok] at hgood
    have HG := hide hgood; clear hgood h
    go_enter Try.func20, Try.ntmps20
    go_wp2_with (go_at_call 53; refine (HG.out _ HI.out).mono ?_; rintro e w1 ⟨rfl, hb1⟩)
    go_ret2
    exact ⟨rfl, hb1⟩
  rw [show bendsV xs = (⟨(bendsL xs).toArray⟩, true) by simp [bendsV, hok]]
  rw [hok] at hgood
  have HG := hide hgood
  have hlen := road_len hok
  obtain ⟨hl2, hl12⟩ := hlen
  have HOK := hide hok
  clear hgood hok h
  go_enter Try.func20, Try.ntmps20
  go_wp2_with fail
  refine (HG.out _ HI.out).mono ?_; rintro e w1 ⟨rfl, hb1⟩
  have hI1 := HI.out.below hb1 (Nat.le_refl _)
  obtain ⟨A, cap, rfl, hr, _, _⟩ := hI1
  have HR := hide hr; clear hr
  have hz1 := hb1.size
  go_wp2_with fail
  go_loopw [4, 5] (fun s i wr => ∃ k : Nat, k + 2 ≤ xs.length ∧ i = .int .i64 ((k : Int) + 2) ∧ s = .string ⟨(bendsN xs k).toArray⟩ ∧ Below w1.heap.size w1 wr) (fun _ i _ => xs.length - (intOf i).toNat)
  case atStart => exact ⟨0, by omega, rfl, rfl, Below.refl _ _⟩
  case round =>
    obtain ⟨i, hi, rfl, rfl, hbel⟩ := hrel
    have hsz := hbel.size
    by_cases hlt : i + 2 < xs.length
    · obtain ⟨b, off, rfl, hb, c0, c1⟩ := SCorner.cells HR.out (i := i) (by omega) hbel
      obtain ⟨b', off', hA, hb', d0, d1⟩ := SCorner.cells HR.out (i := i + 1) (by omega) hbel
      injection hA with hA; injection hA with hA1 hA2; subst hA1 hA2
      obtain ⟨b', off', hA, hb', e0, e1⟩ := SCorner.cells HR.out (i := i + 2) (by omega) hbel
      injection hA with hA; injection hA with hA1 hA2; subst hA1 hA2
      have i0 := road_corn HOK.out (i := i) (by omega)
      have i1 := road_corn HOK.out (i := i + 1) (by omega)
      have i2 := road_corn HOK.out (i := i + 2) (by omega)
      have hst := bendsN_succ xs i
      rw [bendAt_eq hlt] at hst
      have hcall := fun W => l10Bend_any _ _ _ _ _ _ W i0 i1 i2
      generalize xs[i].x = ax at c0 hst hcall i0
      generalize xs[i].y = ay at c1 hst hcall i0
      generalize xs[i+1].x = bx at d0 hst hcall i1
      generalize xs[i+1].y = b_ at d1 hst hcall i1
      generalize xs[i+2].x = cx at e0 hst hcall i2
      generalize xs[i+2].y = cy at e1 hst hcall i2
      generalize bendU ax ay bx b_ cx cy = u at hst hcall
      have HC := hide hcall; have HST := hide hst; clear hcall hst i0 i1 i2
      have n0 := fun n => later_cell c0 n; have n1 := fun n => later_cell c1 n
      have n2 := fun n => later_cell d0 n; have n3 := fun n => later_cell d1 n
      have n4 := fun n => later_cell e0 n; have n5 := fun n => later_cell e1 n
      have q : (bendsN xs i).length = i := bendsN_len xs i
      generalize bendsN xs i = L at HST q
      have q2 : (ByteArray.mk L.toArray).size = i := by simp [ByteArray.size, q]
      have q3 : (ByteArray.mk #[u]).size = 1 := rfl
      have hadd := fun W => run_string_add_sum (P := Try.prog) W ⟨L.toArray⟩ ⟨#[u]⟩ (by rw [q2, q3]; omega)
      clear q q2 q3
      go_wp2_with fail
      (refine wp_region_later (by kernel_rfl) (by kernel_rfl) ?_; (repeat (go_big_quiet_step ((go_at_call 58; exact later_call (HC.out _))))); refine wpQuiet_nil ?_; intro _ hw'; obtain ⟨nq, hw''⟩ := hw'; subst hw'')
      go_wp2_with fail
      refine ⟨⟨i + 1, by omega, by go_num, ?_, bstep hbel nq.h hsz⟩, by simp [intOf]; omega⟩
      rw [HST.out, ByteArray.mk_append_mk]
    · have hk : i + 2 = xs.length := by omega
      have hL : bendsN xs i = bendsL xs := by rw [bendsL, show xs.length - 2 = i by omega]
      have HL := hide hL
      have hge : ¬ ((i : Int) + 2 < xs.length) := by omega
      clear hk hL
      go_wp2_with fail
      go_ret2
      exact ⟨by rw [← HL.out]; rfl, bstep hb1 hbel hz1⟩

theorem infoB : (Try.prog.info? 5).map (fun i => (i.zero, i.size, i.bytes)) = some (some (.int .u8 0), 1, 1) := by kernel_rfl
theorem bends_any (v : Value) (xs : List SCorner) (w : World) (h : Is 2 SCorner.enc w v xs) (hok : roadB xs = true) :
    Calls Try.prog 59 #[v] w fun e w' => ∃ r, e = .returned r ∧ Own 1 encB 5 w' w.heap.size r (bendsL xs) ∧ Below w.heap.size w w' := by
  have hlen := road_len hok
  obtain ⟨hl2, hl12⟩ := hlen
  have HOK := hide hok
  clear hok
  obtain ⟨A, cap, rfl, hr, _, _⟩ := h
  generalize hB : w.heap.size = B at hr ⊢
  have HB := hide hB; clear hB
  have HR := hide hr; clear hr
  go_enter Try.func59, Try.ntmps59
  go_wp2_with fail
  go_loopw [3, 4] (fun s i wr => ∃ k : Nat, k + 2 ≤ xs.length ∧ i = .int .i64 ((k : Int) + 1) ∧ Own 1 encB 5 wr B s (bendsN xs k) ∧ Below B w wr) (fun _ i _ => xs.length - (intOf i).toNat)
  case atStart => exact ⟨0, by omega, rfl, Own.nil, Below.refl _ _⟩
  case round =>
    obtain ⟨i, hi, rfl, hown, hbel⟩ := hrel
    have hsz : B ≤ wr.heap.size := by have := hbel.size; rw [HB.out] at this; exact this
    have HOW := hide hown; clear hown
    by_cases hlt : i + 2 < xs.length
    · obtain ⟨b, off, rfl, hb, c0, c1⟩ := SCorner.cells HR.out (i := i) (by omega) hbel
      obtain ⟨b', off', hA, hb', d0, d1⟩ := SCorner.cells HR.out (i := i + 1) (by omega) hbel
      injection hA with hA; injection hA with hA1 hA2; subst hA1 hA2
      obtain ⟨b', off', hA, hb', e0, e1⟩ := SCorner.cells HR.out (i := i + 2) (by omega) hbel
      injection hA with hA; injection hA with hA1 hA2; subst hA1 hA2
      have i0 := road_corn HOK.out (i := i) (by omega)
      have i1 := road_corn HOK.out (i := i + 1) (by omega)
      have i2 := road_corn HOK.out (i := i + 2) (by omega)
      have hst := bendsN_succ xs i
      rw [bendAt_eq hlt] at hst
      have hcall := fun W => bend_any _ _ _ _ _ _ W i0 i1 i2
      generalize xs[i].x = ax at c0 hst hcall i0
      generalize xs[i].y = ay at c1 hst hcall i0
      generalize xs[i+1].x = bx at d0 hst hcall i1
      generalize xs[i+1].y = b_ at d1 hst hcall i1
      generalize xs[i+2].x = cx at e0 hst hcall i2
      generalize xs[i+2].y = cy at e1 hst hcall i2
      generalize bendU ax ay bx b_ cx cy = u at hst hcall
      have HC := hide hcall; have HST := hide hst; clear hcall hst i0 i1 i2
      have q := bendsN_len xs i
      have hl1 : (bendsN xs i).length ≤ 16777216 := by omega
      clear q
      go_wp2_with fail
      have p0 : (0 : Int) ≤ (i : Int) := by omega
      have p1 : (i : Int) < xs.length := by omega
      have p2 : (0 : Int) ≤ (i : Int) + 1 := by omega
      have p3 : (i : Int) + 1 < xs.length := by omega
      have p4 : (0 : Int) ≤ (i : Int) + 1 + 1 := by omega
      have p5 : (i : Int) + 1 + 1 < xs.length := by omega
      have t1 : ((i : Int) + 1).toNat = i + 1 := by omega
      have t2 : ((i : Int) + 1 + 1).toNat = i + 2 := by omega
      have r0 : IntKind.i64.wrap (i : Int) = i := IntWalk.i64_in _ (by omega)
      have r1 : IntKind.i64.wrap ((i : Int) + 1 - 1) = i := by rw [Int.add_sub_cancel]; exact r0
      have r2 : IntKind.i64.wrap ((i : Int) + 1 + 1) = (i : Int) + 1 + 1 := IntWalk.i64_in _ (by clear r0 r1; omega)
      go_region_held3 (fun w' => w'.cell? ⟨b, off + i * 2, none⟩ = some (.int .i64 ax) ∧ w'.cell? ⟨b, off + i * 2 + 1, none⟩ = some (.int .i64 ay) ∧ w'.cell? ⟨b, off + (i + 1) * 2, none⟩ = some (.int .i64 bx) ∧ w'.cell? ⟨b, off + (i + 1) * 2 + 1, none⟩ = some (.int .i64 b_) ∧ w'.cell? ⟨b, off + (i + 2) * 2, none⟩ = some (.int .i64 cx) ∧ w'.cell? ⟨b, off + (i + 2) * 2 + 1, none⟩ = some (.int .i64 cy)) (go_keep)
        (first
          | (go_at_call 81; refine (HC.out _).mono ?_; rintro e w2 ⟨rfl, hb2⟩; have hc2 : ∀ o, w2.cell? ⟨b, o, none⟩ = wr.cell? ⟨b, o, none⟩ := (fun o => hb2.cell (p := ⟨b, o, none⟩) (by show b < wr.heap.size; omega)); have ho2 := HOW.out.drew.below hb2; have HO2 := hide ho2; clear ho2; have hbl2 := bstep hbel.drew hb2 hsz; have hs2 : B ≤ w2.heap.size := Nat.le_trans hsz hb2.size; clear hb2)
          | (refine step_push1 (k := 1) (enc := encB) _ (by rfl) _ _ 47 (by rfl) 5 (.int .u8 0) 1 Try.underlying47 infoB rfl (by omega) (by omega) encB_one B _ (bendsN xs i) (by rfl) HO2.out u _ (by rfl) (by rfl) hl1 hs2 hbl2 (Nat.le_refl _) (by rfl) ?_; intro v1 w1 ho1 hb1 hg1; have hc3 : ∀ o, w1.cell? ⟨b, o, none⟩ = wr.cell? ⟨b, o, none⟩ := (fun o => (hb1.cell (p := ⟨b, o, none⟩) hb).trans (hbel.cell (p := ⟨b, o, none⟩) hb).symm); have HO3 := hide ho1; clear ho1 hg1))
      all_goals
        clear r0 r1 r2
        go_wp2_with fail
        refine ⟨⟨i + 1, by omega, by go_num, ?_, hb1⟩, by simp [intOf]; omega⟩
        rw [HST.out]; exact HO3.out
    · have hk : i + 2 = xs.length := by omega
      have hL : bendsN xs i = bendsL xs := by rw [bendsL, show xs.length - 2 = i by omega]
      have HL := hide hL
      have hge : ¬ ((i : Int) + 1 + 1 < xs.length) := by omega
      clear hk hL
      go_wp2_with fail
      go_ret
      exact ⟨_, rfl, by rw [← HL.out]; exact HOW.out, hbel⟩
theorem implBendsOf_any (v : Value) (xs : List SCorner) (w : World) (h : Is 2 SCorner.enc w v xs) :
    Calls Try.prog 21 #[v] w fun e w' => e = .returned (.tuple #[.string (bendsV xs).1, .bool (bendsV xs).2]) ∧ Below w.heap.size w w' := by
  have hgood := fun W (i : Is 2 SCorner.enc W v xs) => implIsRoadLine_any v xs W i
  have HI := hide h
  by_cases hok : roadB xs = true
  case neg =>
    rw [show bendsV xs = (⟨#[]⟩, false) by simp [bendsV, hok]]
    rw [Bool.not_eq_true] at hok
    rw [hok] at hgood
    have HG := hide hgood; clear hgood h
    go_enter Try.func21, Try.ntmps21
    go_wp2_with (go_at_call 18; refine (HG.out _ HI.out).mono ?_; rintro e w1 ⟨rfl, hb1⟩)
    go_ret2
    exact ⟨rfl, hb1⟩
  rw [show bendsV xs = (⟨(bendsL xs).toArray⟩, true) by simp [bendsV, hok]]
  rw [hok] at hgood
  have HG := hide hgood
  have HOK := hide hok
  clear hgood hok h
  go_enter Try.func21, Try.ntmps21
  go_wp2_with fail
  refine (HG.out _ HI.out).mono ?_; rintro e w1 ⟨rfl, hb1⟩
  have HI1 := hide (HI.out.below hb1 (Nat.le_refl _))
  go_wp2_with fail
  refine (bends_any v xs _ HI1.out HOK.out).mono ?_; rintro e w2 ⟨r, rfl, ho, hb2⟩
  have hcv := run_convert_is (P := Try.prog) Try.underlying47 Try.underlying5 Try.underlying9 ho.is
  clear ho
  have B2 := bstep hb1 hb2 hb1.size
  generalize hL : bendsL xs = L at hcv
  have HL := hide hL; clear hL
  go_wp2_with fail
  go_ret2
  exact ⟨by rw [HL.out]; rfl, B2⟩
end Go.Proofs.Ytefnmfkndepfgaa
