/- The square to which water runs: the Lean function nextV; contract of impl's next. Condition: the square is one of the relief. -/
import Derived.Test.YtomcdkkjknphpaaL9C
namespace Go.Proofs.Ytomcdkkjknphpaa
open Go.RowKit
set_option linter.unusedVariables false
def cellS (xss : List (List Int)) (p : SA2) : Int := (xss.getD p.x.toNat []).getD p.y.toNat 0
def bestTo (xss : List (List Int)) (l : List SA2) (at0 : SA2) : Nat → SA2
  | 0 => at0
  | k + 1 => if cellS xss (l.getD k SA2.zero) < cellS xss (bestTo xss l at0 k) then l.getD k SA2.zero else bestTo xss l at0 k
/-- whether the first k of the neighbors have a lower one -/
def runTo (xss : List (List Int)) (l : List SA2) (at0 : SA2) (k : Nat) : Bool := decide (cellS xss (bestTo xss l at0 k) < cellS xss at0)
theorem bestTo_le (xss : List (List Int)) (l : List SA2) (at0 : SA2) : ∀ k, cellS xss (bestTo xss l at0 k) ≤ cellS xss at0
  | 0 => Int.le_refl _
  | k + 1 => by
    have := bestTo_le xss l at0 k
    unfold bestTo; split <;> omega
theorem bestTo_succ (xss : List (List Int)) (l : List SA2) (at0 : SA2) (k : Nat) : bestTo xss l at0 (k + 1) = if cellS xss (l.getD k SA2.zero) < cellS xss (bestTo xss l at0 k) then l.getD k SA2.zero else bestTo xss l at0 k := rfl
theorem runTo_succ (xss : List (List Int)) (l : List SA2) (at0 : SA2) (k : Nat) : runTo xss l at0 (k + 1) = (runTo xss l at0 k || decide (cellS xss (l.getD k SA2.zero) < cellS xss (bestTo xss l at0 k))) := by
  have h1 := bestTo_le xss l at0 k
  unfold runTo
  rw [bestTo_succ]
  generalize bestTo xss l at0 k = q at *
  generalize l.getD k SA2.zero = p at *
  by_cases hx : cellS xss p < cellS xss q
  · rw [if_pos hx, decide_eq_true hx, Bool.or_true, decide_eq_true_eq]; omega
  · rw [if_neg hx, decide_eq_false hx, Bool.or_false]
theorem bestTo_same {xss : List (List Int)} {l : List SA2} {at0 : SA2} : ∀ {k : Nat}, runTo xss l at0 k = false → bestTo xss l at0 k = at0
  | 0, _ => rfl
  | k + 1, h => by
    rw [runTo_succ, Bool.or_eq_false_iff] at h
    have h2 := of_decide_eq_false h.2
    show (if _ then _ else _) = _
    rw [if_neg h2, bestTo_same h.1]
theorem bestTo_ne {xss : List (List Int)} {l : List SA2} {at0 : SA2} {k : Nat} (h : runTo xss l at0 k = true) : bestTo xss l at0 k ≠ at0 := by
  intro he
  have := of_decide_eq_true h
  rw [he] at this
  omega
def bestN (xss : List (List Int)) (r c : Int) : SA2 := bestTo xss (nearS xss r c) ⟨r, c⟩ (nearS xss r c).length
def runN (xss : List (List Int)) (r c : Int) : Bool := runTo xss (nearS xss r c) ⟨r, c⟩ (nearS xss r c).length
theorem bestTo_mem (xss : List (List Int)) (l : List SA2) (at0 : SA2) : ∀ k, k ≤ l.length → bestTo xss l at0 k = at0 ∨ bestTo xss l at0 k ∈ l
  | 0, _ => .inl rfl
  | k + 1, h => by
    show (if _ then _ else _) = _ ∨ (if _ then _ else _) ∈ _
    split
    · right; simp only [List.getD_eq_getElem?_getD, List.getElem?_eq_getElem (show k < l.length by omega), Option.getD_some]; exact List.getElem_mem _
    · exact bestTo_mem xss l at0 k (by omega)
theorem nearS_in {xss : List (List Int)} {r c : Int} {p : SA2} (h : p ∈ nearS xss r c) : (0 ≤ p.x ∧ p.x < xss.length) ∧ (0 ≤ p.y ∧ p.y < hdLen xss) := hasSq_of.1 (List.mem_filter.1 h).2
theorem nearS_len (xss : List (List Int)) (r c : Int) : (nearS xss r c).length ≤ 4 := by
  unfold nearS
  exact Nat.le_trans (List.length_filter_le _ _) (by simp [cands])
theorem relief_row {xss : List (List Int)} (h : reliefB xss = true) {i : Nat} (hi : i < xss.length) : xss[i].length = hdLen xss := by
  unfold reliefB at h
  rw [Bool.and_eq_true] at h
  have h2 := List.all_eq_true.1 h.2 xss[i] (List.getElem_mem hi)
  unfold rowB at h2
  rw [Bool.and_eq_true] at h2
  exact beq_iff_eq.1 h2.1
/-- the cells of a square -/
theorem grid_cells {xss : List (List Int)} {w : World} {B : Nat} {A : Option Addr} {rs : List SRow} (hmap : rs.map (·.xs) = xss) (hrow : Row 1 SRow.enc w B A rs) (hrs : ∀ r ∈ rs, r.ok w B) (hrel : reliefB xss = true) {p : SA2} (hp : (0 ≤ p.x ∧ p.x < xss.length) ∧ (0 ≤ p.y ∧ p.y < hdLen xss)) :
    ∃ b off br offr cr, A = some ⟨b, off, none⟩ ∧ ∀ W, Below B w W → W.cell? ⟨b, off + p.x.toNat, none⟩ = some (.slice (some ⟨br, offr, none⟩) (hdLen xss) cr) ∧ W.cell? ⟨br, offr + p.y.toNat, none⟩ = some (.int .i64 (cellS xss p)) := by
  obtain ⟨⟨x0, x1⟩, ⟨y0, y1⟩⟩ := hp
  have hxl : xss.length = rs.length := by rw [← hmap]; simp
  have hi : p.x.toNat < rs.length := by omega
  have hix : p.x.toNat < xss.length := by omega
  have hxe : xss[p.x.toNat] = rs[p.x.toNat].xs := by simp [← hmap]
  have hrl := relief_row hrel hix
  have hj : p.y.toNat < rs[p.x.toNat].xs.length := by rw [← hxe, hrl]; omega
  have hok := hrs rs[p.x.toNat] (List.getElem_mem hi)
  obtain ⟨b, off, hA, hb, _⟩ := SRow.cell hrow hi (Below.refl _ _)
  obtain ⟨br, offr, hA2, hb2, _⟩ := Ints.cells hok.1 hj (Below.refl _ _)
  refine ⟨b, off, br, offr, rs[p.x.toNat].cap, hA, fun W hW => ?_⟩
  obtain ⟨b', off', hA', _, c0⟩ := SRow.cell hrow hi hW
  rw [hA] at hA'; injection hA' with hA'; injection hA' with h1 h2; subst h1 h2
  obtain ⟨b', off', hA', _, c1⟩ := Ints.cells hok.1 hj hW
  rw [hA2] at hA'; injection hA' with hA'; injection hA' with h1 h2; subst h1 h2
  refine ⟨?_, ?_⟩
  · rw [c0, hA2, ← hxe, hrl]
  · rw [c1]
    unfold cellS
    simp only [List.getD_eq_getElem?_getD, List.getElem?_eq_getElem hix, Option.getD_some, hxe, List.getElem?_eq_getElem hj]
theorem best_in {xss : List (List Int)} {r c : Int} (hr : 0 ≤ r ∧ r < xss.length) (hc : 0 ≤ c ∧ c < hdLen xss) {k : Nat} (hk : k ≤ (nearS xss r c).length) : (0 ≤ (bestTo xss (nearS xss r c) ⟨r, c⟩ k).x ∧ (bestTo xss (nearS xss r c) ⟨r, c⟩ k).x < xss.length) ∧ (0 ≤ (bestTo xss (nearS xss r c) ⟨r, c⟩ k).y ∧ (bestTo xss (nearS xss r c) ⟨r, c⟩ k).y < hdLen xss) := by
  rcases bestTo_mem xss (nearS xss r c) ⟨r, c⟩ k hk with h | h
  · rw [h]; exact ⟨hr, hc⟩
  · exact nearS_in h
def SA2.boxed (p : SA2) : Array Value := #[.int .i64 p.x, .int .i64 p.y]
theorem boxed2_cell {w : World} {g : Nat} {p : SA2} (h : Blk w g 50 p.boxed) : w.cell? ⟨g, 0, none⟩ = some (.int .i64 p.x) ∧ w.cell? ⟨g, 1, none⟩ = some (.int .i64 p.y) := by
  refine ⟨?_, ?_⟩ <;> rw [h.cell] <;> rfl
set_option maxHeartbeats 2000000 in
theorem next_is (v : Value) (xss : List (List Int)) (r c : Int) (w : World) (h : IsG w v xss) (hrel : reliefB xss = true) (hr : 0 ≤ r ∧ r < xss.length) (hc : 0 ≤ c ∧ c < hdLen xss) :
    Calls Try.prog 70 #[v, .int .i64 r, .int .i64 c] w fun e w' => e = .returned (.tuple #[.agg #[.int .i64 (bestN xss r c).x, .int .i64 (bestN xss r c).y], .bool (runN xss r c)]) ∧ Below w.heap.size w w' := by
  have hdm := relief_dims hrel
  have B2 := (below_alloc w (.cells #[.int .i64 0, .int .i64 0] 50)).alloc (by simp) (.cells #[.int .i64 r, .int .i64 c] 50)
  have har := around_is v xss r c _ (h.below B2 (Nat.le_refl _)) (by omega) (by omega) (by omega)
  have hk0 : Blk ((w.alloc (.cells #[.int .i64 0, .int .i64 0] 50)).alloc (.cells #[.int .i64 r, .int .i64 c] 50)) w.heap.size 50 #[.int .i64 0, .int .i64 0] := (Blk.new w _ _).alloc _
  have hk1 : Blk ((w.alloc (.cells #[.int .i64 0, .int .i64 0] 50)).alloc (.cells #[.int .i64 r, .int .i64 c] 50)) (w.heap.size + 1) 50 (SA2.boxed ⟨r, c⟩) := by
    have := Blk.new (w.alloc (.cells #[.int .i64 0, .int .i64 0] 50)) 50 (SA2.boxed ⟨r, c⟩)
    rw [show (w.alloc (.cells #[.int .i64 0, .int .i64 0] 50)).heap.size = w.heap.size + 1 by simp] at this
    exact this
  have hsz2 : ((w.alloc (.cells #[.int .i64 0, .int .i64 0] 50)).alloc (.cells #[.int .i64 r, .int .i64 c] 50)).heap.size = w.heap.size + 2 := by simp
  obtain ⟨rs, hmap, his, hrs⟩ := h
  obtain ⟨A, cap, rfl, hrow, _, _⟩ := his
  have hxl : xss.length = rs.length := by rw [← hmap]; simp
  have hgc := fun (p : SA2) hp => grid_cells hmap hrow hrs hrel (p := p) hp
  have hbi := fun k hk => best_in hr hc (k := k) hk
  have hl4 := nearS_len xss r c
  have hin := fun p (hp : p ∈ nearS xss r c) => nearS_in hp
  have hb0 : bestTo xss (nearS xss r c) ⟨r, c⟩ 0 = ⟨r, c⟩ := rfl
  have hr0 : runTo xss (nearS xss r c) ⟨r, c⟩ 0 = false := by unfold runTo; exact decide_eq_false (by rw [hb0]; omega)
  unfold bestN runN
  rw [hxl] at hgc hbi hin
  generalize hdLen xss = m at *
  generalize hB : w.heap.size = B at *
  have HAR := hide har; have HK0 := hide hk0; have HK1 := hide hk1; have HGC := hide hgc; have HBI := hide hbi; have HIN := hide hin; have HB0 := hide hb0; have HR0 := hide hr0; have HB2 := hide B2; have HSZ2 := hide hsz2
  clear har hk0 hk1 hgc hbi hin hb0 hr0 hrow hrs hmap hxl B2 hsz2 hrel hdm
  generalize nearS xss r c = l at *
  go_enter Try.func70, Try.ntmps70
  go_wp2_with fail
  refine HAR.out.mono ?_; rintro e w3 ⟨x, rfl, ho, hb3⟩
  rw [HSZ2.out] at ho hb3
  have B3 := HB2.out.trans (hb3.mono (by omega))
  have hq0 := HK0.out.below hb3 (by omega)
  have hq1 := HK1.out.below hb3 (by omega)
  obtain ⟨A', cap', rfl, _, _, _⟩ := ho.row
  have HO := hide ho; have HQ0 := hide hq0; have HQ1 := hide hq1; clear ho hq0 hq1 hb3
  go_wp2_with fail
  go_loopw [9, 20] (fun t i wr => ∃ k : Nat, k ≤ l.length ∧ i = .int .i64 (k : Int) ∧ t = .bool (runTo xss l ⟨r, c⟩ k) ∧ Own 2 SA2.enc 50 wr (B + 2) (.slice A' l.length cap') l ∧ Blk wr (B + 1) 50 (bestTo xss l ⟨r, c⟩ k).boxed ∧ Blk wr B 50 #[.int .i64 0, .int .i64 0] ∧ Below B w wr) (fun _ i _ => l.length - (intOf i).toNat)
  case atStart => exact ⟨0, Nat.zero_le _, rfl, by rw [HR0.out], HO.out, HQ1.out, HQ0.out, B3⟩
  case round =>
    obtain ⟨k, hk, rfl, rfl, hown, hblk, hblk0, hbel⟩ := hrel
    have hgl := hblk.lt
    have hsz : B ≤ wr.heap.size := by omega
    by_cases hlt : k < l.length
    · obtain ⟨A2, c2, he, hrl, _, _⟩ := hown.row
      injection he with he1 he2 he3; subst he1 he3
      obtain ⟨b, off, rfl, hb, d0, d1⟩ := SA2.cells hrl hlt (Below.refl _ _)
      obtain ⟨e0, e1⟩ := boxed2_cell hblk
      have hpin := HIN.out l[k] (List.getElem_mem hlt)
      have hbin := HBI.out k hk
      have hst : bestTo xss l ⟨r, c⟩ (k + 1) = if cellS xss l[k] < cellS xss (bestTo xss l ⟨r, c⟩ k) then l[k] else bestTo xss l ⟨r, c⟩ k := by simp only [bestTo, List.getD_eq_getElem?_getD, List.getElem?_eq_getElem hlt, Option.getD_some]
      have hrt : runTo xss l ⟨r, c⟩ (k + 1) = (runTo xss l ⟨r, c⟩ k || decide (cellS xss l[k] < cellS xss (bestTo xss l ⟨r, c⟩ k))) := by
        rw [runTo_succ]; simp only [List.getD_eq_getElem?_getD, List.getElem?_eq_getElem hlt, Option.getD_some]
      generalize l[k] = p at *
      generalize bestTo xss l ⟨r, c⟩ k = q at *
      generalize runTo xss l ⟨r, c⟩ k = rt at *
      obtain ⟨gb, goff, gr, groff, gcr, hgA, hg1⟩ := HGC.out p hpin
      obtain ⟨gb', goff', gr', groff', gcr', hgA', hg2⟩ := HGC.out q hbin
      subst hgA
      injection hgA' with hgA'; injection hgA' with hz1 hz2; subst hz1 hz2
      obtain ⟨px, py⟩ := p
      obtain ⟨qx, qy⟩ := q
      simp only [SA2.boxed] at *
      obtain ⟨⟨px0, px1⟩, ⟨py0, py1⟩⟩ := hpin
      obtain ⟨⟨qx0, qx1⟩, ⟨qy0, qy1⟩⟩ := hbin
      have BX := hbel.alloc hsz (.cells #[.int .i64 px, .int .i64 py] 50)
      have hox := hown.alloc (.cells #[.int .i64 px, .int .i64 py] 50)
      have hkx := hblk.alloc (.cells #[.int .i64 px, .int .i64 py] 50)
      have hkx0 := hblk0.alloc (.cells #[.int .i64 px, .int .i64 py] 50)
      have hnew := Blk.new wr 50 #[.int .i64 px, .int .i64 py]
      have m0 := fun n : Later (wr.alloc (.cells #[.int .i64 px, .int .i64 py] 50)) => (((hnew.below n.h (by simp)).cell 0) : n.W.cell? ⟨wr.heap.size, 0, none⟩ = some (.int .i64 px))
      have m1 := fun n : Later (wr.alloc (.cells #[.int .i64 px, .int .i64 py] 50)) => (((hnew.below n.h (by simp)).cell 1) : n.W.cell? ⟨wr.heap.size, 1, none⟩ = some (.int .i64 py))
      have m2 := fun n : Later (wr.alloc (.cells #[.int .i64 px, .int .i64 py] 50)) => (((hkx.below n.h (by simp; omega)).cell 0) : n.W.cell? ⟨B + 1, 0, none⟩ = some (.int .i64 qx))
      have m3 := fun n : Later (wr.alloc (.cells #[.int .i64 px, .int .i64 py] 50)) => (((hkx.below n.h (by simp; omega)).cell 1) : n.W.cell? ⟨B + 1, 1, none⟩ = some (.int .i64 qy))
      have m4 := fun n : Later (wr.alloc (.cells #[.int .i64 px, .int .i64 py] 50)) => (hg1 n.W (BX.trans (n.h.mono (by simp; omega)))).1
      have m5 := fun n : Later (wr.alloc (.cells #[.int .i64 px, .int .i64 py] 50)) => (hg1 n.W (BX.trans (n.h.mono (by simp; omega)))).2
      have m6 := fun n : Later (wr.alloc (.cells #[.int .i64 px, .int .i64 py] 50)) => (hg2 n.W (BX.trans (n.h.mono (by simp; omega)))).1
      have m7 := fun n : Later (wr.alloc (.cells #[.int .i64 px, .int .i64 py] 50)) => (hg2 n.W (BX.trans (n.h.mono (by simp; omega)))).2
      have HBX := hide BX; have HOX := hide hox; have HKX := hide hkx; have HKX0 := hide hkx0; have HNEW := hide hnew
      generalize cellS xss ⟨px, py⟩ = hp at *
      generalize cellS xss ⟨qx, qy⟩ = hq at *
      clear BX hox hkx hkx0 hnew hg1 hg2 hown hblk hblk0 hrl e0 e1
      by_cases hlow : hp < hq
      · rw [if_pos hlow] at hst
        rw [decide_eq_true hlow, Bool.or_true] at hrt
        have HST := hide hst; have HRT := hide hrt; clear hst hrt
        go_wp2_with fail
        (refine wp_region_later (by kernel_rfl) (by kernel_rfl) ?_; (repeat (go_big_quiet_step (fail))); refine wpQuiet_nil ?_; intro _ hw'; obtain ⟨nq, hw''⟩ := hw'; subst hw'')
        have B4 := HBX.out.trans (nq.h.mono (by simp; omega))
        have ho4 := HOX.out.below nq.h
        have hk4 := HKX.out.below nq.h (by simp; omega)
        have hk5 := HKX0.out.below nq.h (by simp; omega)
        have e0 := m0 nq; have e1 := m1 nq
        have g0 := hk4.some (i := 0) (show 0 < 2 by omega); have g1 := hk4.some (i := 1) (show 1 < 2 by omega)
        have hfz := hk4.frozen
        generalize nq.W = W5 at B4 ho4 hk4 hk5 e0 e1 g0 g1 hfz
        have HO4 := hide ho4; have HK4 := hide hk4; have HK5 := hide hk5
        clear nq ho4 hk4 hk5 m0 m1 m2 m3 m4 m5 m6 m7 d0 d1
        go_wp2_with fail
        go_round
        case measure => (simp [intOf] <;> omega)
        case rel =>
          have hne : ∀ g, Value.ownBlock (.slice (some ⟨b, off, none⟩) l.length cap') = some g → g ≠ B + 1 := fun g hg => by have := (HO4.out.lt g hg).1; omega
          exact ⟨k + 1, by omega, by go_num, by rw [HRT.out], (HO4.out.setCell (p := ⟨B + 1, 0, none⟩) hne _).setCell (p := ⟨B + 1, 1, none⟩) hne _, by rw [HST.out]; exact (HK4.out.set 0 _).set 1 _, (HK5.out.far (p := ⟨B + 1, 0, none⟩) (by simp) _).far (p := ⟨B + 1, 1, none⟩) (by simp) _, (B4.setCell (p := ⟨B + 1, 0, none⟩) (Nat.le_succ B) _).setCell (p := ⟨B + 1, 1, none⟩) (Nat.le_succ B) _⟩
      · rw [if_neg hlow] at hst
        rw [decide_eq_false hlow, Bool.or_false] at hrt
        have HST := hide hst; have HRT := hide hrt; clear hst hrt
        go_wp2_with fail
        (refine wp_region_later (by kernel_rfl) (by kernel_rfl) ?_; (repeat (go_big_quiet_step (fail))); refine wpQuiet_nil ?_; intro _ hw'; obtain ⟨nq, hw''⟩ := hw'; subst hw'')
        have B4 := HBX.out.trans (nq.h.mono (by simp; omega))
        have ho4 := HOX.out.below nq.h
        have hk4 := HKX.out.below nq.h (by simp; omega)
        have hk5 := HKX0.out.below nq.h (by simp; omega)
        generalize nq.W = W5 at B4 ho4 hk4 hk5
        have HO4 := hide ho4; have HK4 := hide hk4; have HK5 := hide hk5
        clear nq ho4 hk4 hk5 m0 m1 m2 m3 m4 m5 m6 m7 d0 d1
        go_wp2_with fail
        go_round
        case measure => (simp [intOf] <;> omega)
        case rel => exact ⟨k + 1, by omega, by go_num, by rw [HRT.out], HO4.out, by rw [HST.out]; exact HK4.out, HK5.out, B4⟩
    · have hkl : l.length = k := by omega
      obtain ⟨e0, e1⟩ := boxed2_cell hblk
      have g0 := hblk0.some (i := 0) (show 0 < 2 by omega); have g1 := hblk0.some (i := 1) (show 1 < 2 by omega)
      have hfz := hblk0.frozen
      have hbf := (hbel.setCell (p := ⟨B, 0, none⟩) (Nat.le_refl B) (.int .i64 (bestTo xss l ⟨r, c⟩ k).x)).setCell (p := ⟨B, 1, none⟩) (Nat.le_refl B) (.int .i64 (bestTo xss l ⟨r, c⟩ k).y)
      have hblf := (hblk0.set 0 (.int .i64 (bestTo xss l ⟨r, c⟩ k).x)).set 1 (.int .i64 (bestTo xss l ⟨r, c⟩ k).y)
      have HKL := hide hkl; have HBF := hide hbf; have HBLF := hide hblf; clear hkl hbf hblf hblk hblk0 hown
      have hqe : bestTo xss l ⟨r, c⟩ l.length = bestTo xss l ⟨r, c⟩ k := by rw [HKL.out]
      have hre : runTo xss l ⟨r, c⟩ l.length = runTo xss l ⟨r, c⟩ k := by rw [HKL.out]
      have HQE := hide hqe; have HRE := hide hre; clear hqe hre
      generalize bestTo xss l ⟨r, c⟩ k = q at *
      generalize runTo xss l ⟨r, c⟩ k = rt at *
      obtain ⟨qx, qy⟩ := q
      simp only at *
      go_wp2_with fail
      generalize hwf : ((wr.setCell ⟨B, 0, none⟩ (.int .i64 qx)).setCell ⟨B, 1, none⟩ (.int .i64 qy)) = wf at HBF HBLF ⊢
      have f0 : wf.cell? ⟨B, 0, none⟩ = some (.int .i64 qx) := by rw [HBLF.out.cell]; rfl
      have f1 : wf.cell? ⟨B, 1, none⟩ = some (.int .i64 qy) := by rw [HBLF.out.cell]; rfl
      rw [HQE.out, HRE.out]
      exact bodyPost_ret (v := .tuple #[.agg #[.int .i64 qx, .int .i64 qy], .bool rt]) (by simp [results, Try.results70, go_sem, f0, f1]) rfl ⟨rfl, HBF.out⟩
end Go.Proofs.Ytomcdkkjknphpaa
