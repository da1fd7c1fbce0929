/- Contracts of LevelAt, FilledRelief and LakesOf, in impl and spec. No condition. (Printed by mklake.py.) -/
import Derived.Test.YtomcdkkjknphpaaL9W
import Derived.Test.YtomcdkkjknphpaaL9X
namespace Go.Proofs.Ytomcdkkjknphpaa
open Go.RowKit
set_option linter.unusedVariables false
def levAtV (xss : List (List Int)) (r c : Int) : Int × Bool := if listedG xss r c then (cellS (levF xss) ⟨r, c⟩, true) else (0, false)
def fillV (xss : List (List Int)) : List (List Int) × Bool := if reliefB xss then (levF xss, true) else ([], false)
theorem sum_len_le : ∀ (G : List (List Int)) (m : Nat), (∀ r ∈ G, r.length ≤ m) → (G.map List.length).sum ≤ G.length * m
  | [], m, _ => by simp
  | r :: G, m, h => by
    have h1 := h r List.mem_cons_self
    have h2 := sum_len_le G m fun t ht => h t (List.mem_cons_of_mem _ ht)
    simp only [List.map_cons, List.sum_cons, List.length_cons, Nat.add_mul, Nat.one_mul]; omega
theorem szG_shape {xss G : List (List Int)} (h : reliefB xss = true) (hs : Shape xss G) : szG G ≤ 72 := by
  have hdm := relief_dims h
  have h1 := sum_len_le G (hdLen xss) fun r hr => by
    obtain ⟨i, hi, rfl⟩ := List.mem_iff_getElem.1 hr
    rw [shape_row hs (by rw [← hs.1]; exact hi) hi]; exact Nat.le_refl _
  have h2 : G.length * hdLen xss ≤ 8 * 8 := Nat.mul_le_mul (by rw [hs.1]; omega) (by omega)
  unfold szG
  rw [hs.1] at *
  omega
theorem fillV_len (xss : List (List Int)) : szG (fillV xss).1 ≤ 1048576 := by
  unfold fillV; split
  · rename_i h
    have := szG_shape h (lev_shape (xss := xss))
    show szG (levF xss) ≤ _
    omega
  · simp [szG]
/-- how many squares of the first k are under water, and the sum of the depths -/
def lkTo (xss : List (List Int)) (l : List SA2) : Nat → Int × Int
  | 0 => (0, 0)
  | k + 1 => if 0 < cellS (levF xss) (l.getD k SA2.zero) - cellS xss (l.getD k SA2.zero) then ((lkTo xss l k).1 + 1, (lkTo xss l k).2 + (cellS (levF xss) (l.getD k SA2.zero) - cellS xss (l.getD k SA2.zero))) else lkTo xss l k
theorem lkTo_next (xss : List (List Int)) (l : List SA2) {k : Nat} (hk : k < l.length) : lkTo xss l (k + 1) = if 0 < cellS (levF xss) l[k] - cellS xss l[k] then ((lkTo xss l k).1 + 1, (lkTo xss l k).2 + (cellS (levF xss) l[k] - cellS xss l[k])) else lkTo xss l k := by
  show (if _ then _ else _) = _
  simp only [List.getD_eq_getElem?_getD, List.getElem?_eq_getElem hk, Option.getD_some]
theorem lkTo_in {xss : List (List Int)} (h : reliefB xss = true) {l : List SA2} (hl : ∀ p ∈ l, InS xss p) : ∀ k, k ≤ l.length → (0 ≤ (lkTo xss l k).1 ∧ (lkTo xss l k).1 ≤ k) ∧ (0 ≤ (lkTo xss l k).2 ∧ (lkTo xss l k).2 ≤ (k : Int) * 9999)
  | 0, _ => by simp [lkTo]
  | k + 1, hk => by
    have hkl : k < l.length := by omega
    obtain ⟨⟨h1, h2⟩, h3, h4⟩ := lkTo_in h hl k (by omega)
    have hp := hl l[k] (List.getElem_mem hkl)
    have h5 := lev_in h _ hp
    have h6 := cellS_in h hp
    rw [lkTo_next xss l hkl]
    split <;> (try simp only) <;> omega
def lakesV (xss : List (List Int)) : (Int × Int) × Bool := if reliefB xss then (lkTo xss (allS xss) (allS xss).length, true) else ((0, 0), false)
theorem implLevelAt_any (v : Value) (xss : List (List Int)) (r c : Int) (w : World) (h : IsG w v xss) :
    Calls Try.prog 29 #[v, .int .i64 r, .int .i64 c] w fun e w' => e = .returned (.tuple #[.int .i64 (levAtV xss r c).1, .bool (levAtV xss r c).2]) ∧ Below w.heap.size w w' := by
  have hsq := isListedSquare_is v xss r c w h
  by_cases hl : listedG xss r c = true
  case neg =>
    rw [Bool.not_eq_true] at hl
    rw [show levAtV xss r c = (0, false) by unfold levAtV; rw [hl]; rfl]
    rw [hl] at hsq
    have HS := hide hsq; clear hsq hl h
    go_enter Try.func29, Try.ntmps29
    go_wp2_with fail
    refine HS.out.mono ?_; rintro e w1 ⟨rfl, hb1⟩
    go_wp2_with fail
    go_ret2
    exact ⟨rfl, hb1⟩
  rw [hl] at hsq
  obtain ⟨hrel, hr, hc⟩ := listed_parts hl
  have hin : InS xss ⟨r, c⟩ := ⟨hr, hc⟩
  rw [show levAtV xss r c = (cellS (levF xss) ⟨r, c⟩, true) by unfold levAtV; rw [hl]; rfl]
  have hlev := fun W (hb : Below w.heap.size w W) => filled_is v xss W (h.below hb (Nat.le_refl _)) hrel
  have hsh := lev_shape (xss := xss)
  obtain ⟨hr0, hr1⟩ := hr
  obtain ⟨hc0, hc1⟩ := hc
  have HS := hide hsq; have HN := hide hlev; have HSH := hide hsh
  clear hsq hlev hsh hl h hrel
  generalize levF xss = G at *
  go_enter Try.func29, Try.ntmps29
  go_wp2_with fail
  refine HS.out.mono ?_; rintro e w1 ⟨rfl, hb1⟩
  go_wp2_with fail
  refine (HN.out _ hb1).mono ?_; rintro e w2 ⟨x, rfl, ho, hb2⟩
  have B2 := bstep hb1 hb2 hb1.size
  obtain ⟨gs, cap, gr, cr, rfl, _, _, _, ⟨c0, c1⟩, _, _⟩ := ho.cells HSH.out hin
  simp only at c0 c1
  clear ho hb2
  go_wp2_with fail
  go_ret2
  exact ⟨rfl, B2⟩
theorem specLevelAt_any (v : Value) (xss : List (List Int)) (r c : Int) (w : World) (h : IsG w v xss) :
    Calls Try.prog 30 #[v, .int .i64 r, .int .i64 c] w fun e w' => e = .returned (.tuple #[.int .i64 (levAtV xss r c).1, .bool (levAtV xss r c).2]) ∧ Below w.heap.size w w' := by
  have hsq := l9Square_is v xss r c w h
  by_cases hl : listedG xss r c = true
  case neg =>
    rw [Bool.not_eq_true] at hl
    rw [show levAtV xss r c = (0, false) by unfold levAtV; rw [hl]; rfl]
    rw [hl] at hsq
    have HS := hide hsq; clear hsq hl h
    go_enter Try.func30, Try.ntmps30
    go_wp2_with fail
    refine HS.out.mono ?_; rintro e w1 ⟨rfl, hb1⟩
    go_wp2_with fail
    go_ret2
    exact ⟨rfl, hb1⟩
  rw [hl] at hsq
  obtain ⟨hrel, hr, hc⟩ := listed_parts hl
  have hin : InS xss ⟨r, c⟩ := ⟨hr, hc⟩
  rw [show levAtV xss r c = (cellS (levF xss) ⟨r, c⟩, true) by unfold levAtV; rw [hl]; rfl]
  have hlev := fun W (hb : Below w.heap.size w W) => l9Levels_is v xss W (h.below hb (Nat.le_refl _)) hrel
  have hsh := lev_shape (xss := xss)
  obtain ⟨hr0, hr1⟩ := hr
  obtain ⟨hc0, hc1⟩ := hc
  have HS := hide hsq; have HN := hide hlev; have HSH := hide hsh
  clear hsq hlev hsh hl h hrel
  generalize levF xss = G at *
  go_enter Try.func30, Try.ntmps30
  go_wp2_with fail
  refine HS.out.mono ?_; rintro e w1 ⟨rfl, hb1⟩
  go_wp2_with fail
  refine (HN.out _ hb1).mono ?_; rintro e w2 ⟨x, rfl, ho, hb2⟩
  have B2 := bstep hb1 hb2 hb1.size
  obtain ⟨gs, cap, gr, cr, rfl, _, _, _, ⟨c0, c1⟩, _, _⟩ := ho.cells HSH.out hin
  simp only at c0 c1
  clear ho hb2
  go_wp2_with fail
  go_ret2
  exact ⟨rfl, B2⟩
theorem implFilledRelief_any (v : Value) (xss : List (List Int)) (w : World) (h : IsG w v xss) :
    Calls Try.prog 22 #[v] w fun e w' => ∃ r, e = .returned (.tuple #[r, .bool (fillV xss).2]) ∧ OwnX w' w.heap.size w'.heap.size r (fillV xss).1 ∧ Below w.heap.size w w' := by
  have hgood := implIsRelief_any v xss w h
  by_cases hrel : reliefB xss = true
  case neg =>
    rw [Bool.not_eq_true] at hrel
    rw [show fillV xss = ([], false) by unfold fillV; rw [hrel]; rfl]
    rw [hrel] at hgood
    have HG := hide hgood; clear hgood hrel h
    go_enter Try.func22, Try.ntmps22
    go_wp2_with fail
    refine HG.out.mono ?_; rintro e w1 ⟨rfl, hb1⟩
    go_wp2_with fail
    go_ret2
    exact ⟨_, rfl, own_nilG _ _ _, hb1⟩
  rw [hrel] at hgood
  rw [show fillV xss = (levF xss, true) by unfold fillV; rw [hrel]; rfl]
  have hlev := fun W (hb : Below w.heap.size w W) => filled_is v xss W (h.below hb (Nat.le_refl _)) hrel
  have HG := hide hgood; have HL := hide hlev; clear hgood hlev hrel h
  go_enter Try.func22, Try.ntmps22
  go_wp2_with fail
  refine HG.out.mono ?_; rintro e w1 ⟨rfl, hb1⟩
  go_wp2_with fail
  refine (HL.out _ hb1).mono ?_; rintro e w2 ⟨x, rfl, ho, hb2⟩
  have B2 := bstep hb1 hb2 hb1.size
  have HO := hide (ho.mono hb1.size (Nat.le_refl _)); clear ho
  go_wp2_with fail
  go_ret2
  exact ⟨_, rfl, HO.out, B2⟩
theorem specFilledRelief_any (v : Value) (xss : List (List Int)) (w : World) (h : IsG w v xss) :
    Calls Try.prog 23 #[v] w fun e w' => ∃ r, e = .returned (.tuple #[r, .bool (fillV xss).2]) ∧ OwnX w' w.heap.size w'.heap.size r (fillV xss).1 ∧ Below w.heap.size w w' := by
  have hgood := l9Good_is v xss w h
  by_cases hrel : reliefB xss = true
  case neg =>
    rw [Bool.not_eq_true] at hrel
    rw [show fillV xss = ([], false) by unfold fillV; rw [hrel]; rfl]
    rw [hrel] at hgood
    have HG := hide hgood; clear hgood hrel h
    go_enter Try.func23, Try.ntmps23
    go_wp2_with fail
    refine HG.out.mono ?_; rintro e w1 ⟨rfl, hb1⟩
    have HE := hide ((own_emptyG w1 hb1.size).mono (Nat.le_refl _) (show w1.heap.size + 1 ≤ (w1.alloc (.cells #[] 35)).heap.size by simp))
    have B2 := hb1.alloc hb1.size (.cells #[] 35)
    go_wp2_with fail
    go_ret2
    exact ⟨_, rfl, HE.out, B2⟩
  rw [hrel] at hgood
  rw [show fillV xss = (levF xss, true) by unfold fillV; rw [hrel]; rfl]
  have hlev := fun W (hb : Below w.heap.size w W) => l9Levels_is v xss W (h.below hb (Nat.le_refl _)) hrel
  have HG := hide hgood; have HL := hide hlev; clear hgood hlev hrel h
  go_enter Try.func23, Try.ntmps23
  go_wp2_with fail
  refine HG.out.mono ?_; rintro e w1 ⟨rfl, hb1⟩
  go_wp2_with fail
  refine (HL.out _ hb1).mono ?_; rintro e w2 ⟨x, rfl, ho, hb2⟩
  have B2 := bstep hb1 hb2 hb1.size
  have HO := hide (ho.mono hb1.size (Nat.le_refl _)); clear ho
  go_wp2_with fail
  go_ret2
  exact ⟨_, rfl, HO.out, B2⟩
set_option maxHeartbeats 2000000 in
theorem implLakesOf_any (v : Value) (xss : List (List Int)) (w : World) (h : IsG w v xss) :
    Calls Try.prog 25 #[v] w fun e w' => e = .returned (.tuple #[.int .i64 (lakesV xss).1.1, .int .i64 (lakesV xss).1.2, .bool (lakesV xss).2]) ∧ Below w.heap.size w w' := by
  have hgood := implIsRelief_any v xss w h
  by_cases hrel : reliefB xss = true
  case neg =>
    rw [Bool.not_eq_true] at hrel
    rw [show lakesV xss = ((0, 0), false) by unfold lakesV; rw [hrel]; rfl]
    rw [hrel] at hgood
    have HG := hide hgood; clear hgood hrel h
    go_enter Try.func25, Try.ntmps25
    go_wp2_with fail
    refine HG.out.mono ?_; rintro e w1 ⟨rfl, hb1⟩
    go_wp2_with fail
    go_ret3
    exact ⟨rfl, hb1⟩
  rw [hrel] at hgood
  have hV : lakesV xss = (lkTo xss (allS xss) (allS xss).length, true) := by unfold lakesV; rw [hrel]; rfl
  have hlev := fun W (hb : Below w.heap.size w W) => filled_is v xss W (h.below hb (Nat.le_refl _)) hrel
  have hall := fun W (hb : Below w.heap.size w W) => allSquares_is v xss W (h.below hb (Nat.le_refl _)) hrel
  rw [show sqTo (hdLen xss) xss.length = allS xss from rfl] at hall
  have hll := allS_len hrel
  have hin := fun (p : SA2) (hp : p ∈ allS xss) => allS_in hp
  have hlk := fun k hk => lkTo_in hrel (l := allS xss) hin k hk
  have hnx := fun k (hk : k < (allS xss).length) => lkTo_next xss (allS xss) hk
  have hcs := fun (p : SA2) (hp : InS xss p) => cellS_in hrel hp
  have hls := fun (p : SA2) (hp : InS xss p) => lev_in hrel p hp
  have hsh := lev_shape (xss := xss)
  have hl0 : lkTo xss (allS xss) 0 = (0, 0) := rfl
  obtain ⟨rs, hmap, his, hrs⟩ := h
  obtain ⟨A, cap, rfl, hrow, _, _⟩ := his
  have hxl : xss.length = rs.length := by rw [← hmap]; simp
  have hgc := fun (p : SA2) hp => grid_cells hmap hrow hrs hrel (p := p) hp
  have HG := hide hgood; have HV := hide hV; have HLEV := hide hlev; have HALL := hide hall; have HIN := hide hin; have HLK := hide hlk; have HNX := hide hnx; have HCS := hide hcs; have HLS := hide hls; have HSH := hide hsh; have HGC := hide hgc; have HXL := hide hxl; have HL0 := hide hl0
  clear hgood hV hlev hall hin hlk hnx hcs hls hsh hgc hrow hrs hmap hrel hl0
  generalize allS xss = l at *
  generalize hB : w.heap.size = B at *
  have HB := hide hB
  go_enter Try.func25, Try.ntmps25
  go_wp2_with fail
  refine HG.out.mono ?_; rintro e w1 ⟨rfl, hb1⟩
  have s1 : B ≤ w1.heap.size := by have := hb1.size; omega
  go_wp2_with fail
  refine (HLEV.out _ hb1).mono ?_; rintro e w2 ⟨x, rfl, ho, hb2⟩
  have B2 := bstep hb1 hb2 s1
  have s2 : B ≤ w2.heap.size := Nat.le_trans s1 hb2.size
  obtain ⟨A3, cap3, hv3, _, _⟩ := ho.isG.slice
  rw [HSH.out.1, hxl] at hv3
  subst hv3
  have HX2 := hide (ho.mono s1 (Nat.le_refl _)); clear ho
  go_wp2_with fail
  refine (HALL.out _ B2).mono ?_; rintro e w3 ⟨x, rfl, ho, hb3⟩
  have B3 := bstep B2 hb3 s2
  have HX3 := hide (HX2.out.below hb3)
  obtain ⟨A', cap', rfl, _, _, _⟩ := ho.row
  have HO := hide ho
  generalize hG : w2.heap.size = hi at *
  clear ho hb3 hb2 hb1 s1 HX2
  go_wp2_with fail
  go_loopw [6, 7, 19] (fun a b i wr => ∃ k : Nat, k ≤ l.length ∧ i = .int .i64 (k : Int) ∧ a = .int .i64 (lkTo xss l k).1 ∧ b = .int .i64 (lkTo xss l k).2 ∧ OwnX wr B hi (.slice A3 rs.length cap3) (levF xss) ∧ Own 2 SA2.enc 50 wr hi (.slice A' l.length cap') l ∧ Below B w wr) (fun _ _ i _ => l.length - (intOf i).toNat)
  case atStart => exact ⟨0, Nat.zero_le _, rfl, by rw [HL0.out], by rw [HL0.out], HX3.out, HO.out, B3⟩
  case round =>
    clear B3 B2 HX3 HO hG s2
    obtain ⟨k, hk, rfl, rfl, rfl, hown, hol, hbel⟩ := hrel
    have hsz : B ≤ wr.heap.size := by have := hbel.size; rw [HB.out] at this; exact this
    by_cases hlt : k < l.length
    · have hlt' : (k : Int) < l.length := by omega
      obtain ⟨A6, c6, he, hrl, _, _⟩ := hol.row
      injection he with he1 he2 he3; subst he1 he3
      obtain ⟨lb, loff, rfl, hlb, d0, d1⟩ := SA2.cells hrl hlt (Below.refl _ _)
      have hpin := HIN.out l[k] (List.getElem_mem hlt)
      have hst := HNX.out k hlt
      have hlk := HLK.out k hk
      generalize l[k] = p at *
      have hcs := HCS.out p hpin
      have hls := HLS.out p hpin
      obtain ⟨gs, gcap, gq, gcq, hv, _, _, _, hce, _, _⟩ := (hown.below (below_alloc wr (.cells #[.int .i64 p.x, .int .i64 p.y] 50))).cells HSH.out hpin
      injection hv with hv1 hv2 hv3; subst hv1 hv3
      have BX := hbel.alloc hsz (.cells #[.int .i64 p.x, .int .i64 p.y] 50)
      obtain ⟨rb0, roff0, rr, roffr, rcr, hrA, hrg⟩ := HGC.out p hpin
      subst hrA
      obtain ⟨r0, r1⟩ := hrg _ BX
      have hxx := hown.below (below_alloc wr (.cells #[.int .i64 p.x, .int .i64 p.y] 50))
      have hox := hol.alloc (.cells #[.int .i64 p.x, .int .i64 p.y] 50)
      have hnew := Blk.new wr 50 p.boxed
      obtain ⟨px, py⟩ := p
      obtain ⟨⟨px0, px1⟩, py0, py1⟩ := hpin
      rw [HXL.out] at px1
      simp only [SA2.boxed] at *
      have n0 : (wr.alloc (.cells #[.int .i64 px, .int .i64 py] 50)).cell? ⟨wr.heap.size, 0, none⟩ = some (.int .i64 px) := hnew.cell 0
      have n1 : (wr.alloc (.cells #[.int .i64 px, .int .i64 py] 50)).cell? ⟨wr.heap.size, 1, none⟩ = some (.int .i64 py) := hnew.cell 1
      obtain ⟨c0, c1⟩ := hce
      obtain ⟨⟨k1, k2⟩, k3, k4⟩ := hlk
      generalize cellS (levF xss) ⟨px, py⟩ = lp at *
      generalize cellS xss ⟨px, py⟩ = hp at *
      generalize lkTo xss l k = S at *
      obtain ⟨s1, s2⟩ := S
      simp only at *
      have m0 := fun n => later_cell c0 n; have m1 := fun n => later_cell c1 n; have m2 := fun n => later_cell r0 n; have m3 := fun n => later_cell r1 n; have m4 := fun n => later_cell n0 n; have m5 := fun n => later_cell n1 n
      have HST := hide hst; have HXX := hide hxx; have HOX := hide hox; have HBX := hide BX
      clear hst hxx hox BX hnew hown hol hrl hrg hv2 c0 c1 r0 r1 n0 n1
      go_wp2_with fail
      (refine wp_region_later (by kernel_rfl) (by kernel_rfl) ?_; (repeat (go_big_quiet_step (fail))); refine wpQuiet_nil ?_; intro _ hw'; obtain ⟨nq, hw''⟩ := hw'; subst hw'')
      have B7 := HBX.out.trans (nq.h.mono (by simp; omega))
      have hx7 := HXX.out.below nq.h
      have ho7 := HOX.out.below nq.h
      generalize nq.W = W7 at B7 hx7 ho7
      have HX7 := hide hx7; have HO7 := hide ho7
      clear nq m0 m1 m2 m3 m4 m5 d0 d1 hx7 ho7
      by_cases hlow : 0 < lp - hp
      · have hst2 := HST.out
        rw [if_pos hlow] at hst2
        have HS2 := hide hst2; clear hst2
        go_wp2_with fail
        go_round
        case measure => (simp [intOf] <;> omega)
        case rel => exact ⟨k + 1, by omega, by go_num, by rw [HS2.out], by rw [HS2.out], HX7.out, HO7.out, B7⟩
      · have hst2 := HST.out
        rw [if_neg hlow] at hst2
        have HS2 := hide hst2; clear hst2
        go_wp2_with fail
        go_round
        case measure => (simp [intOf] <;> omega)
        case rel => exact ⟨k + 1, by omega, by go_num, by rw [HS2.out], by rw [HS2.out], HX7.out, HO7.out, B7⟩
    · have hkl : l.length = k := by omega
      have hv := HV.out
      rw [hkl] at hv
      have HVV := hide hv; have HKL := hide hkl; clear hv hkl hown hol
      generalize lkTo xss l k = S at *
      go_wp2_with fail
      go_ret3
      rw [HVV.out]
      exact ⟨rfl, hbel⟩
set_option maxHeartbeats 2000000 in
theorem specLakesOf_any (v : Value) (xss : List (List Int)) (w : World) (h : IsG w v xss) :
    Calls Try.prog 26 #[v] w fun e w' => e = .returned (.tuple #[.int .i64 (lakesV xss).1.1, .int .i64 (lakesV xss).1.2, .bool (lakesV xss).2]) ∧ Below w.heap.size w w' := by
  have hgood := l9Good_is v xss w h
  by_cases hrel : reliefB xss = true
  case neg =>
    rw [Bool.not_eq_true] at hrel
    rw [show lakesV xss = ((0, 0), false) by unfold lakesV; rw [hrel]; rfl]
    rw [hrel] at hgood
    have HG := hide hgood; clear hgood hrel h
    go_enter Try.func26, Try.ntmps26
    go_wp2_with fail
    refine HG.out.mono ?_; rintro e w1 ⟨rfl, hb1⟩
    go_wp2_with fail
    go_ret3
    exact ⟨rfl, hb1⟩
  rw [hrel] at hgood
  have hdm := relief_dims hrel
  have hV : lakesV xss = (lkTo xss (allS xss) (allS xss).length, true) := by unfold lakesV; rw [hrel]; rfl
  have hlev := fun W (hb : Below w.heap.size w W) => l9Levels_is v xss W (h.below hb (Nat.le_refl _)) hrel
  have hin := fun (p : SA2) (hp : p ∈ allS xss) => allS_in hp
  have hlk := fun k hk => lkTo_in hrel (l := allS xss) hin k hk
  have hll := allS_len hrel
  have hnx := fun k (hk : k < (allS xss).length) => lkTo_next xss (allS xss) hk
  have hsl := sqTo_len (hdLen xss) xss.length
  rw [show sqTo (hdLen xss) xss.length = allS xss from rfl] at hsl
  have hat := fun n k (hn : n < xss.length) (hk : k < hdLen xss) h => sqTo_at (m := hdLen xss) (N := xss.length) (n := n) (k := k) hn hk h
  rw [show sqTo (hdLen xss) xss.length = allS xss from rfl] at hat
  have hcs := fun (p : SA2) (hp : InS xss p) => cellS_in hrel hp
  have hls := fun (p : SA2) (hp : InS xss p) => lev_in hrel p hp
  have hsh := lev_shape (xss := xss)
  have hl0 : lkTo xss (allS xss) 0 = (0, 0) := rfl
  obtain ⟨rs, hmap, his, hrs⟩ := h
  obtain ⟨A, cap, rfl, hrow, _, _⟩ := his
  have hxl : xss.length = rs.length := by rw [← hmap]; simp
  have hrll : ∀ i, (hi : i < rs.length) → rs[i].xs.length = hdLen xss := fun i hi => by
    have := relief_row hrel (i := i) (by omega)
    rw [← this]; simp [← hmap]
  have hgc := fun (p : SA2) hp => grid_cells hmap hrow hrs hrel (p := p) hp
  rw [hxl] at hat hsl hdm
  have HG := hide hgood; have HV := hide hV; have HLEV := hide hlev; have HLK := hide hlk; have HNX := hide hnx; have HCS := hide hcs; have HLS := hide hls; have HSH := hide hsh; have HGC := hide hgc; have HXL := hide hxl; have HL0 := hide hl0; have HR := hide hrow; have HRLL := hide hrll; have HAT := hide hat
  clear hgood hV hlev hin hlk hnx hcs hls hsh hgc hrow hrs hmap hrel hl0 hrll hat
  generalize allS xss = l at *
  generalize hm : hdLen xss = m at *
  have HM := hide hm
  generalize hB : w.heap.size = B at *
  have HB := hide hB
  go_enter Try.func26, Try.ntmps26
  go_wp2_with fail
  refine HG.out.mono ?_; rintro e w1 ⟨rfl, hb1⟩
  have s1 : B ≤ w1.heap.size := by have := hb1.size; omega
  go_wp2_with fail
  refine (HLEV.out _ hb1).mono ?_; rintro e w2 ⟨x, rfl, ho, hb2⟩
  have B2 := bstep hb1 hb2 s1
  obtain ⟨A3, cap3, hv3, _, _⟩ := ho.isG.slice
  rw [HSH.out.1, hxl] at hv3
  subst hv3
  have HX2 := hide (ho.mono s1 (Nat.le_refl _)); clear ho
  generalize hG : w2.heap.size = hi at *
  clear hb2 hb1 s1
  go_wp2_with fail
  go_loopw [6, 7, 8] (fun a b i wr => ∃ n : Nat, n ≤ rs.length ∧ i = .int .i64 (n : Int) ∧ a = .int .i64 (lkTo xss l (n * m)).1 ∧ b = .int .i64 (lkTo xss l (n * m)).2 ∧ OwnX wr B hi (.slice A3 rs.length cap3) (levF xss) ∧ Below B w wr) (fun _ _ i _ => rs.length - (intOf i).toNat)
  case atStart => exact ⟨0, Nat.zero_le _, rfl, by rw [Nat.zero_mul, HL0.out], by rw [Nat.zero_mul, HL0.out], HX2.out, B2⟩
  case round =>
    clear B2 HX2 hG
    obtain ⟨n, hn, rfl, rfl, rfl, hown0, hbel0⟩ := hrel
    by_cases hltn : n < rs.length
    · have hltn' : (n : Int) < rs.length := by omega
      have HOW0 := hide hown0; clear hown0
      go_wp2_with fail
      go_loopw [6, 7, 9] (fun a b i wr => ∃ k : Nat, k ≤ m ∧ i = .int .i64 (k : Int) ∧ a = .int .i64 (lkTo xss l (n * m + k)).1 ∧ b = .int .i64 (lkTo xss l (n * m + k)).2 ∧ OwnX wr B hi (.slice A3 rs.length cap3) (levF xss) ∧ Below B w wr) (fun _ _ i _ => m - (intOf i).toNat)
      case atStart => exact ⟨0, Nat.zero_le _, rfl, rfl, rfl, HOW0.out, hbel0⟩
      case round =>
        clear hbel0 HOW0
        obtain ⟨k, hk, rfl, rfl, rfl, hown, hbel⟩ := hrel
        have hsz : B ≤ wr.heap.size := by have := hbel.size; rw [HB.out] at this; exact this
        obtain ⟨rb, roff, rfl, hrb, rc0⟩ := SRow.cell HR.out (show n < rs.length by omega) hbel
        rw [HRLL.out n (by omega)] at rc0
        by_cases hlt : k < m
        · have hlt' : (k : Int) < m := by omega
          have hkl : n * m + k < l.length := by rw [hsl]; exact sq_lt hltn hlt
          have hst := HNX.out _ hkl
          rw [HAT.out n k hltn hlt hkl] at hst
          have hpin : InS xss ⟨(n : Int), (k : Int)⟩ := ⟨⟨by simp, by simp only; rw [HXL.out]; omega⟩, by simp, by simp only; rw [HM.out]; omega⟩
          have hlk := HLK.out (n * m + k) (by omega)
          have hcs := HCS.out _ hpin
          have hls := HLS.out _ hpin
          obtain ⟨gs, gcap, gq, gcq, hv, _, _, _, hce, _, _⟩ := hown.cells HSH.out hpin
          injection hv with hv1 hv2 hv3; subst hv1 hv3
          obtain ⟨rb0, roff0, rr, roffr, rcr, hrA, hrg⟩ := HGC.out ⟨(n : Int), (k : Int)⟩ (by have h := hpin; unfold InS at h; rw [HM.out] at h; exact h)
          injection hrA with hrA; injection hrA with hz1 hz2; subst hz1 hz2
          obtain ⟨r0, r1⟩ := hrg _ hbel
          rw [HM.out] at hce
          obtain ⟨c0, c1⟩ := hce
          simp only [Int.toNat_natCast] at r0 r1 c0 c1
          have hkk : n * m + k ≤ 64 := by omega
          obtain ⟨⟨k1, k2⟩, k3, k4⟩ := hlk
          generalize cellS (levF xss) ⟨(n : Int), (k : Int)⟩ = lp at *
          generalize cellS xss ⟨(n : Int), (k : Int)⟩ = hp at *
          generalize lkTo xss l (n * m + k) = S at *
          obtain ⟨s1, s2⟩ := S
          have q1 : s1 ≤ 64 := by simp only at k2; omega
          have q2 : s2 ≤ 639936 := by simp only at k4; omega
          simp only at *
          have m0 := fun n => later_cell c0 n; have m1 := fun n => later_cell c1 n; have m2 := fun n => later_cell r0 n; have m3 := fun n => later_cell r1 n
          have HST := hide hst; have HXX := hide hown
          clear hst hown hrg hv2 c0 c1 r0 r1 k2 k4
          go_wp2_with fail
          (refine wp_region_later (by kernel_rfl) (by kernel_rfl) ?_; (repeat (go_big_quiet_step (fail))); refine wpQuiet_nil ?_; intro _ hw'; obtain ⟨nq, hw''⟩ := hw'; subst hw'')
          have B7 := hbel.trans (nq.h.mono hsz)
          have hx7 := HXX.out.below nq.h
          generalize nq.W = W7 at B7 hx7
          have HX7 := hide hx7
          clear nq m0 m1 m2 m3 hx7 rc0
          by_cases hlow : 0 < lp - hp
          · have hst2 := HST.out
            rw [if_pos hlow] at hst2
            have HS2 := hide hst2; clear hst2
            go_wp2_with fail
            go_round
            case measure => (simp [intOf] <;> omega)
            case rel => exact ⟨k + 1, by omega, by go_num, by rw [← Nat.add_assoc, HS2.out], by rw [← Nat.add_assoc, HS2.out], HX7.out, B7⟩
          · have hst2 := HST.out
            rw [if_neg hlow] at hst2
            have HS2 := hide hst2; clear hst2
            go_wp2_with fail
            go_round
            case measure => (simp [intOf] <;> omega)
            case rel => exact ⟨k + 1, by omega, by go_num, by rw [← Nat.add_assoc, HS2.out], by rw [← Nat.add_assoc, HS2.out], HX7.out, B7⟩
        · have hkm : m = k := by omega
          have he : n * m + k = (n + 1) * m := by rw [Nat.add_mul, Nat.one_mul, ← hkm]
          rw [he]
          have HX := hide hown; have HKM := hide hkm; clear hown hkm he
          go_wp2_with fail
          go_round
          case measure => (simp [intOf] <;> omega)
          case rel => exact ⟨n + 1, by omega, by go_num, rfl, rfl, HX.out, hbel⟩
    · have hnn : rs.length = n := by omega
      have hv := HV.out
      rw [hsl, hnn] at hv
      have HVV := hide hv; have HKL := hide hnn; clear hv hnn hown0
      generalize lkTo xss l (n * m) = S at *
      go_wp2_with fail
      go_ret3
      rw [HVV.out]
      exact ⟨rfl, hbel0⟩
end Go.Proofs.Ytomcdkkjknphpaa
