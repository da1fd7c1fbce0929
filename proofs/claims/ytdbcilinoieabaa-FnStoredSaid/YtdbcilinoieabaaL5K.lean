/- Contracts of putFlat, isLoose, PutFlat and TakeFlat in impl. Conditions: small grams; right flats and drawers where the text has tested them. -/
import Derived.Test.YtdbcilinoieabaaL5J
namespace Go.Proofs.Ytdbcilinoieabaa
open Go.RowKit
set_option linter.unusedVariables false
theorem own_blk5 {α : Type} {k : Nat} {enc : α → Nat → Value} {e : TypeId} {w : World} {base : Nat} {v : Value} {xs : List α} (h : Own k enc e w base v xs) (hp : 0 < xs.length) :
    ∃ g cap cs, v = .slice (some ⟨g, 0, none⟩) xs.length cap ∧ base ≤ g ∧ Blk w g e cs ∧ xs.length ≤ cap ∧ cap ≤ maxLen ∧ cs.size = cap * k ∧ Filled k enc cs xs.length xs := by
  rcases h with ⟨_, rfl⟩ | h
  · simp at hp
  · exact h
theorem filled_set5c {α : Type} {enc : α → Nat → Value} {cs : Array Value} {xs : List α} (h : Filled 5 enc cs xs.length xs) {j a c0 : Nat} (ha : a = j * 5 + c0) (hc0 : c0 < 5) (hs : a < cs.size) (x y : α) (hj : xs[j]? = some y) {u : Value} (hu : enc x c0 = u) (hne : ∀ c, c < 5 → c ≠ c0 → enc x c = enc y c) :
    Filled 5 enc (cs.setIfInBounds a u) (xs.set j x).length (xs.set j x) := by
  intro i z hi hz c hc
  rw [List.length_set] at hi
  by_cases hij : j = i
  · subst hij
    rw [List.getElem?_set_self hi] at hz
    have hz2 := Option.some.inj hz
    subst hz2
    by_cases c1 : c = c0
    · subst c1; rw [← ha, Array.getElem?_setIfInBounds_self_of_lt hs, hu]
    · rw [Array.getElem?_setIfInBounds_ne (by omega), h j y hi hj c hc, hne c hc c1]
  · rw [List.getElem?_set_ne hij] at hz
    rw [Array.getElem?_setIfInBounds_ne (by omega)]
    exact h i z hi hz c hc
/-- one cell of an element of an own row is written -/
theorem own_set5c {α : Type} {enc : α → Nat → Value} {e : TypeId} {w : World} {base g cap n : Nat} {xs : List α} (h : Own 5 enc e w base (.slice (some ⟨g, 0, none⟩) n cap) xs) {j a c0 : Nat} (ha : a = j * 5 + c0) (hc0 : c0 < 5) (hj : j < xs.length) (x y : α) (hy : xs[j]? = some y) {u : Value} (hu : enc x c0 = u) (hne : ∀ c, c < 5 → c ≠ c0 → enc x c = enc y c) :
    Own 5 enc e (w.setCell ⟨g, a, none⟩ u) base (.slice (some ⟨g, 0, none⟩) n cap) (xs.set j x) := by
  obtain ⟨g', cap', cs, he, a1, a2, a3, a4, a5, a6⟩ := own_blk5 h (by omega)
  simp only [Value.slice.injEq, Option.some.injEq, Addr.mk.injEq, true_and, and_true] at he
  obtain ⟨rfl, rfl, rfl⟩ := he
  have hsz : a < cs.size := by rw [a5]; omega
  have hb := a2.set a u
  have hf := filled_set5c a6 ha hc0 hsz x y hy hu hne
  have hs : (cs.setIfInBounds a u).size = cap * 5 := by simp only [Array.size_setIfInBounds]; exact a5
  generalize cs.setIfInBounds a u = cs5 at hb hf hs
  have hl : (xs.set j x).length = xs.length := List.length_set
  refine Or.inr ⟨g, cap, cs5, ?_, a1, hb, ?_, a4, hs, hf⟩
  · rw [hl]
  · rw [hl]; exact a3
/-- the list behind a store of other flats into the k-th drawer -/
theorem OwnDs.setRow {w w' : World} {lo gs n cap : Nat} {rs : List SDr} (h : OwnDs w lo (.slice (some ⟨gs, 0, none⟩) n cap) rs) {k : Nat} (hk : k < rs.length) {A' : Option Addr} {cap' lo' : Nat} {ys : List Int} (hg : w.grownBy w' rs[k].fv.ownBlock)
    (ho : Own 1 encI 3 w' lo' (.slice A' ys.length cap') ys) (z : SDr) (hz : z = ⟨rs[k].ident, rs[k].wide, rs[k].high, rs[k].holds, A', ys, cap'⟩) :
    IsD (w'.setCell ⟨gs, k * 5 + 4, none⟩ (.slice A' ys.length cap')) (.slice (some ⟨gs, 0, none⟩) n cap) ((rs.map SDr.pl).set k z.pl) := by
  have hget : rs[k]? = some rs[k] := List.getElem?_eq_getElem hk
  have hsp : Own 5 SDr.enc 70 w' lo (.slice (some ⟨gs, 0, none⟩) n cap) rs := h.spine.grown hg (fun g hv e => own_ne5 (h.rows k _ hget) h.spine (by decide) g e hv)
  have hsp2 := own_set5c hsp (j := k) (c0 := 4) rfl (by omega) hk z rs[k] hget (u := .slice A' ys.length cap') (by subst hz; rfl) (fun c hc hne => by
    subst hz
    rcases (show c = 0 ∨ c = 1 ∨ c = 2 ∨ c = 3 by omega) with rfl | rfl | rfl | rfl <;> rfl)
  have hbg : ∀ (b : Nat) (u : Value) (xs : List Int), Own 1 encI 3 w' b u xs → Own 1 encI 3 (w'.setCell ⟨gs, k * 5 + 4, none⟩ (.slice A' ys.length cap')) b u xs := fun b u xs hu =>
    hu.setCell (fun g hv e => own_ne5 hu hsp (by decide) g hv (by subst e; rfl)) _
  have hrow : ∀ (b : Nat) (r : SDr), Own 1 encI 3 (w'.setCell ⟨gs, k * 5 + 4, none⟩ (.slice A' ys.length cap')) b r.fv r.xs → r.ok (w'.setCell ⟨gs, k * 5 + 4, none⟩ (.slice A' ys.length cap')) (w'.setCell ⟨gs, k * 5 + 4, none⟩ (.slice A' ys.length cap')).heap.size := fun b r hr => by
    obtain ⟨A, cap, he, h1, h2, h3⟩ := hr.row
    unfold SDr.fv at he
    injection he with e1 e2 e3
    subst e1 e3
    exact ⟨h1, h3, h2⟩
  refine ⟨rs.set k z, by rw [List.map_set], hsp2.is, fun r hr => ?_⟩
  obtain ⟨i, hi, hri⟩ := List.mem_iff_getElem.1 hr
  have hi' : i < rs.length := by simpa using hi
  rw [List.getElem_set] at hri
  by_cases hik : k = i
  · rw [if_pos hik] at hri
    subst hri
    refine hrow lo' z ?_
    subst hz
    exact hbg _ _ _ ho
  · rw [if_neg hik] at hri
    subst hri
    have hgi := List.getElem?_eq_getElem hi'
    exact hrow lo _ (hbg _ _ _ ((h.rows i _ hgi).grown hg (fun g hv e => h.sep i k _ _ hgi hget (fun e => hik e.symm) g hv e)))
/-- x put into a rising list -/
def insL (xs : List Int) (x : Int) : List Int := xs.take (below xs x) ++ x :: xs.drop (below xs x)
theorem insL_len (xs : List Int) (x : Int) : (insL xs x).length = xs.length + 1 := by
  have := below_le xs x
  simp [insL]; omega
/-- the list with a flat put into the k-th drawer -/
def putK (ds : List DrV) (flat : Int) (k : Nat) : List DrV := setFl ds (k : Int) (insL (DrV.at ds k).fl flat)
theorem goodDs_len {fs : List SFlat} {ds : List DrV} (h : goodDs fs ds = true) : ds.length ≤ 8 := by
  unfold goodDs at h
  rw [Bool.and_eq_true, Bool.and_eq_true] at h
  exact of_decide_eq_true h.2.1
theorem goodDs_F {fs : List SFlat} {ds : List DrV} (h : goodDs fs ds = true) : goodF fs = true := by
  unfold goodDs at h
  rw [Bool.and_eq_true] at h
  exact h.1
theorem goodDs_at {fs : List SFlat} {ds : List DrV} (h : goodDs fs ds = true) {i : Nat} (hi : i < ds.length) : okDr fs ds i = true := by
  unfold goodDs at h
  rw [Bool.and_eq_true, Bool.and_eq_true, List.all_eq_true] at h
  exact h.2.2 i (List.mem_range.2 hi)
theorem okDr_ok {fs : List SFlat} {ds : List DrV} {i : Nat} (h : okDr fs ds i = true) : DrV.okB ⟨(DrV.at ds i).ident, (DrV.at ds i).wide, (DrV.at ds i).high, (DrV.at ds i).holds, (DrV.at ds i).fl⟩ = true := by
  unfold okDr at h
  rw [Bool.and_eq_true] at h
  exact h.1
theorem goodDs_fl {fs : List SFlat} {ds : List DrV} (h : goodDs fs ds = true) : ∀ d ∈ ds, d.fl.length ≤ 12 ∧ riseB d.fl = true := fun d hd => by
  obtain ⟨i, hi, rfl⟩ := List.mem_iff_getElem.1 hd
  have := DrV.okB_iff.1 (okDr_ok (goodDs_at h hi))
  rw [DrV.at_lt hi] at this
  exact this.2.2.2.2.2.2.2.2
theorem rise_at {xs : List Int} (h : riseB xs = true) {i : Nat} (hi : i < xs.length) : riseAt xs i = true := by
  unfold riseB at h
  rw [List.all_eq_true] at h
  exact h i (List.mem_range.2 hi)
theorem rise_lt {xs : List Int} (h : riseB xs = true) {i : Nat} : ∀ {j : Nat}, i < j → (hj : j < xs.length) → xs.getD i 0 < xs.getD j 0
  | 0, hij, _ => absurd hij (by omega)
  | j + 1, hij, hj => by
    have h1 := rise_at h hj
    unfold riseAt at h1
    rw [Bool.and_eq_true, Bool.or_eq_true] at h1
    have h2 : xs.getD j 0 < xs.getD (j + 1) 0 := by
      rcases h1.2 with h3 | h3
      · simp at h3
      · simpa using h3
    by_cases he : i = j
    · subst he; exact h2
    · have := rise_lt h (i := i) (j := j) (by omega) (by omega)
      omega
theorem rise_pair {xs : List Int} (h : riseB xs = true) : xs.Pairwise (· < ·) := by
  rw [List.pairwise_iff_getElem]
  intro i j hi hj hij
  have := rise_lt h hij hj
  rwa [getD_int hi, getD_int hj] at this
theorem rise_le {xs : List Int} (h : riseB xs = true) : xs.Pairwise (· ≤ ·) := (rise_pair h).imp fun h => Int.le_of_lt h
theorem ifD {b : Bool} {xs : List DrV} {w : World} {v : Value} (h : IsD w v xs) : b = true → IsD w v (if b = true then xs else []) := fun hb => by rw [if_pos hb]; exact h
set_option maxHeartbeats 2000000 in
theorem putFlatK_is (v u : Value) (fs : List SFlat) (ds : List DrV) (flat : Int) (k : Nat) (w : World) (hv : Is 4 SFlat.enc w v fs) (hu : IsD w u ds) (hf : fitG fs) (hg : goodDs fs ds = true) (hk : k < ds.length) :
    Calls Try.prog 110 #[v, u, .int .i64 flat, .int .i64 (k : Int)] w fun e w' => ∃ r, e = .returned (.tuple #[r, .bool (goodDs fs (putK ds flat k))]) ∧ IsD w' r (if goodDs fs (putK ds flat k) = true then putK ds flat k else []) ∧ Below w.heap.size w w' := by
  have hln := goodDs_len hg
  have hfl := goodDs_fl hg
  have hcp := copyDrawers_any u ds w hu (by omega) (fun d hd => by have := (hfl d hd).1; omega)
  have hput : putK ds flat k = ds.set k ⟨ds[k].ident, ds[k].wide, ds[k].high, ds[k].holds, insL ds[k].fl flat⟩ := by unfold putK; rw [DrV.at_lt hk, setFl_set hk]
  have hri := hfl _ (List.getElem_mem hk)
  generalize putK ds flat k = out at *
  have HC := hide hcp; have HV := hide hv; have HF := hide hf; have HPUT := hide hput; have HRI := hide hri
  clear hcp hv hu hf hg hfl hput hri hln
  go_enter Try.func110, Try.ntmps110
  go_wp2_with fail
  refine HC.out.mono ?_; rintro e w1 ⟨r, rfl, hb1, rs, hmap, hown⟩
  have hlr : rs.length = ds.length := by rw [← hmap]; simp
  have hkr : k < rs.length := by omega
  obtain ⟨gs, cps, cs, rfl, hgb, hblk, hle, hcm, hcs, hfi⟩ := own_blk5 hown.spine (by omega)
  have hget : rs[k]? = some rs[k] := List.getElem?_eq_getElem hkr
  have hrow := hown.rows k _ hget
  have hdk : ds[k] = ⟨rs[k].ident, rs[k].wide, rs[k].high, rs[k].holds, rs[k].xs⟩ := by
    subst hmap; simp [SDr.pl]
  have HP2 := hide (show out = (rs.map SDr.pl).set k ⟨rs[k].ident, rs[k].wide, rs[k].high, rs[k].holds, insL rs[k].xs flat⟩ by rw [HPUT.out, hmap]; rw [hdk])
  have hri2 : rs[k].xs.length ≤ 12 ∧ riseB rs[k].xs = true := by have := HRI.out; rw [hdk] at this; exact this
  have hc4 : ∀ W, Below w1.heap.size w1 W → W.cell? ⟨gs, k * 5 + 4, none⟩ = some (.slice rs[k].A rs[k].xs.length rs[k].cap) := fun W hW => by
    have := hfi k _ hkr hget 4 (by omega)
    rw [(hblk.below hW hblk.lt).cell, this]; rfl
  have hfz : ∀ W, Below w1.heap.size w1 W → Blk W gs 70 cs := fun W hW => hblk.below hW hblk.lt
  have hkl : (k : Int) < rs.length := by omega
  have hbs := fun W (hW : Below w1.heap.size w1 W) => bs_is rs[k].fv rs[k].xs flat W (hrow.below hW) (rise_le hri2.2) (by omega)
  have hins := fun W vb (hW : Below w1.heap.size w1 W) (hvb : Blk W vb 3 #[.int .i64 flat]) (hlt : w1.heap.size ≤ vb) => ins_is rs[k].fv rs[k].xs (below rs[k].xs flat) flat vb W (hrow.below hW) hvb (fun e => by have := (hrow.lt vb e).2; omega) (below_le _ _) (by omega) (Nat.le_trans hb1.size hW.size)
  have hfin := fun (W W' : World) (hW : Below w1.heap.size w1 W) (A' : Option Addr) (cap' lo' : Nat) (ys : List Int) (hg : W.grownBy W' rs[k].fv.ownBlock) (ho : Own 1 encI 3 W' lo' (.slice A' ys.length cap') ys) => (hown.below hW).setRow hkr hg ho ⟨rs[k].ident, rs[k].wide, rs[k].high, rs[k].holds, A', ys, cap'⟩ rfl
  have hbel4 := fun (W W' : World) (hW : Below w1.heap.size w1 W) (hg : W.grownBy W' rs[k].fv.ownBlock) => (hrow.below hW).belowGrown (hb1.trans (hW.mono hb1.size)) hg (Nat.le_refl _) (Nat.le_trans hb1.size hW.size)
  have hne : rs[k].fv.ownBlock ≠ some gs := fun e => own_ne5 hrow hown.spine (by decide) gs e rfl
  have hil := insL_len rs[k].xs flat
  unfold SDr.fv at hbs hins hfin hbel4 hne
  clear hown hrow hri2 hblk hfi hdk hmap HPUT HRI HC hcs hget hlr
  generalize rs[k].ident = y0 at *; generalize rs[k].wide = y1 at *; generalize rs[k].high = y2 at *; generalize rs[k].holds = y3 at *
  generalize rs[k].A = Ak at *; generalize rs[k].xs = xk at *; generalize rs[k].cap = ck at *
  have hbd := below_le xk flat
  generalize hbe : below xk flat = pb at *
  have HBS := hide hbs; have HINS := hide hins; have HFIN := hide hfin; have HBEL := hide hbel4; have HC4 := hide hc4; have HFZ := hide hfz; have HB1 := hide hb1; have HBE := hide hbe
  clear hbs hins hfin hbel4 hc4 hfz hb1 hbe
  have c4 := HC4.out w1 (Below.refl _ _)
  have hs1 := HB1.out.size
  have hgl : gs < w1.heap.size := World.block_lt_of_cell? w1 _ c4
  go_upto_region 3 with (go_at_call 182; refine (HBS.out _ (Below.refl _ _)).mono ?_; rintro e w2 ⟨⟨bb, rfl⟩, hb2⟩)
  clear c4
  have c4 := HC4.out w2 hb2
  have hb3 := hb2.alloc hb2.size (.cells #[.int .i64 flat] 3)
  have c43 := HC4.out _ hb3
  have hz3 := HFZ.out _ hb3
  have hl3 := Blk.new w2 3 #[.int .i64 flat]
  have hin := HINS.out _ w2.heap.size hb3 hl3 hb2.size
  have HB3 := hide hb3; have HIN := hide hin; have hs2 := hb2.size; have C43 := hide c43; have HZ3 := hide hz3
  clear hb3 hin hb2 hl3 c43 hz3
  go_wp2_with fail
  refine HIN.out.mono ?_
  rintro e w4 ⟨r4, rfl, ho4, hg4, hr4⟩
  obtain ⟨A4, cp4, rfl, _, _, _⟩ := ho4.row
  have c44 := hg4.cell C43.out (fun e => hne e.symm)
  have hb4 : Blk w4 gs 70 cs := (hg4.block gs HZ3.out.lt (fun e => hne e.symm)).trans HZ3.out
  have kf := (fun o => hb4.frozen o)
  have hlen4 : (xk.take pb ++ flat :: xk.drop pb).length = (insL xk flat).length := by unfold insL; rw [HBE.out]
  have hD5 := HFIN.out _ w4 HB3.out A4 cp4 _ _ hg4 ho4
  have hB4 := HBEL.out _ w4 HB3.out hg4
  have hB5 := hB4.setCell (p := ⟨gs, k * 5 + 4, none⟩) hgb (.slice A4 (xk.take pb ++ flat :: xk.drop pb).length cp4)
  have hout : out = (rs.map SDr.pl).set k (⟨y0, y1, y2, y3, A4, xk.take pb ++ flat :: xk.drop pb, cp4⟩ : SDr).pl := by
    rw [HP2.out]; unfold insL SDr.pl; rw [HBE.out]
  rw [← hout] at hD5
  have hv5 := HV.out.below hB5 (Nat.le_refl _)
  have HD5 := hide hD5; have HB5 := hide hB5; have HV5 := hide hv5
  have hcall := AreDrawers_any v _ fs out _ hv5 hD5 HF.out
  have HCALL := hide hcall
  clear hD5 hB4 hB5 hv5 ho4 hg4 hr4 hcall hout hb4 hlen4
  generalize xk.take pb ++ flat :: xk.drop pb = zs at *
  go_upto_region 4 with fail
  clear c44 kf
  generalize w4.setCell ⟨gs, k * 5 + 4, none⟩ (.slice A4 zs.length cp4) = w5 at *
  cases hgd : goodDs fs out with
  | true =>
    rw [hgd] at HCALL
    go_wp2_with fail
    refine HCALL.out.mono ?_; rintro e w6 ⟨rfl, hb6⟩
    have HD6 := hide (HD5.out.below hb6 (Nat.le_refl _)); have HB6 := hide (bstep HB5.out hb6 HB5.out.size)
    clear hb6
    go_wp2_with fail
    go_ret2
    exact ⟨_, rfl, HD6.out, HB6.out⟩
  | false =>
    rw [hgd] at HCALL
    go_wp2_with fail
    refine HCALL.out.mono ?_; rintro e w6 ⟨rfl, hb6⟩
    have HB6 := hide (bstep HB5.out hb6 HB5.out.size)
    clear hb6
    go_wp2_with fail
    all_goals go_ret2
    all_goals exact ⟨_, rfl, IsD.nil, HB6.out⟩
end Go.Proofs.Ytdbcilinoieabaa
