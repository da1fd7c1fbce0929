/- Contracts of EndMaker, in impl and spec. Condition: the names' sizes are those of memory, the numbers those of a machine. -/
import Derived.Test.YtapbnggdclpokaaDoorL7H
namespace Go.Proofs.YtapbnggdclpokaaDoor
open Go.RowKit Go.Lib
set_option linter.unusedVariables false
theorem own_some {w : World} {base : Nat} {v : Value} {xs : List SMaker} (h : Own 5 SMaker.enc 27 w base v xs) (h0 : 0 < xs.length) :
    ∃ g cap cs, v = .slice (some ⟨g, 0, none⟩) xs.length cap ∧ base ≤ g ∧ Blk w g 27 cs ∧ xs.length ≤ cap ∧ cap ≤ maxLen ∧ cs.size = cap * 5 ∧ Filled 5 SMaker.enc cs xs.length xs := by
  rcases h with ⟨_, rfl⟩ | h
  · exact absurd h0 (by simp)
  · exact h
theorem filled_at {cs : Array Value} {xs : List SMaker} (h : Filled 5 SMaker.enc cs xs.length xs) {k : Nat} (hk : k < xs.length) :
    cs[k * 5]? = some (.int .i64 (SMaker.at xs k).ident) ∧ cs[k * 5 + 1]? = some (.string (SMaker.at xs k).name) ∧ cs[k * 5 + 2]? = some (.int .i64 (SMaker.at xs k).frm) ∧ cs[k * 5 + 3]? = some (.int .i64 (SMaker.at xs k).untl) ∧ cs[k * 5 + 4]? = some (.int .i64 (SMaker.at xs k).heir) := by
  have h0 := h k (SMaker.at xs k) hk (by rw [SMaker.at_lt hk]; exact List.getElem?_eq_getElem hk)
  exact ⟨h0 0 (by omega), h0 1 (by omega), h0 2 (by omega), h0 3 (by omega), h0 4 (by omega)⟩
set_option maxHeartbeats 1000000 in
theorem implEndMaker_any (v : Value) (xs : List SMaker) (id y hh : Int) (w : World) (h : Is 5 SMaker.enc w v xs) (hw : ∀ z ∈ xs, z.wf) (wy : (Lit.int .i64 y).wf = true) (wh : (Lit.int .i64 hh).wf = true) :
    Calls Tryd.prog 11 #[v, .int .i64 id, .int .i64 y, .int .i64 hh] w fun e w' => ∃ r, e = .returned (.tuple #[r, .bool (endV xs id y hh).2]) ∧ Own 5 SMaker.enc 27 w' w.heap.size r (endV xs id y hh).1 ∧ Below w.heap.size w w' := by
  have hgood := fun W (hb : Below w.heap.size w W) => AreMakers_is v xs W (h.below hb (Nat.le_refl _)) hw
  have hfind := makerAt_any v xs id w h
  have hyc := fun W => isYear_any y W
  by_cases hg : goodB xs = true
  case neg =>
    rw [Bool.not_eq_true] at hg
    rw [show endV xs id y hh = ([], false) by unfold endV; rw [listed_no1 hg]; rfl]
    rw [hg] at hgood
    have HG := hide hgood; have HFD := hide hfind; clear hgood hg h hfind
    generalize findM xs id = f at HFD
    go_enter Tryd.func11, Tryd.ntmps11
    go_wp2_with fail
    refine HFD.out.mono ?_; rintro e w0 ⟨rfl, hb0⟩
    go_wp2_with fail
    refine (HG.out _ hb0).mono ?_; rintro e w1 ⟨rfl, hb1⟩
    have B1 := bstep hb0 hb1 hb0.size
    go_wp2_with fail
    go_ret2
    exact ⟨_, rfl, Own.nil, B1⟩
  rw [hg] at hgood
  have HG := hide hgood; have HGD := hide hg; clear hgood
  by_cases hf : findM xs id = -1
  · rw [show endV xs id y hh = ([], false) by unfold endV; rw [listed_no2 hf]; rfl]
    rw [hf] at hfind
    have HFD := hide hfind; clear hf h hfind
    go_enter Tryd.func11, Tryd.ntmps11
    go_wp2_with fail
    refine HFD.out.mono ?_; rintro e w0 ⟨rfl, hb0⟩
    go_wp2_with fail
    refine (HG.out _ hb0).mono ?_; rintro e w1 ⟨rfl, hb1⟩
    have B1 := bstep hb0 hb1 hb0.size
    go_wp2_with fail
    go_ret2
    exact ⟨_, rfl, Own.nil, B1⟩
  obtain ⟨k0, hk0, hf⟩ := find_k hf
  have hV : endV xs id y hh = if inB y 1500 2100 && (decide (y ≤ (SMaker.at xs k0).untl) && goodB (updAt xs k0 y hh)) then (updAt xs k0 y hh, true) else ([], false) := by
    unfold endV; rw [listed_yes hg hf, hf, Int.toNat_natCast]; rfl
  rw [hf] at hfind
  have HFD := hide hfind; clear hfind
  by_cases hy : inB y 1500 2100 = true
  case neg =>
    rw [Bool.not_eq_true] at hy
    rw [hV, show (if inB y 1500 2100 && (decide (y ≤ (SMaker.at xs k0).untl) && goodB (updAt xs k0 y hh)) then (updAt xs k0 y hh, true) else ([], false)) = (([], false) : List SMaker × Bool) by rw [hy]; rfl]
    rw [hy] at hyc
    have HY := hide hyc; clear hyc hy hV hf h
    go_enter Tryd.func11, Tryd.ntmps11
    go_wp2_with fail
    refine HFD.out.mono ?_; rintro e w0 ⟨rfl, hb0⟩
    go_wp2_with fail
    refine (HG.out _ hb0).mono ?_; rintro e w1 ⟨rfl, hb1⟩
    have B1 := bstep hb0 hb1 hb0.size
    go_wp2_with fail
    refine (HY.out _).mono ?_; rintro e w' ⟨rfl, rfl⟩
    go_wp2_with fail
    go_ret2
    exact ⟨_, rfl, Own.nil, B1⟩
  rw [hy, Bool.true_and] at hV
  rw [hy] at hyc
  have HY := hide hyc; clear hyc
  obtain ⟨hy1, hy2⟩ := inB_iff.1 hy
  have HI := hide h
  obtain ⟨A, cap, rfl, hr, _, _⟩ := h
  obtain ⟨b, off, rfl, hb, hd0⟩ := SMaker.cellsAt hr hk0
  have hdu : ∀ W, Below w.heap.size w W → W.cell? ⟨b, off + k0 * 5 + 3, none⟩ = some (.int .i64 (SMaker.at xs k0).untl) := fun W hb => (hd0 W hb).2.2.2.1
  have hk0' : (k0 : Int) < xs.length := by omega
  by_cases hu : y ≤ (SMaker.at xs k0).untl
  case neg =>
    rw [decide_eq_false hu] at hV
    rw [hV]
    generalize (SMaker.at xs k0).untl = uu at hu hdu
    have hu2 : uu < y := by omega
    have HDU := hide hdu; clear hdu hd0 hV hu hf hr
    rw [if_neg (by simp)]
    go_enter Tryd.func11, Tryd.ntmps11
    go_wp2_with fail
    refine HFD.out.mono ?_; rintro e w0 ⟨rfl, hb0⟩
    go_wp2_with fail
    refine (HG.out _ hb0).mono ?_; rintro e w1 ⟨rfl, hb1⟩
    have B1 := bstep hb0 hb1 hb0.size
    go_wp2_with fail
    refine (HY.out _).mono ?_; rintro e w' ⟨rfl, rfl⟩; have c3 := HDU.out _ B1
    go_wp2_with fail
    go_ret2
    exact ⟨_, rfl, Own.nil, B1⟩
  rw [decide_eq_true hu, Bool.true_and] at hV
  have hlen10 := good_len hg
  have hgood2 := fun (r : Value) W (hi : Is 5 SMaker.enc W r (updAt xs k0 y hh)) => AreMakers_is r (updAt xs k0 y hh) W hi (updAt_wf hw hk0 wy wh)
  have hul := updAt_len xs k0 y hh
  generalize hgg : goodB (updAt xs k0 y hh) = gg at hV hgood2
  have HGQ := hide hgg; clear hgg
  rw [hV]
  clear hV
  have HUL := hide hul; have HGG := hide hgood2; have HUP := hide (fun cs cs' (hc : Filled 5 SMaker.enc cs xs.length xs) => Filled.upd hc (cs' := cs') hk0 (y := y) (hh := hh)); clear hgood2 hul
  generalize hku : (SMaker.at xs k0).untl = uu at hu hdu
  have hu2 : ¬ uu < y := by omega
  have HKU := hide hku; have HDU := hide hdu; clear hdu hd0 hu hf hr hku
  cases gg
  · skip
    go_enter Tryd.func11, Tryd.ntmps11
    go_wp2_with fail
    refine HFD.out.mono ?_; rintro e w0 ⟨rfl, hb0⟩
    go_wp2_with fail
    refine (HG.out _ hb0).mono ?_; rintro e w1 ⟨rfl, hb1⟩
    have B1 := bstep hb0 hb1 hb0.size
    go_wp2_with fail
    refine (HY.out _).mono ?_; rintro e w' ⟨rfl, rfl⟩; have c3 := HDU.out _ B1
    go_wp2_with fail
    refine (cloneM_any _ xs _ (HI.out.below B1 (Nat.le_refl _)) (by omega) (by omega)).mono ?_; rintro e w2 ⟨r, rfl, ho, hb2⟩
    have B2 := bstep B1 hb2 B1.size
    have s1 := B1.size
    rcases ho with ⟨rfl, hnil⟩ | ⟨g, gc, cs, rfl, hgb, hblk, hle, hcm, hs, hfi⟩
    · subst hnil; exact absurd hk0 (by simp)
    have hgw : w.heap.size ≤ g := by omega
    have hsz3 : k0 * 5 + 4 < cs.size := by omega
    have g3 := hblk.some (i := k0 * 5 + 3) (by omega); have g4 := hblk.some (i := k0 * 5 + 4) hsz3
    have hfz := hblk.frozen
    have hblk2 := (hblk.set (k0 * 5 + 3) (.int .i64 y)).set (k0 * 5 + 4) (.int .i64 hh)
    have B3 := (B2.setCell (p := ⟨g, k0 * 5 + 3, none⟩) hgw (.int .i64 y)).setCell (p := ⟨g, k0 * 5 + 4, none⟩) hgw (.int .i64 hh)
    have hfi2 := HUP.out cs ((cs.setIfInBounds (k0 * 5 + 3) (.int .i64 y)).setIfInBounds (k0 * 5 + 4) (.int .i64 hh)) hfi
      (by rw [Array.getElem?_setIfInBounds_ne (by omega), Array.getElem?_setIfInBounds_self_of_lt (by omega)])
      (by rw [Array.getElem?_setIfInBounds_self_of_lt (by simp; omega)])
      (fun m h1 h2 => by rw [Array.getElem?_setIfInBounds_ne (by omega), Array.getElem?_setIfInBounds_ne (by omega)])
    have hown : Own 5 SMaker.enc 27 ((w2.setCell ⟨g, k0 * 5 + 3, none⟩ (.int .i64 y)).setCell ⟨g, k0 * 5 + 4, none⟩ (.int .i64 hh)) w.heap.size (.slice (some ⟨g, 0, none⟩) xs.length gc) (updAt xs k0 y hh) :=
      .inr ⟨g, gc, _, by rw [HUL.out], hgw, hblk2, by rw [HUL.out]; exact hle, hcm, by simp [hs], hfi2⟩
    have HO := hide hown; have HB3 := hide B3; clear hown B3 hblk2 hfi2 hblk hfi hb2
    go_wp2_with fail
    refine (HGG.out _ _ HO.out.is).mono ?_; rintro e w4 ⟨rfl, hb4⟩
    have B4 := bstep HB3.out hb4 HB3.out.size
    have HO4 := hide (HO.out.below hb4)
    go_wp2_with fail
    go_ret2
    exact ⟨_, rfl, Own.nil, B4⟩
  · skip
    go_enter Tryd.func11, Tryd.ntmps11
    go_wp2_with fail
    refine HFD.out.mono ?_; rintro e w0 ⟨rfl, hb0⟩
    go_wp2_with fail
    refine (HG.out _ hb0).mono ?_; rintro e w1 ⟨rfl, hb1⟩
    have B1 := bstep hb0 hb1 hb0.size
    go_wp2_with fail
    refine (HY.out _).mono ?_; rintro e w' ⟨rfl, rfl⟩; have c3 := HDU.out _ B1
    go_wp2_with fail
    refine (cloneM_any _ xs _ (HI.out.below B1 (Nat.le_refl _)) (by omega) (by omega)).mono ?_; rintro e w2 ⟨r, rfl, ho, hb2⟩
    have B2 := bstep B1 hb2 B1.size
    have s1 := B1.size
    rcases ho with ⟨rfl, hnil⟩ | ⟨g, gc, cs, rfl, hgb, hblk, hle, hcm, hs, hfi⟩
    · subst hnil; exact absurd hk0 (by simp)
    have hgw : w.heap.size ≤ g := by omega
    have hsz3 : k0 * 5 + 4 < cs.size := by omega
    have g3 := hblk.some (i := k0 * 5 + 3) (by omega); have g4 := hblk.some (i := k0 * 5 + 4) hsz3
    have hfz := hblk.frozen
    have hblk2 := (hblk.set (k0 * 5 + 3) (.int .i64 y)).set (k0 * 5 + 4) (.int .i64 hh)
    have B3 := (B2.setCell (p := ⟨g, k0 * 5 + 3, none⟩) hgw (.int .i64 y)).setCell (p := ⟨g, k0 * 5 + 4, none⟩) hgw (.int .i64 hh)
    have hfi2 := HUP.out cs ((cs.setIfInBounds (k0 * 5 + 3) (.int .i64 y)).setIfInBounds (k0 * 5 + 4) (.int .i64 hh)) hfi
      (by rw [Array.getElem?_setIfInBounds_ne (by omega), Array.getElem?_setIfInBounds_self_of_lt (by omega)])
      (by rw [Array.getElem?_setIfInBounds_self_of_lt (by simp; omega)])
      (fun m h1 h2 => by rw [Array.getElem?_setIfInBounds_ne (by omega), Array.getElem?_setIfInBounds_ne (by omega)])
    have hown : Own 5 SMaker.enc 27 ((w2.setCell ⟨g, k0 * 5 + 3, none⟩ (.int .i64 y)).setCell ⟨g, k0 * 5 + 4, none⟩ (.int .i64 hh)) w.heap.size (.slice (some ⟨g, 0, none⟩) xs.length gc) (updAt xs k0 y hh) :=
      .inr ⟨g, gc, _, by rw [HUL.out], hgw, hblk2, by rw [HUL.out]; exact hle, hcm, by simp [hs], hfi2⟩
    have HO := hide hown; have HB3 := hide B3; clear hown B3 hblk2 hfi2 hblk hfi hb2
    go_wp2_with fail
    refine (HGG.out _ _ HO.out.is).mono ?_; rintro e w4 ⟨rfl, hb4⟩
    have B4 := bstep HB3.out hb4 HB3.out.size
    have HO4 := hide (HO.out.below hb4)
    go_wp2_with fail
    go_ret2
    exact ⟨_, rfl, HO4.out, B4⟩
set_option maxHeartbeats 1000000 in
theorem specEndMaker_any (v : Value) (xs : List SMaker) (id y hh : Int) (w : World) (h : Is 5 SMaker.enc w v xs) (hw : ∀ z ∈ xs, z.wf) (wy : (Lit.int .i64 y).wf = true) (wh : (Lit.int .i64 hh).wf = true) :
    Calls Tryd.prog 12 #[v, .int .i64 id, .int .i64 y, .int .i64 hh] w fun e w' => ∃ r, e = .returned (.tuple #[r, .bool (endV xs id y hh).2]) ∧ Own 5 SMaker.enc 27 w' w.heap.size r (endV xs id y hh).1 ∧ Below w.heap.size w w' := by
  have hgood := fun W (hb : Below w.heap.size w W) => l7Good_is v xs W (h.below hb (Nat.le_refl _)) hw
  have hfind := l7Find_any v xs id w h
  have hyc := fun W => l7Year_any y W
  by_cases hg : goodB xs = true
  case neg =>
    rw [Bool.not_eq_true] at hg
    rw [show endV xs id y hh = ([], false) by unfold endV; rw [listed_no1 hg]; rfl]
    rw [hg] at hgood
    have HG := hide hgood; have HFD := hide hfind; clear hgood hg h hfind
    generalize findM xs id = f at HFD
    go_enter Tryd.func12, Tryd.ntmps12
    go_wp2_with fail
    refine HFD.out.mono ?_; rintro e w0 ⟨rfl, rfl⟩
    have hb0 := Below.refl w.heap.size w
    go_wp2_with fail
    refine (HG.out _ hb0).mono ?_; rintro e w1 ⟨rfl, hb1⟩
    have B1 := bstep hb0 hb1 hb0.size
    go_wp2_with fail
    go_ret2
    exact ⟨_, rfl, own_emptyM _ (B1).size, (B1).alloc (B1).size _⟩
  rw [hg] at hgood
  have HG := hide hgood; have HGD := hide hg; clear hgood
  by_cases hf : findM xs id = -1
  · rw [show endV xs id y hh = ([], false) by unfold endV; rw [listed_no2 hf]; rfl]
    rw [hf] at hfind
    have HFD := hide hfind; clear hf h hfind
    go_enter Tryd.func12, Tryd.ntmps12
    go_wp2_with fail
    refine HFD.out.mono ?_; rintro e w0 ⟨rfl, rfl⟩
    have hb0 := Below.refl w.heap.size w
    go_wp2_with fail
    refine (HG.out _ hb0).mono ?_; rintro e w1 ⟨rfl, hb1⟩
    have B1 := bstep hb0 hb1 hb0.size
    go_wp2_with fail
    go_ret2
    exact ⟨_, rfl, own_emptyM _ (B1).size, (B1).alloc (B1).size _⟩
  obtain ⟨k0, hk0, hf⟩ := find_k hf
  have hV : endV xs id y hh = if inB y 1500 2100 && (decide (y ≤ (SMaker.at xs k0).untl) && goodB (updAt xs k0 y hh)) then (updAt xs k0 y hh, true) else ([], false) := by
    unfold endV; rw [listed_yes hg hf, hf, Int.toNat_natCast]; rfl
  rw [hf] at hfind
  have HFD := hide hfind; clear hfind
  by_cases hy : inB y 1500 2100 = true
  case neg =>
    rw [Bool.not_eq_true] at hy
    rw [hV, show (if inB y 1500 2100 && (decide (y ≤ (SMaker.at xs k0).untl) && goodB (updAt xs k0 y hh)) then (updAt xs k0 y hh, true) else ([], false)) = (([], false) : List SMaker × Bool) by rw [hy]; rfl]
    rw [hy] at hyc
    have HY := hide hyc; clear hyc hy hV hf h
    go_enter Tryd.func12, Tryd.ntmps12
    go_wp2_with fail
    refine HFD.out.mono ?_; rintro e w0 ⟨rfl, rfl⟩
    have hb0 := Below.refl w.heap.size w
    go_wp2_with fail
    refine (HG.out _ hb0).mono ?_; rintro e w1 ⟨rfl, hb1⟩
    have B1 := bstep hb0 hb1 hb0.size
    go_wp2_with fail
    refine (HY.out _).mono ?_; rintro e w' ⟨rfl, rfl⟩
    go_wp2_with fail
    go_ret2
    exact ⟨_, rfl, own_emptyM _ (B1).size, (B1).alloc (B1).size _⟩
  rw [hy, Bool.true_and] at hV
  rw [hy] at hyc
  have HY := hide hyc; clear hyc
  obtain ⟨hy1, hy2⟩ := inB_iff.1 hy
  have HI := hide h
  obtain ⟨A, cap, rfl, hr, _, _⟩ := h
  obtain ⟨b, off, rfl, hb, hd0⟩ := SMaker.cellsAt hr hk0
  have hdu : ∀ W, Below w.heap.size w W → W.cell? ⟨b, off + k0 * 5 + 3, none⟩ = some (.int .i64 (SMaker.at xs k0).untl) := fun W hb => (hd0 W hb).2.2.2.1
  have hk0' : (k0 : Int) < xs.length := by omega
  by_cases hu : y ≤ (SMaker.at xs k0).untl
  case neg =>
    rw [decide_eq_false hu] at hV
    rw [hV]
    generalize (SMaker.at xs k0).untl = uu at hu hdu
    have hu2 : uu < y := by omega
    have HDU := hide hdu; clear hdu hd0 hV hu hf hr
    rw [if_neg (by simp)]
    go_enter Tryd.func12, Tryd.ntmps12
    go_wp2_with fail
    refine HFD.out.mono ?_; rintro e w0 ⟨rfl, rfl⟩
    have hb0 := Below.refl w.heap.size w
    go_wp2_with fail
    refine (HG.out _ hb0).mono ?_; rintro e w1 ⟨rfl, hb1⟩
    have B1 := bstep hb0 hb1 hb0.size
    go_wp2_with fail
    refine (HY.out _).mono ?_; rintro e w' ⟨rfl, rfl⟩; have c3 := HDU.out _ B1
    go_wp2_with fail
    go_ret2
    exact ⟨_, rfl, own_emptyM _ (B1).size, (B1).alloc (B1).size _⟩
  rw [decide_eq_true hu, Bool.true_and] at hV
  have hlen10 := good_len hg
  have hgood2 := fun (r : Value) W (hi : Is 5 SMaker.enc W r (updAt xs k0 y hh)) => l7Good_is r (updAt xs k0 y hh) W hi (updAt_wf hw hk0 wy wh)
  have hul := updAt_len xs k0 y hh
  generalize hgg : goodB (updAt xs k0 y hh) = gg at hV hgood2
  have HGQ := hide hgg; clear hgg
  rw [hV]
  clear hV
  have HUL := hide hul; have HGG := hide hgood2; have HUP := hide (fun cs cs' (hc : Filled 5 SMaker.enc cs xs.length xs) => Filled.upd hc (cs' := cs') hk0 (y := y) (hh := hh)); clear hgood2 hul
  generalize hku : (SMaker.at xs k0).untl = uu at hu hdu
  have hu2 : ¬ uu < y := by omega
  have HKU := hide hku; have HDU := hide hdu; clear hdu hd0 hu hf hr hku
  cases gg
  · skip
    go_enter Tryd.func12, Tryd.ntmps12
    go_wp2_with fail
    refine HFD.out.mono ?_; rintro e w0 ⟨rfl, rfl⟩
    have hb0 := Below.refl w.heap.size w
    go_wp2_with fail
    refine (HG.out _ hb0).mono ?_; rintro e w1 ⟨rfl, hb1⟩
    have B1 := bstep hb0 hb1 hb0.size
    go_wp2_with fail
    refine (HY.out _).mono ?_; rintro e w' ⟨rfl, rfl⟩; have c3 := HDU.out _ B1
    have HE := hide (own_emptyM w1 B1.size)
    have B1e := B1.alloc B1.size (.cells #[] 27)
    have hrow := HI.out.below B1e (Nat.le_refl _)
    obtain ⟨_, _, hAA, hrow, _, _⟩ := hrow
    injection hAA with hA1 hA2 hA3; subst hA1
    go_wp2_with (at_builtin; refine wpList_push (k := 5) (enc := SMaker.enc) _ rfl _ _ 32 rfl 27 (.agg #[.int .i64 0, .string ⟨#[]⟩, .int .i64 0, .int .i64 0, .int .i64 0]) 48 Tryd.underlying32 SMaker.info rfl (by omega) SMaker.one w.heap.size _ [] rfl HE.out ⟨b, off, none⟩ _ xs rfl (src_row hrow (by omega)) (by simp <;> omega) (by simp <;> omega) B1e.size ?_; intro v1 w2 ho hg1 _; have B2 := HE.out.belowGrown B1e hg1 (Nat.le_refl _) B1e.size; rw [List.nil_append] at ho; clear hg1; obtain ⟨g, gc, cs, rfl, hgb, hblk, hle, hcm, hs, hfi⟩ := own_some ho (by omega); obtain ⟨q0, q1, q2, q3, q4⟩ := filled_at hfi hk0; have hgl := hblk.lt; have hsz3 : k0 * 5 + 4 < cs.size := (by omega); have p0 := (hblk.cell (k0 * 5)).trans q0; have p1 := (hblk.cell (k0 * 5 + 1)).trans q1; have p2 := (hblk.cell (k0 * 5 + 2)).trans q2; have p3 := (hblk.cell (k0 * 5 + 3)).trans q3; have p4 := (hblk.cell (k0 * 5 + 4)).trans q4; have hal := fun o => hblk.alloc o; have HAL := hide hal; have l0 := fun o => ((HAL.out o).cell (k0 * 5)).trans q0; have l1 := fun o => ((HAL.out o).cell (k0 * 5 + 1)).trans q1; have l2 := fun o => ((HAL.out o).cell (k0 * 5 + 2)).trans q2; have l3 := fun o => ((HAL.out o).cell (k0 * 5 + 3)).trans q3; have l4 := fun o => ((HAL.out o).cell (k0 * 5 + 4)).trans q4; have hfz := fun o i => (HAL.out o).frozen i; have hf2 := hblk.frozen; have HBK2 := hide hblk; have HFI := hide hfi; have HQ := hide (And.intro q0 (And.intro q1 q2)); clear hal ho hfi q0 q1 q2 q3 q4 hblk)
    have hgw : w.heap.size ≤ g := hgb
    have B3s := ((((B2.setCell (p := ⟨g, k0 * 5, none⟩) hgw (.int .i64 (SMaker.at xs k0).ident)).setCell (p := ⟨g, k0 * 5 + 1, none⟩) hgw (.string (SMaker.at xs k0).name)).setCell (p := ⟨g, k0 * 5 + 2, none⟩) hgw (.int .i64 (SMaker.at xs k0).frm)).setCell (p := ⟨g, k0 * 5 + 3, none⟩) hgw (.int .i64 y)).setCell (p := ⟨g, k0 * 5 + 4, none⟩) hgw (.int .i64 hh)
    have B3 := B3s.alloc B3s.size (.cells #[.int .i64 (SMaker.at xs k0).ident, .string (SMaker.at xs k0).name, .int .i64 (SMaker.at xs k0).frm, .int .i64 y, .int .i64 hh] 27)
    have hblk2 := (((((HBK2.out.set (k0 * 5) (.int .i64 (SMaker.at xs k0).ident)).set (k0 * 5 + 1) (.string (SMaker.at xs k0).name)).set (k0 * 5 + 2) (.int .i64 (SMaker.at xs k0).frm)).set (k0 * 5 + 3) (.int .i64 y)).set (k0 * 5 + 4) (.int .i64 hh)).alloc (.cells #[.int .i64 (SMaker.at xs k0).ident, .string (SMaker.at xs k0).name, .int .i64 (SMaker.at xs k0).frm, .int .i64 y, .int .i64 hh] 27)
    have hfi2 := HUP.out cs (((((cs.setIfInBounds (k0 * 5) (.int .i64 (SMaker.at xs k0).ident)).setIfInBounds (k0 * 5 + 1) (.string (SMaker.at xs k0).name)).setIfInBounds (k0 * 5 + 2) (.int .i64 (SMaker.at xs k0).frm)).setIfInBounds (k0 * 5 + 3) (.int .i64 y)).setIfInBounds (k0 * 5 + 4) (.int .i64 hh)) HFI.out
      (by rw [Array.getElem?_setIfInBounds_ne (by omega), Array.getElem?_setIfInBounds_self_of_lt (by simp; omega)])
      (by rw [Array.getElem?_setIfInBounds_self_of_lt (by simp; omega)])
      (fun m h1 h2 => by
        rw [Array.getElem?_setIfInBounds_ne (by omega), Array.getElem?_setIfInBounds_ne (by omega)]
        by_cases m2 : m = k0 * 5 + 2
        · subst m2; rw [Array.getElem?_setIfInBounds_self_of_lt (by simp; omega)]; exact HQ.out.2.2.symm
        · rw [Array.getElem?_setIfInBounds_ne (by omega)]
          by_cases m1 : m = k0 * 5 + 1
          · subst m1; rw [Array.getElem?_setIfInBounds_self_of_lt (by simp; omega)]; exact HQ.out.2.1.symm
          · rw [Array.getElem?_setIfInBounds_ne (by omega)]
            by_cases m0 : m = k0 * 5
            · subst m0; rw [Array.getElem?_setIfInBounds_self_of_lt (by omega)]; exact HQ.out.1.symm
            · rw [Array.getElem?_setIfInBounds_ne (by omega)])
    have hown : Own 5 SMaker.enc 27 ((((((w2.setCell ⟨g, k0 * 5, none⟩ (.int .i64 (SMaker.at xs k0).ident)).setCell ⟨g, k0 * 5 + 1, none⟩ (.string (SMaker.at xs k0).name)).setCell ⟨g, k0 * 5 + 2, none⟩ (.int .i64 (SMaker.at xs k0).frm)).setCell ⟨g, k0 * 5 + 3, none⟩ (.int .i64 y)).setCell ⟨g, k0 * 5 + 4, none⟩ (.int .i64 hh)).alloc (.cells #[.int .i64 (SMaker.at xs k0).ident, .string (SMaker.at xs k0).name, .int .i64 (SMaker.at xs k0).frm, .int .i64 y, .int .i64 hh] 27)) w.heap.size (.slice (some ⟨g, 0, none⟩) xs.length gc) (updAt xs k0 y hh) :=
      .inr ⟨g, gc, _, by rw [HUL.out], hgw, hblk2, by rw [HUL.out]; exact hle, hcm, by simp [hs], hfi2⟩
    have HO := hide hown; have HB3 := hide B3; clear hown B3 hblk2 hfi2
    refine (HGG.out _ _ HO.out.is).mono ?_; rintro e w4 ⟨rfl, hb4⟩
    have B4 := bstep HB3.out hb4 HB3.out.size
    have HO4 := hide (HO.out.below hb4)
    go_wp2_with fail
    go_ret2
    exact ⟨_, rfl, own_emptyM _ B4.size, B4.alloc B4.size _⟩
  · skip
    go_enter Tryd.func12, Tryd.ntmps12
    go_wp2_with fail
    refine HFD.out.mono ?_; rintro e w0 ⟨rfl, rfl⟩
    have hb0 := Below.refl w.heap.size w
    go_wp2_with fail
    refine (HG.out _ hb0).mono ?_; rintro e w1 ⟨rfl, hb1⟩
    have B1 := bstep hb0 hb1 hb0.size
    go_wp2_with fail
    refine (HY.out _).mono ?_; rintro e w' ⟨rfl, rfl⟩; have c3 := HDU.out _ B1
    have HE := hide (own_emptyM w1 B1.size)
    have B1e := B1.alloc B1.size (.cells #[] 27)
    have hrow := HI.out.below B1e (Nat.le_refl _)
    obtain ⟨_, _, hAA, hrow, _, _⟩ := hrow
    injection hAA with hA1 hA2 hA3; subst hA1
    go_wp2_with (at_builtin; refine wpList_push (k := 5) (enc := SMaker.enc) _ rfl _ _ 32 rfl 27 (.agg #[.int .i64 0, .string ⟨#[]⟩, .int .i64 0, .int .i64 0, .int .i64 0]) 48 Tryd.underlying32 SMaker.info rfl (by omega) SMaker.one w.heap.size _ [] rfl HE.out ⟨b, off, none⟩ _ xs rfl (src_row hrow (by omega)) (by simp <;> omega) (by simp <;> omega) B1e.size ?_; intro v1 w2 ho hg1 _; have B2 := HE.out.belowGrown B1e hg1 (Nat.le_refl _) B1e.size; rw [List.nil_append] at ho; clear hg1; obtain ⟨g, gc, cs, rfl, hgb, hblk, hle, hcm, hs, hfi⟩ := own_some ho (by omega); obtain ⟨q0, q1, q2, q3, q4⟩ := filled_at hfi hk0; have hgl := hblk.lt; have hsz3 : k0 * 5 + 4 < cs.size := (by omega); have p0 := (hblk.cell (k0 * 5)).trans q0; have p1 := (hblk.cell (k0 * 5 + 1)).trans q1; have p2 := (hblk.cell (k0 * 5 + 2)).trans q2; have p3 := (hblk.cell (k0 * 5 + 3)).trans q3; have p4 := (hblk.cell (k0 * 5 + 4)).trans q4; have hal := fun o => hblk.alloc o; have HAL := hide hal; have l0 := fun o => ((HAL.out o).cell (k0 * 5)).trans q0; have l1 := fun o => ((HAL.out o).cell (k0 * 5 + 1)).trans q1; have l2 := fun o => ((HAL.out o).cell (k0 * 5 + 2)).trans q2; have l3 := fun o => ((HAL.out o).cell (k0 * 5 + 3)).trans q3; have l4 := fun o => ((HAL.out o).cell (k0 * 5 + 4)).trans q4; have hfz := fun o i => (HAL.out o).frozen i; have hf2 := hblk.frozen; have HBK2 := hide hblk; have HFI := hide hfi; have HQ := hide (And.intro q0 (And.intro q1 q2)); clear hal ho hfi q0 q1 q2 q3 q4 hblk)
    have hgw : w.heap.size ≤ g := hgb
    have B3s := ((((B2.setCell (p := ⟨g, k0 * 5, none⟩) hgw (.int .i64 (SMaker.at xs k0).ident)).setCell (p := ⟨g, k0 * 5 + 1, none⟩) hgw (.string (SMaker.at xs k0).name)).setCell (p := ⟨g, k0 * 5 + 2, none⟩) hgw (.int .i64 (SMaker.at xs k0).frm)).setCell (p := ⟨g, k0 * 5 + 3, none⟩) hgw (.int .i64 y)).setCell (p := ⟨g, k0 * 5 + 4, none⟩) hgw (.int .i64 hh)
    have B3 := B3s.alloc B3s.size (.cells #[.int .i64 (SMaker.at xs k0).ident, .string (SMaker.at xs k0).name, .int .i64 (SMaker.at xs k0).frm, .int .i64 y, .int .i64 hh] 27)
    have hblk2 := (((((HBK2.out.set (k0 * 5) (.int .i64 (SMaker.at xs k0).ident)).set (k0 * 5 + 1) (.string (SMaker.at xs k0).name)).set (k0 * 5 + 2) (.int .i64 (SMaker.at xs k0).frm)).set (k0 * 5 + 3) (.int .i64 y)).set (k0 * 5 + 4) (.int .i64 hh)).alloc (.cells #[.int .i64 (SMaker.at xs k0).ident, .string (SMaker.at xs k0).name, .int .i64 (SMaker.at xs k0).frm, .int .i64 y, .int .i64 hh] 27)
    have hfi2 := HUP.out cs (((((cs.setIfInBounds (k0 * 5) (.int .i64 (SMaker.at xs k0).ident)).setIfInBounds (k0 * 5 + 1) (.string (SMaker.at xs k0).name)).setIfInBounds (k0 * 5 + 2) (.int .i64 (SMaker.at xs k0).frm)).setIfInBounds (k0 * 5 + 3) (.int .i64 y)).setIfInBounds (k0 * 5 + 4) (.int .i64 hh)) HFI.out
      (by rw [Array.getElem?_setIfInBounds_ne (by omega), Array.getElem?_setIfInBounds_self_of_lt (by simp; omega)])
      (by rw [Array.getElem?_setIfInBounds_self_of_lt (by simp; omega)])
      (fun m h1 h2 => by
        rw [Array.getElem?_setIfInBounds_ne (by omega), Array.getElem?_setIfInBounds_ne (by omega)]
        by_cases m2 : m = k0 * 5 + 2
        · subst m2; rw [Array.getElem?_setIfInBounds_self_of_lt (by simp; omega)]; exact HQ.out.2.2.symm
        · rw [Array.getElem?_setIfInBounds_ne (by omega)]
          by_cases m1 : m = k0 * 5 + 1
          · subst m1; rw [Array.getElem?_setIfInBounds_self_of_lt (by simp; omega)]; exact HQ.out.2.1.symm
          · rw [Array.getElem?_setIfInBounds_ne (by omega)]
            by_cases m0 : m = k0 * 5
            · subst m0; rw [Array.getElem?_setIfInBounds_self_of_lt (by omega)]; exact HQ.out.1.symm
            · rw [Array.getElem?_setIfInBounds_ne (by omega)])
    have hown : Own 5 SMaker.enc 27 ((((((w2.setCell ⟨g, k0 * 5, none⟩ (.int .i64 (SMaker.at xs k0).ident)).setCell ⟨g, k0 * 5 + 1, none⟩ (.string (SMaker.at xs k0).name)).setCell ⟨g, k0 * 5 + 2, none⟩ (.int .i64 (SMaker.at xs k0).frm)).setCell ⟨g, k0 * 5 + 3, none⟩ (.int .i64 y)).setCell ⟨g, k0 * 5 + 4, none⟩ (.int .i64 hh)).alloc (.cells #[.int .i64 (SMaker.at xs k0).ident, .string (SMaker.at xs k0).name, .int .i64 (SMaker.at xs k0).frm, .int .i64 y, .int .i64 hh] 27)) w.heap.size (.slice (some ⟨g, 0, none⟩) xs.length gc) (updAt xs k0 y hh) :=
      .inr ⟨g, gc, _, by rw [HUL.out], hgw, hblk2, by rw [HUL.out]; exact hle, hcm, by simp [hs], hfi2⟩
    have HO := hide hown; have HB3 := hide B3; clear hown B3 hblk2 hfi2
    refine (HGG.out _ _ HO.out.is).mono ?_; rintro e w4 ⟨rfl, hb4⟩
    have B4 := bstep HB3.out hb4 HB3.out.size
    have HO4 := hide (HO.out.below hb4)
    go_wp2_with fail
    go_ret2
    exact ⟨_, rfl, HO4.out, B4⟩
end Go.Proofs.YtapbnggdclpokaaDoor
