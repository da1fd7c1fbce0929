/- The sheets that show a place, in impl and spec: the Lean functions shownV and bestV. Condition: small numbers. -/
import Derived.Test.YtplemibckjnbhaaDoorL4O
import Derived.Test.YtplemibckjnbhaaDoorL2D
import Derived.Deep.RegionWith
namespace Go.Proofs.YtplemibckjnbhaaDoor
open Go.RowKit
set_option linter.unusedVariables false
theorem show_bd {a s : Int} (ha : -1000 ≤ a ∧ a ≤ 1000) (hs : -1000 ≤ s ∧ s ≤ 1000) : -10000000 ≤ a * (10 * s) ∧ a * (10 * s) ≤ 10000000 := by
  have := mul_bd (a := a) (b := 10 * s) (n := 1000) (m := 10000) ha.1 ha.2 (by omega) (by omega) (by omega) (by omega)
  omega
theorem l4Shows_any (a0 a1 a2 a3 a4 x y : Int) (w : World) (hf : (⟨a0, a1, a2, a3, a4⟩ : SSheet).Fit) (hx : -100000000 ≤ x ∧ x ≤ 100000000) (hy : -100000000 ≤ y ∧ y ≤ 100000000) :
    Calls Tryd.prog 75 #[.agg #[.int .i64 a0, .int .i64 a1, .int .i64 a2, .int .i64 a3, .int .i64 a4], .int .i64 x, .int .i64 y] w fun e w' => e = .returned (.bool (showB ⟨a0, a1, a2, a3, a4⟩ x y)) ∧ Below w.heap.size w w' := by
  have HB1 := hide (below_alloc w (.cells #[.int .i64 a0, .int .i64 a1, .int .i64 a2, .int .i64 a3, .int .i64 a4] 88))
  obtain ⟨f0, f1, f2, f3, f4⟩ := hf
  simp only at f1 f2 f3
  obtain ⟨m1, m2⟩ := show_bd f2 f3
  obtain ⟨m3, m4⟩ := show_bd f1 f3
  obtain ⟨x0, x1⟩ := hx; obtain ⟨y0, y1⟩ := hy; obtain ⟨s0, s1⟩ := f3
  clear f0 f1 f2 f4
  unfold showB
  simp only
  go_enter Tryd.func75, Tryd.ntmps75
  go_wp2_with (go_at_call 84; refine (l1In_any _ _ _ _).mono ?_; rintro e w' ⟨rfl, rfl⟩)
  all_goals go_ret
  all_goals refine ⟨ret_bool ?_, HB1.out⟩
  all_goals simp [*]
theorem showsPlace_any (a0 a1 a2 a3 a4 x y : Int) (w : World) (hf : (⟨a0, a1, a2, a3, a4⟩ : SSheet).Fit) (hx : -100000000 ≤ x ∧ x ≤ 100000000) (hy : -100000000 ≤ y ∧ y ≤ 100000000) :
    Calls Tryd.prog 72 #[.agg #[.int .i64 a0, .int .i64 a1, .int .i64 a2, .int .i64 a3, .int .i64 a4], .int .i64 x, .int .i64 y] w fun e w' => e = .returned (.bool (showB ⟨a0, a1, a2, a3, a4⟩ x y)) ∧ Below w.heap.size w w' := by
  have HB1 := hide (below_alloc w (.cells #[.int .i64 a0, .int .i64 a1, .int .i64 a2, .int .i64 a3, .int .i64 a4] 88))
  obtain ⟨f0, f1, f2, f3, f4⟩ := hf
  simp only at f1 f2 f3
  obtain ⟨m1, m2⟩ := show_bd f2 f3
  obtain ⟨m3, m4⟩ := show_bd f1 f3
  obtain ⟨x0, x1⟩ := hx; obtain ⟨y0, y1⟩ := hy; obtain ⟨s0, s1⟩ := f3
  clear f0 f1 f2 f4
  unfold showB
  simp only
  go_enter Tryd.func72, Tryd.ntmps72
  go_wp2_with (go_at_call 61; refine (within_any _ _ _ _).mono ?_; rintro e w' ⟨rfl, rfl⟩)
  all_goals go_ret
  all_goals refine ⟨ret_bool ?_, HB1.out⟩
  all_goals simp [*]
set_option maxHeartbeats 1000000 in
theorem sh1_any (c : SSheet) (x y : Int) (b1 b2 : Nat) (w : World) (h1 : w.cell? ⟨b1, 0, none⟩ = some (.int .i64 x)) (h2 : w.cell? ⟨b2, 0, none⟩ = some (.int .i64 y)) (hc : c.Fit) (hx : -100000000 ≤ x ∧ x ≤ 100000000) (hy : -100000000 ≤ y ∧ y ≤ 100000000) :
    Calls Tryd.prog 71 #[.agg #[.int .i64 c.id, .int .i64 c.row, .int .i64 c.col, .int .i64 c.scale, .int .i64 c.year], .pointer (some ⟨b1, 0, none⟩), .pointer (some ⟨b2, 0, none⟩)] w fun e w' => e = .returned (.bool (showB c x y)) ∧ Below w.heap.size w w' := by
  obtain ⟨y0, y1, y2, y3, y4⟩ := c
  simp only
  have HCALL := hide (fun W => showsPlace_any y0 y1 y2 y3 y4 x y W hc hx hy)
  have B1 := below_alloc w (.cells #[.int .i64 y0, .int .i64 y1, .int .i64 y2, .int .i64 y3, .int .i64 y4] 88)
  have up : ∀ (bb o : Nat) (u : Value), w.cell? ⟨bb, o, none⟩ = some u → (w.alloc (.cells #[.int .i64 y0, .int .i64 y1, .int .i64 y2, .int .i64 y3, .int .i64 y4] 88)).cell? ⟨bb, o, none⟩ = some u := fun bb o u hu => ((bcell B1).1 bb o (World.block_lt_of_cell? w _ hu)).trans hu
  have k1 := up _ _ _ h1; have k2 := up _ _ _ h2
  obtain ⟨t0, t1, t2, t3, t4⟩ := mk5S (Blk.new w 88 #[.int .i64 y0, .int .i64 y1, .int .i64 y2, .int .i64 y3, .int .i64 y4])
  have HB1 := hide B1
  clear B1 up h1 h2 hx hy hc
  go_enter Tryd.func71, Tryd.ntmps71
  go_upto_region 1 with fail
  generalize hgm : w.heap.size = gm at *
  generalize w.alloc (.cells #[.int .i64 y0, .int .i64 y1, .int .i64 y2, .int .i64 y3, .int .i64 y4] 88) = w1 at *
  have hs1 : gm ≤ w1.heap.size := by have := HB1.out.size; omega
  go_wp2_with fail
  refine (HCALL.out _).mono ?_; rintro e w2 ⟨rfl, hb2⟩
  have B3 := HB1.out.trans (hb2.mono hs1)
  clear hb2
  go_wp2_with fail
  go_ret
  exact ⟨rfl, by first | exact B3 | (rw [hgm]; exact B3)⟩
theorem shownV_no {xs : List SSheet} {x y : Int} (h : (goodS xs && placeB x y) = false) : shownV xs x y = ([], false) := by unfold shownV; rw [h]; rfl
theorem shownV_yes {xs : List SSheet} {x y : Int} (h : (goodS xs && placeB x y) = true) : shownV xs x y = (filtTo (fun s => showB s x y) xs xs.length, true) := by unfold shownV; rw [h]; rfl
set_option maxHeartbeats 2000000 in
theorem ShownOnI_is (v : Value) (xs : List SSheet) (x y : Int) (w : World) (h : Is 5 SSheet.enc w v xs) (hf : ∀ z ∈ xs, z.Fit) :
    Calls Tryd.prog 22 #[v, .int .i64 x, .int .i64 y] w fun e w' => ∃ r, e = .returned (.tuple #[r, .bool (shownV xs x y).2]) ∧ Own 1 encI 3 w' w.heap.size r (shownV xs x y).1 ∧ Below w.heap.size w w' := by
  obtain ⟨nv, hnv⟩ : ∃ nv, nv = shownV xs x y := ⟨_, rfl⟩
  rw [← hnv]
  have HNV := hide hnv; clear hnv
  generalize hgm : w.heap.size = gm
  obtain ⟨hk0, hk1, hbe, hsz⟩ := two_blks w 3 3 #[.int .i64 x] #[.int .i64 y] hgm
  have HI := hide (h.below hbe (by omega))
  have hgc := fun W hi => AreSheets_is v xs W hi
  have hpl := fun W => isPlace_any x y W
  have HFI := hide hf
  obtain ⟨A, cap, rfl, hr, _, _⟩ := h
  clear hf hr
  have HK0 := hide hk0; have HK1 := hide hk1; have HBE := hide hbe; have HGM := hide hgm
  clear hk0 hk1 hbe
  go_enter Tryd.func22, Tryd.ntmps22
  go_upto_region 1 with fail
  generalize (w.alloc (.cells #[.int .i64 x] 3)).alloc (.cells #[.int .i64 y] 3) = w1 at *
  have c1 : w1.cell? ⟨gm, 0, none⟩ = some (.int .i64 x) := HK0.out.cell 0
  have c2 : w1.cell? ⟨gm + 1, 0, none⟩ = some (.int .i64 y) := HK1.out.cell 0
  have HG := hide (hgc w1 HI.out)
  have HPL := hide hpl
  clear hgc hpl
  cases hg : goodS xs with
  | false =>
    have hnv := HNV.out
    rw [shownV_no (by rw [hg]; rfl)] at hnv
    subst hnv
    rw [hg] at HG
    clear hg
    go_wp2_with fail
    refine HG.out.mono ?_; rintro e w4 ⟨rfl, hb4⟩
    have B4 := hide (HBE.out.trans (hb4.mono (by omega))); clear hb4 c1 c2
    go_wp2_with fail
    go_ret2
    exact ⟨_, rfl, Own.nil, by first | exact B4.out | (rw [HGM.out]; exact B4.out)⟩
  | true =>
    rw [hg] at HG
    cases hp : placeB x y with
    | false =>
      have hnv := HNV.out
      rw [shownV_no (by rw [hg, hp]; rfl)] at hnv
      subst hnv
      rw [hp] at HPL
      clear hg hp
      go_wp2_with fail
      refine HG.out.mono ?_; rintro e w4 ⟨rfl, hb4⟩
      have B4 := hide (HBE.out.trans (hb4.mono (by omega)))
      have d1 := ((bcell hb4).1 gm 0 (by omega)).trans c1
      have d2 := ((bcell hb4).1 (gm + 1) 0 (by omega)).trans c2
      clear hb4 c1 c2
      go_wp2_with fail
      refine (HPL.out _).mono ?_; rintro e w5 ⟨rfl, rfl⟩
      go_wp2_with fail
      go_ret2
      exact ⟨_, rfl, Own.nil, by first | exact B4.out | (rw [HGM.out]; exact B4.out)⟩
    | true =>
      have hnv := HNV.out
      rw [shownV_yes (by rw [hg, hp]; rfl)] at hnv
      subst hnv
      have hlen := goodS_len hg
      have hpl2 := placeB_iff.1 hp
      rw [hp] at HPL
      clear hg hp
      go_wp2_with fail
      refine HG.out.mono ?_; rintro e w4 ⟨rfl, hb4⟩
      have B4 := hide (HBE.out.trans (hb4.mono (by omega)))
      have d1 := ((bcell hb4).1 gm 0 (by omega)).trans c1
      have d2 := ((bcell hb4).1 (gm + 1) 0 (by omega)).trans c2
      have HI4 := hide (HI.out.below hb4 (Nat.le_refl _))
      have hsz4 : gm ≤ w4.heap.size := by have := hb4.size; omega
      clear hb4 c1 c2
      go_wp2_with fail
      refine (HPL.out _).mono ?_; rintro e w5 ⟨rfl, rfl⟩
      have hpr : PredIn 71 #[.pointer (some ⟨gm, 0, none⟩), .pointer (some ⟨gm + 1, 0, none⟩)] (fun s => showB s x y) xs w4.heap.size w4 := fun W c hm hb =>
        sh1_any c x y gm (gm + 1) W (((bcell hb).1 gm 0 (World.block_lt_of_cell? w4 _ d1)).trans d1) (((bcell hb).1 (gm + 1) 0 (World.block_lt_of_cell? w4 _ d2)).trans d2) (HFI.out c hm) (by omega) (by omega)
      have HPR := hide hpr; clear hpr
      generalize hpp : (fun s => showB s x y) = pp at *
      have HPP := hide hpp; clear hpp
      go_wp2_with fail
      refine (idsOf_is 71 _ pp _ xs _ HI4.out (by omega) (fun _ _ => by kernel_rfl) HPR.out).mono ?_; rintro e w6 ⟨r, rfl, ho, hb6⟩
      have HO := hide (ho.mono hsz4); have B6 := hide (B4.out.trans (hb6.mono hsz4)); clear ho hb6
      go_wp2_with fail
      go_ret2
      exact ⟨r, rfl, by first | exact HO.out | (rw [HPP.out]; exact HO.out) | (rw [HPP.out, HGM.out]; exact HO.out), by first | exact B6.out | (rw [HGM.out]; exact B6.out)⟩
set_option maxHeartbeats 2000000 in
theorem ShownOnS_is (v : Value) (xs : List SSheet) (x y : Int) (w : World) (h : Is 5 SSheet.enc w v xs) (hf : ∀ z ∈ xs, z.Fit) :
    Calls Tryd.prog 23 #[v, .int .i64 x, .int .i64 y] w fun e w' => ∃ r, e = .returned (.tuple #[r, .bool (shownV xs x y).2]) ∧ Own 1 encI 3 w' w.heap.size r (shownV xs x y).1 ∧ Below w.heap.size w w' := by
  obtain ⟨nv, hnv⟩ : ∃ nv, nv = shownV xs x y := ⟨_, rfl⟩
  rw [← hnv]
  have HNV := hide hnv; clear hnv
  have B1 := below_alloc w (.cells #[] 3)
  have HI := hide (h.below B1 (Nat.le_refl _))
  have HE := hide (own_noI w (Nat.le_refl w.heap.size))
  have HB1 := hide B1
  have hgc := fun W hi => l2Sheets_is v xs W hi
  have hpl := fun W => l4Place_any x y W
  have HFI := hide hf
  obtain ⟨A, cap, rfl, hr, _, _⟩ := h
  have HR := hide hr
  clear B1 hf hr
  go_enter Tryd.func23, Tryd.ntmps23
  go_upto_region 2 with fail
  generalize hgm : w.heap.size = gm at *
  generalize w.alloc (.cells #[] 3) = w1 at *
  have hs1 : gm ≤ w1.heap.size := by have := HB1.out.size; omega
  have HG := hide (hgc w1 HI.out)
  have HPL := hide hpl
  clear hgc hpl
  cases hg : goodS xs with
  | false =>
    have hnv := HNV.out
    rw [shownV_no (by rw [hg]; rfl)] at hnv
    subst hnv
    rw [hg] at HG
    clear hg
    go_wp2_with fail
    refine HG.out.mono ?_; rintro e w4 ⟨rfl, hb4⟩
    have B4 := hide (HB1.out.trans (hb4.mono hs1)); have HE4 := hide (HE.out.below hb4); clear hb4
    go_wp2_with fail
    go_ret2
    exact ⟨_, rfl, by first | exact HE4.out | (rw [hgm]; exact HE4.out), by first | exact B4.out | (rw [hgm]; exact B4.out)⟩
  | true =>
    rw [hg] at HG
    cases hp : placeB x y with
    | false =>
      have hnv := HNV.out
      rw [shownV_no (by rw [hg, hp]; rfl)] at hnv
      subst hnv
      rw [hp] at HPL
      clear hg hp
      go_wp2_with fail
      refine HG.out.mono ?_; rintro e w4 ⟨rfl, hb4⟩
      have B4 := hide (HB1.out.trans (hb4.mono hs1)); have HE4 := hide (HE.out.below hb4); clear hb4
      go_wp2_with fail
      refine (HPL.out _).mono ?_; rintro e w5 ⟨rfl, rfl⟩
      go_wp2_with fail
      go_ret2
      exact ⟨_, rfl, by first | exact HE4.out | (rw [hgm]; exact HE4.out), by first | exact B4.out | (rw [hgm]; exact B4.out)⟩
    | true =>
      have hnv := HNV.out
      rw [shownV_yes (by rw [hg, hp]; rfl)] at hnv
      subst hnv
      have hlen := goodS_len hg
      obtain ⟨⟨x0, x1⟩, y0, y1⟩ := placeB_iff.1 hp
      rw [hp] at HPL
      clear hg hp
      go_wp2_with fail
      refine HG.out.mono ?_; rintro e w4 ⟨rfl, hb4⟩
      have B4 := hide (HB1.out.trans (hb4.mono hs1)); have HE4 := hide (HE.out.below hb4)
      have hsz4 : gm ≤ w4.heap.size := by have := hb4.size; omega
      clear hb4 HE HI HG HB1
      go_wp2_with fail
      refine (HPL.out _).mono ?_; rintro e w5 ⟨rfl, rfl⟩
      have hcc := fun (c : SSheet) (hc : c ∈ xs) W => l4Shows_any c.id c.row c.col c.scale c.year x y W (HFI.out c hc) ⟨by omega, by omega⟩ ⟨by omega, by omega⟩
      have HCC := hide hcc; clear hcc
      generalize hpp : (fun s => showB s x y) = pp at *
      have HPP := hide hpp; clear hpp
      go_wp2_with fail
      go_loopw [8, 9] (fun s i wr => ∃ n : Nat, n ≤ xs.length ∧ i = .int .i64 (n : Int) ∧ Own 1 encI 3 wr gm s (filtTo pp xs n) ∧ Below gm w wr) (fun _ i _ => xs.length - (intOf i).toNat)
      case atStart => exact ⟨0, Nat.zero_le _, rfl, HE4.out, B4.out⟩
      case round =>
        clear HE4 B4
        obtain ⟨n, hn, rfl, hown, hbel⟩ := hrel
        have HOW := hide hown; clear hown
        have hszr : gm ≤ wr.heap.size := by have := hbel.size; omega
        by_cases hlt : n < xs.length
        · have hlt' : (n : Int) < xs.length := by omega
          obtain ⟨b, off, rfl, hb, c0, c1, c2, c3, c4⟩ := SSheet.cells HR.out hlt hbel
          have hst := filtTo_succ (p := pp) hlt
          have hcall := HCC.out _ (List.getElem_mem hlt)
          have hpn : showB ⟨xs[n].id, xs[n].row, xs[n].col, xs[n].scale, xs[n].year⟩ x y = pp xs[n] := by rw [← HPP.out]
          rw [hpn] at hcall
          have hdl : (filtTo pp xs n).length ≤ 16777216 := by have := filtTo_le pp xs n; omega
          clear hpn
          generalize xs[n] = yy at *
          generalize pp yy = rb at *
          have HST := hide hst; have HC := hide hcall; clear hst hcall
          go_wp2_with fail
          refine (HC.out _).mono ?_; rintro e w6 ⟨rfl, hb6⟩
          have B6 := hide (hbel.trans (hb6.mono hszr)); have HO6 := hide (HOW.out.below hb6)
          have hs6 : gm ≤ w6.heap.size := by have := hb6.size; omega
          have e0 := ((bcell hb6).1 _ _ (World.block_lt_of_cell? wr _ c0)).trans c0
          clear c0 c1 c2 c3 c4 hb6 hbel
          cases rb with
          | false =>
            go_wp2_with fail
            go_round
            case measure => (simp [intOf] <;> omega)
            case rel => exact ⟨n + 1, by omega, by go_num, by rw [HST.out]; simpa using HO6.out, B6.out⟩
          | true =>
            go_wp2_with ((at_builtin; refine wpList_push1 (k := 1) (enc := encI) _ rfl _ _ 47 rfl 3 (.int .i64 0) 8 Tryd.underlying47 infoI rfl (by omega) (by omega) encI_one (gm) _ (filtTo pp xs n) rfl (HO6.out) (yy.id) _ rfl rfl (hdl) (hs6) (B6.out) (Nat.le_refl _) rfl ?_; intro v1 w1 ho1 hb1 hg1))
            go_round
            case measure => (simp [intOf] <;> omega)
            case rel => exact ⟨n + 1, by omega, by go_num, by rw [HST.out]; exact ho1, hb1⟩
        · have hnn : n = xs.length := by omega
          have HNN := hide hnn; clear hnn
          go_wp2_with fail
          go_ret2
          exact ⟨_, rfl, by rw [HPP.out, ← HNN.out]; first | exact HOW.out | (rw [hgm]; exact HOW.out), by first | exact hbel | (rw [hgm]; exact hbel)⟩
end Go.Proofs.YtplemibckjnbhaaDoor
