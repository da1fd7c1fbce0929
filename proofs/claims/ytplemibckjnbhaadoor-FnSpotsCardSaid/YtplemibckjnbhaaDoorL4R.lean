/- Contracts of BestSheet in impl and spec: the Lean function bestV. Condition: small numbers. (Printed by mkbest.py.) -/
import Derived.Test.YtplemibckjnbhaaDoorL4P
namespace Go.Proofs.YtplemibckjnbhaaDoor
open Go.RowKit
set_option linter.unusedVariables false
theorem set5S {w : World} {g : Nat} {t : TypeId} {a b c d e : Value} (h : Blk w g t #[a, b, c, d, e]) (p q r s u : Value) : Blk (((((w.setCell ⟨g, 0, none⟩ p).setCell ⟨g, 1, none⟩ q).setCell ⟨g, 2, none⟩ r).setCell ⟨g, 3, none⟩ s).setCell ⟨g, 4, none⟩ u) g t #[p, q, r, s, u] := ((((h.set 0 p).set 1 q).set 2 r).set 3 s).set 4 u
theorem below5S {w w' : World} {B g : Nat} (h : Below B w w') (hg : B ≤ g) (p q r s u : Value) : Below B w (((((w'.setCell ⟨g, 0, none⟩ p).setCell ⟨g, 1, none⟩ q).setCell ⟨g, 2, none⟩ r).setCell ⟨g, 3, none⟩ s).setCell ⟨g, 4, none⟩ u) := ((((h.setCell (p := ⟨g, 0, none⟩) hg p).setCell (p := ⟨g, 1, none⟩) hg q).setCell (p := ⟨g, 2, none⟩) hg r).setCell (p := ⟨g, 3, none⟩) hg s).setCell (p := ⟨g, 4, none⟩) hg u
theorem bestV_no {xs : List SSheet} {x y : Int} (h : (goodS xs && placeB x y) = false) : bestV xs x y = (0, false) := by unfold bestV; rw [h]; rfl
theorem bestV_yes {xs : List SSheet} {x y : Int} (h : (goodS xs && placeB x y) = true) : bestV xs x y = ((bestTo xs x y xs.length).id, decide (0 < (bestTo xs x y xs.length).id)) := by unfold bestV; rw [h]; rfl
set_option maxHeartbeats 4000000 in
theorem BestSheetI_is (v : Value) (xs : List SSheet) (x y : Int) (w : World) (h : Is 5 SSheet.enc w v xs) (hf : ∀ z ∈ xs, z.Fit) :
    Calls Tryd.prog 25 #[v, .int .i64 x, .int .i64 y] w fun e w' => e = .returned (.tuple #[.int .i64 (bestV xs x y).1, .bool (bestV xs x y).2]) ∧ Below w.heap.size w w' := by
  obtain ⟨nv, hnv⟩ : ∃ nv, nv = bestV xs x y := ⟨_, rfl⟩
  rw [← hnv]
  have HNV := hide hnv; clear hnv
  have HI := hide h
  have hgc := fun W hi => AreSheets_is v xs W hi
  have hpl := fun W => isPlace_any x y W
  have HFI := hide hf
  obtain ⟨A, cap, rfl, hr, _, _⟩ := h
  generalize hgm : w.heap.size = gm at *
  have HGM := hide hgm
  have HR := hide hr
  clear hf hr
  go_enter Tryd.func25, Tryd.ntmps25
  have HG := hide (hgc w HI.out)
  have HPL := hide hpl
  clear hgc hpl
  cases hg : goodS xs with
  | false =>
    have hnv := HNV.out
    rw [bestV_no (by rw [hg]; rfl)] at hnv
    subst hnv
    rw [hg] at HG
    clear hg
    go_wp2_with fail
    refine HG.out.mono ?_; rintro e w4 ⟨rfl, hb4⟩
    rw [hgm] at hb4
    have B4 := hide hb4; clear hb4
    go_wp2_with fail
    go_ret2
    exact ⟨rfl, B4.out⟩
  | true =>
    rw [hg] at HG
    cases hp : placeB x y with
    | false =>
      have hnv := HNV.out
      rw [bestV_no (by rw [hg, hp]; rfl)] at hnv
      subst hnv
      rw [hp] at HPL
      clear hg hp
      go_wp2_with fail
      refine HG.out.mono ?_; rintro e w4 ⟨rfl, hb4⟩
      rw [hgm] at hb4
      have B4 := hide hb4; clear hb4
      go_wp2_with fail
      refine (HPL.out _).mono ?_; rintro e w5 ⟨rfl, rfl⟩
      go_wp2_with fail
      go_ret2
      exact ⟨rfl, B4.out⟩
    | true =>
      have hnv := HNV.out
      rw [bestV_yes (by rw [hg, hp]; rfl)] at hnv
      subst hnv
      have hlen := goodS_len hg
      obtain ⟨⟨x0, x1⟩, y0, y1⟩ := placeB_iff.1 hp
      rw [hp] at HPL
      clear hg hp
      go_wp2_with fail
      refine HG.out.mono ?_; rintro e w4 ⟨rfl, hb4⟩
      rw [hgm] at hb4
      have hsz4 : gm ≤ w4.heap.size := by have := hb4.size; omega
      have B4 := hide (hb4.alloc hsz4 (.cells #[.int .i64 0, .int .i64 0, .int .i64 0, .int .i64 0, .int .i64 0] 88))
      have K4 := hide (Blk.new w4 88 #[.int .i64 0, .int .i64 0, .int .i64 0, .int .i64 0, .int .i64 0])
      clear hb4 HG
      go_wp2_with fail
      refine (HPL.out _).mono ?_; rintro e w5 ⟨rfl, rfl⟩
      have hcc := fun (c : SSheet) (hc : c ∈ xs) W => showsPlace_any c.id c.row c.col c.scale c.year x y W (HFI.out c hc) ⟨by omega, by omega⟩ ⟨by omega, by omega⟩
      have HCC := hide hcc; clear hcc
      go_upto_region 4 with fail
      generalize hgg : w4.heap.size = g at *
      have HGG := hide hgg; clear hgg
      generalize w4.alloc (.cells #[.int .i64 0, .int .i64 0, .int .i64 0, .int .i64 0, .int .i64 0] 88) = w6 at *
      go_wp2_with fail
      go_loopw [22] (fun i wr => ∃ n : Nat, n ≤ xs.length ∧ i = .int .i64 (n : Int) ∧ Blk wr g 88 #[.int .i64 (bestTo xs x y n).id, .int .i64 (bestTo xs x y n).row, .int .i64 (bestTo xs x y n).col, .int .i64 (bestTo xs x y n).scale, .int .i64 (bestTo xs x y n).year] ∧ Below gm w wr) (fun i _ => xs.length - (intOf i).toNat)
      case atStart => exact ⟨0, Nat.zero_le _, rfl, K4.out, B4.out⟩
      case round =>
        clear K4 B4
        obtain ⟨n, hn, rfl, hblk, hbel⟩ := hrel
        have hszr : gm ≤ wr.heap.size := by have := hbel.size; omega
        have hgw : g < wr.heap.size := hblk.lt
        by_cases hlt : n < xs.length
        · have hlt' : (n : Int) < xs.length := by omega
          obtain ⟨b, off, rfl, hb, c0, c1, c2, c3, c4⟩ := SSheet.cells HR.out hlt hbel
          have hst := bestTo_succ (x := x) (y := y) hlt
          have hcall := HCC.out _ (List.getElem_mem hlt)
          generalize xs[n] = yy at *
          generalize bestTo xs x y n = bb at *
          have hs : bestS x y bb yy = if showB yy x y && (decide (bb.id = 0) || (decide (yy.scale < bb.scale) || (decide (yy.scale = bb.scale) && decide (bb.year < yy.year)))) then yy else bb := rfl
          rw [hs] at hst
          have hpn : showB ⟨yy.id, yy.row, yy.col, yy.scale, yy.year⟩ x y = showB yy x y := rfl
          rw [hpn] at hcall
          clear hs hpn
          generalize showB yy x y = rb at *
          have HST := hide hst; have HC := hide hcall; clear hst hcall
          have J1 := Blk.new wr 88 #[.int .i64 yy.id, .int .i64 yy.row, .int .i64 yy.col, .int .i64 yy.scale, .int .i64 yy.year]
          have J2 := hblk.alloc (.cells #[.int .i64 yy.id, .int .i64 yy.row, .int .i64 yy.col, .int .i64 yy.scale, .int .i64 yy.year] 88)
          have J3 := hbel.alloc hszr (.cells #[.int .i64 yy.id, .int .i64 yy.row, .int .i64 yy.col, .int .i64 yy.scale, .int .i64 yy.year] 88)
          have hs7 : (wr.alloc (.cells #[.int .i64 yy.id, .int .i64 yy.row, .int .i64 yy.col, .int .i64 yy.scale, .int .i64 yy.year] 88)).heap.size = wr.heap.size + 1 := by simp
          go_upto_region 7 with fail
          clear c0 c1 c2 c3 c4 hblk hbel
          generalize wr.alloc (.cells #[.int .i64 yy.id, .int .i64 yy.row, .int .i64 yy.col, .int .i64 yy.scale, .int .i64 yy.year] 88) = w7 at *
          generalize wr.heap.size = G7 at *
          obtain ⟨t0, t1, t2, t3, t4⟩ := mk5S J1
          have HJ1 := hide J1; have HJ2 := hide J2; have HJ3 := hide J3; clear J1 J2 J3
          go_wp2_with fail
          refine (HC.out _).mono ?_; rintro e w8 ⟨rfl, hb8⟩
          have K1 := HJ1.out.below hb8 (by omega); have K2 := HJ2.out.below hb8 (by omega); have K3 := HJ3.out.trans (hb8.mono (by omega))
          have hs8 := hb8.size
          clear t0 t1 t2 t3 t4 hb8 HJ1 HJ2 HJ3
          obtain ⟨t0, t1, t2, t3, t4⟩ := mk5S K1
          obtain ⟨d0, d1, d2, d3, d4⟩ := mk5S K2
          have df : ∀ o, w8.frozen? ⟨g, o, none⟩ = false := fun o => K2.frozen o
          have HK1 := hide K1; have HK2 := hide K2; have HK3 := hide K3; clear K1 K2 K3
          cases rb with
          | false =>
            go_wp2_with fail
            go_round
            case measure => (simp [intOf] <;> omega)
            case rel => exact ⟨n + 1, by omega, by go_num, by rw [HST.out, if_neg (by simp [])]; exact HK2.out, HK3.out⟩
          | true =>
            by_cases h1 : bb.id = 0
            · have e1 : (bb.id == 0) = true := by simp [h1]
              go_wp2_with fail
              go_round
              case measure => (simp [intOf] <;> omega)
              case rel => exact ⟨n + 1, by omega, by go_num, by rw [HST.out, if_pos (by simp [h1])]; exact set5S HK2.out _ _ _ _ _, below5S HK3.out (by have := HGG.out; omega) _ _ _ _ _⟩
            · have e1 : (bb.id == 0) = false := by simp [h1]
              by_cases h2 : yy.scale < bb.scale
              · go_wp2_with fail
                go_round
                case measure => (simp [intOf] <;> omega)
                case rel => exact ⟨n + 1, by omega, by go_num, by rw [HST.out, if_pos (by simp [h1, h2])]; exact set5S HK2.out _ _ _ _ _, below5S HK3.out (by have := HGG.out; omega) _ _ _ _ _⟩
              · by_cases h3 : yy.scale = bb.scale
                · have e3 : (yy.scale == bb.scale) = true := by simp [h3]
                  by_cases h4 : bb.year < yy.year
                  · go_wp2_with fail
                    go_round
                    case measure => (simp [intOf] <;> omega)
                    case rel => exact ⟨n + 1, by omega, by go_num, by rw [HST.out, if_pos (by simp [h1, h2, h3, h4])]; rw [h3]; exact set5S HK2.out _ _ _ _ _, below5S HK3.out (by have := HGG.out; omega) _ _ _ _ _⟩
                  · go_wp2_with fail
                    go_round
                    case measure => (simp [intOf] <;> omega)
                    case rel => exact ⟨n + 1, by omega, by go_num, by rw [HST.out, if_neg (by simp [h1, h2, h3, h4])]; exact HK2.out, HK3.out⟩
                · have e3 : (yy.scale == bb.scale) = false := by simp [h3]
                  go_wp2_with fail
                  go_round
                  case measure => (simp [intOf] <;> omega)
                  case rel => exact ⟨n + 1, by omega, by go_num, by rw [HST.out, if_neg (by simp [h1, h2, h3])]; exact HK2.out, HK3.out⟩
        · have hnn : n = xs.length := by omega
          subst hnn
          obtain ⟨d0, d1, d2, d3, d4⟩ := mk5S hblk
          have HBEL := hide hbel; clear hbel hblk
          generalize hbi : (bestTo xs x y xs.length).id = bi at *
          have HBI := hide hbi; clear hbi
          go_wp2_with fail
          go_region
          all_goals
            go_wp2_with fail
            go_ret2
            exact ⟨by first | rfl | (rw [HBI.out]; rfl) | rw [HBI.out], HBEL.out.drew⟩
set_option maxHeartbeats 4000000 in
theorem BestSheetS_is (v : Value) (xs : List SSheet) (x y : Int) (w : World) (h : Is 5 SSheet.enc w v xs) (hf : ∀ z ∈ xs, z.Fit) :
    Calls Tryd.prog 26 #[v, .int .i64 x, .int .i64 y] w fun e w' => e = .returned (.tuple #[.int .i64 (bestV xs x y).1, .bool (bestV xs x y).2]) ∧ Below w.heap.size w w' := by
  obtain ⟨nv, hnv⟩ : ∃ nv, nv = bestV xs x y := ⟨_, rfl⟩
  rw [← hnv]
  have HNV := hide hnv; clear hnv
  have HI := hide h
  have hgc := fun W hi => l2Sheets_is v xs W hi
  have hpl := fun W => l4Place_any x y W
  have HFI := hide hf
  obtain ⟨A, cap, rfl, hr, _, _⟩ := h
  generalize hgm : w.heap.size = gm at *
  have HGM := hide hgm
  have HR := hide hr
  clear hf hr
  go_enter Tryd.func26, Tryd.ntmps26
  have HG := hide (hgc w HI.out)
  have HPL := hide hpl
  clear hgc hpl
  cases hg : goodS xs with
  | false =>
    have hnv := HNV.out
    rw [bestV_no (by rw [hg]; rfl)] at hnv
    subst hnv
    rw [hg] at HG
    clear hg
    go_wp2_with fail
    refine HG.out.mono ?_; rintro e w4 ⟨rfl, hb4⟩
    rw [hgm] at hb4
    have B4 := hide hb4; clear hb4
    go_wp2_with fail
    go_ret2
    exact ⟨rfl, B4.out⟩
  | true =>
    rw [hg] at HG
    cases hp : placeB x y with
    | false =>
      have hnv := HNV.out
      rw [bestV_no (by rw [hg, hp]; rfl)] at hnv
      subst hnv
      rw [hp] at HPL
      clear hg hp
      go_wp2_with fail
      refine HG.out.mono ?_; rintro e w4 ⟨rfl, hb4⟩
      rw [hgm] at hb4
      have B4 := hide hb4; clear hb4
      go_wp2_with fail
      refine (HPL.out _).mono ?_; rintro e w5 ⟨rfl, rfl⟩
      go_wp2_with fail
      go_ret2
      exact ⟨rfl, B4.out⟩
    | true =>
      have hnv := HNV.out
      rw [bestV_yes (by rw [hg, hp]; rfl)] at hnv
      subst hnv
      have hlen := goodS_len hg
      obtain ⟨⟨x0, x1⟩, y0, y1⟩ := placeB_iff.1 hp
      rw [hp] at HPL
      clear hg hp
      go_wp2_with fail
      refine HG.out.mono ?_; rintro e w4 ⟨rfl, hb4⟩
      rw [hgm] at hb4
      have hsz4 : gm ≤ w4.heap.size := by have := hb4.size; omega
      have B4 := hide (hb4.alloc hsz4 (.cells #[.int .i64 0, .int .i64 0, .int .i64 0, .int .i64 0, .int .i64 0] 88))
      have K4 := hide (Blk.new w4 88 #[.int .i64 0, .int .i64 0, .int .i64 0, .int .i64 0, .int .i64 0])
      clear hb4 HG
      go_wp2_with fail
      refine (HPL.out _).mono ?_; rintro e w5 ⟨rfl, rfl⟩
      have hcc := fun (c : SSheet) (hc : c ∈ xs) W => l4Shows_any c.id c.row c.col c.scale c.year x y W (HFI.out c hc) ⟨by omega, by omega⟩ ⟨by omega, by omega⟩
      have HCC := hide hcc; clear hcc
      go_upto_region 4 with fail
      generalize hgg : w4.heap.size = g at *
      have HGG := hide hgg; clear hgg
      generalize w4.alloc (.cells #[.int .i64 0, .int .i64 0, .int .i64 0, .int .i64 0, .int .i64 0] 88) = w6 at *
      go_wp2_with fail
      go_loopw [9] (fun i wr => ∃ n : Nat, n ≤ xs.length ∧ i = .int .i64 (n : Int) ∧ Blk wr g 88 #[.int .i64 (bestTo xs x y n).id, .int .i64 (bestTo xs x y n).row, .int .i64 (bestTo xs x y n).col, .int .i64 (bestTo xs x y n).scale, .int .i64 (bestTo xs x y n).year] ∧ Below gm w wr) (fun i _ => xs.length - (intOf i).toNat)
      case atStart => exact ⟨0, Nat.zero_le _, rfl, K4.out, B4.out⟩
      case round =>
        clear K4 B4
        obtain ⟨n, hn, rfl, hblk, hbel⟩ := hrel
        have hszr : gm ≤ wr.heap.size := by have := hbel.size; omega
        have hgw : g < wr.heap.size := hblk.lt
        by_cases hlt : n < xs.length
        · have hlt' : (n : Int) < xs.length := by omega
          obtain ⟨b, off, rfl, hb, c0, c1, c2, c3, c4⟩ := SSheet.cells HR.out hlt hbel
          have hst := bestTo_succ (x := x) (y := y) hlt
          have hcall := HCC.out _ (List.getElem_mem hlt)
          generalize xs[n] = yy at *
          generalize bestTo xs x y n = bb at *
          have hs : bestS x y bb yy = if showB yy x y && (decide (bb.id = 0) || (decide (yy.scale < bb.scale) || (decide (yy.scale = bb.scale) && decide (bb.year < yy.year)))) then yy else bb := rfl
          rw [hs] at hst
          have hpn : showB ⟨yy.id, yy.row, yy.col, yy.scale, yy.year⟩ x y = showB yy x y := rfl
          rw [hpn] at hcall
          clear hs hpn
          generalize showB yy x y = rb at *
          have HST := hide hst; have HC := hide hcall; clear hst hcall
          have J1 := Blk.new wr 88 #[.int .i64 yy.id, .int .i64 yy.row, .int .i64 yy.col, .int .i64 yy.scale, .int .i64 yy.year]
          have J2 := hblk.alloc (.cells #[.int .i64 yy.id, .int .i64 yy.row, .int .i64 yy.col, .int .i64 yy.scale, .int .i64 yy.year] 88)
          have J3 := hbel.alloc hszr (.cells #[.int .i64 yy.id, .int .i64 yy.row, .int .i64 yy.col, .int .i64 yy.scale, .int .i64 yy.year] 88)
          have hs7 : (wr.alloc (.cells #[.int .i64 yy.id, .int .i64 yy.row, .int .i64 yy.col, .int .i64 yy.scale, .int .i64 yy.year] 88)).heap.size = wr.heap.size + 1 := by simp
          go_upto_region 8 with fail
          clear c0 c1 c2 c3 c4 hblk hbel
          generalize wr.alloc (.cells #[.int .i64 yy.id, .int .i64 yy.row, .int .i64 yy.col, .int .i64 yy.scale, .int .i64 yy.year] 88) = w7 at *
          generalize wr.heap.size = G7 at *
          obtain ⟨t0, t1, t2, t3, t4⟩ := mk5S J1
          have HJ1 := hide J1; have HJ2 := hide J2; have HJ3 := hide J3; clear J1 J2 J3
          go_wp2_with fail
          refine (HC.out _).mono ?_; rintro e w8 ⟨rfl, hb8⟩
          have K1 := HJ1.out.below hb8 (by omega); have K2 := HJ2.out.below hb8 (by omega); have K3 := HJ3.out.trans (hb8.mono (by omega))
          have hs8 := hb8.size
          clear t0 t1 t2 t3 t4 hb8 HJ1 HJ2 HJ3
          obtain ⟨t0, t1, t2, t3, t4⟩ := mk5S K1
          obtain ⟨d0, d1, d2, d3, d4⟩ := mk5S K2
          have df : ∀ o, w8.frozen? ⟨g, o, none⟩ = false := fun o => K2.frozen o
          have HK1 := hide K1; have HK2 := hide K2; have HK3 := hide K3; clear K1 K2 K3
          cases rb with
          | false =>
            go_wp2_with fail
            go_round
            case measure => (simp [intOf] <;> omega)
            case rel => exact ⟨n + 1, by omega, by go_num, by rw [HST.out, if_neg (by simp [])]; exact HK2.out, HK3.out⟩
          | true =>
            by_cases h1 : bb.id = 0
            · have e1 : (bb.id == 0) = true := by simp [h1]
              go_wp2_with fail
              go_round
              case measure => (simp [intOf] <;> omega)
              case rel => exact ⟨n + 1, by omega, by go_num, by rw [HST.out, if_pos (by simp [h1])]; exact set5S HK2.out _ _ _ _ _, below5S HK3.out (by have := HGG.out; omega) _ _ _ _ _⟩
            · have e1 : (bb.id == 0) = false := by simp [h1]
              by_cases h2 : yy.scale < bb.scale
              · go_wp2_with fail
                go_round
                case measure => (simp [intOf] <;> omega)
                case rel => exact ⟨n + 1, by omega, by go_num, by rw [HST.out, if_pos (by simp [h1, h2])]; exact set5S HK2.out _ _ _ _ _, below5S HK3.out (by have := HGG.out; omega) _ _ _ _ _⟩
              · by_cases h3 : yy.scale = bb.scale
                · have e3 : (yy.scale == bb.scale) = true := by simp [h3]
                  by_cases h4 : bb.year < yy.year
                  · go_wp2_with fail
                    go_round
                    case measure => (simp [intOf] <;> omega)
                    case rel => exact ⟨n + 1, by omega, by go_num, by rw [HST.out, if_pos (by simp [h1, h2, h3, h4])]; rw [h3]; exact set5S HK2.out _ _ _ _ _, below5S HK3.out (by have := HGG.out; omega) _ _ _ _ _⟩
                  · go_wp2_with fail
                    go_round
                    case measure => (simp [intOf] <;> omega)
                    case rel => exact ⟨n + 1, by omega, by go_num, by rw [HST.out, if_neg (by simp [h1, h2, h3, h4])]; exact HK2.out, HK3.out⟩
                · have e3 : (yy.scale == bb.scale) = false := by simp [h3]
                  go_wp2_with fail
                  go_round
                  case measure => (simp [intOf] <;> omega)
                  case rel => exact ⟨n + 1, by omega, by go_num, by rw [HST.out, if_neg (by simp [h1, h2, h3])]; exact HK2.out, HK3.out⟩
        · have hnn : n = xs.length := by omega
          subst hnn
          obtain ⟨d0, d1, d2, d3, d4⟩ := mk5S hblk
          have HBEL := hide hbel; clear hbel hblk
          generalize hbi : (bestTo xs x y xs.length).id = bi at *
          have HBI := hide hbi; clear hbi
          go_wp2_with fail
          go_region
          all_goals
            go_wp2_with fail
            go_ret2
            exact ⟨by first | rfl | (rw [HBI.out]; rfl) | rw [HBI.out], HBEL.out.drew⟩
end Go.Proofs.YtplemibckjnbhaaDoor
