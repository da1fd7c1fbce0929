/- Contract of MissingSheets in spec: the Lean function missV. No condition. -/
import Derived.Test.YtplemibckjnbhaaGreatDoorL2Z
import Derived.Test.YtplemibckjnbhaaGreatDoorL2D
namespace Go.Proofs.YtplemibckjnbhaaGreatDoor
open Go.RowKit
set_option linter.unusedVariables false
def SPair.enc (c : SPair) : Nat → Value := fun j => match j with | 0 => .int .i64 c.x | _ => .int .i64 c.y
theorem SPair.one : ∀ (c : SPair) (j : Nat), (c.enc j).oneCell' = true := fun c j => by cases j <;> rfl
theorem own_noP (w : World) {B : Nat} (hB : B ≤ w.heap.size) : Own 2 SPair.enc 66 (w.alloc (.cells #[] 66)) B (.slice (some ⟨w.heap.size, 0, none⟩) 0 0) ([] : List SPair) :=
  Own.made (cs := #[]) rfl hB (Blk.new _ _ _) rfl (Nat.zero_le _) Filled.zero
theorem missV_no {xs : List SSheet} {sc : Int} (h : ¬ (goodS xs = true ∧ ofSc xs sc ≠ [] ∧ (cellsM xs sc).length ≤ 400)) : missV xs sc = ([], false) := if_neg h
theorem missV_yes {xs : List SSheet} {sc : Int} (h1 : goodS xs = true) (h2 : ofSc xs sc ≠ []) (h3 : (cellsM xs sc).length ≤ 400) : missV xs sc = (cellsM xs sc, true) := if_pos ⟨h1, h2, h3⟩
theorem ofSc_scale {xs : List SSheet} (hg : goodS xs = true) {sc : Int} (h : inB sc 10 500 = false) : ofSc xs sc = [] := by
  unfold ofSc
  rw [List.filter_eq_nil_iff]
  intro s hs hd
  rw [decide_eq_true_iff] at hd
  obtain ⟨i, hi, he⟩ := List.getElem_of_mem hs
  have h1 := (goodS_ok hg hi).1
  rw [SSheet.at_lt hi] at h1
  have h2 : s.okB = true := by rw [← he]; exact h1
  have h3 := SSheet.okB_iff.1 h2
  have h4 : inB sc 10 500 = true := inB_iff.2 ⟨by omega, by omega⟩
  rw [h] at h4; cases h4
theorem bnd_nat {a b : Int} (h : a ≤ b) : (((b - a + 1).toNat : Nat) : Int) = b - a + 1 := Int.toNat_of_nonneg (by omega)
set_option maxHeartbeats 4000000 in
theorem MissingS_is (v : Value) (xs : List SSheet) (sc : Int) (w : World) (h : Is 5 SSheet.enc w v xs) :
    Calls Tryz.prog 39 #[v, .int .i64 sc] w fun e w' => ∃ r, e = .returned (.tuple #[r, .bool (missV xs sc).2]) ∧ Own 2 SPair.enc 66 w' w.heap.size r (missV xs sc).1 ∧ Below w.heap.size w w' := by
  obtain ⟨nv, hnv⟩ : ∃ nv, nv = missV xs sc := ⟨_, rfl⟩
  rw [← hnv]
  have HNV := hide hnv; clear hnv
  have B1 := below_alloc w (.cells #[] 66)
  have HI := hide (h.below B1 (Nat.le_refl _))
  have HE := hide (own_noP w (Nat.le_refl w.heap.size))
  have HB1 := hide B1
  have hgc := fun W hi => l2Sheets_is v xs W hi
  have HIS := hide h
  obtain ⟨A, cap, rfl, hr, _, _⟩ := h
  have HR := hide hr
  clear B1 hr
  go_enter Tryz.func39, Tryz.ntmps39
  go_upto_region 2 with fail
  generalize hgm : w.heap.size = gm at *
  have HGM := hide hgm
  generalize w.alloc (.cells #[] 66) = w1 at *
  have hs1 : gm ≤ w1.heap.size := by have := HB1.out.size; omega
  have HG := hide (hgc w1 HI.out)
  clear hgc
  cases hg : goodS xs with
  | false =>
    have hnv := HNV.out
    rw [missV_no (by rw [hg]; simp)] at hnv
    subst hnv
    rw [hg] at HG
    clear hg
    go_wp2_with fail
    refine HG.out.mono ?_; rintro e w4 ⟨rfl, hb4⟩
    have B4 := hide (HB1.out.trans (hb4.mono hs1)); have HE4 := hide (HE.out.below hb4); clear hb4
    go_wp2_with fail
    go_ret2
    exact ⟨_, rfl, by first | exact HE4.out | (rw [hgm]; exact HE4.out), by first | exact B4.out | (rw [hgm]; exact B4.out)⟩
  | true =>
    have HSC := hide (fun W => l2Scale_any sc W)
    cases hsc : inB sc 10 500 with
    | false =>
      have hnv := HNV.out
      rw [missV_no (by rw [ofSc_scale hg hsc]; simp)] at hnv
      subst hnv
      rw [hg] at HG; rw [hsc] at HSC
      clear hg hsc
      go_wp2_with fail
      refine HG.out.mono ?_; rintro e w4 ⟨rfl, hb4⟩
      have B4 := hide (HB1.out.trans (hb4.mono hs1)); have HE4 := hide (HE.out.below hb4); clear hb4
      go_wp2_with fail
      refine (HSC.out _).mono ?_; rintro e w5 ⟨rfl, rfl⟩
      go_wp2_with fail
      go_ret2
      exact ⟨_, rfl, by first | exact HE4.out | (rw [hgm]; exact HE4.out), by first | exact B4.out | (rw [hgm]; exact B4.out)⟩
    | true =>
      have hlen := goodS_len hg
      have hno := fun h => (HNV.out).trans (missV_no (xs := xs) (sc := sc) h)
      have hyes := fun h2 h3 => (HNV.out).trans (missV_yes (xs := xs) (sc := sc) hg h2 h3)
      have hbd := fun s hs => ofSc_bd hg sc s hs
      have hcnt := fun hne => cells_count hg (sc := sc) hne
      have hle := fun hne => bnd_le hg (sc := sc) hne
      rw [hg] at HG; rw [hsc] at HSC
      have HNO := hide hno; have HYES := hide hyes; have HBD := hide (bnd_of _ (ofSc_bd hg sc)); have HCNT := hide hcnt; have HLE := hide hle
      clear hno hyes hbd hcnt hle hg hsc HNV
      go_wp2_with fail
      refine HG.out.mono ?_; rintro e w4 ⟨rfl, hb4⟩
      have B4 := hide (HB1.out.trans (hb4.mono hs1)); have HE4 := hide (HE.out.below hb4); clear hb4
      go_wp2_with fail
      refine (HSC.out _).mono ?_; rintro e w5 ⟨rfl, rfl⟩
      clear HSC HG HE HB1 HI
      go_wp2_with fail
      go_loopw [7, 8, 9, 10, 11, 12] (fun n l hh f r i wr => ∃ (k : Nat) (b : Int × Int × Int × Int), k ≤ xs.length ∧ i = .int .i64 (k : Int) ∧ Hid (b = bnd (ofSc (xs.take k) sc)) ∧ n = .int .i64 ((ofSc (xs.take k) sc).length : Int) ∧ l = .int .i64 b.1 ∧ hh = .int .i64 b.2.1 ∧ f = .int .i64 b.2.2.1 ∧ r = .int .i64 b.2.2.2 ∧ Below gm w wr ∧ Own 2 SPair.enc 66 wr gm (.slice (some ⟨gm, 0, none⟩) 0 0) ([] : List SPair)) (fun _ _ _ _ _ i _ => xs.length - (intOf i).toNat)
      case atStart => exact ⟨0, (99, 0, 99, 0), Nat.zero_le _, rfl, rfl, rfl, rfl, rfl, rfl, rfl, B4.out, HE4.out⟩
      case round =>
        clear B4 HE4
        obtain ⟨k, ⟨a, b, c, d⟩, hk, rfl, hbb, rfl, rfl, rfl, rfl, rfl, hbel, hown⟩ := hrel
        have HOW := hide hown; clear hown
        have hszr : gm ≤ wr.heap.size := by have := hbel.size; omega
        by_cases hlt : k < xs.length
        · have hlt' : (k : Int) < xs.length := by omega
          have hos := ofSc_succ (sc := sc) hlt
          have hnl : (ofSc (xs.take k) sc).length ≤ 12 := by
            have h1 : (ofSc (xs.take k) sc).length ≤ (xs.take k).length := List.length_filter_le _ _
            rw [List.length_take] at h1; omega
          obtain ⟨b8, off, rfl, hb, c0, c1, c2, c3, c4⟩ := SSheet.cells HR.out hlt hbel
          generalize xs[k] = yy at *
          have J1 := Blk.new wr 50 #[.int .i64 yy.id, .int .i64 yy.row, .int .i64 yy.col, .int .i64 yy.scale, .int .i64 yy.year]
          have J3 := hbel.alloc hszr (.cells #[.int .i64 yy.id, .int .i64 yy.row, .int .i64 yy.col, .int .i64 yy.scale, .int .i64 yy.year] 50)
          have J4 := HOW.out.below (below_alloc wr (.cells #[.int .i64 yy.id, .int .i64 yy.row, .int .i64 yy.col, .int .i64 yy.scale, .int .i64 yy.year] 50))
          go_upto_region 9 with fail
          clear c0 c1 c2 c3 c4 hbel
          generalize wr.alloc (.cells #[.int .i64 yy.id, .int .i64 yy.row, .int .i64 yy.col, .int .i64 yy.scale, .int .i64 yy.year] 50) = w7 at *
          generalize wr.heap.size = G7 at *
          obtain ⟨t0, t1, t2, t3, t4⟩ := mk5S J1
          have HJ3 := hide J3; have HJ4 := hide J4; clear J1 J3 J4 HOW
          by_cases hs : yy.scale = sc
          · have e1 : (yy.scale == sc) = true := by simp [hs]
            rw [if_pos hs] at hos
            have hb2 := bnd_snoc (ofSc (xs.take k) sc) yy
            rw [← hos, ← hbb.out] at hb2
            have hl2 : ((ofSc (xs.take (k + 1)) sc).length : Int) = ((ofSc (xs.take k) sc).length : Int) + 1 := by rw [hos]; simp
            have hnn : 0 ≤ ((ofSc (xs.take k) sc).length : Int) ∧ ((ofSc (xs.take k) sc).length : Int) ≤ 12 := by omega
            generalize ((ofSc (xs.take k) sc).length : Int) = nn at *
            obtain ⟨hn0, hn1⟩ := hnn
            have HL2 := hide hl2; have HB2 := hide hb2; clear hos hl2 hb2
            go_wp2_with (first | (go_at_call 91; refine (l1Least_any _ _ _).mono ?_; rintro e w' ⟨rfl, rfl⟩) | (go_at_call 92; refine (l1Most_any _ _ _).mono ?_; rintro e w' ⟨rfl, rfl⟩))
            go_round
            case measure => (simp [intOf] <;> omega)
            case rel => exact ⟨k + 1, bst (a, b, c, d) yy, by omega, by go_num, HB2.out.symm, by rw [HL2.out], rfl, rfl, rfl, rfl, HJ3.out, HJ4.out⟩
          · have e1 : (yy.scale == sc) = false := by simp [hs]
            rw [if_neg hs, List.append_nil] at hos
            have hb2 := hbb.out
            rw [← hos] at hb2
            have hl2 : ((ofSc (xs.take (k + 1)) sc).length : Int) = ((ofSc (xs.take k) sc).length : Int) := by rw [hos]
            generalize ((ofSc (xs.take k) sc).length : Int) = nn at *
            have HL2 := hide hl2; have HB2 := hide hb2; clear hos hl2 hb2
            go_wp2_with fail
            go_round
            case measure => (simp [intOf] <;> omega)
            case rel => exact ⟨k + 1, (a, b, c, d), by omega, by go_num, HB2.out, by rw [HL2.out], rfl, rfl, rfl, rfl, HJ3.out, HJ4.out⟩
        · have hke : k = xs.length := by omega
          subst hke
          have hb2 := hbb.out
          rw [List.take_length] at hb2
          simp only [List.take_length]
          have hbd := HBD.out; have hcnt := HCNT.out; have hle := HLE.out
          have hcm : cellsM xs sc = boxP (noneAt xs sc) (bnd (ofSc xs sc)).1 (bnd (ofSc xs sc)).2.2.1 ((bnd (ofSc xs sc)).2.2.2 - (bnd (ofSc xs sc)).2.2.1 + 1).toNat ((bnd (ofSc xs sc)).2.1 - (bnd (ofSc xs sc)).1 + 1).toNat := rfl
          rw [← hb2] at hbd hcnt hle hcm
          simp only at hbd hcnt hle hcm
          obtain ⟨_, ⟨⟨a0, a1⟩, b0, b1⟩, ⟨⟨c0, c1⟩, d0, d1⟩, _⟩ := hbd
          clear hb2 hbb HBD HCNT HLE
          by_cases hne : ofSc xs sc = []
          · have hx := HNO.out (by rintro ⟨_, h, _⟩; exact h hne)
            subst hx
            rw [hne]
            clear hcnt hle hcm hne
            simp only [List.length_nil]
            go_wp2_with fail
            go_ret2
            exact ⟨_, rfl, by first | exact HOW.out | (rw [HGM.out]; exact HOW.out), by first | exact hbel | (rw [HGM.out]; exact hbel)⟩
          · have hcnt2 := hcnt hne
            obtain ⟨ab, cd⟩ := hle hne
            have hn1 : 1 ≤ (ofSc xs sc).length := List.length_pos_iff.2 hne
            have hn2 : (ofSc xs sc).length ≤ 12 := by
              have h1 : (ofSc xs sc).length ≤ xs.length := List.length_filter_le _ _
              omega
            have hn3 : 1 ≤ ((ofSc xs sc).length : Int) := by omega
            have hn4 : ((ofSc xs sc).length : Int) ≤ 12 := by omega
            have hn0 : (((ofSc xs sc).length : Int) == 0) = false := by simp only [beq_eq_false_iff_ne, ne_eq]; omega
            have p1 := Int.mul_le_mul (show b - a + 1 ≤ 100 by omega) (show d - c + 1 ≤ 100 by omega) (by omega) (by omega)
            have p0 := Int.mul_nonneg (show 0 ≤ b - a + 1 by omega) (show 0 ≤ d - c + 1 by omega)
            have hno := fun h => HNO.out h; have hyes := fun h => HYES.out hne h
            have nr := bnd_nat ab; have nc' := bnd_nat cd
            clear hcnt hle HNO HYES
            generalize ((ofSc xs sc).length : Int) = nn at *
            by_cases hc4 : (cellsM xs sc).length ≤ 400
            · have hx := hyes hc4
              rw [hcm] at hx hc4
              have q4 : ¬ 400 < (b - a + 1) * (d - c + 1) - nn := by rw [hcnt2, hcm]; omega
              have HX := hide hx
              have HC4 := hide hc4
              clear hno hyes hcnt2 hcm hx hc4 hne
              generalize (b - a + 1).toNat = nrow at *
              generalize (d - c + 1).toNat = nc at *
              generalize hgg : noneAt xs sc = g at *
              have HGG := hide hgg; clear hgg
              go_wp2_with fail
              go_loopw [6, 14] (fun o t wr => ∃ i : Nat, i ≤ nrow ∧ t = .int .i64 (a + (i : Int)) ∧ Own 2 SPair.enc 66 wr gm o (boxP g a c nc i) ∧ Below gm w wr) (fun _ t _ => (b + 1 - intOf t).toNat)
              case atStart => exact ⟨0, Nat.zero_le _, by simp, HOW.out, hbel⟩
              case round =>
                clear HOW hbel
                obtain ⟨i, hi, rfl, hown, hbel⟩ := hrel
                have HOI := hide hown; have HBI := hide hbel; clear hown hbel
                by_cases hlti : i < nrow
                · have hlti' : a + (i : Int) ≤ b := by omega
                  go_wp2_with fail
                  go_loopw [6, 15] (fun o t wr => ∃ j : Nat, j ≤ nc ∧ t = .int .i64 (c + (j : Int)) ∧ Own 2 SPair.enc 66 wr gm o (boxP g a c nc i ++ rowP g (a + i) c j) ∧ Below gm w wr) (fun _ t _ => (d + 1 - intOf t).toNat)
                  case atStart => exact ⟨0, Nat.zero_le _, by simp, by simpa [rowP] using HOI.out, HBI.out⟩
                  case round =>
                    clear HOI HBI
                    obtain ⟨j, hj, rfl, hown, hbel⟩ := hrel
                    have HOJ := hide hown; clear hown
                    have hszj : gm ≤ wr.heap.size := by have := hbel.size; omega
                    by_cases hltj : j < nc
                    · have hltj' : c + (j : Int) ≤ d := by omega
                      have hat := l2At_any (.slice A xs.length cap) xs (a + (i : Int)) (c + (j : Int)) sc wr (HIS.out.below (by rw [HGM.out]; exact hbel) (Nat.le_refl _))
                      have hgv : g (a + (i : Int)) (c + (j : Int)) = decide (atV xs (a + (i : Int)) (c + (j : Int)) sc < 0) := by rw [← HGG.out]; rfl
                      have hbl : (boxP g a c nc i ++ rowP g (a + i) c j).length ≤ 16777216 := by
                        have h1 := boxP_le g a c nc i
                        have h2 := rowP_le g (a + i) c j
                        have h3 : i * nc ≤ 100 * 100 := Nat.mul_le_mul (by omega) (by omega)
                        rw [List.length_append]; omega
                      have hrs : rowP g (a + i) c (j + 1) = rowP g (a + i) c j ++ if g (a + i) (c + j) then [⟨a + i, c + j⟩] else [] := rfl
                      generalize atV xs (a + (i : Int)) (c + (j : Int)) sc = at_ at *
                      by_cases hneg : at_ < 0
                      · rw [decide_eq_true hneg] at hgv
                        rw [hgv] at hrs
                        simp only [if_true] at hrs
                        have HRS := hide hrs; have HAT := hide hat; clear hrs hat hgv
                        go_wp2_with fail
                        refine HAT.out.mono ?_; rintro e w8 ⟨rfl, rfl⟩
                        go_wp2_with (at_builtin; refine wpList_push1 (k := 2) (enc := SPair.enc) _ rfl _ _ 62 rfl 66 (.agg #[.int .i64 0, .int .i64 0]) 16 Tryz.underlying62 (by kernel_rfl) rfl (by omega) (by omega) SPair.one gm _ (boxP g a c nc i ++ rowP g (a + i) c j) rfl (HOJ.out) ⟨a + i, c + j⟩ _ rfl rfl (hbl) (hszj) (hbel) (Nat.le_refl _) rfl ?_; intro v1 w9 ho1 hb1 hg1)
                        go_round
                        case measure => (simp [intOf] <;> omega)
                        case rel => exact ⟨j + 1, by omega, by go_num, by rw [HRS.out, ← List.append_assoc]; exact ho1, hb1⟩
                      · rw [decide_eq_false hneg] at hgv
                        rw [hgv] at hrs
                        simp only [Bool.false_eq_true, if_false, List.append_nil] at hrs
                        have HRS := hide hrs; have HAT := hide hat; clear hrs hat hgv
                        go_wp2_with fail
                        refine HAT.out.mono ?_; rintro e w8 ⟨rfl, rfl⟩
                        go_wp2_with fail
                        go_round
                        case measure => (simp [intOf] <;> omega)
                        case rel => exact ⟨j + 1, by omega, by go_num, by rw [HRS.out]; exact HOJ.out, hbel⟩
                    · have hje : j = nc := by omega
                      subst hje
                      go_wp2_with fail
                      go_round
                      case measure => (simp [intOf] <;> omega)
                      case rel => exact ⟨i + 1, by omega, by go_num, HOJ.out, hbel⟩
                · have hie : i = nrow := by omega
                  subst hie
                  obtain ⟨A7, c7, he7, _, _, _⟩ := HOI.out.is
                  subst he7
                  go_wp2_with fail
                  go_ret2
                  exact ⟨_, by rw [HX.out]; rfl, by rw [HX.out]; first | exact HOI.out | (rw [HGM.out]; exact HOI.out), by first | exact HBI.out | (rw [HGM.out]; exact HBI.out)⟩
            · have hx := hno (by rintro ⟨_, _, h⟩; exact hc4 h)
              have q4 : 400 < (b - a + 1) * (d - c + 1) - nn := by rw [hcnt2]; omega
              subst hx
              clear hno hyes hcnt2 hcm hc4 hne nr nc'
              go_wp2_with fail
              go_ret2
              exact ⟨_, rfl, by first | exact HOW.out | (rw [HGM.out]; exact HOW.out), by first | exact hbel | (rw [HGM.out]; exact hbel)⟩
end Go.Proofs.YtplemibckjnbhaaGreatDoor
