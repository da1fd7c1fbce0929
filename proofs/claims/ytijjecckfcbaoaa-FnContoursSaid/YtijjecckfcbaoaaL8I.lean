/- Contract of spec's l8Reach: rounds of steps from one mark; 1000000 stands for none. Condition: claims for n marks. (Printed by mkreach.py.) -/
import Derived.Test.YtijjecckfcbaoaaL8H
namespace Go.Proofs.Ytijjecckfcbaoaa
open Go.RowKit
set_option linter.unusedVariables false
def FsOf (n : Nat) (s : Nat → Option Int) : List Int := (List.range n).map fun v => (s v).getD 1000000
theorem FsOf_len (n : Nat) (s : Nat → Option Int) : (FsOf n s).length = n := by simp [FsOf]
theorem FsOf_get {n : Nat} {s : Nat → Option Int} {v : Nat} (h : v < (FsOf n s).length) : (FsOf n s)[v] = (s v).getD 1000000 := by simp [FsOf]
theorem FsOf_relax {n : Nat} {s : Nat → Option Int} {e : Step} {a x : Int} (hf : fires s e = true) (ha : s e.1 = some a) (hx : x = a + e.2.2) : (FsOf n s).set e.2.1 x = FsOf n (relax s e) := by
  subst hx
  unfold FsOf
  rw [map_set_range]
  apply List.map_congr_left
  intro v _
  unfold relax
  rw [hf]
  simp only [if_true]
  split
  · rw [ha]; rfl
  · rfl
def FarM (w : World) (base g c n : Nat) (s : Nat → Option Int) : Prop := Own 1 encI 3 w base (.slice (some ⟨g, 0, none⟩) n c) (FsOf n s)
section
variable {w w' : World} {base g c n : Nat} {s : Nat → Option Int}
theorem FarM.below (h : FarM w base g c n s) (hb : Below w.heap.size w w') : FarM w' base g c n s := Own.below h hb
theorem FarM.cells (h : FarM w base g c n s) {v : Nat} (hv : v < n) : (base ≤ g ∧ g < w.heap.size) ∧ w.cell? ⟨g, v, none⟩ = some (.int .i64 ((s v).getD 1000000)) ∧ (∀ o, w.frozen? ⟨g, o, none⟩ = false) := by
  obtain ⟨h1, h2, h3, h4⟩ := Own.cell8 h (j := v) (by rw [FsOf_len]; exact hv)
  rw [FsOf_get] at h3
  exact ⟨⟨h1, h2⟩, h3, h4⟩
theorem FarM.relax (h : FarM w base g c n s) {e : Step} {a x : Int} (h0 : e.2.1 < n) (hf : fires s e = true) (ha : s e.1 = some a) (hx : x = a + e.2.2) : FarM (w.setCell ⟨g, e.2.1, none⟩ (.int .i64 x)) base g c n (relax s e) := by
  have h1 := Own.setElem8 h (j := e.2.1) (by rw [FsOf_len]; exact h0) x rfl
  rw [FsOf_relax hf ha hx] at h1
  exact h1
end
theorem l8Far_any (w : World) : Calls Try.prog 88 #[] w fun e w' => e = .returned (.int .i64 1000000) ∧ w = w' := by
  go_enter Try.func88, Try.ntmps88
  go_wp2
  go_ret
  exact ⟨rfl, rfl⟩
def CBox (w : World) (g : Nat) (lo hi le mo : Int) : Prop := Blk w g 23 #[.int .i64 lo, .int .i64 hi, .int .i64 le, .int .i64 mo]
theorem CBox.cells {w : World} {g : Nat} {lo hi le mo : Int} (h : CBox w g lo hi le mo) : g < w.heap.size ∧ w.cell? ⟨g, 0, none⟩ = some (.int .i64 lo) ∧ w.cell? ⟨g, 1, none⟩ = some (.int .i64 hi) ∧ w.cell? ⟨g, 2, none⟩ = some (.int .i64 le) ∧ w.cell? ⟨g, 3, none⟩ = some (.int .i64 mo) := by
  refine ⟨Blk.lt h, ?_, ?_, ?_, ?_⟩ <;> rw [Blk.cell h] <;> rfl
theorem FsOf_zero (n : Nat) (s : Nat → Option Int) : FsOf n s = (FsOf n s) := rfl
def fillF (n k : Nat) : List Int := (List.range n).map fun v => if v < k then 1000000 else 0
theorem fillF_set {n k : Nat} : (fillF n k).set k 1000000 = fillF n (k + 1) := by
  unfold fillF
  rw [map_set_range]
  apply List.map_congr_left
  intro v _
  by_cases h : v = k
  · subst h; simp
  · rw [if_neg h]
    by_cases h2 : v < k
    · rw [if_pos h2, if_pos (by omega)]
    · rw [if_neg h2, if_neg (by omega)]
theorem fillF_src {n k : Nat} : (fillF n n).set k 0 = FsOf n (source k) := by
  unfold fillF FsOf source
  rw [map_set_range]
  apply List.map_congr_left
  intro v hv
  rw [List.mem_range] at hv
  by_cases h : v = k
  · subst h; simp
  · simp [h, hv]
theorem own_zeros8 (w : World) {B : Nat} (hB : B ≤ w.heap.size) (n : Nat) (hn : n ≤ maxLen) : Own 1 encI 3 (w.alloc (.cells (madeCells #[.int .i64 0] n) 3)) B (.slice (some ⟨w.heap.size, 0, none⟩) n n) ((List.range n).map fun _ => (0 : Int)) := by
  refine Own.made (by simp) hB (Blk.new _ _ _) (by simp [size_madeCells]) (by simpa using hn) ?_
  intro j x hj hx c hc
  obtain rfl : c = 0 := by omega
  have hjn : j < n := by simpa using hj
  have hx0 : x = 0 := by
    simp [List.getElem?_range hjn] at hx
    exact hx.symm
  subst hx0
  rw [Nat.mul_one, Nat.add_zero]
  have := toList_madeCells_one (.int .i64 0) n
  have h2 : (madeCells #[(.int .i64 0 : Value)] n).toList[j]? = some (.int .i64 0) := by rw [this, List.getElem?_replicate, if_pos hjn]
  show _ = some (Value.int .i64 0)
  simpa using h2
set_option maxRecDepth 100000 in
set_option maxHeartbeats 8000000 in
theorem l8Reach_is (n : Nat) (v : Value) (xs : List SClaim) (src : Nat) (w : World) (h : Is 4 SClaim.enc w v xs) (hok : areB n xs = true) (hsrc : src < n) :
    Calls Try.prog 69 #[.int .i64 (n : Int), v, .int .i64 (src : Int)] w fun e w' => ∃ r, e = .returned (.tuple #[r, .bool (lowerF (stepsOf xs) (n + 1) (source src)).2]) ∧ Own 1 encI 3 w' w.heap.size r (FsOf n (lowerF (stepsOf xs) (n + 1) (source src)).1) ∧ Below w.heap.size w w' := by
  obtain ⟨A, cap, rfl, hr, _, _⟩ := h
  obtain ⟨hc1, ⟨hn1, hn10⟩, hx24⟩ := areB_iff.1 hok
  have hcl := fun i (hi : i < xs.length) => oneB_iff.1 (hc1 xs[i] (List.getElem_mem hi))
  have hmk := fun W => run_make_n (P := Try.prog) 42 3 _ 1 8 Try.underlying42 infoI n (by omega) (by omega) W
  have hmk1 := hmk w
  rw [show (madeCells (Value.cells (.int .i64 0)) (n * 1)) = madeCells #[.int .i64 0] n by rw [Nat.mul_one]; rfl] at hmk1
  have ho0 := own_zeros8 w (Nat.le_refl w.heap.size) n (by simp only [maxLen]; omega)
  rw [show ((List.range n).map fun _ => (0 : Int)) = fillF n 0 by unfold fillF; simp] at ho0
  have B0 := below_alloc w (.cells (madeCells #[.int .i64 0] n) 3)
  generalize hB : w.heap.size = B at *
  have HR := hide hr; have HCL := hide hcl; have HO0 := hide ho0; have HB := hide hB
  have hsrc' : (src : Int) < n := by omega
  clear hr hok hc1 hcl ho0 hmk
  have hfar := fun W => l8Far_any W
  have HFAR := hide hfar; clear hfar
  go_enter Try.func69, Try.ntmps69
  go_wp2_with fail
  generalize w.alloc (.cells (madeCells #[.int .i64 0] n) 3) = w0 at *
  clear hmk1
  go_loopw [9] (fun i wr => ∃ k : Nat, k ≤ n ∧ i = .int .i64 (k : Int) ∧ Own 1 encI 3 wr B (.slice (some ⟨B, 0, none⟩) n n) (fillF n k) ∧ Below B w wr) (fun i _ => n - (intOf i).toNat)
  case atStart => exact ⟨0, Nat.zero_le _, rfl, HO0.out, B0⟩
  case round =>
    clear HO0 B0
    obtain ⟨k, hk, rfl, hown, hbel⟩ := hrel
    by_cases hlk : k < n
    · have hlk' : (k : Int) < n := by omega
      obtain ⟨_, _, g0, hfz⟩ := hown.cell8 (j := k) (by simp [fillF]; exact hlk)
      have hst := hown.setElem8 (j := k) (by simp [fillF]; exact hlk) (1000000 : Int) rfl
      rw [fillF_set] at hst
      have HST := hide hst; clear hown hst
      obtain ⟨old, g0⟩ : ∃ u, wr.cell? ⟨B, k, none⟩ = some u := ⟨_, g0⟩
      go_wp2_with (go_at_call 88; refine (HFAR.out _).mono ?_; rintro e w' ⟨rfl, rfl⟩)
      go_round
      case measure => (simp [intOf] <;> omega)
      case rel => exact ⟨k + 1, by omega, by go_num, HST.out, hbel.setCell (p := ⟨B, k, none⟩) (Nat.le_refl _) _⟩
    · have hkn : k = n := by omega
      subst hkn
      obtain ⟨_, hgl, g0, hfz⟩ := hown.cell8 (j := src) (by simp [fillF]; exact hsrc)
      have hst := hown.setElem8 (j := src) (by simp [fillF]; exact hsrc) (0 : Int) rfl
      rw [fillF_src] at hst
      have HM0 := hide (show FarM (wr.setCell ⟨B, src, none⟩ (.int .i64 0)) B B k k (source src) from hst)
      have hbd := Bd_source k src
      have htb := TB_source hsrc
      have hB1 := hbel.setCell (p := ⟨B, src, none⟩) (Nat.le_refl B) (.int .i64 0)
      have HBD := hide hbd; have HTB := hide htb; clear hown hst hbd htb
      obtain ⟨old, g0⟩ : ∃ u, wr.cell? ⟨B, src, none⟩ = some u := ⟨_, g0⟩
      go_wp2_with fail
      go_loopw [10] (fun i wr => ∃ (q : Nat) (s : Nat → Option Int), q ≤ k + 1 ∧ i = .int .i64 (q : Int) ∧ lowerF (stepsOf xs) (k + 1 - q) s = lowerF (stepsOf xs) (k + 1) (source src) ∧ Bd k s (48 * q) ∧ TB k s ∧ FarM wr B B k k s ∧ Below B w wr) (fun i _ => k + 1 - (intOf i).toNat)
      case atStart => exact ⟨0, source src, Nat.zero_le _, rfl, rfl, HBD.out, HTB.out, HM0.out, hB1⟩
      case round =>
        clear HBD HTB HM0 hB1 hbel g0 hfz hgl hlk
        obtain ⟨q, s, hq, rfl, hlow, hbd, htb, hM, hbel⟩ := hrel
        have HLOW := hide hlow; have HM := hide hM; have HBDK := hide hbd; have HTBK := hide htb; clear hlow hM hbd htb
        by_cases hlq : q < k + 1
        · have hlq' : (q : Int) ≤ (k : Int) := by omega
          go_wp2_with fail
          go_loopw [11, 12] (fun b i wr => ∃ j : Nat, j ≤ xs.length ∧ i = .int .i64 (j : Int) ∧ b = .bool (sweepC (xs.take j) s).2 ∧ Bd k (sweepC (xs.take j) s).1 (48 * q + 2 * j) ∧ TB k (sweepC (xs.take j) s).1 ∧ FarM wr B B k k (sweepC (xs.take j) s).1 ∧ Below B w wr) (fun _ i _ => xs.length - (intOf i).toNat)
          case atStart => exact ⟨0, Nat.zero_le _, rfl, rfl, HBDK.out, HTBK.out, HM.out, hbel⟩
          case round =>
            clear hbel HM HBDK HTBK
            obtain ⟨j, hj, rfl, rfl, hbd, htb, hM, hbel⟩ := hrel
            have hsz : B ≤ wr.heap.size := by have := hbel.size; rw [HB.out] at this; exact this
            by_cases hlj : j < xs.length
            · have hlj' : (j : Int) < xs.length := by omega
              obtain ⟨b, off, rfl, hb, c0, c1, c2, c3⟩ := SClaim.cells HR.out hlj hbel
              have hcl := HCL.out j hlj
              have hst : sweepC (xs.take (j + 1)) s = relaxP (relaxP (sweepC (xs.take j) s) (xs[j].low.toNat, xs[j].high.toNat, xs[j].most)) (xs[j].high.toNat, xs[j].low.toNat, -xs[j].least) := by rw [take_snoc' hlj, sweepC_snoc]
              generalize hgc : xs[j] = c at *
              obtain ⟨lo, hi, le, mo⟩ := c
              simp only at c0 c1 c2 c3 hcl hst
              obtain ⟨l0, l1, i0, i1, hlh, le0, le1, mo1⟩ := hcl
              generalize sweepC (xs.take j) s = S at *
              obtain ⟨s1, ch1⟩ := S
              obtain ⟨U, hU⟩ : ∃ U, sweepC (xs.take (j + 1)) s = U := ⟨_, rfl⟩
              rw [hU] at hst
              unfold relaxP at hst
              simp only at hst hbd htb hM
              have hnl : lo.toNat < k := by omega
              have hnh : hi.toNat < k := by omega
              have B1 := hbel.alloc hsz (.cells #[.int .i64 lo, .int .i64 hi, .int .i64 le, .int .i64 mo] 23)
              have hm1 := hM.below (below_alloc wr (.cells #[.int .i64 lo, .int .i64 hi, .int .i64 le, .int .i64 mo] 23))
              have hk1 : CBox (wr.alloc (.cells #[.int .i64 lo, .int .i64 hi, .int .i64 le, .int .i64 mo] 23)) wr.heap.size lo hi le mo := Blk.new _ _ _
              have hgB : wr.heap.size ≠ B := by
                have := (hM.cells hnl).1.2
                omega
              have HST := hide hst; have HU := hide hU; have HM1 := hide hm1; have HK1 := hide hk1
              have HB1 := hide hbd; have HT1 := hide htb
              clear hst hU hm1 hk1 hM hbd htb hgc
              go_wp2_with fail
              generalize wr.alloc (.cells #[.int .i64 lo, .int .i64 hi, .int .i64 le, .int .i64 mo] 23) = W1 at *
              generalize wr.heap.size = G at *
              clear c0 c1 c2 c3 hbel hsz hb
              go_upto_region 15 with fail
              go_cut [65] (fun t wx => t = .bool (fires s1 (lo.toNat, hi.toNat, mo)) ∧ FarM wx B B k k s1 ∧ CBox wx G lo hi le mo ∧ Below B w wx)
              case first =>
                obtain ⟨_, q0, _⟩ := HM1.out.cells hnl
                obtain ⟨_, r0, _⟩ := HM1.out.cells hnh
                obtain ⟨hkl1, b0, b1, b2, b3⟩ := HK1.out.cells
                have hsz1 : B ≤ W1.heap.size := by have := B1.size; rw [HB.out] at this; exact this
                have hav := fun a (ha : s1 lo.toNat = some a) => HB1.out lo.toNat a hnl ha
                have hbv := fun a (ha : s1 hi.toNat = some a) => HB1.out hi.toNat a hnh ha
                have hau := fun a (ha : s1 lo.toNat = some a) => HT1.out.lt (by omega) hnl ha
                have HAV := hide hav; have HBV := hide hbv; have HAU := hide hau
                clear hav hbv hau
                cases hsa : s1 lo.toNat with
                | none =>
                  have hf : fires s1 (lo.toNat, hi.toNat, mo) = false := by unfold fires; simp only; rw [hsa]
                  rw [hsa] at q0
                  simp only [Option.getD_none] at q0
                  have x0 := fun n => later_cell q0 n; have x1 := fun n => later_cell r0 n; have y0 := fun n => later_cell b0 n; have y1 := fun n => later_cell b1 n; have y2 := fun n => later_cell b2 n; have y3 := fun n => later_cell b3 n
                  have HF := hide hf
                  clear q0 r0 b0 b1 b2 b3 hf hsa
                  go_wp2_with fail
                  (refine wp_region_later (by kernel_rfl) (by kernel_rfl) ?_; (repeat (go_big_quiet_step ((go_at_call 88; exact later_same (HFAR.out _))))); refine wpQuiet_nil ?_; intro _ hw'; obtain ⟨nq, hw''⟩ := hw'; subst hw'')
                  have C := B1.trans (nq.h.mono hsz1)
                  have hm := HM1.out.below nq.h
                  have hkk := Blk.below HK1.out nq.h hkl1
                  generalize nq.W = V at C hm hkk
                  have HMM := hide hm; have HKK := hide hkk
                  clear nq x0 x1 y0 y1 y2 y3 hm hkk
                  go_wp2_with fail
                  go_meet
                  exact ⟨by rw [HF.out], HMM.out, HKK.out, C⟩
                | some av =>
                  have ha1 := HAV.out av hsa
                  have ha2 := HAU.out av hsa
                  have ha3 : av < 1000000 := by omega
                  rw [hsa] at q0
                  simp only [Option.getD_some] at q0
                  cases hsb : s1 hi.toNat with
                  | none =>
                    have hf : fires s1 (lo.toNat, hi.toNat, mo) = true := by unfold fires; simp only; rw [hsa, hsb]
                    rw [hsb] at r0
                    simp only [Option.getD_none] at r0
                    have hlow : av + mo < 1000000 := by omega
                    clear hsb
                    have x0 := fun n => later_cell q0 n; have x1 := fun n => later_cell r0 n; have y0 := fun n => later_cell b0 n; have y1 := fun n => later_cell b1 n; have y2 := fun n => later_cell b2 n; have y3 := fun n => later_cell b3 n
                    have HF := hide hf
                    clear q0 r0 b0 b1 b2 b3 hf hsa
                    go_wp2_with fail
                    (refine wp_region_later (by kernel_rfl) (by kernel_rfl) ?_; (repeat (go_big_quiet_step ((go_at_call 88; exact later_same (HFAR.out _))))); refine wpQuiet_nil ?_; intro _ hw'; obtain ⟨nq, hw''⟩ := hw'; subst hw'')
                    have C := B1.trans (nq.h.mono hsz1)
                    have hm := HM1.out.below nq.h
                    have hkk := Blk.below HK1.out nq.h hkl1
                    generalize nq.W = V at C hm hkk
                    have HMM := hide hm; have HKK := hide hkk
                    clear nq x0 x1 y0 y1 y2 y3 hm hkk
                    go_wp2_with fail
                    go_meet
                    exact ⟨by rw [HF.out], HMM.out, HKK.out, C⟩
                  | some bv =>
                    have hb1 := HBV.out bv hsb
                    rw [hsb] at r0
                    simp only [Option.getD_some] at r0
                    by_cases hlow : av + mo < bv
                    · have hf : fires s1 (lo.toNat, hi.toNat, mo) = true := by unfold fires; simp only; rw [hsa, hsb]; exact decide_eq_true (by omega)
                      clear hsb
                      have x0 := fun n => later_cell q0 n; have x1 := fun n => later_cell r0 n; have y0 := fun n => later_cell b0 n; have y1 := fun n => later_cell b1 n; have y2 := fun n => later_cell b2 n; have y3 := fun n => later_cell b3 n
                      have HF := hide hf
                      clear q0 r0 b0 b1 b2 b3 hf hsa
                      go_wp2_with fail
                      (refine wp_region_later (by kernel_rfl) (by kernel_rfl) ?_; (repeat (go_big_quiet_step ((go_at_call 88; exact later_same (HFAR.out _))))); refine wpQuiet_nil ?_; intro _ hw'; obtain ⟨nq, hw''⟩ := hw'; subst hw'')
                      have C := B1.trans (nq.h.mono hsz1)
                      have hm := HM1.out.below nq.h
                      have hkk := Blk.below HK1.out nq.h hkl1
                      generalize nq.W = V at C hm hkk
                      have HMM := hide hm; have HKK := hide hkk
                      clear nq x0 x1 y0 y1 y2 y3 hm hkk
                      go_wp2_with fail
                      go_meet
                      exact ⟨by rw [HF.out], HMM.out, HKK.out, C⟩
                    · have hf : fires s1 (lo.toNat, hi.toNat, mo) = false := by unfold fires; simp only; rw [hsa, hsb]; exact decide_eq_false (by omega)
                      clear hsb
                      have x0 := fun n => later_cell q0 n; have x1 := fun n => later_cell r0 n; have y0 := fun n => later_cell b0 n; have y1 := fun n => later_cell b1 n; have y2 := fun n => later_cell b2 n; have y3 := fun n => later_cell b3 n
                      have HF := hide hf
                      clear q0 r0 b0 b1 b2 b3 hf hsa
                      go_wp2_with fail
                      (refine wp_region_later (by kernel_rfl) (by kernel_rfl) ?_; (repeat (go_big_quiet_step ((go_at_call 88; exact later_same (HFAR.out _))))); refine wpQuiet_nil ?_; intro _ hw'; obtain ⟨nq, hw''⟩ := hw'; subst hw'')
                      have C := B1.trans (nq.h.mono hsz1)
                      have hm := HM1.out.below nq.h
                      have hkk := Blk.below HK1.out nq.h hkl1
                      generalize nq.W = V at C hm hkk
                      have HMM := hide hm; have HKK := hide hkk
                      clear nq x0 x1 y0 y1 y2 y3 hm hkk
                      go_wp2_with fail
                      go_meet
                      exact ⟨by rw [HF.out]; rw [decide_eq_false (by omega)], HMM.out, HKK.out, C⟩
              case rest =>
                clear HM1 HK1 B1
                obtain ⟨rfl, hM, hK, hBB⟩ := hcut
                have HMC := hide hM; have HKC := hide hK; clear hM hK
                go_upto_if 65 with fail
                go_cut [11] (fun b wx => b = .bool (ch1 || fires s1 (lo.toNat, hi.toNat, mo)) ∧ FarM wx B B k k (relax s1 (lo.toNat, hi.toNat, mo)) ∧ CBox wx G lo hi le mo ∧ Below B w wx)
                case first =>
                  cases hf : fires s1 (lo.toNat, hi.toNat, mo) with
                  | false =>
                    have hno := relax_no hf
                    have HF := hide hf; have HNO := hide hno; clear hf hno
                    go_wp2_with fail
                    go_meet
                    exact ⟨by rw [HF.out, Bool.or_false], by rw [HNO.out]; exact HMC.out, HKC.out, hBB⟩
                  | true =>
                    obtain ⟨av, hsa⟩ : ∃ av, s1 lo.toNat = some av := by
                      cases h : s1 lo.toNat with
                      | some a => exact ⟨a, rfl⟩
                      | none => unfold fires at hf; simp only at hf; rw [h] at hf; simp at hf
                    have ha1 := HB1.out lo.toNat av hnl hsa
                    obtain ⟨_, q0, hfz⟩ := HMC.out.cells hnl
                    obtain ⟨_, r0, _⟩ := HMC.out.cells hnh
                    obtain ⟨_, b0, b1, b2, b3⟩ := CBox.cells HKC.out
                    rw [hsa] at q0
                    simp only [Option.getD_some] at q0
                    have hre := HMC.out.relax (e := (lo.toNat, hi.toNat, mo)) (x := av + mo) hnh hf hsa (by simp only <;> omega)
                    simp only at hre
                    have hkx : CBox (wc.setCell ⟨B, hi.toNat, none⟩ (.int .i64 (av + mo))).drew G lo hi le mo := Blk.far HKC.out (p := ⟨B, hi.toNat, none⟩) hgB _
                    have hbx : Below B w (wc.setCell ⟨B, hi.toNat, none⟩ (.int .i64 (av + mo))).drew := (hBB.setCell (p := ⟨B, hi.toNat, none⟩) (Nat.le_refl B) _).drew
                    have HRE := hide (hre.below (Below.refl _ _).drew); have HKX := hide hkx; have HBX := hide hbx; have HF := hide hf
                    clear hre hkx hbx hf hsa HMC HKC
                    go_wp2_with fail
                    go_region
                    clear q0 r0 b0 b1 b2 b3 hfz
                    go_wp2_with fail
                    go_meet
                    exact ⟨by rw [HF.out, Bool.or_true], HRE.out, HKX.out, HBX.out⟩
                case rest =>
                  clear HMC HKC hBB
                  obtain ⟨rfl, hM, hK, B2⟩ := hcut
                  have HM2 := hide hM; have HK2 := hide hK
                  have HB2 := hide (HB1.out.relax (e := (lo.toNat, hi.toNat, mo)) hnl (by simp only; omega) (by simp only; omega))
                  have HT2 := hide (HT1.out.relax (e := (lo.toNat, hi.toNat, mo)) hnl hnh (by simp only; omega))
                  clear hM hK HB1 HT1
                  rename World => W2
                  obtain ⟨s2, hs2⟩ : ∃ s2, relax s1 (lo.toNat, hi.toNat, mo) = s2 := ⟨_, rfl⟩
                  obtain ⟨ch2, hc2⟩ : ∃ c, (ch1 || fires s1 (lo.toNat, hi.toNat, mo)) = c := ⟨_, rfl⟩
                  rw [hs2] at HM2 HB2 HT2
                  have hst := HST.out
                  rw [hs2, hc2] at hst
                  have HST2 := hide hst
                  rw [hc2]
                  clear hst hs2 hc2 HST
                  go_upto_region 18 with fail
                  go_cut [100] (fun t wx => t = .bool (fires s2 (hi.toNat, lo.toNat, (-le))) ∧ FarM wx B B k k s2 ∧ CBox wx G lo hi le mo ∧ Below B w wx)
                  case first =>
                    obtain ⟨_, q0, _⟩ := HM2.out.cells hnh
                    obtain ⟨_, r0, _⟩ := HM2.out.cells hnl
                    obtain ⟨hkl2, b0, b1, b2, b3⟩ := HK2.out.cells
                    have hsz2 : B ≤ W2.heap.size := by have := B2.size; rw [HB.out] at this; exact this
                    have hav := fun a (ha : s2 hi.toNat = some a) => HB2.out hi.toNat a hnh ha
                    have hbv := fun a (ha : s2 lo.toNat = some a) => HB2.out lo.toNat a hnl ha
                    have hau := fun a (ha : s2 hi.toNat = some a) => HT2.out.lt (by omega) hnh ha
                    have HAV := hide hav; have HBV := hide hbv; have HAU := hide hau
                    clear hav hbv hau
                    cases hsa : s2 hi.toNat with
                    | none =>
                      have hf : fires s2 (hi.toNat, lo.toNat, (-le)) = false := by unfold fires; simp only; rw [hsa]
                      rw [hsa] at q0
                      simp only [Option.getD_none] at q0
                      have x0 := fun n => later_cell q0 n; have x1 := fun n => later_cell r0 n; have y0 := fun n => later_cell b0 n; have y1 := fun n => later_cell b1 n; have y2 := fun n => later_cell b2 n; have y3 := fun n => later_cell b3 n
                      have HF := hide hf
                      clear q0 r0 b0 b1 b2 b3 hf hsa
                      go_wp2_with fail
                      (refine wp_region_later (by kernel_rfl) (by kernel_rfl) ?_; (repeat (go_big_quiet_step ((go_at_call 88; exact later_same (HFAR.out _))))); refine wpQuiet_nil ?_; intro _ hw'; obtain ⟨nq, hw''⟩ := hw'; subst hw'')
                      have C := B2.trans (nq.h.mono hsz2)
                      have hm := HM2.out.below nq.h
                      have hkk := Blk.below HK2.out nq.h hkl2
                      generalize nq.W = V at C hm hkk
                      have HMM := hide hm; have HKK := hide hkk
                      clear nq x0 x1 y0 y1 y2 y3 hm hkk
                      go_wp2_with fail
                      go_meet
                      exact ⟨by rw [HF.out], HMM.out, HKK.out, C⟩
                    | some av =>
                      have ha1 := HAV.out av hsa
                      have ha2 := HAU.out av hsa
                      have ha3 : av < 1000000 := by omega
                      rw [hsa] at q0
                      simp only [Option.getD_some] at q0
                      cases hsb : s2 lo.toNat with
                      | none =>
                        have hf : fires s2 (hi.toNat, lo.toNat, (-le)) = true := by unfold fires; simp only; rw [hsa, hsb]
                        rw [hsb] at r0
                        simp only [Option.getD_none] at r0
                        have hlow : av - le < 1000000 := by omega
                        clear hsb
                        have x0 := fun n => later_cell q0 n; have x1 := fun n => later_cell r0 n; have y0 := fun n => later_cell b0 n; have y1 := fun n => later_cell b1 n; have y2 := fun n => later_cell b2 n; have y3 := fun n => later_cell b3 n
                        have HF := hide hf
                        clear q0 r0 b0 b1 b2 b3 hf hsa
                        go_wp2_with fail
                        (refine wp_region_later (by kernel_rfl) (by kernel_rfl) ?_; (repeat (go_big_quiet_step ((go_at_call 88; exact later_same (HFAR.out _))))); refine wpQuiet_nil ?_; intro _ hw'; obtain ⟨nq, hw''⟩ := hw'; subst hw'')
                        have C := B2.trans (nq.h.mono hsz2)
                        have hm := HM2.out.below nq.h
                        have hkk := Blk.below HK2.out nq.h hkl2
                        generalize nq.W = V at C hm hkk
                        have HMM := hide hm; have HKK := hide hkk
                        clear nq x0 x1 y0 y1 y2 y3 hm hkk
                        go_wp2_with fail
                        go_meet
                        exact ⟨by rw [HF.out], HMM.out, HKK.out, C⟩
                      | some bv =>
                        have hb1 := HBV.out bv hsb
                        rw [hsb] at r0
                        simp only [Option.getD_some] at r0
                        by_cases hlow : av - le < bv
                        · have hf : fires s2 (hi.toNat, lo.toNat, (-le)) = true := by unfold fires; simp only; rw [hsa, hsb]; exact decide_eq_true (by omega)
                          clear hsb
                          have x0 := fun n => later_cell q0 n; have x1 := fun n => later_cell r0 n; have y0 := fun n => later_cell b0 n; have y1 := fun n => later_cell b1 n; have y2 := fun n => later_cell b2 n; have y3 := fun n => later_cell b3 n
                          have HF := hide hf
                          clear q0 r0 b0 b1 b2 b3 hf hsa
                          go_wp2_with fail
                          (refine wp_region_later (by kernel_rfl) (by kernel_rfl) ?_; (repeat (go_big_quiet_step ((go_at_call 88; exact later_same (HFAR.out _))))); refine wpQuiet_nil ?_; intro _ hw'; obtain ⟨nq, hw''⟩ := hw'; subst hw'')
                          have C := B2.trans (nq.h.mono hsz2)
                          have hm := HM2.out.below nq.h
                          have hkk := Blk.below HK2.out nq.h hkl2
                          generalize nq.W = V at C hm hkk
                          have HMM := hide hm; have HKK := hide hkk
                          clear nq x0 x1 y0 y1 y2 y3 hm hkk
                          go_wp2_with fail
                          go_meet
                          exact ⟨by rw [HF.out], HMM.out, HKK.out, C⟩
                        · have hf : fires s2 (hi.toNat, lo.toNat, (-le)) = false := by unfold fires; simp only; rw [hsa, hsb]; exact decide_eq_false (by omega)
                          clear hsb
                          have x0 := fun n => later_cell q0 n; have x1 := fun n => later_cell r0 n; have y0 := fun n => later_cell b0 n; have y1 := fun n => later_cell b1 n; have y2 := fun n => later_cell b2 n; have y3 := fun n => later_cell b3 n
                          have HF := hide hf
                          clear q0 r0 b0 b1 b2 b3 hf hsa
                          go_wp2_with fail
                          (refine wp_region_later (by kernel_rfl) (by kernel_rfl) ?_; (repeat (go_big_quiet_step ((go_at_call 88; exact later_same (HFAR.out _))))); refine wpQuiet_nil ?_; intro _ hw'; obtain ⟨nq, hw''⟩ := hw'; subst hw'')
                          have C := B2.trans (nq.h.mono hsz2)
                          have hm := HM2.out.below nq.h
                          have hkk := Blk.below HK2.out nq.h hkl2
                          generalize nq.W = V at C hm hkk
                          have HMM := hide hm; have HKK := hide hkk
                          clear nq x0 x1 y0 y1 y2 y3 hm hkk
                          go_wp2_with fail
                          go_meet
                          exact ⟨by rw [HF.out]; rw [decide_eq_false (by omega)], HMM.out, HKK.out, C⟩
                  case rest =>
                    clear HM2 HK2 B2
                    obtain ⟨rfl, hM, hK, hBB⟩ := hcut
                    have HMC := hide hM; have HKC := hide hK; clear hM hK
                    cases hf : fires s2 (hi.toNat, lo.toNat, (-le)) with
                    | false =>
                      have hno := relax_no hf
                      have hu := HST2.out
                      rw [hf, Bool.or_false, hno] at hu
                      have HUU := hide hu
                      have HBF := hide (HB2.out.mono (Nat.le_succ _))
                      clear hf hno hu HST2
                      go_wp2_with fail
                      go_round
                      case measure => (simp [intOf] <;> omega)
                      case rel => exact ⟨j + 1, by omega, by go_num, by rw [HU.out, HUU.out], by rw [HU.out, HUU.out]; exact HBF.out.mono (by omega), by rw [HU.out, HUU.out]; exact HT2.out, by rw [HU.out, HUU.out]; exact HMC.out, hBB⟩
                    | true =>
                      obtain ⟨av, hsa⟩ : ∃ av, s2 hi.toNat = some av := by
                        cases h : s2 hi.toNat with
                        | some a => exact ⟨a, rfl⟩
                        | none => unfold fires at hf; simp only at hf; rw [h] at hf; simp at hf
                      have ha1 := HB2.out hi.toNat av hnh hsa
                      obtain ⟨_, q0, hfz⟩ := HMC.out.cells hnh
                      obtain ⟨_, r0, _⟩ := HMC.out.cells hnl
                      obtain ⟨_, b0, b1, b2, b3⟩ := CBox.cells HKC.out
                      rw [hsa] at q0
                      simp only [Option.getD_some] at q0
                      have hre := HMC.out.relax (e := (hi.toNat, lo.toNat, (-le))) (x := av - le) hnl hf hsa (by simp only <;> omega)
                      simp only at hre
                      have hbx : Below B w (wc.setCell ⟨B, lo.toNat, none⟩ (.int .i64 (av - le))).drew := (hBB.setCell (p := ⟨B, lo.toNat, none⟩) (Nat.le_refl B) _).drew
                      have hu := HST2.out
                      rw [hf, Bool.or_true] at hu
                      have HRE := hide (hre.below (Below.refl _ _).drew); have HBX := hide hbx; have HUU := hide hu
                      have HBF := hide (HB2.out.relax (e := (hi.toNat, lo.toNat, (-le))) hnh (by simp only; omega) (by simp only; omega))
                      have HTF := hide (HT2.out.relax (e := (hi.toNat, lo.toNat, (-le))) hnh hnl (by simp only; omega))
                      clear hre hbx hf hsa hu HMC HKC HST2
                      go_wp2_with fail
                      go_region
                      clear q0 r0 b0 b1 b2 b3 hfz
                      go_wp2_with fail
                      go_round
                      case measure => (simp [intOf] <;> omega)
                      case rel => exact ⟨j + 1, by omega, by go_num, by rw [HU.out, HUU.out], by rw [HU.out, HUU.out]; exact HBF.out.mono (by omega), by rw [HU.out, HUU.out]; exact HTF.out, by rw [HU.out, HUU.out]; exact HRE.out, HBX.out⟩

            · have hjx : xs.length = j := by omega
              have hfs : sweepC (xs.take j) s = (sweep (stepsOf xs) s, firedIn (stepsOf xs) s) := by rw [← hjx, List.take_length, sweepC_eq]
              rw [hfs] at hM hbd htb ⊢
              simp only at hM hbd htb ⊢
              have hlowx := HLOW.out
              rw [show k + 1 - q = (k - q) + 1 by omega, lowerF_succ] at hlowx
              have HMX := hide hM; have HBX := hide hbd; have HTX := hide htb; have HJX := hide hjx
              clear hM hbd htb hjx hfs
              cases hfi : firedIn (stepsOf xs) s with
              | true =>
                rw [hfi, if_pos rfl] at hlowx
                have HLX := hide hlowx; clear hlowx hfi HLOW
                go_wp2_with fail
                go_round
                case measure => (simp [intOf] <;> omega)
                case rel => exact ⟨q + 1, sweep (stepsOf xs) s, by omega, by go_num, by rw [show k + 1 - (q + 1) = k - q by omega]; exact HLX.out, HBX.out.mono (by have := HJX.out; omega), HTX.out, HMX.out, hbel⟩
              | false =>
                rw [hfi, if_neg (by simp)] at hlowx
                have HLX := hide hlowx; clear hlowx hfi HLOW
                go_wp2_with fail
                go_ret2
                rw [← HLX.out]
                exact ⟨_, rfl, HMX.out, hbel⟩
        · have hkn : q = k + 1 := by omega
          have hlowx := HLOW.out
          rw [hkn, Nat.sub_self] at hlowx
          have HLX := hide hlowx; have HKN := hide hkn; clear hlowx HLOW
          have hnq : ¬ (q : Int) ≤ (k : Int) := by omega
          clear hkn
          go_wp2_with fail
          go_ret2
          rw [← HLX.out]
          exact ⟨_, rfl, HM.out, hbel⟩
end Go.Proofs.Ytijjecckfcbaoaa
