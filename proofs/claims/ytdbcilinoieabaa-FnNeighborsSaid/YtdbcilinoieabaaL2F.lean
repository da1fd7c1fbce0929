/- Contract of ShowsOverview in spec: the Lean function ovV. Condition: small numbers. -/
import Derived.Test.YtdbcilinoieabaaL2E
namespace Go.Proofs.Ytdbcilinoieabaa
open Go.RowKit
set_option linter.unusedVariables false
set_option maxHeartbeats 2000000 in
theorem l2ShowsOverview_is (v : Value) (xs : List SSheet) (id : Int) (w : World) (h : Is 5 SSheet.enc w v xs) (hf : ∀ z ∈ xs, z.Fit) :
    Calls Try.prog 60 #[v, .int .i64 id] w fun e w' => ∃ r, e = .returned (.tuple #[r, .bool (ovV xs id).2]) ∧ Own 1 encI 3 w' w.heap.size r (ovV xs id).1 ∧ Below w.heap.size w w' := by
  obtain ⟨nv, hnv⟩ : ∃ nv, nv = ovV xs id := ⟨_, rfl⟩
  rw [← hnv]
  have HNV := hide hnv; clear hnv
  have B1 := below_alloc w (.cells #[] 3)
  have HI := hide (h.below B1 (Nat.le_refl _))
  have HE := hide (own_noI w (Nat.le_refl w.heap.size))
  have HB1 := hide B1
  have hgc := fun W hi => l2Sheets_is v xs W hi
  have hat := fun W hi => l2Find_any v xs id W hi
  have HSP := hide (findS_cases xs id)
  have HFI := hide hf
  obtain ⟨A, cap, rfl, hr, _, _⟩ := h
  have HR := hide hr
  clear B1 hf hr
  go_enter Try.func60, Try.ntmps60
  go_upto_region 2 with fail
  generalize hgm : w.heap.size = gm at *
  generalize w.alloc (.cells #[] 3) = w1 at *
  generalize hkk : findS xs id = kk at *
  have HAT := hide hat; clear hat
  have HKK := hide hkk; clear hkk
  have hs1 : gm ≤ w1.heap.size := by have := HB1.out.size; omega
  go_wp2_with fail
  refine (HAT.out _ HI.out).mono ?_; rintro e w2 ⟨rfl, rfl⟩
  have HG := hide (hgc w1 HI.out)
  clear hgc
  cases hg : goodS xs with
  | false =>
    have hnv := HNV.out
    rw [ovV_no (by rw [hg]; simp)] at hnv
    subst hnv
    rw [hg] at HG
    clear hg
    go_wp2_with fail
    refine HG.out.mono ?_; rintro e w4 ⟨rfl, hb4⟩
    have B4 := hide (HB1.out.trans (hb4.mono hs1)); have HE4 := hide (HE.out.below hb4); clear hb4
    go_wp2_with fail
    go_ret2
    exact ⟨_, rfl, by first | exact HE4.out | (rw [hgm]; exact HE4.out), by first | exact B4.out | (rw [hgm]; exact B4.out)⟩
  | true =>
    by_cases hk0 : kk < 0
    · have hnv := HNV.out
      rw [ovV_no (by rw [HKK.out]; omega)] at hnv
      subst hnv
      rw [hg] at HG
      clear hg
      go_wp2_with fail
      refine HG.out.mono ?_; rintro e w4 ⟨rfl, hb4⟩
      have B4 := hide (HB1.out.trans (hb4.mono hs1)); have HE4 := hide (HE.out.below hb4); clear hb4
      go_wp2_with fail
      go_ret2
      exact ⟨_, rfl, by first | exact HE4.out | (rw [hgm]; exact HE4.out), by first | exact B4.out | (rw [hgm]; exact B4.out)⟩
    · obtain ⟨k, hk, hke, hkid⟩ : ∃ k, k < xs.length ∧ kk = (k : Int) ∧ (SSheet.at xs k).id = id := by
        rcases HSP.out with ⟨h1, _⟩ | h1
        · omega
        · exact h1
      have hlen := goodS_len hg
      have HOK := hide (fun i (hi : i < xs.length) => (goodS_ok hg hi).1)
      have hnv := HNV.out
      subst hke
      rw [ovV_yes hg HKK.out] at hnv
      subst hnv
      rw [hg] at HG
      clear hg hkid HKK HSP HNV HAT
      go_wp2_with fail
      refine HG.out.mono ?_; rintro e w4 ⟨rfl, hb4⟩
      have B4 := hide (HB1.out.trans (hb4.mono hs1)); have HE4 := hide (HE.out.below hb4)
      have hsz4 : gm ≤ w4.heap.size := by have := hb4.size; omega
      clear hb4 HE HI HG HB1
      have hk' : (k : Int) < xs.length := by omega
      obtain ⟨b, off, rfl, hb, d0, d1, d2, d3, d4⟩ := SSheet.cells HR.out hk B4.out
      have hok := HOK.out k hk
      rw [SSheet.at_lt hk] at hok
      obtain ⟨_, _, q0, q1, q2, q3, q4, q5, _, _⟩ := SSheet.okB_iff.1 (show SSheet.okB ⟨xs[k].id, xs[k].row, xs[k].col, xs[k].scale, xs[k].year⟩ = true from hok)
      obtain ⟨r0, r1⟩ := mul_bd q0 q1 q4 q5
      obtain ⟨r2, r3⟩ := mul_bd q2 q3 q4 q5
      have hio : ∀ y0 y1 y2 y3 y4, (ovB (SSheet.at xs k) ⟨y0, y1, y2, y3, y4⟩ = true ↔ (xs[k].scale < y3 ∧ 0 ≤ xs[k].row * xs[k].scale - y1 * y3 ∧ xs[k].row * xs[k].scale - y1 * y3 ≤ y3 - 1 ∧ 0 ≤ xs[k].col * xs[k].scale - y2 * y3 ∧ xs[k].col * xs[k].scale - y2 * y3 ≤ y3 - 1)) := fun y0 y1 y2 y3 y4 => by rw [SSheet.at_lt hk]; exact ovB_iff
      have hzc : ∀ wr, Below gm w wr → wr.cell? ⟨b, off + k * 5 + 3, none⟩ = some (.int .i64 xs[k].scale) := fun wr hbr => by
        obtain ⟨b', off', hA, _, _, _, _, h3, _⟩ := SSheet.cells HR.out hk hbr
        injection hA with hA; injection hA with hA1 hA2; subst hA1 hA2; exact h3
      generalize xs[k].row = z1 at *; generalize xs[k].col = z2 at *; generalize xs[k].scale = z3 at *
      have HIO := hide hio; have HZC := hide hzc; clear hok d0 d4 hio hzc
      have hw1 : IntKind.i64.wrap (z1 * z3) = z1 * z3 := IntWalk.i64_in _ (by omega)
      have hw2 : IntKind.i64.wrap (z2 * z3) = z2 * z3 := IntWalk.i64_in _ (by omega)
      go_upto_region 5 with fail
      have e1 := fun n => later_cell d1 n; have e2 := fun n => later_cell d2 n; have e3 := fun n => later_cell d3 n
      (refine wp_region_later (by kernel_rfl) (by kernel_rfl) ?_; (repeat (go_big_quiet_step (fail))); refine wpQuiet_nil ?_; intro _ hw'; obtain ⟨nq, hw''⟩ := hw'; subst hw'')
      have B5 := hide (B4.out.trans (nq.h.mono hsz4)); have HE5 := hide (HE4.out.below nq.h)
      generalize nq.W = w5 at *
      clear e1 e2 e3 d1 d2 d3 hw1 hw2 B4 HE4
      generalize hRR : z1 * z3 = R at *; generalize hCC : z2 * z3 = C at *
      clear hRR hCC
      generalize hpp : (fun c => ovB (SSheet.at xs k) c) = pp at *
      have HPP := hide hpp; clear hpp
      go_wp2_with fail
      go_loopw [6, 10] (fun s i wr => ∃ n : Nat, n ≤ xs.length ∧ i = .int .i64 (n : Int) ∧ Own 1 encI 3 wr gm s (filtTo pp xs n) ∧ Below gm w wr) (fun _ i _ => xs.length - (intOf i).toNat)
      case atStart => exact ⟨0, Nat.zero_le _, rfl, HE5.out, B5.out⟩
      case round =>
        clear HE5 B5
        obtain ⟨n, hn, rfl, hown, hbel⟩ := hrel
        have HOW := hide hown; clear hown
        have hszr : gm ≤ wr.heap.size := by have := hbel.size; omega
        by_cases hlt : n < xs.length
        · have hlt' : (n : Int) < xs.length := by omega
          have k3 := HZC.out wr hbel
          obtain ⟨b', off', hA, hb', c0, c1, c2, c3, c4⟩ := SSheet.cells HR.out hlt hbel
          injection hA with hA; injection hA with hA1 hA2; subst hA1 hA2
          have hst := filtTo_succ (p := pp) hlt
          have hok := HOK.out n hlt
          rw [SSheet.at_lt hlt] at hok
          have hdl : (filtTo pp xs n).length ≤ 16777216 := by have := filtTo_le pp xs n; omega
          have hpn : pp xs[n] = ovB (SSheet.at xs k) ⟨xs[n].id, xs[n].row, xs[n].col, xs[n].scale, xs[n].year⟩ := by rw [← HPP.out]
          obtain ⟨_, _, p0, p1, p2, p3, p4, p5, _, _⟩ := SSheet.okB_iff.1 (show SSheet.okB ⟨xs[n].id, xs[n].row, xs[n].col, xs[n].scale, xs[n].year⟩ = true from hok)
          obtain ⟨m0, m1⟩ := mul_bd p0 p1 p4 p5
          obtain ⟨m2, m3⟩ := mul_bd p2 p3 p4 p5
          have hio := HIO.out xs[n].id xs[n].row xs[n].col xs[n].scale xs[n].year
          rw [← hpn] at hio
          clear hok hpn
          generalize pp xs[n] = pn at hst hio
          generalize xs[n].id = y0 at *; generalize xs[n].row = y1 at *; generalize xs[n].col = y2 at *; generalize xs[n].scale = y3 at *; generalize xs[n].year = y4 at *
          have HST := hide hst; have HO2 := hide hio
          clear hst hio
          have HBK := hide (Blk.new wr 142 #[.int .i64 y0, .int .i64 y1, .int .i64 y2, .int .i64 y3, .int .i64 y4])
          have HO1 := hide (HOW.out.below (below_alloc wr (.cells #[.int .i64 y0, .int .i64 y1, .int .i64 y2, .int .i64 y3, .int .i64 y4] 142)))
          have BB := hide (hbel.alloc hszr (.cells #[.int .i64 y0, .int .i64 y1, .int .i64 y2, .int .i64 y3, .int .i64 y4] 142))
          have k3' := ((bcell (below_alloc wr (.cells #[.int .i64 y0, .int .i64 y1, .int .i64 y2, .int .i64 y3, .int .i64 y4] 142))).1 b _ (World.block_lt_of_cell? wr _ k3)).trans k3
          clear HOW k3
          go_upto_region 10 with fail
          clear c0 c1 c2 c3 c4
          have hs3 : gm ≤ (wr.alloc (.cells #[.int .i64 y0, .int .i64 y1, .int .i64 y2, .int .i64 y3, .int .i64 y4] 142)).heap.size := by simp; omega
          generalize wr.alloc (.cells #[.int .i64 y0, .int .i64 y1, .int .i64 y2, .int .i64 y3, .int .i64 y4] 142) = w3 at *
          generalize wr.heap.size = g3 at *
          obtain ⟨t0, t1, t2, t3, t4⟩ := mk5S HBK.out
          have f0 := fun n => later_cell t0 n; have f1 := fun n => later_cell t1 n; have f2 := fun n => later_cell t2 n; have f3 := fun n => later_cell t3 n; have n3 := fun n => later_cell k3' n
          have hb5 := BB.out
          clear hbel
          by_cases g1 : z3 < y3
          · cases g2 : inB (R - y1 * y3) 0 (y3 - 1) with
            | false =>
              have HPN := hide (show pn = false by have hno := inB_no.1 g2; rw [Bool.eq_false_iff]; intro h; have := HO2.out.1 h; exact hno ⟨by omega, by omega⟩)
              rw [HPN.out] at HST
              clear HPN HO2
              (refine wp_region_later (by kernel_rfl) (by kernel_rfl) ?_; (repeat (go_big_quiet_step ((go_at_call 81; exact later_same (l1In_any _ _ _ _))))); refine wpQuiet_nil ?_; intro _ hw'; obtain ⟨nq, hw''⟩ := hw'; subst hw'')
              have B5 := hb5.trans (nq.h.mono hs3)
              have HO5 := hide (HO1.out.below nq.h)
              generalize nq.W = W5 at B5 HO5
              go_wp2_with fail
              go_round
              case measure => (simp [intOf] <;> omega)
              case rel => exact ⟨n + 1, by omega, by go_num, by rw [HST.out]; simpa using HO5.out, B5⟩
            | true =>
              cases g4 : inB (C - y2 * y3) 0 (y3 - 1) with
              | false =>
                have HPN := hide (show pn = false by have hno := inB_no.1 g4; rw [Bool.eq_false_iff]; intro h; have := HO2.out.1 h; exact hno ⟨by omega, by omega⟩)
                rw [HPN.out] at HST
                clear HPN HO2
                (refine wp_region_later (by kernel_rfl) (by kernel_rfl) ?_; (repeat (go_big_quiet_step ((go_at_call 81; exact later_same (l1In_any _ _ _ _))))); refine wpQuiet_nil ?_; intro _ hw'; obtain ⟨nq, hw''⟩ := hw'; subst hw'')
                have B5 := hb5.trans (nq.h.mono hs3)
                have HO5 := hide (HO1.out.below nq.h)
                generalize nq.W = W5 at B5 HO5
                go_wp2_with fail
                go_round
                case measure => (simp [intOf] <;> omega)
                case rel => exact ⟨n + 1, by omega, by go_num, by rw [HST.out]; simpa using HO5.out, B5⟩
              | true =>
                have HPN := hide (show pn = true by have h1 := inB_iff.1 g2; have h2 := inB_iff.1 g4; rw [HO2.out]; omega)
                rw [HPN.out] at HST
                clear HPN HO2
                (refine wp_region_later (by kernel_rfl) (by kernel_rfl) ?_; (repeat (go_big_quiet_step ((go_at_call 81; exact later_same (l1In_any _ _ _ _))))); refine wpQuiet_nil ?_; intro _ hw'; obtain ⟨nq, hw''⟩ := hw'; subst hw'')
                have B5 := hb5.trans (nq.h.mono hs3)
                have HO5 := hide (HO1.out.below nq.h)
                have hs5 : gm ≤ nq.W.heap.size := by have := nq.h.size; omega
                have g0 := f0 nq
                clear f0 f1 f2 f3 n3
                generalize nq.W = W5 at *
                go_wp2_with ((at_builtin; refine wpList_push1 (k := 1) (enc := encI) _ rfl _ _ 52 rfl 3 (.int .i64 0) 8 Try.underlying52 infoI rfl (by omega) (by omega) encI_one (gm) _ (filtTo pp xs n) rfl (HO5.out) (y0) _ rfl rfl (hdl) (hs5) (B5) (Nat.le_refl _) rfl ?_; intro v1 w1 ho1 hb1 hg1))
                go_round
                case measure => (simp [intOf] <;> omega)
                case rel => exact ⟨n + 1, by omega, by go_num, by rw [HST.out]; exact ho1, hb1⟩
          · have g3' : decide (z3 < y3) = false := decide_eq_false g1
            have HPN := hide (show pn = false by rw [Bool.eq_false_iff]; intro h; exact g1 (HO2.out.1 h).1)
            rw [HPN.out] at HST
            clear HPN HO2
            (refine wp_region_later (by kernel_rfl) (by kernel_rfl) ?_; (repeat (go_big_quiet_step (fail))); refine wpQuiet_nil ?_; intro _ hw'; obtain ⟨nq, hw''⟩ := hw'; subst hw'')
            have B5 := hb5.trans (nq.h.mono hs3)
            have HO5 := hide (HO1.out.below nq.h)
            generalize nq.W = W5 at B5 HO5
            go_wp2_with fail
            go_round
            case measure => (simp [intOf] <;> omega)
            case rel => exact ⟨n + 1, by omega, by go_num, by rw [HST.out]; simpa using HO5.out, B5⟩
        · have hnn : n = xs.length := by omega
          have HNN := hide hnn; clear hnn
          go_wp2_with fail
          go_ret2
          refine ⟨_, rfl, ?_, by first | exact hbel | (rw [hgm]; exact hbel)⟩
          have := HOW.out; rw [HNN.out] at this
          have h2 := HPP.out
          subst h2
          first | exact this | (rw [hgm]; exact this)
end Go.Proofs.Ytdbcilinoieabaa
