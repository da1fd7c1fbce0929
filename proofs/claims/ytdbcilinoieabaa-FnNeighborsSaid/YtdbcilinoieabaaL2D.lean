/- Contract of NeighborsOf in spec: the Lean function nbV. Condition: small numbers. -/
import Derived.Test.YtdbcilinoieabaaL2C
namespace Go.Proofs.Ytdbcilinoieabaa
open Go.RowKit
set_option linter.unusedVariables false
theorem own_noI (w : World) {B : Nat} (hB : B ≤ w.heap.size) : Own 1 encI 3 (w.alloc (.cells #[] 3)) B (.slice (some ⟨w.heap.size, 0, none⟩) 0 0) ([] : List Int) :=
  Own.made (cs := #[]) rfl hB (Blk.new _ _ _) rfl (Nat.zero_le _) Filled.zero
theorem nb_at {xs : List SSheet} (hg : goodS xs = true) {i k : Nat} (hi : i < xs.length) (hk : k < xs.length) : nbB (SSheet.at xs i) (SSheet.at xs k) = (decide (i ≠ k) && nearB (SSheet.at xs i) (SSheet.at xs k)) := by
  rw [Bool.eq_iff_iff, nbB_iff, Bool.and_eq_true, decide_eq_true_iff, nearB_iff]
  constructor
  · rintro ⟨h, r⟩
    exact ⟨fun e => h (by rw [e]), r⟩
  · rintro ⟨h, r⟩
    exact ⟨fun e => h (goodS_one hg hi hk e), r⟩
set_option maxHeartbeats 2000000 in
theorem l2NeighborsOf_is (v : Value) (xs : List SSheet) (id : Int) (w : World) (h : Is 5 SSheet.enc w v xs) (hf : ∀ z ∈ xs, z.Fit) :
    Calls Try.prog 52 #[v, .int .i64 id] w fun e w' => ∃ r, e = .returned (.tuple #[r, .bool (nbV xs id).2]) ∧ Own 1 encI 3 w' w.heap.size r (nbV xs id).1 ∧ Below w.heap.size w w' := by
  obtain ⟨nv, hnv⟩ : ∃ nv, nv = nbV xs id := ⟨_, rfl⟩
  rw [← hnv]
  have HNV := hide hnv; clear hnv
  have B1 := below_alloc w (.cells #[] 3)
  have HI := hide (h.below B1 (Nat.le_refl _))
  have HE := hide (own_noI w (Nat.le_refl w.heap.size))
  have HB1 := hide B1
  have hgc := fun W hi => l2Sheets_is v xs W hi
  have hat := fun W hi => l2Find_any v xs id W hi
  have HSP := hide (findS_cases xs id)
  have HFI := hide hf
  obtain ⟨A, cap, rfl, hr, _, _⟩ := h
  have HR := hide hr
  clear B1 hf hr
  go_enter Try.func52, Try.ntmps52
  go_upto_region 2 with fail
  generalize hgm : w.heap.size = gm at *
  generalize w.alloc (.cells #[] 3) = w1 at *
  generalize hkk : findS xs id = kk at *
  have HAT := hide hat; clear hat
  have HKK := hide hkk; clear hkk
  have hs1 : gm ≤ w1.heap.size := by have := HB1.out.size; omega
  go_wp2_with fail
  refine (HAT.out _ HI.out).mono ?_; rintro e w2 ⟨rfl, rfl⟩
  have HG := hide (hgc w1 HI.out)
  clear hgc
  cases hg : goodS xs with
  | false =>
    have hnv := HNV.out
    rw [nbV_no (by rw [hg]; simp)] at hnv
    subst hnv
    rw [hg] at HG
    clear hg
    go_wp2_with fail
    refine HG.out.mono ?_; rintro e w4 ⟨rfl, hb4⟩
    have B4 := hide (HB1.out.trans (hb4.mono hs1)); have HE4 := hide (HE.out.below hb4); clear hb4
    go_wp2_with fail
    go_ret2
    exact ⟨_, rfl, by first | exact HE4.out | (rw [hgm]; exact HE4.out), by first | exact B4.out | (rw [hgm]; exact B4.out)⟩
  | true =>
    by_cases hk0 : kk < 0
    · have hnv := HNV.out
      rw [nbV_no (by rw [HKK.out]; omega)] at hnv
      subst hnv
      rw [hg] at HG
      clear hg
      go_wp2_with fail
      refine HG.out.mono ?_; rintro e w4 ⟨rfl, hb4⟩
      have B4 := hide (HB1.out.trans (hb4.mono hs1)); have HE4 := hide (HE.out.below hb4); clear hb4
      go_wp2_with fail
      go_ret2
      exact ⟨_, rfl, by first | exact HE4.out | (rw [hgm]; exact HE4.out), by first | exact B4.out | (rw [hgm]; exact B4.out)⟩
    · obtain ⟨k, hk, hke, hkid⟩ : ∃ k, k < xs.length ∧ kk = (k : Int) ∧ (SSheet.at xs k).id = id := by
        rcases HSP.out with ⟨h1, _⟩ | h1
        · omega
        · exact h1
      have hlen := goodS_len hg
      have hnv := HNV.out
      subst hke
      rw [nbV_yes hg HKK.out] at hnv
      subst hnv
      rw [hg] at HG
      have HNB := hide (fun i (hi : i < xs.length) => nb_at hg hi hk)
      clear hg hkid HKK HSP HNV HAT
      go_wp2_with fail
      refine HG.out.mono ?_; rintro e w4 ⟨rfl, hb4⟩
      have B4 := hide (HB1.out.trans (hb4.mono hs1)); have HE4 := hide (HE.out.below hb4)
      have HI4 := hide (HI.out.below hb4 (Nat.le_refl _))
      have hsz4 : gm ≤ w4.heap.size := by have := hb4.size; omega
      clear hb4 HE HI HG HB1
      have hk' : (k : Int) < xs.length := by omega
      generalize hpp : (fun c => nbB c (SSheet.at xs k)) = pp at *
      have HPP := hide hpp; clear hpp
      go_wp2_with fail
      go_loopw [6, 8] (fun s i wr => ∃ n : Nat, n ≤ xs.length ∧ i = .int .i64 (n : Int) ∧ Own 1 encI 3 wr gm s (filtTo pp xs n) ∧ Below gm w wr) (fun _ i _ => xs.length - (intOf i).toNat)
      case atStart => exact ⟨0, Nat.zero_le _, rfl, HE4.out, B4.out⟩
      case round =>
        clear HE4 B4 HI4
        obtain ⟨n, hn, rfl, hown, hbel⟩ := hrel
        have HOW := hide hown; clear hown
        have hszr : gm ≤ wr.heap.size := by have := hbel.size; omega
        by_cases hlt : n < xs.length
        · have hlt' : (n : Int) < xs.length := by omega
          obtain ⟨b, off, rfl, hb, c0, c1, c2, c3, c4⟩ := SSheet.cells HR.out hlt hbel
          obtain ⟨b', off', hA, hb', d0, d1, d2, d3, d4⟩ := SSheet.cells HR.out hk hbel
          injection hA with hA; injection hA with hA1 hA2; subst hA1 hA2
          have hst := filtTo_succ (p := pp) hlt
          have hnb := HNB.out n hlt
          rw [SSheet.at_lt hlt, SSheet.at_lt hk] at hnb
          have hpn : pp xs[n] = nbB xs[n] xs[k] := by rw [← HPP.out, SSheet.at_lt hk]
          have hf1 := HFI.out _ (List.getElem_mem hlt)
          have hf2 := HFI.out _ (List.getElem_mem hk)
          have hdl : (filtTo pp xs n).length ≤ 16777216 := by have := filtTo_le pp xs n; omega
          rw [hpn, hnb] at hst
          have hcl : ∀ W, Calls Try.prog 145 #[.agg #[.int .i64 xs[n].id, .int .i64 xs[n].row, .int .i64 xs[n].col, .int .i64 xs[n].scale, .int .i64 xs[n].year], .agg #[.int .i64 xs[k].id, .int .i64 xs[k].row, .int .i64 xs[k].col, .int .i64 xs[k].scale, .int .i64 xs[k].year]] W fun e w' => e = .returned (.bool (nearB xs[n] xs[k])) ∧ Below W.heap.size W w' := fun W => l2Near_any _ _ _ _ _ _ _ _ _ _ W hf1 hf2
          generalize nearB xs[n] xs[k] = nr at hcl hst
          have HCL := hide hcl; have HST := hide hst
          clear hcl hst hnb hpn hf1 hf2
          generalize xs[n].id = y0 at *; generalize xs[n].row = y1 at *; generalize xs[n].col = y2 at *; generalize xs[n].scale = y3 at *; generalize xs[n].year = y4 at *
          generalize xs[k].id = z0 at *; generalize xs[k].row = z1 at *; generalize xs[k].col = z2 at *; generalize xs[k].scale = z3 at *; generalize xs[k].year = z4 at *
          have e0 := fun n => later_cell c0 n; have e1 := fun n => later_cell c1 n; have e2 := fun n => later_cell c2 n; have e3 := fun n => later_cell c3 n; have e4 := fun n => later_cell c4 n
          have f0 := fun n => later_cell d0 n; have f1 := fun n => later_cell d1 n; have f2 := fun n => later_cell d2 n; have f3 := fun n => later_cell d3 n; have f4 := fun n => later_cell d4 n
          by_cases hnk : n = k
          · have hq : ((n : Int) != (k : Int)) = false := by simp [hnk]
            have hq2 : decide (n ≠ k) = false := by simp [hnk]
            rw [hq2] at HST
            clear hnk hq2
            go_wp2_with fail
            (refine wp_region_later (by kernel_rfl) (by kernel_rfl) ?_; (repeat (go_big_quiet_step (fail))); refine wpQuiet_nil ?_; intro _ hw'; obtain ⟨nq, hw''⟩ := hw'; subst hw'')
            have B5 := hbel.trans (nq.h.mono hszr)
            have HO5 := hide (HOW.out.below nq.h)
            generalize nq.W = W5 at B5 HO5
            go_wp2_with fail
            go_round
            case measure => (simp [intOf] <;> omega)
            case rel => exact ⟨n + 1, by omega, by go_num, by rw [HST.out]; simpa using HO5.out, B5⟩
          · have hq : ((n : Int) != (k : Int)) = true := by simp; omega
            have hq2 : decide (n ≠ k) = true := by simpa using hnk
            rw [hq2, Bool.true_and] at HST
            clear hnk hq2
            cases nr with
            | false =>
              go_wp2_with fail
              (refine wp_region_later (by kernel_rfl) (by kernel_rfl) ?_; (repeat (go_big_quiet_step ((go_at_call 145; exact later_call (HCL.out _))))); refine wpQuiet_nil ?_; intro _ hw'; obtain ⟨nq, hw''⟩ := hw'; subst hw'')
              have B5 := hbel.trans (nq.h.mono hszr)
              have HO5 := hide (HOW.out.below nq.h)
              generalize nq.W = W5 at B5 HO5
              go_wp2_with fail
              go_round
              case measure => (simp [intOf] <;> omega)
              case rel => exact ⟨n + 1, by omega, by go_num, by rw [HST.out]; simpa using HO5.out, B5⟩
            | true =>
              go_wp2_with fail
              (refine wp_region_later (by kernel_rfl) (by kernel_rfl) ?_; (repeat (go_big_quiet_step ((go_at_call 145; exact later_call (HCL.out _))))); refine wpQuiet_nil ?_; intro _ hw'; obtain ⟨nq, hw''⟩ := hw'; subst hw'')
              have B5 := hbel.trans (nq.h.mono hszr)
              have HO5 := hide (HOW.out.below nq.h)
              have g0 := e0 nq
              have hs5 : gm ≤ nq.W.heap.size := by have := nq.h.size; omega
              clear e0 e1 e2 e3 e4 f0 f1 f2 f3 f4
              generalize nq.W = W5 at *
              go_wp2_with ((at_builtin; refine wpList_push1 (k := 1) (enc := encI) _ rfl _ _ 52 rfl 3 (.int .i64 0) 8 Try.underlying52 infoI rfl (by omega) (by omega) encI_one (gm) _ (filtTo pp xs n) rfl (HO5.out) (y0) _ rfl rfl (hdl) (hs5) (B5) (Nat.le_refl _) rfl ?_; intro v1 w1 ho1 hb1 hg1))
              go_round
              case measure => (simp [intOf] <;> omega)
              case rel => exact ⟨n + 1, by omega, by go_num, by rw [HST.out]; exact ho1, hb1⟩
        · have hnn : n = xs.length := by omega
          have HNN := hide hnn; clear hnn
          go_wp2_with fail
          go_ret2
          refine ⟨_, rfl, ?_, by first | exact hbel | (rw [hgm]; exact hbel)⟩
          have := HOW.out; rw [HNN.out] at this
          have h2 := HPP.out
          subst h2
          first | exact this | (rw [hgm]; exact this)
end Go.Proofs.Ytdbcilinoieabaa
