/- Contracts of the test of a list of makers, in impl and spec: the Lean function goodB. Condition: the names' sizes are those of memory. -/
import Derived.Test.YtapbnggdclpokaaDoorL7A
namespace Go.Proofs.YtapbnggdclpokaaDoor
open Go.RowKit Go.Lib
set_option linter.unusedVariables false
theorem getD_lt {α : Type} {xs : List α} {i : Nat} (d : α) (h : i < xs.length) : xs.getD i d = xs[i] := by simp [List.getD_eq_getElem?_getD, h]
def SMaker.at (xs : List SMaker) (i : Nat) : SMaker := xs.getD i SMaker.zero
theorem SMaker.at_lt {xs : List SMaker} {i : Nat} (h : i < xs.length) : SMaker.at xs i = xs[i] := getD_lt _ h
theorem findM_cases (xs : List SMaker) (id : Int) : findM xs id = -1 ∨ ∃ j, j < xs.length ∧ findM xs id = (j : Int) ∧ (SMaker.at xs j).ident = id := by
  unfold findM idxF
  rcases h : xs.findIdx? (fun c => c.ident == id) with _ | j
  · exact .inl (by simp only [h])
  · have h0 := h
    rw [List.findIdx?_eq_some_iff_getElem] at h
    obtain ⟨hj, he, _⟩ := h
    exact .inr ⟨j, hj, by simp only [h0], by rw [SMaker.at_lt hj]; simpa using he⟩
def heirOk (xs : List SMaker) (h u : Int) : Bool := decide (h = 0) || (decide (0 ≤ findM xs h) && decide (u < (SMaker.at xs (findM xs h).toNat).frm))
def okAt (xs : List SMaker) (i : Nat) : Bool := (SMaker.at xs i).okB && (decide (i = 0) || decide ((SMaker.at xs (i - 1)).ident < (SMaker.at xs i).ident)) && heirOk xs (SMaker.at xs i).heir (SMaker.at xs i).untl
def goodB (xs : List SMaker) : Bool := (List.range xs.length).all (okAt xs) && decide (xs.length ≤ 10)
theorem good_no {xs : List SMaker} {i : Nat} (hi : i < xs.length) (h : okAt xs i = false) : goodB xs = false := by
  unfold goodB
  rw [Bool.and_eq_false_iff]; left
  rw [List.all_eq_false]
  exact ⟨i, List.mem_range.2 hi, by rw [h]; simp⟩
theorem okB_heir {a0 : Int} {a1 : ByteArray} {a2 a3 a4 : Int} (h : SMaker.okB ⟨a0, a1, a2, a3, a4⟩ = true) : 0 ≤ a4 := by
  have := SMaker.okB_iff.1 h; omega
set_option maxHeartbeats 2000000 in
theorem l7Good_is (v : Value) (xs : List SMaker) (w : World) (h : Is 5 SMaker.enc w v xs) (hw : ∀ z ∈ xs, z.wf) :
    Calls Tryd.prog 42 #[v] w fun e w' => e = .returned (.bool (goodB xs)) ∧ Below w.heap.size w w' := by
  have hm := h.len
  have HI := hide h
  have HW := hide hw; clear hw
  obtain ⟨A, cap, rfl, hr, _, _⟩ := h
  generalize hB : w.heap.size = B at hr ⊢
  have HB := hide hB; clear hB
  have HR := hide hr; clear hr
  go_enter Tryd.func42, Tryd.ntmps42
  go_wp2_with fail
  go_loopw [3] (fun i wr => ∃ (k : Nat), k ≤ xs.length ∧ i = .int .i64 k ∧ (List.range k).all (okAt xs) = true ∧ Below B w wr) (fun i _ => xs.length - (intOf i).toNat)
  case atStart => exact ⟨0, Nat.zero_le _, rfl, rfl, Below.refl _ _⟩
  case round =>
    obtain ⟨i, hi, rfl, hall, hbel⟩ := hrel
    have HALL := hide hall; clear hall
    have hsz : B ≤ wr.heap.size := by have := hbel.size; rw [HB.out] at this; exact this
    by_cases hlt : i < xs.length
    · obtain ⟨b, off, rfl, hb, c0, c1, c2, c3, c4⟩ := SMaker.cells HR.out hlt hbel
      have hbw : b < wr.heap.size := by omega
      have hwf : xs[i].name.size ≤ 9223372036854775807 := Nat.le_trans (HW.out xs[i] (List.getElem_mem hlt)).2.1 (by decide)
      have hat : SMaker.at xs i = ⟨xs[i].ident, xs[i].name, xs[i].frm, xs[i].untl, xs[i].heir⟩ := SMaker.at_lt hlt
      generalize xs[i].ident = y0 at *; generalize xs[i].name = y1 at *; generalize xs[i].frm = y2 at *; generalize xs[i].untl = y3 at *; generalize xs[i].heir = y4 at *
      have hone := fun W => l7One_any y0 y1 y2 y3 y4 W hwf
      have hne : okAt xs i = (SMaker.okB ⟨y0, y1, y2, y3, y4⟩ && (decide (i = 0) || decide ((SMaker.at xs (i - 1)).ident < y0)) && heirOk xs y4 y3) := by unfold okAt; rw [hat]
      have BX := hbel.alloc hsz (.cells #[.int .i64 y0, .string y1, .int .i64 y2, .int .i64 y3, .int .i64 y4] 27)
      have HIX := HI.out.below BX (by rw [HB.out]; exact Nat.le_refl _)
      have hbx : ∀ W, Below (wr.alloc (.cells #[.int .i64 y0, .string y1, .int .i64 y2, .int .i64 y3, .int .i64 y4] 27)).heap.size (wr.alloc (.cells #[.int .i64 y0, .string y1, .int .i64 y2, .int .i64 y3, .int .i64 y4] 27)) W → W.cell? ⟨wr.heap.size, 0, none⟩ = some (.int .i64 y0) ∧ W.cell? ⟨wr.heap.size, 1, none⟩ = some (.string y1) ∧ W.cell? ⟨wr.heap.size, 2, none⟩ = some (.int .i64 y2) ∧ W.cell? ⟨wr.heap.size, 3, none⟩ = some (.int .i64 y3) ∧ W.cell? ⟨wr.heap.size, 4, none⟩ = some (.int .i64 y4) := by
        intro W hb
        have hc := fun o => (bcell hb).1 wr.heap.size o (by simp)
        refine ⟨?_, ?_, ?_, ?_, ?_⟩ <;> rw [hc, (Blk.new wr _ _).cell] <;> rfl
      have HBX := hide hbx; clear hbx
      have m0 := fun n : Later (wr.alloc (.cells #[.int .i64 y0, .string y1, .int .i64 y2, .int .i64 y3, .int .i64 y4] 27)) => (HBX.out n.W n.h).1
      have m1 := fun n : Later (wr.alloc (.cells #[.int .i64 y0, .string y1, .int .i64 y2, .int .i64 y3, .int .i64 y4] 27)) => (HBX.out n.W n.h).2.1
      have m2 := fun n : Later (wr.alloc (.cells #[.int .i64 y0, .string y1, .int .i64 y2, .int .i64 y3, .int .i64 y4] 27)) => (HBX.out n.W n.h).2.2.1
      have m3 := fun n : Later (wr.alloc (.cells #[.int .i64 y0, .string y1, .int .i64 y2, .int .i64 y3, .int .i64 y4] 27)) => (HBX.out n.W n.h).2.2.2.1
      have m4 := fun n : Later (wr.alloc (.cells #[.int .i64 y0, .string y1, .int .i64 y2, .int .i64 y3, .int .i64 y4] 27)) => (HBX.out n.W n.h).2.2.2.2
      have HIX2 := hide HIX; clear HIX
      clear hat hwf
      cases hok : SMaker.okB ⟨y0, y1, y2, y3, y4⟩ with
      | false =>
        rw [hok] at hone hne
        have HN := hide (good_no hlt hne); have HC := hide hone
        clear hone hne hok
        go_wp2_with fail
        (refine wp_region_later (by kernel_rfl) (by kernel_rfl) ?_; (repeat (go_big_quiet_step ((go_at_call 30; exact later_call (HC.out _))))); refine wpQuiet_nil ?_; intro _ hw'; obtain ⟨nq, hw''⟩ := hw'; subst hw'')
        have B3 := bstep BX nq.h (Nat.le_trans hsz (by simp))
        go_wp2_with fail
        go_ret
        exact ⟨ret_bool HN.out.symm, B3⟩
      | true =>
        have y4n := okB_heir hok
        rw [hok, Bool.true_and] at hne
        rw [hok] at hone
        have HC := hide hone; clear hone hok
        by_cases hprev : i = 0 ∨ (SMaker.at xs (i - 1)).ident < y0
        case neg =>
          obtain ⟨q, rfl⟩ : ∃ q, i = q + 1 := ⟨i - 1, by omega⟩
          have hp2 : ¬ (SMaker.at xs q).ident < y0 := fun hx => hprev (.inr hx)
          have hne2 : okAt xs (q + 1) = false := by
            rw [hne, decide_eq_false (show ¬ q + 1 = 0 by omega), show q + 1 - 1 = q by omega, decide_eq_false hp2]; rfl
          have HN := hide (good_no hlt hne2)
          clear hne hne2 hprev
          obtain ⟨b', off', hA, hb', p0, _, _, _, _⟩ := SMaker.cells HR.out (i := q) (by omega) hbel
          injection hA with hA; injection hA with hA1 hA2; subst hA1 hA2
          rw [SMaker.at_lt (show q < xs.length by omega)] at hp2
          generalize xs[q].ident = pid at p0 hp2
          have hge : y0 ≤ pid := by omega
          have p1 : (wr.alloc (.cells #[.int .i64 y0, .string y1, .int .i64 y2, .int .i64 y3, .int .i64 y4] 27)).cell? ⟨b, off + q * 5, none⟩ = some (.int .i64 pid) := ((bcell (below_alloc wr _)).1 _ _ hbw).trans p0
          have n1 := fun n => later_cell p1 n
          clear hp2
          go_wp2_with fail
          (refine wp_region_later (by kernel_rfl) (by kernel_rfl) ?_; (repeat (go_big_quiet_step ((go_at_call 30; exact later_call (HC.out _))))); refine wpQuiet_nil ?_; intro _ hw'; obtain ⟨nq, hw''⟩ := hw'; subst hw'')
          have B3 := bstep BX nq.h (Nat.le_trans hsz (by simp))
          go_wp2_with fail
          go_ret
          exact ⟨ret_bool HN.out.symm, B3⟩
        have hne2 : okAt xs i = heirOk xs y4 y3 := by
          rw [hne]
          rcases hprev with hz | hp
          · rw [decide_eq_true hz]; rfl
          · rw [decide_eq_true hp, Bool.or_true]; rfl
        have HNE := hide hne2; clear hne hne2
        have hcore : ∀ W1 : World, Below B w W1 → Below (wr.alloc (.cells #[.int .i64 y0, .string y1, .int .i64 y2, .int .i64 y3, .int .i64 y4] 27)).heap.size (wr.alloc (.cells #[.int .i64 y0, .string y1, .int .i64 y2, .int .i64 y3, .int .i64 y4] 27)) W1 → True := fun _ _ _ => trivial
        clear hcore
        by_cases hz : i = 0
        · subst hz
          have hzi : decide ((0 : Int) < ((0 : Nat) : Int)) = false := decide_eq_false (by omega)
          simp only [Nat.zero_mul, Nat.add_zero] at c0 c1 c2 c3 c4
          clear hprev
          go_wp2_with fail
          (refine wp_region_later (by kernel_rfl) (by kernel_rfl) ?_; (repeat (go_big_quiet_step ((go_at_call 30; exact later_call (HC.out _))))); refine wpQuiet_nil ?_; intro _ hw'; obtain ⟨nq, hw''⟩ := hw'; subst hw'')
          have B3 := bstep BX nq.h (Nat.le_trans hsz (by simp))
          have nqh := nq.h
          have e3 := (HBX.out nq.W nq.h).2.2.2.1; have e4 := (HBX.out nq.W nq.h).2.2.2.2
          have s3 : B ≤ nq.W.heap.size := by have := B3.size; rw [HB.out] at this; exact this
          generalize nq.W = W3 at B3 e3 e4 s3 nqh
          clear nq m0 m1 m2 m3 m4
          by_cases hz4 : y4 = 0
          · subst hz4
            have hk4 : heirOk xs 0 y3 = true := rfl
            rw [hk4] at HNE
            go_wp2_with fail
            go_round
            case measure => (simp [intOf] <;> omega)
            case rel => exact ⟨0 + 1, by omega, by go_num, by rw [List.range_succ, List.all_append, HALL.out]; simp; exact HNE.out, B3⟩
          · have h4p : (0 : Int) < y4 := by omega
            clear hz4
            go_wp2_with fail
            refine (l7Find_any _ xs y4 _ (HIX2.out.below nqh (Nat.le_refl _))).mono ?_; rintro e w' ⟨rfl, rfl⟩
            rcases findM_cases xs y4 with hf | ⟨j, hj, hf, _⟩
            · have hk4 : heirOk xs y4 y3 = false := by
                unfold heirOk
                rw [decide_eq_false (show ¬ y4 = 0 by omega), hf]; rfl
              rw [hk4] at HNE
              have HN := hide (good_no hlt HNE.out)
              rw [hf]
              clear hf hk4
              go_wp2_with fail
              (refine wp_region_later (by kernel_rfl) (by kernel_rfl) ?_; (repeat (go_big_quiet_step (fail))); refine wpQuiet_nil ?_; intro _ hw'; obtain ⟨nq, hw''⟩ := hw'; subst hw'')
              have B4 := bstep B3 nq.h s3
              go_wp2_with fail
              go_ret
              exact ⟨ret_bool HN.out.symm, B4⟩
            · obtain ⟨b', off', hA, hb', _, _, f2, _, _⟩ := SMaker.cells HR.out hj B3
              injection hA with hA; injection hA with hA1 hA2; subst hA1 hA2
              have hk5 : heirOk xs y4 y3 = decide (y3 < xs[j].frm) := by
                unfold heirOk
                rw [decide_eq_false (show ¬ y4 = 0 by omega), hf, decide_eq_true (show (0 : Int) ≤ (j : Int) by omega), Int.toNat_natCast, SMaker.at_lt hj]; rfl
              generalize xs[j].frm = fj at f2 hk5
              rw [hf]
              clear hf
              have k3 := fun n => later_cell e3 n; have k2 := fun n => later_cell f2 n
              have hjn : decide ((j : Int) < 0) = false := decide_eq_false (by omega)
              have hjl : (j : Int) < xs.length := by omega
              by_cases hfu : fj ≤ y3
              · rw [decide_eq_false (show ¬ y3 < fj by omega)] at hk5
                rw [hk5] at HNE
                have HN := hide (good_no hlt HNE.out)
                clear hk5
                go_wp2_with fail
                (refine wp_region_later (by kernel_rfl) (by kernel_rfl) ?_; (repeat (go_big_quiet_step (fail))); refine wpQuiet_nil ?_; intro _ hw'; obtain ⟨nq, hw''⟩ := hw'; subst hw'')
                have B4 := bstep B3 nq.h s3
                go_wp2_with fail
                go_ret
                exact ⟨ret_bool HN.out.symm, B4⟩
              · have hfu2 : decide (fj ≤ y3) = false := decide_eq_false hfu
                rw [decide_eq_true (show y3 < fj by omega)] at hk5
                rw [hk5] at HNE
                clear hk5 hfu
                go_wp2_with fail
                (refine wp_region_later (by kernel_rfl) (by kernel_rfl) ?_; (repeat (go_big_quiet_step (fail))); refine wpQuiet_nil ?_; intro _ hw'; obtain ⟨nq, hw''⟩ := hw'; subst hw'')
                have B4 := bstep B3 nq.h s3
                generalize nq.W = W5 at B4
                clear nq
                go_wp2_with fail
                go_round
                case measure => (simp [intOf] <;> omega)
                case rel => exact ⟨0 + 1, by omega, by go_num, by rw [List.range_succ, List.all_append, HALL.out]; simp; exact HNE.out, B4⟩
        · obtain ⟨q, rfl⟩ : ∃ q, i = q + 1 := ⟨i - 1, by omega⟩
          have hp2 : (SMaker.at xs q).ident < y0 := by rcases hprev with hx | hx
                                                       · exact absurd hx hz
                                                       · exact hx
          clear hprev hz
          obtain ⟨b', off', hA, hb', p0, _, _, _, _⟩ := SMaker.cells HR.out (i := q) (by omega) hbel
          injection hA with hA; injection hA with hA1 hA2; subst hA1 hA2
          rw [SMaker.at_lt (show q < xs.length by omega)] at hp2
          generalize xs[q].ident = pid at p0 hp2
          have hge : decide (y0 ≤ pid) = false := decide_eq_false (by omega)
          have p1 : (wr.alloc (.cells #[.int .i64 y0, .string y1, .int .i64 y2, .int .i64 y3, .int .i64 y4] 27)).cell? ⟨b, off + q * 5, none⟩ = some (.int .i64 pid) := ((bcell (below_alloc wr _)).1 _ _ hbw).trans p0
          have n1 := fun n => later_cell p1 n
          clear hp2
          go_wp2_with fail
          (refine wp_region_later (by kernel_rfl) (by kernel_rfl) ?_; (repeat (go_big_quiet_step ((go_at_call 30; exact later_call (HC.out _))))); refine wpQuiet_nil ?_; intro _ hw'; obtain ⟨nq, hw''⟩ := hw'; subst hw'')
          have B3 := bstep BX nq.h (Nat.le_trans hsz (by simp))
          have nqh := nq.h
          have e3 := (HBX.out nq.W nq.h).2.2.2.1; have e4 := (HBX.out nq.W nq.h).2.2.2.2
          have s3 : B ≤ nq.W.heap.size := by have := B3.size; rw [HB.out] at this; exact this
          generalize nq.W = W3 at B3 e3 e4 s3 nqh
          clear nq m0 m1 m2 m3 m4
          by_cases hz4 : y4 = 0
          · subst hz4
            have hk4 : heirOk xs 0 y3 = true := rfl
            rw [hk4] at HNE
            go_wp2_with fail
            go_round
            case measure => (simp [intOf] <;> omega)
            case rel => exact ⟨q + 1 + 1, by omega, by go_num, by rw [List.range_succ, List.all_append, HALL.out]; simp; exact HNE.out, B3⟩
          · have h4p : (0 : Int) < y4 := by omega
            clear hz4
            go_wp2_with fail
            refine (l7Find_any _ xs y4 _ (HIX2.out.below nqh (Nat.le_refl _))).mono ?_; rintro e w' ⟨rfl, rfl⟩
            rcases findM_cases xs y4 with hf | ⟨j, hj, hf, _⟩
            · have hk4 : heirOk xs y4 y3 = false := by
                unfold heirOk
                rw [decide_eq_false (show ¬ y4 = 0 by omega), hf]; rfl
              rw [hk4] at HNE
              have HN := hide (good_no hlt HNE.out)
              rw [hf]
              clear hf hk4
              go_wp2_with fail
              (refine wp_region_later (by kernel_rfl) (by kernel_rfl) ?_; (repeat (go_big_quiet_step (fail))); refine wpQuiet_nil ?_; intro _ hw'; obtain ⟨nq, hw''⟩ := hw'; subst hw'')
              have B4 := bstep B3 nq.h s3
              go_wp2_with fail
              go_ret
              exact ⟨ret_bool HN.out.symm, B4⟩
            · obtain ⟨b', off', hA, hb', _, _, f2, _, _⟩ := SMaker.cells HR.out hj B3
              injection hA with hA; injection hA with hA1 hA2; subst hA1 hA2
              have hk5 : heirOk xs y4 y3 = decide (y3 < xs[j].frm) := by
                unfold heirOk
                rw [decide_eq_false (show ¬ y4 = 0 by omega), hf, decide_eq_true (show (0 : Int) ≤ (j : Int) by omega), Int.toNat_natCast, SMaker.at_lt hj]; rfl
              generalize xs[j].frm = fj at f2 hk5
              rw [hf]
              clear hf
              have k3 := fun n => later_cell e3 n; have k2 := fun n => later_cell f2 n
              have hjn : decide ((j : Int) < 0) = false := decide_eq_false (by omega)
              have hjl : (j : Int) < xs.length := by omega
              by_cases hfu : fj ≤ y3
              · rw [decide_eq_false (show ¬ y3 < fj by omega)] at hk5
                rw [hk5] at HNE
                have HN := hide (good_no hlt HNE.out)
                clear hk5
                go_wp2_with fail
                (refine wp_region_later (by kernel_rfl) (by kernel_rfl) ?_; (repeat (go_big_quiet_step (fail))); refine wpQuiet_nil ?_; intro _ hw'; obtain ⟨nq, hw''⟩ := hw'; subst hw'')
                have B4 := bstep B3 nq.h s3
                go_wp2_with fail
                go_ret
                exact ⟨ret_bool HN.out.symm, B4⟩
              · have hfu2 : decide (fj ≤ y3) = false := decide_eq_false hfu
                rw [decide_eq_true (show y3 < fj by omega)] at hk5
                rw [hk5] at HNE
                clear hk5 hfu
                go_wp2_with fail
                (refine wp_region_later (by kernel_rfl) (by kernel_rfl) ?_; (repeat (go_big_quiet_step (fail))); refine wpQuiet_nil ?_; intro _ hw'; obtain ⟨nq, hw''⟩ := hw'; subst hw'')
                have B4 := bstep B3 nq.h s3
                generalize nq.W = W5 at B4
                clear nq
                go_wp2_with fail
                go_round
                case measure => (simp [intOf] <;> omega)
                case rel => exact ⟨q + 1 + 1, by omega, by go_num, by rw [List.range_succ, List.all_append, HALL.out]; simp; exact HNE.out, B4⟩
    · have hk : i = xs.length := by omega
      have hg : goodB xs = decide ((xs.length : Int) ≤ 10) := by
        unfold goodB
        have := HALL.out
        rw [hk] at this
        rw [this, Bool.true_and, decide_eq_decide]; omega
      have HG := hide hg; clear hg
      have HK := hide hk; clear hk
      go_wp2_with fail
      go_ret
      exact ⟨ret_bool HG.out.symm, hbel⟩
set_option maxHeartbeats 2000000 in
theorem AreMakers_is (v : Value) (xs : List SMaker) (w : World) (h : Is 5 SMaker.enc w v xs) (hw : ∀ z ∈ xs, z.wf) :
    Calls Tryd.prog 38 #[v] w fun e w' => e = .returned (.bool (goodB xs)) ∧ Below w.heap.size w w' := by
  have hm := h.len
  have HI := hide h
  have HW := hide hw; clear hw
  obtain ⟨A, cap, rfl, hr, _, _⟩ := h
  generalize hB : w.heap.size = B at hr ⊢
  have HB := hide hB; clear hB
  have HR := hide hr; clear hr
  go_enter Tryd.func38, Tryd.ntmps38
  go_wp2_with fail
  go_loopw [8] (fun i wr => ∃ (k : Nat), k ≤ xs.length ∧ i = .int .i64 k ∧ (List.range k).all (okAt xs) = true ∧ Below B w wr) (fun i _ => xs.length - (intOf i).toNat)
  case atStart => exact ⟨0, Nat.zero_le _, rfl, rfl, Below.refl _ _⟩
  case round =>
    obtain ⟨i, hi, rfl, hall, hbel⟩ := hrel
    have HALL := hide hall; clear hall
    have hsz : B ≤ wr.heap.size := by have := hbel.size; rw [HB.out] at this; exact this
    by_cases hlt : i < xs.length
    · obtain ⟨b, off, rfl, hb, c0, c1, c2, c3, c4⟩ := SMaker.cells HR.out hlt hbel
      have hbw : b < wr.heap.size := by omega
      have hwf : xs[i].name.size ≤ 9223372036854775807 := Nat.le_trans (HW.out xs[i] (List.getElem_mem hlt)).2.1 (by decide)
      have hat : SMaker.at xs i = ⟨xs[i].ident, xs[i].name, xs[i].frm, xs[i].untl, xs[i].heir⟩ := SMaker.at_lt hlt
      generalize xs[i].ident = y0 at *; generalize xs[i].name = y1 at *; generalize xs[i].frm = y2 at *; generalize xs[i].untl = y3 at *; generalize xs[i].heir = y4 at *
      have hone := fun W => IsMaker_any y0 y1 y2 y3 y4 W hwf
      have hne : okAt xs i = (SMaker.okB ⟨y0, y1, y2, y3, y4⟩ && (decide (i = 0) || decide ((SMaker.at xs (i - 1)).ident < y0)) && heirOk xs y4 y3) := by unfold okAt; rw [hat]
      have BX := hbel.alloc hsz (.cells #[.int .i64 y0, .string y1, .int .i64 y2, .int .i64 y3, .int .i64 y4] 27)
      have HIX := HI.out.below BX (by rw [HB.out]; exact Nat.le_refl _)
      have hbx : ∀ W, Below (wr.alloc (.cells #[.int .i64 y0, .string y1, .int .i64 y2, .int .i64 y3, .int .i64 y4] 27)).heap.size (wr.alloc (.cells #[.int .i64 y0, .string y1, .int .i64 y2, .int .i64 y3, .int .i64 y4] 27)) W → W.cell? ⟨wr.heap.size, 0, none⟩ = some (.int .i64 y0) ∧ W.cell? ⟨wr.heap.size, 1, none⟩ = some (.string y1) ∧ W.cell? ⟨wr.heap.size, 2, none⟩ = some (.int .i64 y2) ∧ W.cell? ⟨wr.heap.size, 3, none⟩ = some (.int .i64 y3) ∧ W.cell? ⟨wr.heap.size, 4, none⟩ = some (.int .i64 y4) := by
        intro W hb
        have hc := fun o => (bcell hb).1 wr.heap.size o (by simp)
        refine ⟨?_, ?_, ?_, ?_, ?_⟩ <;> rw [hc, (Blk.new wr _ _).cell] <;> rfl
      have HBX := hide hbx; clear hbx
      have m0 := fun n : Later (wr.alloc (.cells #[.int .i64 y0, .string y1, .int .i64 y2, .int .i64 y3, .int .i64 y4] 27)) => (HBX.out n.W n.h).1
      have m1 := fun n : Later (wr.alloc (.cells #[.int .i64 y0, .string y1, .int .i64 y2, .int .i64 y3, .int .i64 y4] 27)) => (HBX.out n.W n.h).2.1
      have m2 := fun n : Later (wr.alloc (.cells #[.int .i64 y0, .string y1, .int .i64 y2, .int .i64 y3, .int .i64 y4] 27)) => (HBX.out n.W n.h).2.2.1
      have m3 := fun n : Later (wr.alloc (.cells #[.int .i64 y0, .string y1, .int .i64 y2, .int .i64 y3, .int .i64 y4] 27)) => (HBX.out n.W n.h).2.2.2.1
      have m4 := fun n : Later (wr.alloc (.cells #[.int .i64 y0, .string y1, .int .i64 y2, .int .i64 y3, .int .i64 y4] 27)) => (HBX.out n.W n.h).2.2.2.2
      have HIX2 := hide HIX; clear HIX
      clear hat hwf
      cases hok : SMaker.okB ⟨y0, y1, y2, y3, y4⟩ with
      | false =>
        rw [hok] at hone hne
        have HN := hide (good_no hlt hne); have HC := hide hone
        clear hone hne hok
        go_wp2_with fail
        (refine wp_region_later (by kernel_rfl) (by kernel_rfl) ?_; (repeat (go_big_quiet_step ((go_at_call 28; exact later_call (HC.out _))))); refine wpQuiet_nil ?_; intro _ hw'; obtain ⟨nq, hw''⟩ := hw'; subst hw'')
        have B3 := bstep BX nq.h (Nat.le_trans hsz (by simp))
        go_wp2_with fail
        go_ret
        exact ⟨ret_bool HN.out.symm, B3⟩
      | true =>
        have y4n := okB_heir hok
        rw [hok, Bool.true_and] at hne
        rw [hok] at hone
        have HC := hide hone; clear hone hok
        by_cases hprev : i = 0 ∨ (SMaker.at xs (i - 1)).ident < y0
        case neg =>
          obtain ⟨q, rfl⟩ : ∃ q, i = q + 1 := ⟨i - 1, by omega⟩
          have hp2 : ¬ (SMaker.at xs q).ident < y0 := fun hx => hprev (.inr hx)
          have hne2 : okAt xs (q + 1) = false := by
            rw [hne, decide_eq_false (show ¬ q + 1 = 0 by omega), show q + 1 - 1 = q by omega, decide_eq_false hp2]; rfl
          have HN := hide (good_no hlt hne2)
          clear hne hne2 hprev
          obtain ⟨b', off', hA, hb', p0, _, _, _, _⟩ := SMaker.cells HR.out (i := q) (by omega) hbel
          injection hA with hA; injection hA with hA1 hA2; subst hA1 hA2
          rw [SMaker.at_lt (show q < xs.length by omega)] at hp2
          generalize xs[q].ident = pid at p0 hp2
          have hge : y0 ≤ pid := by omega
          have p1 : (wr.alloc (.cells #[.int .i64 y0, .string y1, .int .i64 y2, .int .i64 y3, .int .i64 y4] 27)).cell? ⟨b, off + q * 5, none⟩ = some (.int .i64 pid) := ((bcell (below_alloc wr _)).1 _ _ hbw).trans p0
          have n1 := fun n => later_cell p1 n
          clear hp2
          go_wp2_with fail
          (refine wp_region_later (by kernel_rfl) (by kernel_rfl) ?_; (repeat (go_big_quiet_step ((go_at_call 28; exact later_call (HC.out _))))); refine wpQuiet_nil ?_; intro _ hw'; obtain ⟨nq, hw''⟩ := hw'; subst hw'')
          have B3 := bstep BX nq.h (Nat.le_trans hsz (by simp))
          go_wp2_with fail
          go_ret
          exact ⟨ret_bool HN.out.symm, B3⟩
        have hne2 : okAt xs i = heirOk xs y4 y3 := by
          rw [hne]
          rcases hprev with hz | hp
          · rw [decide_eq_true hz]; rfl
          · rw [decide_eq_true hp, Bool.or_true]; rfl
        have HNE := hide hne2; clear hne hne2
        have hcore : ∀ W1 : World, Below B w W1 → Below (wr.alloc (.cells #[.int .i64 y0, .string y1, .int .i64 y2, .int .i64 y3, .int .i64 y4] 27)).heap.size (wr.alloc (.cells #[.int .i64 y0, .string y1, .int .i64 y2, .int .i64 y3, .int .i64 y4] 27)) W1 → True := fun _ _ _ => trivial
        clear hcore
        by_cases hz : i = 0
        · subst hz
          have hzi : decide ((0 : Int) < ((0 : Nat) : Int)) = false := decide_eq_false (by omega)
          simp only [Nat.zero_mul, Nat.add_zero] at c0 c1 c2 c3 c4
          clear hprev
          go_wp2_with fail
          (refine wp_region_later (by kernel_rfl) (by kernel_rfl) ?_; (repeat (go_big_quiet_step ((go_at_call 28; exact later_call (HC.out _))))); refine wpQuiet_nil ?_; intro _ hw'; obtain ⟨nq, hw''⟩ := hw'; subst hw'')
          have B3 := bstep BX nq.h (Nat.le_trans hsz (by simp))
          have nqh := nq.h
          have e3 := (HBX.out nq.W nq.h).2.2.2.1; have e4 := (HBX.out nq.W nq.h).2.2.2.2
          have s3 : B ≤ nq.W.heap.size := by have := B3.size; rw [HB.out] at this; exact this
          generalize nq.W = W3 at B3 e3 e4 s3 nqh
          clear nq m0 m1 m2 m3 m4
          go_wp2_with fail
          refine (makerAt_any _ xs y4 _ (HIX2.out.below nqh (Nat.le_refl _))).mono ?_; rintro e w5 ⟨rfl, hb5⟩
          have nqh5 := nqh.trans (hb5.mono nqh.size)
          have B5 := bstep B3 hb5 s3
          have s5 : B ≤ w5.heap.size := Nat.le_trans s3 hb5.size
          have e3' := (HBX.out w5 nqh5).2.2.2.1; have e4' := (HBX.out w5 nqh5).2.2.2.2
          clear e3 e4 nqh
          have k3 := fun n => later_cell e3' n; have k4 := fun n => later_cell e4' n
          by_cases hz4 : y4 = 0
          · subst hz4
            have hk4 : heirOk xs 0 y3 = true := rfl
            rw [hk4] at HNE
            generalize findM xs 0 = fz
            go_wp2_with fail
            (refine wp_region_later (by kernel_rfl) (by kernel_rfl) ?_; (repeat (go_big_quiet_step (fail))); refine wpQuiet_nil ?_; intro _ hw'; obtain ⟨nq, hw''⟩ := hw'; subst hw'')
            have B4 := bstep B5 nq.h s5
            generalize nq.W = W6 at B4
            clear nq
            go_wp2_with fail
            go_round
            case measure => (simp [intOf] <;> omega)
            case rel => exact ⟨0 + 1, by omega, by go_num, by rw [List.range_succ, List.all_append, HALL.out]; simp; exact HNE.out, B4⟩
          · have h4p : (y4 == 0) = false := by simpa using hz4
            have h4q : (y4 != 0) = true := by simp [bne, h4p]
            rcases findM_cases xs y4 with hf | ⟨j, hj, hf, _⟩
            · have hk4 : heirOk xs y4 y3 = false := by
                unfold heirOk
                rw [decide_eq_false hz4, hf]; rfl
              rw [hk4] at HNE
              have HN := hide (good_no hlt HNE.out)
              rw [hf]
              clear hf hk4
              go_wp2_with fail
              (refine wp_region_later (by kernel_rfl) (by kernel_rfl) ?_; (repeat (go_big_quiet_step (fail))); refine wpQuiet_nil ?_; intro _ hw'; obtain ⟨nq, hw''⟩ := hw'; subst hw'')
              have B4 := bstep B5 nq.h s5
              go_wp2_with fail
              go_ret
              exact ⟨ret_bool HN.out.symm, B4⟩
            · obtain ⟨b', off', hA, hb', _, _, f2, _, _⟩ := SMaker.cells HR.out hj B5
              injection hA with hA; injection hA with hA1 hA2; subst hA1 hA2
              have hk5 : heirOk xs y4 y3 = decide (y3 < xs[j].frm) := by
                unfold heirOk
                rw [decide_eq_false hz4, hf, decide_eq_true (show (0 : Int) ≤ (j : Int) by omega), Int.toNat_natCast, SMaker.at_lt hj]; rfl
              generalize xs[j].frm = fj at f2 hk5
              rw [hf]
              clear hf
              have k2 := fun n => later_cell f2 n
              have hjn : decide ((j : Int) < 0) = false := decide_eq_false (by omega)
              have hjl : (j : Int) < xs.length := by omega
              by_cases hfu : fj ≤ y3
              · rw [decide_eq_false (show ¬ y3 < fj by omega)] at hk5
                rw [hk5] at HNE
                have HN := hide (good_no hlt HNE.out)
                clear hk5
                go_wp2_with fail
                (refine wp_region_later (by kernel_rfl) (by kernel_rfl) ?_; (repeat (go_big_quiet_step (fail))); refine wpQuiet_nil ?_; intro _ hw'; obtain ⟨nq, hw''⟩ := hw'; subst hw'')
                have B4 := bstep B5 nq.h s5
                go_wp2_with fail
                go_ret
                exact ⟨ret_bool HN.out.symm, B4⟩
              · have hfu2 : decide (fj ≤ y3) = false := decide_eq_false hfu
                rw [decide_eq_true (show y3 < fj by omega)] at hk5
                rw [hk5] at HNE
                clear hk5 hfu
                go_wp2_with fail
                (refine wp_region_later (by kernel_rfl) (by kernel_rfl) ?_; (repeat (go_big_quiet_step (fail))); refine wpQuiet_nil ?_; intro _ hw'; obtain ⟨nq, hw''⟩ := hw'; subst hw'')
                have B4 := bstep B5 nq.h s5
                generalize nq.W = W6 at B4
                clear nq
                go_wp2_with fail
                go_round
                case measure => (simp [intOf] <;> omega)
                case rel => exact ⟨0 + 1, by omega, by go_num, by rw [List.range_succ, List.all_append, HALL.out]; simp; exact HNE.out, B4⟩
        · obtain ⟨q, rfl⟩ : ∃ q, i = q + 1 := ⟨i - 1, by omega⟩
          have hp2 : (SMaker.at xs q).ident < y0 := by rcases hprev with hx | hx
                                                       · exact absurd hx hz
                                                       · exact hx
          clear hprev hz
          obtain ⟨b', off', hA, hb', p0, _, _, _, _⟩ := SMaker.cells HR.out (i := q) (by omega) hbel
          injection hA with hA; injection hA with hA1 hA2; subst hA1 hA2
          rw [SMaker.at_lt (show q < xs.length by omega)] at hp2
          generalize xs[q].ident = pid at p0 hp2
          have hge : decide (y0 ≤ pid) = false := decide_eq_false (by omega)
          have p1 : (wr.alloc (.cells #[.int .i64 y0, .string y1, .int .i64 y2, .int .i64 y3, .int .i64 y4] 27)).cell? ⟨b, off + q * 5, none⟩ = some (.int .i64 pid) := ((bcell (below_alloc wr _)).1 _ _ hbw).trans p0
          have n1 := fun n => later_cell p1 n
          clear hp2
          go_wp2_with fail
          (refine wp_region_later (by kernel_rfl) (by kernel_rfl) ?_; (repeat (go_big_quiet_step ((go_at_call 28; exact later_call (HC.out _))))); refine wpQuiet_nil ?_; intro _ hw'; obtain ⟨nq, hw''⟩ := hw'; subst hw'')
          have B3 := bstep BX nq.h (Nat.le_trans hsz (by simp))
          have nqh := nq.h
          have e3 := (HBX.out nq.W nq.h).2.2.2.1; have e4 := (HBX.out nq.W nq.h).2.2.2.2
          have s3 : B ≤ nq.W.heap.size := by have := B3.size; rw [HB.out] at this; exact this
          generalize nq.W = W3 at B3 e3 e4 s3 nqh
          clear nq m0 m1 m2 m3 m4
          go_wp2_with fail
          refine (makerAt_any _ xs y4 _ (HIX2.out.below nqh (Nat.le_refl _))).mono ?_; rintro e w5 ⟨rfl, hb5⟩
          have nqh5 := nqh.trans (hb5.mono nqh.size)
          have B5 := bstep B3 hb5 s3
          have s5 : B ≤ w5.heap.size := Nat.le_trans s3 hb5.size
          have e3' := (HBX.out w5 nqh5).2.2.2.1; have e4' := (HBX.out w5 nqh5).2.2.2.2
          clear e3 e4 nqh
          have k3 := fun n => later_cell e3' n; have k4 := fun n => later_cell e4' n
          by_cases hz4 : y4 = 0
          · subst hz4
            have hk4 : heirOk xs 0 y3 = true := rfl
            rw [hk4] at HNE
            generalize findM xs 0 = fz
            go_wp2_with fail
            (refine wp_region_later (by kernel_rfl) (by kernel_rfl) ?_; (repeat (go_big_quiet_step (fail))); refine wpQuiet_nil ?_; intro _ hw'; obtain ⟨nq, hw''⟩ := hw'; subst hw'')
            have B4 := bstep B5 nq.h s5
            generalize nq.W = W6 at B4
            clear nq
            go_wp2_with fail
            go_round
            case measure => (simp [intOf] <;> omega)
            case rel => exact ⟨q + 1 + 1, by omega, by go_num, by rw [List.range_succ, List.all_append, HALL.out]; simp; exact HNE.out, B4⟩
          · have h4p : (y4 == 0) = false := by simpa using hz4
            have h4q : (y4 != 0) = true := by simp [bne, h4p]
            rcases findM_cases xs y4 with hf | ⟨j, hj, hf, _⟩
            · have hk4 : heirOk xs y4 y3 = false := by
                unfold heirOk
                rw [decide_eq_false hz4, hf]; rfl
              rw [hk4] at HNE
              have HN := hide (good_no hlt HNE.out)
              rw [hf]
              clear hf hk4
              go_wp2_with fail
              (refine wp_region_later (by kernel_rfl) (by kernel_rfl) ?_; (repeat (go_big_quiet_step (fail))); refine wpQuiet_nil ?_; intro _ hw'; obtain ⟨nq, hw''⟩ := hw'; subst hw'')
              have B4 := bstep B5 nq.h s5
              go_wp2_with fail
              go_ret
              exact ⟨ret_bool HN.out.symm, B4⟩
            · obtain ⟨b', off', hA, hb', _, _, f2, _, _⟩ := SMaker.cells HR.out hj B5
              injection hA with hA; injection hA with hA1 hA2; subst hA1 hA2
              have hk5 : heirOk xs y4 y3 = decide (y3 < xs[j].frm) := by
                unfold heirOk
                rw [decide_eq_false hz4, hf, decide_eq_true (show (0 : Int) ≤ (j : Int) by omega), Int.toNat_natCast, SMaker.at_lt hj]; rfl
              generalize xs[j].frm = fj at f2 hk5
              rw [hf]
              clear hf
              have k2 := fun n => later_cell f2 n
              have hjn : decide ((j : Int) < 0) = false := decide_eq_false (by omega)
              have hjl : (j : Int) < xs.length := by omega
              by_cases hfu : fj ≤ y3
              · rw [decide_eq_false (show ¬ y3 < fj by omega)] at hk5
                rw [hk5] at HNE
                have HN := hide (good_no hlt HNE.out)
                clear hk5
                go_wp2_with fail
                (refine wp_region_later (by kernel_rfl) (by kernel_rfl) ?_; (repeat (go_big_quiet_step (fail))); refine wpQuiet_nil ?_; intro _ hw'; obtain ⟨nq, hw''⟩ := hw'; subst hw'')
                have B4 := bstep B5 nq.h s5
                go_wp2_with fail
                go_ret
                exact ⟨ret_bool HN.out.symm, B4⟩
              · have hfu2 : decide (fj ≤ y3) = false := decide_eq_false hfu
                rw [decide_eq_true (show y3 < fj by omega)] at hk5
                rw [hk5] at HNE
                clear hk5 hfu
                go_wp2_with fail
                (refine wp_region_later (by kernel_rfl) (by kernel_rfl) ?_; (repeat (go_big_quiet_step (fail))); refine wpQuiet_nil ?_; intro _ hw'; obtain ⟨nq, hw''⟩ := hw'; subst hw'')
                have B4 := bstep B5 nq.h s5
                generalize nq.W = W6 at B4
                clear nq
                go_wp2_with fail
                go_round
                case measure => (simp [intOf] <;> omega)
                case rel => exact ⟨q + 1 + 1, by omega, by go_num, by rw [List.range_succ, List.all_append, HALL.out]; simp; exact HNE.out, B4⟩
    · have hk : i = xs.length := by omega
      have hg : goodB xs = decide ((xs.length : Int) ≤ 10) := by
        unfold goodB
        have := HALL.out
        rw [hk] at this
        rw [this, Bool.true_and, decide_eq_decide]; omega
      have HG := hide hg; clear hg
      have HK := hide hk; clear hk
      go_wp2_with fail
      go_ret
      exact ⟨ret_bool HG.out.symm, hbel⟩
end Go.Proofs.YtapbnggdclpokaaDoor
