/- Contracts of the test of a list of loans, in impl and spec: the Lean function goodL. No condition. -/
import Derived.Test.YtplemibckjnbhaaL11A
namespace Go.Proofs.Ytplemibckjnbhaa
open Go.RowKit
set_option linter.unusedVariables false
theorem getD_lt {α : Type} {xs : List α} {i : Nat} (d : α) (h : i < xs.length) : xs.getD i d = xs[i] := by simp [List.getD_eq_getElem?_getD, h]
def SLoan.at (xs : List SLoan) (i : Nat) : SLoan := xs.getD i SLoan.zero
theorem SLoan.at_lt {xs : List SLoan} {i : Nat} (h : i < xs.length) : SLoan.at xs i = xs[i] := getD_lt _ h
/-- whether the loan k, which stands ahead of the loan i, keeps its sheet from it -/
def clash (xs : List SLoan) (i k : Nat) : Bool := ((SLoan.at xs k).sheet == (SLoan.at xs i).sheet) && (decide ((SLoan.at xs k).back < 0) || decide ((SLoan.at xs i).out < (SLoan.at xs k).back))
def okL (xs : List SLoan) (i : Nat) : Bool := (SLoan.at xs i).okB && (decide (i = 0) || decide ((SLoan.at xs (i - 1)).out ≤ (SLoan.at xs i).out)) && (List.range i).all fun k => !clash xs i k
def goodL (xs : List SLoan) : Bool := (List.range xs.length).all (okL xs) && decide (xs.length ≤ 15)
theorem goodL_no {xs : List SLoan} {i : Nat} (hi : i < xs.length) (h : okL xs i = false) : goodL xs = false := by
  unfold goodL
  rw [Bool.and_eq_false_iff]; left
  rw [List.all_eq_false]
  exact ⟨i, List.mem_range.2 hi, by rw [h]; simp⟩
theorem okL_clash {xs : List SLoan} {i k : Nat} (hk : k < i) (h : clash xs i k = true) : okL xs i = false := by
  unfold okL
  rw [Bool.and_eq_false_iff]; right
  rw [List.all_eq_false]
  exact ⟨k, List.mem_range.2 hk, by rw [h]; simp⟩
theorem range_all {p : Nat → Bool} {n k : Nat} (h : (List.range n).all p = true) (hk : k < n) : p k = true := by
  rw [List.all_eq_true] at h; exact h k (List.mem_range.2 hk)
set_option maxHeartbeats 2000000 in
theorem l11Good_is (v : Value) (xs : List SLoan) (w : World) (h : Is 5 SLoan.enc w v xs) :
    Calls Try.prog 79 #[v] w fun e w' => e = .returned (.bool (goodL xs)) ∧ Below w.heap.size w w' := by
  have hm := h.len
  obtain ⟨A, cap, rfl, hr, hle, _⟩ := h
  generalize hB : w.heap.size = B at hr ⊢
  have HB := hide hB; clear hB
  have HR := hide hr; clear hr
  go_enter Try.func79, Try.ntmps79
  go_wp2_with fail
  go_loopw [3] (fun i wr => ∃ (k : Nat), k ≤ xs.length ∧ k ≤ 16 ∧ i = .int .i64 k ∧ (List.range k).all (okL xs) = true ∧ Below B w wr) (fun i _ => xs.length - (intOf i).toNat)
  case atStart => exact ⟨0, Nat.zero_le _, by omega, rfl, rfl, Below.refl _ _⟩
  case round =>
    obtain ⟨i, hi, hi16, rfl, hall, hbel⟩ := hrel
    have HALL := hide hall; clear hall
    have hsz : B ≤ wr.heap.size := by have := hbel.size; rw [HB.out] at this; exact this
    by_cases hlt : i < xs.length ∧ i ≤ 15
    · obtain ⟨hlt, hi15⟩ := hlt
      have hi15' : (i : Int) ≤ 15 := by omega
      have hlt' : (i : Int) < xs.length := by omega
      obtain ⟨b, off, rfl, hb, c0, c1, c2, c3, c4⟩ := SLoan.cells HR.out hlt hbel
      have hbw : b < wr.heap.size := by omega
      have hat : SLoan.at xs i = ⟨xs[i].sheet, xs[i].reader, xs[i].out, xs[i].due, xs[i].back⟩ := SLoan.at_lt hlt
      generalize xs[i].sheet = y0 at *; generalize xs[i].reader = y1 at *; generalize xs[i].out = y2 at *; generalize xs[i].due = y3 at *; generalize xs[i].back = y4 at *
      have hone := fun W => l11One_any y0 y1 y2 y3 y4 W
      have hne : okL xs i = (SLoan.okB ⟨y0, y1, y2, y3, y4⟩ && (decide (i = 0) || decide ((SLoan.at xs (i - 1)).out ≤ y2)) && (List.range i).all fun k => !clash xs i k) := by unfold okL; rw [hat]
      have HAT := hide hat; clear hat
      have BX := hbel
      have hsx := hsz
      have m0 := fun n => later_cell c0 n; have m1 := fun n => later_cell c1 n; have m2 := fun n => later_cell c2 n; have m3 := fun n => later_cell c3 n; have m4 := fun n => later_cell c4 n
      cases hok : SLoan.okB ⟨y0, y1, y2, y3, y4⟩ with
      | false =>
        rw [hok] at hone hne
        have HN := hide (goodL_no hlt hne); have HC := hide hone
        clear hone hne hok
        go_wp2_with fail
        (refine wp_region_later (by kernel_rfl) (by kernel_rfl) ?_; (repeat (go_big_quiet_step ((go_at_call 178; exact later_alloc (HC.out _))))); refine wpQuiet_nil ?_; intro _ hw'; obtain ⟨nq, hw''⟩ := hw'; subst hw'')
        have B3 := bstep BX nq.h hsx
        go_wp2_with fail
        go_ret
        exact ⟨ret_bool HN.out.symm, B3⟩
      | true =>
        rw [hok, Bool.true_and] at hne
        rw [hok] at hone
        have HC := hide hone; clear hone hok
        by_cases hprev : i = 0 ∨ (SLoan.at xs (i - 1)).out ≤ y2
        case neg =>
          obtain ⟨q, rfl⟩ : ∃ q, i = q + 1 := ⟨i - 1, by omega⟩
          have hp2 : ¬ (SLoan.at xs q).out ≤ y2 := fun hx => hprev (.inr hx)
          have hne2 : okL xs (q + 1) = false := by
            rw [hne, decide_eq_false (show ¬ q + 1 = 0 by omega), show q + 1 - 1 = q by omega, decide_eq_false hp2]; rfl
          have HN := hide (goodL_no hlt hne2)
          clear hne hne2 hprev
          obtain ⟨b', off', hA, hb', _, _, p0, _, _⟩ := SLoan.cells HR.out (i := q) (by omega) hbel
          injection hA with hA; injection hA with hA1 hA2; subst hA1 hA2
          rw [SLoan.at_lt (show q < xs.length by omega)] at hp2
          generalize xs[q].out = pid at p0 hp2
          have hge : y2 < pid := by omega
          have p1 : wr.cell? ⟨b, off + q * 5 + 2, none⟩ = some (.int .i64 pid) := p0
          have n1 := fun n => later_cell p1 n
          clear hp2
          go_wp2_with fail
          (refine wp_region_later (by kernel_rfl) (by kernel_rfl) ?_; (repeat (go_big_quiet_step ((go_at_call 178; exact later_alloc (HC.out _))))); refine wpQuiet_nil ?_; intro _ hw'; obtain ⟨nq, hw''⟩ := hw'; subst hw'')
          have B3 := bstep BX nq.h hsx
          go_wp2_with fail
          go_ret
          exact ⟨ret_bool HN.out.symm, B3⟩
        have hne2 : okL xs i = (List.range i).all fun k => !clash xs i k := by
          rw [hne]
          rcases hprev with hz | hp
          · rw [decide_eq_true hz]; rfl
          · rw [decide_eq_true hp, Bool.or_true]; rfl
        have HNE := hide hne2; clear hne hne2
        by_cases hz : i = 0
        · subst hz
          have hzi : decide ((0 : Int) < ((0 : Nat) : Int)) = false := decide_eq_false (by omega)
          simp only [Nat.zero_mul, Nat.add_zero] at c0 c1 c2 c3 c4
          simp only [Nat.zero_mul, Nat.add_zero] at m0 m1 m2 m3 m4
          clear hprev
          go_wp2_with fail
          (refine wp_region_later (by kernel_rfl) (by kernel_rfl) ?_; (repeat (go_big_quiet_step ((go_at_call 178; exact later_alloc (HC.out _))))); refine wpQuiet_nil ?_; intro _ hw'; obtain ⟨nq, hw''⟩ := hw'; subst hw'')
          have B3 := bstep BX nq.h hsx
          have s3 : B ≤ nq.W.heap.size := by have := B3.size; rw [HB.out] at this; exact this
          generalize nq.W = W3 at B3 s3
          clear nq m0 m1 m2 m3 m4
          go_wp2_with fail
          go_loopw [4] (fun c wx => ∃ k : Nat, k ≤ 0 ∧ c = .int .i64 (k : Int) ∧ ((List.range k).all fun t => !clash xs (0) t) = true ∧ Below B w wx) (fun c _ => 0 - (intOf c).toNat)
          case atStart => exact ⟨0, Nat.zero_le _, rfl, rfl, B3⟩
          case round =>
            obtain ⟨k, hk, rfl, hcl, hbel2⟩ := hrel
            have HCL := hide hcl; clear hcl
            have hsz2 : B ≤ wr.heap.size := by have := hbel2.size; rw [HB.out] at this; exact this
            by_cases hlk : k < 0
            · exact absurd hlk (by omega)
            · have hki : k = 0 := by omega
              have hoki : okL xs (0) = true := by rw [HNE.out]; have := HCL.out; rw [hki] at this; exact this
              have HOKI := hide hoki; clear hoki
              have HKI := hide hki; clear hki
              go_wp2_with fail
              go_round
              case measure => (simp [intOf] <;> omega)
              case rel => exact ⟨0 + 1, by omega, by omega, by go_num, by rw [List.range_succ, List.all_append, HALL.out]; simp [HOKI.out], hbel2⟩
        · obtain ⟨q, rfl⟩ : ∃ q, i = q + 1 := ⟨i - 1, by omega⟩
          have hp2 : (SLoan.at xs q).out ≤ y2 := by rcases hprev with hx | hx
                                                    · exact absurd hx hz
                                                    · exact hx
          clear hprev hz
          obtain ⟨b', off', hA, hb', _, _, p0, _, _⟩ := SLoan.cells HR.out (i := q) (by omega) hbel
          injection hA with hA; injection hA with hA1 hA2; subst hA1 hA2
          rw [SLoan.at_lt (show q < xs.length by omega)] at hp2
          generalize xs[q].out = pid at p0 hp2
          have hge : decide (y2 < pid) = false := decide_eq_false (by omega)
          have p1 : wr.cell? ⟨b, off + q * 5 + 2, none⟩ = some (.int .i64 pid) := p0
          have n1 := fun n => later_cell p1 n
          clear hp2
          go_wp2_with fail
          (refine wp_region_later (by kernel_rfl) (by kernel_rfl) ?_; (repeat (go_big_quiet_step ((go_at_call 178; exact later_alloc (HC.out _))))); refine wpQuiet_nil ?_; intro _ hw'; obtain ⟨nq, hw''⟩ := hw'; subst hw'')
          have B3 := bstep BX nq.h hsx
          have s3 : B ≤ nq.W.heap.size := by have := B3.size; rw [HB.out] at this; exact this
          generalize nq.W = W3 at B3 s3
          clear nq m0 m1 m2 m3 m4
          go_wp2_with fail
          go_loopw [4] (fun c wx => ∃ k : Nat, k ≤ q + 1 ∧ c = .int .i64 (k : Int) ∧ ((List.range k).all fun t => !clash xs (q + 1) t) = true ∧ Below B w wx) (fun c _ => q + 1 - (intOf c).toNat)
          case atStart => exact ⟨0, Nat.zero_le _, rfl, rfl, B3⟩
          case round =>
            obtain ⟨k, hk, rfl, hcl, hbel2⟩ := hrel
            have HCL := hide hcl; clear hcl
            have hsz2 : B ≤ wr.heap.size := by have := hbel2.size; rw [HB.out] at this; exact this
            by_cases hlk : k < q + 1
            · have hlk' : (k : Int) < ((q + 1 : Nat) : Int) := by omega
              have hkx : k < xs.length := by omega
              have hkx' : (k : Int) < xs.length := by omega
              obtain ⟨b', off', hA, hb', d0, d1, d2, d3, d4⟩ := SLoan.cells HR.out hkx hbel2
              injection hA with hA; injection hA with hA1 hA2; subst hA1 hA2
              have hck : clash xs (q + 1) k = ((xs[k].sheet == y0) && (decide (xs[k].back < 0) || decide (y2 < xs[k].back))) := by unfold clash; rw [HAT.out, SLoan.at_lt hkx]
              have hbk : SLoan.okB ⟨xs[k].sheet, xs[k].reader, xs[k].out, xs[k].due, xs[k].back⟩ = true := by
                have := range_all HALL.out (k := k) (by omega)
                unfold okL at this
                rw [Bool.and_eq_true, Bool.and_eq_true, SLoan.at_lt hkx] at this
                exact this.1.1
              have hbk2 := (SLoan.okB_iff.1 hbk).2.2.2.2.2.2.2.2.2
              clear hbk
              generalize xs[k].sheet = z0 at *; generalize xs[k].reader = z1 at *; generalize xs[k].out = z2 at *; generalize xs[k].due = z3 at *; generalize xs[k].back = z4 at *
              obtain ⟨b2, off2, hA, hb2, e0, e1, e2, e3, e4⟩ := SLoan.cells HR.out hlt hbel2
              injection hA with hA; injection hA with hA1 hA2; subst hA1 hA2
              have hat2 := SLoan.at_lt hlt
              rw [HAT.out] at hat2
              rw [← hat2] at e0 e2
              simp only at e0 e2
              clear e1 e3 e4 hat2 d1 d2 d3
              have n0 := fun n => later_cell d0 n; have n4 := fun n => later_cell d4 n; have n5 := fun n => later_cell e0 n; have n6 := fun n => later_cell e2 n
              by_cases hs : z0 = y0
              case neg =>
                have hs2 : (z0 == y0) = false := beq_false_of_ne hs
                rw [hs2, Bool.false_and] at hck
                have HCK := hide hck; clear hck hs
                go_wp2_with fail
                (refine wp_region_later (by kernel_rfl) (by kernel_rfl) ?_; (repeat (go_big_quiet_step (fail))); refine wpQuiet_nil ?_; intro _ hw'; obtain ⟨nq, hw''⟩ := hw'; subst hw'')
                have B5 := bstep hbel2 nq.h hsz2
                generalize nq.W = W5 at B5
                clear nq n0 n4 n5 n6
                go_wp2_with fail
                go_round
                case measure => (simp [intOf] <;> omega)
                case rel => exact ⟨k + 1, by omega, by go_num, by rw [List.range_succ, List.all_append, HCL.out]; simp [HCK.out], B5⟩
              have hs2 : (z0 == y0) = true := beq_iff_eq.2 hs
              rw [hs2, Bool.true_and] at hck
              by_cases hz : z4 < 0
              · rw [decide_eq_true hz] at hck
                have HN := hide (goodL_no hlt (okL_clash hlk hck)); clear hck
                go_wp2_with fail
                (refine wp_region_later (by kernel_rfl) (by kernel_rfl) ?_; (repeat (go_big_quiet_step (fail))); refine wpQuiet_nil ?_; intro _ hw'; obtain ⟨nq, hw''⟩ := hw'; subst hw'')
                have B5 := bstep hbel2 nq.h hsz2
                go_wp2_with fail
                go_ret
                exact ⟨ret_bool HN.out.symm, B5⟩
              · have hz2 : decide (z4 < 0) = false := decide_eq_false hz
                rw [hz2, Bool.false_or] at hck
                by_cases hy : y2 < z4
                · rw [decide_eq_true hy] at hck
                  have HN := hide (goodL_no hlt (okL_clash hlk hck)); clear hck hz
                  go_wp2_with fail
                  (refine wp_region_later (by kernel_rfl) (by kernel_rfl) ?_; (repeat (go_big_quiet_step (fail))); refine wpQuiet_nil ?_; intro _ hw'; obtain ⟨nq, hw''⟩ := hw'; subst hw'')
                  have B5 := bstep hbel2 nq.h hsz2
                  go_wp2_with fail
                  go_ret
                  exact ⟨ret_bool HN.out.symm, B5⟩
                · have hy2 : decide (y2 < z4) = false := decide_eq_false hy
                  rw [hy2] at hck
                  have HCK := hide hck; clear hck hz hy
                  go_wp2_with fail
                  (refine wp_region_later (by kernel_rfl) (by kernel_rfl) ?_; (repeat (go_big_quiet_step (fail))); refine wpQuiet_nil ?_; intro _ hw'; obtain ⟨nq, hw''⟩ := hw'; subst hw'')
                  have B5 := bstep hbel2 nq.h hsz2
                  generalize nq.W = W5 at B5
                  clear nq n0 n4 n5 n6
                  go_wp2_with fail
                  go_round
                  case measure => (simp [intOf] <;> omega)
                  case rel => exact ⟨k + 1, by omega, by go_num, by rw [List.range_succ, List.all_append, HCL.out]; simp [HCK.out], B5⟩
            · have hki : k = q + 1 := by omega
              have hoki : okL xs (q + 1) = true := by rw [HNE.out]; have := HCL.out; rw [hki] at this; exact this
              have HOKI := hide hoki; clear hoki
              have HKI := hide hki; clear hki
              go_wp2_with fail
              go_round
              case measure => (simp [intOf] <;> omega)
              case rel => exact ⟨q + 1 + 1, by omega, by omega, by go_num, by rw [List.range_succ, List.all_append, HALL.out]; simp [HOKI.out], hbel2⟩
    · have hend : xs.length = i ∨ (i = 16 ∧ i < xs.length) := by omega
      have hg : goodL xs = decide ((xs.length : Int) ≤ 15) := by
        unfold goodL
        rcases hend with h | h
        · rw [h, HALL.out, Bool.true_and, decide_eq_decide]; omega
        · rw [decide_eq_false (show ¬ xs.length ≤ 15 by omega), decide_eq_false (show ¬ (xs.length : Int) ≤ 15 by omega), Bool.and_false]
      have HG := hide hg; clear hg
      rcases hend with h | ⟨h16, h⟩
      · have hk : ¬ (i : Int) < xs.length := by omega
        have HK := hide h; clear h hlt
        go_wp2_with fail
        go_ret
        exact ⟨ret_bool HG.out.symm, hbel⟩
      · have hk : (i : Int) < xs.length := by omega
        have hk2 : ¬ (i : Int) ≤ 15 := by omega
        have HK := hide h16; clear h16 hlt
        go_wp2_with fail
        go_ret
        exact ⟨ret_bool HG.out.symm, hbel⟩
set_option maxHeartbeats 2000000 in
theorem AreLoans_is (v : Value) (xs : List SLoan) (w : World) (h : Is 5 SLoan.enc w v xs) :
    Calls Try.prog 13 #[v] w fun e w' => e = .returned (.bool (goodL xs)) ∧ Below w.heap.size w w' := by
  have hm := h.len
  obtain ⟨A, cap, rfl, hr, hle, _⟩ := h
  generalize hB : w.heap.size = B at hr ⊢
  have HB := hide hB; clear hB
  have HR := hide hr; clear hr
  go_enter Try.func13, Try.ntmps13
  go_wp2_with fail
  go_loopw [9] (fun i wr => ∃ (k : Nat), k ≤ xs.length ∧ i = .int .i64 k ∧ (List.range k).all (okL xs) = true ∧ Below B w wr) (fun i _ => xs.length - (intOf i).toNat)
  case atStart => exact ⟨0, Nat.zero_le _, rfl, rfl, Below.refl _ _⟩
  case round =>
    obtain ⟨i, hi, rfl, hall, hbel⟩ := hrel
    have HALL := hide hall; clear hall
    have hsz : B ≤ wr.heap.size := by have := hbel.size; rw [HB.out] at this; exact this
    by_cases hlt : i < xs.length
    · have hlt' : (i : Int) < xs.length := by omega
      obtain ⟨b, off, rfl, hb, c0, c1, c2, c3, c4⟩ := SLoan.cells HR.out hlt hbel
      have hbw : b < wr.heap.size := by omega
      have hat : SLoan.at xs i = ⟨xs[i].sheet, xs[i].reader, xs[i].out, xs[i].due, xs[i].back⟩ := SLoan.at_lt hlt
      generalize xs[i].sheet = y0 at *; generalize xs[i].reader = y1 at *; generalize xs[i].out = y2 at *; generalize xs[i].due = y3 at *; generalize xs[i].back = y4 at *
      have hone := fun W => isLoan_any y0 y1 y2 y3 y4 W
      have hne : okL xs i = (SLoan.okB ⟨y0, y1, y2, y3, y4⟩ && (decide (i = 0) || decide ((SLoan.at xs (i - 1)).out ≤ y2)) && (List.range i).all fun k => !clash xs i k) := by unfold okL; rw [hat]
      have HAT := hide hat; clear hat
      have BX := hbel.alloc hsz (.cells #[.int .i64 y0, .int .i64 y1, .int .i64 y2, .int .i64 y3, .int .i64 y4] 97)
      have hsx : B ≤ (wr.alloc (.cells #[.int .i64 y0, .int .i64 y1, .int .i64 y2, .int .i64 y3, .int .i64 y4] 97)).heap.size := Nat.le_trans hsz (by simp)
      have hbx : ∀ W, Below (wr.alloc (.cells #[.int .i64 y0, .int .i64 y1, .int .i64 y2, .int .i64 y3, .int .i64 y4] 97)).heap.size (wr.alloc (.cells #[.int .i64 y0, .int .i64 y1, .int .i64 y2, .int .i64 y3, .int .i64 y4] 97)) W → W.cell? ⟨wr.heap.size, 0, none⟩ = some (.int .i64 y0) ∧ W.cell? ⟨wr.heap.size, 1, none⟩ = some (.int .i64 y1) ∧ W.cell? ⟨wr.heap.size, 2, none⟩ = some (.int .i64 y2) ∧ W.cell? ⟨wr.heap.size, 3, none⟩ = some (.int .i64 y3) ∧ W.cell? ⟨wr.heap.size, 4, none⟩ = some (.int .i64 y4) := by
        intro W hb
        have hc := fun o => (bcell hb).1 wr.heap.size o (by simp)
        refine ⟨?_, ?_, ?_, ?_, ?_⟩ <;> rw [hc, (Blk.new wr _ _).cell] <;> rfl
      have HBX := hide hbx; clear hbx
      have m0 := fun n : Later (wr.alloc (.cells #[.int .i64 y0, .int .i64 y1, .int .i64 y2, .int .i64 y3, .int .i64 y4] 97)) => (HBX.out n.W n.h).1
      have m1 := fun n : Later (wr.alloc (.cells #[.int .i64 y0, .int .i64 y1, .int .i64 y2, .int .i64 y3, .int .i64 y4] 97)) => (HBX.out n.W n.h).2.1
      have m2 := fun n : Later (wr.alloc (.cells #[.int .i64 y0, .int .i64 y1, .int .i64 y2, .int .i64 y3, .int .i64 y4] 97)) => (HBX.out n.W n.h).2.2.1
      have m3 := fun n : Later (wr.alloc (.cells #[.int .i64 y0, .int .i64 y1, .int .i64 y2, .int .i64 y3, .int .i64 y4] 97)) => (HBX.out n.W n.h).2.2.2.1
      have m4 := fun n : Later (wr.alloc (.cells #[.int .i64 y0, .int .i64 y1, .int .i64 y2, .int .i64 y3, .int .i64 y4] 97)) => (HBX.out n.W n.h).2.2.2.2
      cases hok : SLoan.okB ⟨y0, y1, y2, y3, y4⟩ with
      | false =>
        rw [hok] at hone hne
        have HN := hide (goodL_no hlt hne); have HC := hide hone
        clear hone hne hok
        go_wp2_with fail
        (refine wp_region_later (by kernel_rfl) (by kernel_rfl) ?_; (repeat (go_big_quiet_step ((go_at_call 81; exact later_alloc (HC.out _))))); refine wpQuiet_nil ?_; intro _ hw'; obtain ⟨nq, hw''⟩ := hw'; subst hw'')
        have B3 := bstep BX nq.h hsx
        go_wp2_with fail
        go_ret
        exact ⟨ret_bool HN.out.symm, B3⟩
      | true =>
        rw [hok, Bool.true_and] at hne
        rw [hok] at hone
        have HC := hide hone; clear hone hok
        by_cases hprev : i = 0 ∨ (SLoan.at xs (i - 1)).out ≤ y2
        case neg =>
          obtain ⟨q, rfl⟩ : ∃ q, i = q + 1 := ⟨i - 1, by omega⟩
          have hp2 : ¬ (SLoan.at xs q).out ≤ y2 := fun hx => hprev (.inr hx)
          have hne2 : okL xs (q + 1) = false := by
            rw [hne, decide_eq_false (show ¬ q + 1 = 0 by omega), show q + 1 - 1 = q by omega, decide_eq_false hp2]; rfl
          have HN := hide (goodL_no hlt hne2)
          clear hne hne2 hprev
          obtain ⟨b', off', hA, hb', _, _, p0, _, _⟩ := SLoan.cells HR.out (i := q) (by omega) hbel
          injection hA with hA; injection hA with hA1 hA2; subst hA1 hA2
          rw [SLoan.at_lt (show q < xs.length by omega)] at hp2
          generalize xs[q].out = pid at p0 hp2
          have hge : y2 < pid := by omega
          have p1 : (wr.alloc (.cells #[.int .i64 y0, .int .i64 y1, .int .i64 y2, .int .i64 y3, .int .i64 y4] 97)).cell? ⟨b, off + q * 5 + 2, none⟩ = some (.int .i64 pid) := ((bcell (below_alloc wr _)).1 _ _ hbw).trans p0
          have n1 := fun n => later_cell p1 n
          clear hp2
          go_wp2_with fail
          (refine wp_region_later (by kernel_rfl) (by kernel_rfl) ?_; (repeat (go_big_quiet_step ((go_at_call 81; exact later_alloc (HC.out _))))); refine wpQuiet_nil ?_; intro _ hw'; obtain ⟨nq, hw''⟩ := hw'; subst hw'')
          have B3 := bstep BX nq.h hsx
          go_wp2_with fail
          go_ret
          exact ⟨ret_bool HN.out.symm, B3⟩
        have hne2 : okL xs i = (List.range i).all fun k => !clash xs i k := by
          rw [hne]
          rcases hprev with hz | hp
          · rw [decide_eq_true hz]; rfl
          · rw [decide_eq_true hp, Bool.or_true]; rfl
        have HNE := hide hne2; clear hne hne2
        by_cases hz : i = 0
        · subst hz
          have hzi : decide ((0 : Int) < ((0 : Nat) : Int)) = false := decide_eq_false (by omega)
          simp only [Nat.zero_mul, Nat.add_zero] at c0 c1 c2 c3 c4
          clear hprev
          go_wp2_with fail
          (refine wp_region_later (by kernel_rfl) (by kernel_rfl) ?_; (repeat (go_big_quiet_step ((go_at_call 81; exact later_alloc (HC.out _))))); refine wpQuiet_nil ?_; intro _ hw'; obtain ⟨nq, hw''⟩ := hw'; subst hw'')
          have B3 := bstep BX nq.h hsx
          have s3 : B ≤ nq.W.heap.size := by have := B3.size; rw [HB.out] at this; exact this
          have hbx3 := HBX.out nq.W nq.h
          have hbw3 : wr.heap.size < nq.W.heap.size := by have := nq.h.size; simp at this; omega
          generalize nq.W = W3 at B3 s3 hbx3 hbw3
          clear nq m0 m1 m2 m3 m4
          generalize wr.heap.size = bo at hbx3 hbw3 ⊢
          have HX3 := hide hbx3; clear hbx3
          go_wp2_with fail
          go_loopw [36] (fun c wx => ∃ k : Nat, k ≤ 0 ∧ c = .int .i64 (k : Int) ∧ ((List.range k).all fun t => !clash xs (0) t) = true ∧ Below B w wx ∧ Below W3.heap.size W3 wx) (fun c _ => 0 - (intOf c).toNat)
          case atStart => exact ⟨0, Nat.zero_le _, rfl, rfl, B3, Below.refl _ _⟩
          case round =>
            obtain ⟨k, hk, rfl, hcl, hbel2, hbel3⟩ := hrel
            have HCL := hide hcl; clear hcl
            have hsz2 : B ≤ wr.heap.size := by have := hbel2.size; rw [HB.out] at this; exact this
            by_cases hlk : k < 0
            · exact absurd hlk (by omega)
            · have hki : k = 0 := by omega
              have hoki : okL xs (0) = true := by rw [HNE.out]; have := HCL.out; rw [hki] at this; exact this
              have HOKI := hide hoki; clear hoki
              have HKI := hide hki; clear hki
              go_wp2_with fail
              go_round
              case measure => (simp [intOf] <;> omega)
              case rel => exact ⟨0 + 1, by omega, by go_num, by rw [List.range_succ, List.all_append, HALL.out]; simp [HOKI.out], hbel2⟩
        · obtain ⟨q, rfl⟩ : ∃ q, i = q + 1 := ⟨i - 1, by omega⟩
          have hp2 : (SLoan.at xs q).out ≤ y2 := by rcases hprev with hx | hx
                                                    · exact absurd hx hz
                                                    · exact hx
          clear hprev hz
          obtain ⟨b', off', hA, hb', _, _, p0, _, _⟩ := SLoan.cells HR.out (i := q) (by omega) hbel
          injection hA with hA; injection hA with hA1 hA2; subst hA1 hA2
          rw [SLoan.at_lt (show q < xs.length by omega)] at hp2
          generalize xs[q].out = pid at p0 hp2
          have hge : decide (y2 < pid) = false := decide_eq_false (by omega)
          have p1 : (wr.alloc (.cells #[.int .i64 y0, .int .i64 y1, .int .i64 y2, .int .i64 y3, .int .i64 y4] 97)).cell? ⟨b, off + q * 5 + 2, none⟩ = some (.int .i64 pid) := ((bcell (below_alloc wr _)).1 _ _ hbw).trans p0
          have n1 := fun n => later_cell p1 n
          clear hp2
          go_wp2_with fail
          (refine wp_region_later (by kernel_rfl) (by kernel_rfl) ?_; (repeat (go_big_quiet_step ((go_at_call 81; exact later_alloc (HC.out _))))); refine wpQuiet_nil ?_; intro _ hw'; obtain ⟨nq, hw''⟩ := hw'; subst hw'')
          have B3 := bstep BX nq.h hsx
          have s3 : B ≤ nq.W.heap.size := by have := B3.size; rw [HB.out] at this; exact this
          have hbx3 := HBX.out nq.W nq.h
          have hbw3 : wr.heap.size < nq.W.heap.size := by have := nq.h.size; simp at this; omega
          generalize nq.W = W3 at B3 s3 hbx3 hbw3
          clear nq m0 m1 m2 m3 m4
          generalize wr.heap.size = bo at hbx3 hbw3 ⊢
          have HX3 := hide hbx3; clear hbx3
          go_wp2_with fail
          go_loopw [36] (fun c wx => ∃ k : Nat, k ≤ q + 1 ∧ c = .int .i64 (k : Int) ∧ ((List.range k).all fun t => !clash xs (q + 1) t) = true ∧ Below B w wx ∧ Below W3.heap.size W3 wx) (fun c _ => q + 1 - (intOf c).toNat)
          case atStart => exact ⟨0, Nat.zero_le _, rfl, rfl, B3, Below.refl _ _⟩
          case round =>
            obtain ⟨k, hk, rfl, hcl, hbel2, hbel3⟩ := hrel
            have HCL := hide hcl; clear hcl
            have hsz2 : B ≤ wr.heap.size := by have := hbel2.size; rw [HB.out] at this; exact this
            by_cases hlk : k < q + 1
            · have hlk' : (k : Int) < ((q + 1 : Nat) : Int) := by omega
              have hkx : k < xs.length := by omega
              have hkx' : (k : Int) < xs.length := by omega
              obtain ⟨b', off', hA, hb', d0, d1, d2, d3, d4⟩ := SLoan.cells HR.out hkx hbel2
              injection hA with hA; injection hA with hA1 hA2; subst hA1 hA2
              have hck : clash xs (q + 1) k = ((xs[k].sheet == y0) && (decide (xs[k].back < 0) || decide (y2 < xs[k].back))) := by unfold clash; rw [HAT.out, SLoan.at_lt hkx]
              have hbk : SLoan.okB ⟨xs[k].sheet, xs[k].reader, xs[k].out, xs[k].due, xs[k].back⟩ = true := by
                have := range_all HALL.out (k := k) (by omega)
                unfold okL at this
                rw [Bool.and_eq_true, Bool.and_eq_true, SLoan.at_lt hkx] at this
                exact this.1.1
              have hbk2 := (SLoan.okB_iff.1 hbk).2.2.2.2.2.2.2.2.2
              clear hbk
              generalize xs[k].sheet = z0 at *; generalize xs[k].reader = z1 at *; generalize xs[k].out = z2 at *; generalize xs[k].due = z3 at *; generalize xs[k].back = z4 at *
              have B5 := hbel2.alloc hsz2 (.cells #[.int .i64 z0, .int .i64 z1, .int .i64 z2, .int .i64 z3, .int .i64 z4] 97)
              have B6 := hbel3.alloc hbel3.size (.cells #[.int .i64 z0, .int .i64 z1, .int .i64 z2, .int .i64 z3, .int .i64 z4] 97)
              obtain ⟨q0, q1, q2, q3, q4⟩ := HX3.out
              have e0 := (B6.cell (p := ⟨bo, 0, none⟩) hbw3).trans q0
              have e2 := (B6.cell (p := ⟨bo, 2, none⟩) hbw3).trans q2
              clear q0 q1 q2 q3 q4
              have hzz : (z4 == -1) = decide (z4 < 0) := by rw [Bool.eq_iff_iff, beq_iff_eq, decide_eq_true_eq]; omega
              by_cases hs : z0 = y0
              case neg =>
                have hs2 : (z0 == y0) = false := beq_false_of_ne hs
                rw [hs2, Bool.false_and] at hck
                have HCK := hide hck; clear hck hs hzz
                go_wp2_with fail
                go_round
                case measure => (simp [intOf] <;> omega)
                case rel => exact ⟨k + 1, by omega, by go_num, by rw [List.range_succ, List.all_append, HCL.out]; simp [HCK.out], B5, B6⟩
              have hs2 : (z0 == y0) = true := beq_iff_eq.2 hs
              rw [hs2, Bool.true_and] at hck
              clear hs2
              subst hs
              by_cases hz : z4 < 0
              · rw [decide_eq_true hz] at hck
                clear hzz
                obtain rfl : z4 = -1 := by omega
                have HN := hide (goodL_no hlt (okL_clash hlk hck)); clear hck
                go_wp2_with fail
                go_ret
                exact ⟨ret_bool HN.out.symm, B5⟩
              · rw [decide_eq_false hz] at hck
                have hzn : ¬ z4 = -1 := by omega
                have hzf : (z4 == -1) = false := beq_false_of_ne hzn
                clear hzz
                rw [Bool.false_or] at hck
                by_cases hy : y2 < z4
                · rw [decide_eq_true hy] at hck
                  have HN := hide (goodL_no hlt (okL_clash hlk hck)); clear hck hz
                  go_wp2_with fail
                  go_ret
                  exact ⟨ret_bool HN.out.symm, B5⟩
                · rw [decide_eq_false hy] at hck
                  have HCK := hide hck; clear hck
                  go_wp2_with fail
                  go_round
                  case measure => (simp [intOf] <;> omega)
                  case rel => exact ⟨k + 1, by omega, by go_num, by rw [List.range_succ, List.all_append, HCL.out]; simp [HCK.out], B5, B6⟩
            · have hki : k = q + 1 := by omega
              have hoki : okL xs (q + 1) = true := by rw [HNE.out]; have := HCL.out; rw [hki] at this; exact this
              have HOKI := hide hoki; clear hoki
              have HKI := hide hki; clear hki
              go_wp2_with fail
              go_round
              case measure => (simp [intOf] <;> omega)
              case rel => exact ⟨q + 1 + 1, by omega, by go_num, by rw [List.range_succ, List.all_append, HALL.out]; simp [HOKI.out], hbel2⟩
    · have hk : i = xs.length := by omega
      have hg : goodL xs = decide ((xs.length : Int) ≤ 15) := by
        unfold goodL
        have := HALL.out
        rw [hk] at this
        rw [this, Bool.true_and, decide_eq_decide]; omega
      have HG := hide hg; clear hg
      have HK := hide hk; clear hk
      go_wp2_with fail
      go_ret
      exact ⟨ret_bool HG.out.symm, hbel⟩
theorem specAreLoans_any (v : Value) (xs : List SLoan) (w : World) (h : Is 5 SLoan.enc w v xs) :
    Calls Try.prog 11 #[v] w fun e w' => e = .returned (.bool (goodL xs)) ∧ Below w.heap.size w w' := by
  have HG := hide (l11Good_is v xs w h); clear h
  go_enter Try.func11, Try.ntmps11
  go_wp2_with fail
  refine HG.out.mono ?_; rintro e w1 ⟨rfl, hb1⟩
  go_wp2_with fail
  go_ret
  exact ⟨rfl, hb1⟩
end Go.Proofs.Ytplemibckjnbhaa
