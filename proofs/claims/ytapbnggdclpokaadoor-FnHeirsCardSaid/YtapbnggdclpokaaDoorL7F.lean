/- Contracts of LongestMaker, in impl and spec: the Lean function longV. Condition: the names' sizes are those of memory. -/
import Derived.Test.YtapbnggdclpokaaDoorL7E
namespace Go.Proofs.YtapbnggdclpokaaDoor
open Go.RowKit Go.Lib
set_option linter.unusedVariables false
def SMaker.yrs (c : SMaker) : Int := c.untl - c.frm + 1
def longTo (xs : List SMaker) : Nat → Int × Int
  | 0 => (0, 0)
  | n + 1 => if (longTo xs n).2 < (SMaker.at xs n).yrs then ((SMaker.at xs n).ident, (SMaker.at xs n).yrs) else longTo xs n
def longV (xs : List SMaker) : (Int × Int) × Bool := if goodB xs && !decide (xs.length = 0) then (longTo xs xs.length, true) else ((0, 0), false)
theorem longTo_bound {xs : List SMaker} (hg : goodB xs = true) : ∀ n, n ≤ xs.length → 0 ≤ (longTo xs n).2 ∧ (longTo xs n).2 ≤ 1000
  | 0, _ => by simp [longTo]
  | n + 1, h => by
    have h1 := longTo_bound hg n (by omega)
    have q := good_fine hg (show n < xs.length by omega)
    have := q.f1; have := q.f2; have := q.f3
    unfold longTo SMaker.yrs
    split <;> (try simp only) <;> omega
set_option maxHeartbeats 1000000 in
theorem specLongestMaker_any (v : Value) (xs : List SMaker) (w : World) (h : Is 5 SMaker.enc w v xs) (hw : ∀ z ∈ xs, z.wf) :
    Calls Tryd.prog 20 #[v] w fun e w' => e = .returned (.tuple #[.int .i64 (longV xs).1.1, .int .i64 (longV xs).1.2, .bool (longV xs).2]) ∧ Below w.heap.size w w' := by
  have hgood := l7Good_is v xs w h hw
  have HI := hide h
  obtain ⟨A, cap, rfl, hr, _, _⟩ := h
  by_cases hg : goodB xs = true
  case neg =>
    rw [Bool.not_eq_true] at hg
    rw [show longV xs = ((0, 0), false) by unfold longV; rw [hg]; rfl]
    rw [hg] at hgood
    have HG := hide hgood; clear hgood hg hr
    go_enter Tryd.func20, Tryd.ntmps20
    go_wp2_with fail
    refine HG.out.mono ?_; rintro e w1 ⟨rfl, hb1⟩
    go_wp2_with fail
    go_ret3
    exact ⟨rfl, hb1⟩
  rw [hg] at hgood
  have HG := hide hgood; have HGD := hide hg; clear hgood
  have hl10 := good_len hg
  by_cases hz : xs.length = 0
  · rw [show longV xs = ((0, 0), false) by unfold longV; rw [hg, decide_eq_true hz]; rfl]
    have hz2 : ((xs.length : Int) == 0) = true := by simp [hz]
    clear hg hr hl10 hz
    go_enter Tryd.func20, Tryd.ntmps20
    go_wp2_with fail
    refine HG.out.mono ?_; rintro e w1 ⟨rfl, hb1⟩
    go_wp2_with fail
    go_ret3
    exact ⟨rfl, hb1⟩
  have hz2 : ((xs.length : Int) == 0) = false := beq_false_of_ne (by omega)
  rw [show longV xs = (longTo xs xs.length, true) by unfold longV; rw [hg, decide_eq_false hz]; rfl]
  have HR := hide hr; clear hr hg hz
  go_enter Tryd.func20, Tryd.ntmps20
  go_wp2_with fail
  refine HG.out.mono ?_; rintro e w1 ⟨rfl, hb1⟩
  generalize hB : w.heap.size = B at HR hb1
  have HB := hide hB; clear hB
  go_wp2_with fail
  go_loopw [5, 6, 7] (fun s m i wr => ∃ n : Nat, n ≤ xs.length ∧ i = .int .i64 (n : Int) ∧ s = .int .i64 (longTo xs n).1 ∧ m = .int .i64 (longTo xs n).2 ∧ Below B w wr) (fun _ _ i _ => xs.length - (intOf i).toNat)
  case atStart => exact ⟨0, Nat.zero_le _, rfl, rfl, rfl, hb1⟩
  case round =>
    obtain ⟨n, hn, rfl, rfl, rfl, hbel⟩ := hrel
    have hsz : B ≤ wr.heap.size := by have := hbel.size; rw [HB.out] at this; exact this
    by_cases hlt : n < xs.length
    · obtain ⟨b, off, rfl, hb, hd0⟩ := SMaker.cellsAt HR.out hlt
      obtain ⟨c0, _, c2, c3, _⟩ := hd0 _ hbel
      have q := good_fine HGD.out hlt
      have q1 := q.f1; have q2 := q.f2; have q3 := q.f3
      have hst : longTo xs (n + 1) = if (longTo xs n).2 < (SMaker.at xs n).untl - (SMaker.at xs n).frm + 1 then ((SMaker.at xs n).ident, (SMaker.at xs n).untl - (SMaker.at xs n).frm + 1) else longTo xs n := rfl
      clear hd0 q
      generalize (SMaker.at xs n).ident = fi at *; generalize (SMaker.at xs n).frm = ff at *; generalize (SMaker.at xs n).untl = fu at *
      generalize longTo xs n = pr at *
      obtain ⟨pid, pm⟩ := pr
      simp only at hst
      have m0 := fun n => later_cell c2 n; have m1 := fun n => later_cell c3 n
      have hcell := fun W (hb : Below wr.heap.size wr W) => ((bcell hb).1 b (off + n * 5) (by omega)).trans c0
      have HCL := hide hcell; clear hcell c0
      by_cases hc : pm < fu - ff + 1
      · rw [if_pos hc] at hst
        have HST := hide hst; clear hst
        go_wp2_with fail
        (refine wp_region_later (by kernel_rfl) (by kernel_rfl) ?_; (repeat (go_big_quiet_step (fail))); refine wpQuiet_nil ?_; intro _ hw'; obtain ⟨nq, hw''⟩ := hw'; subst hw'')
        have B4 := bstep hbel nq.h hsz
        have c0 := HCL.out _ nq.h
        generalize nq.W = W5 at B4 c0
        clear nq
        go_wp2_with fail
        go_round
        case measure => (simp [intOf] <;> omega)
        case rel => exact ⟨n + 1, by omega, by go_num, by rw [HST.out], by rw [HST.out], B4⟩
      · rw [if_neg hc] at hst
        have HST := hide hst; clear hst
        go_wp2_with fail
        (refine wp_region_later (by kernel_rfl) (by kernel_rfl) ?_; (repeat (go_big_quiet_step (fail))); refine wpQuiet_nil ?_; intro _ hw'; obtain ⟨nq, hw''⟩ := hw'; subst hw'')
        have B4 := bstep hbel nq.h hsz
        generalize nq.W = W5 at B4
        clear nq
        go_wp2_with fail
        go_round
        case measure => (simp [intOf] <;> omega)
        case rel => exact ⟨n + 1, by omega, by go_num, by rw [HST.out], by rw [HST.out], B4⟩
    · have hnn : xs.length = n := by omega
      have HNN := hide hnn; clear hnn
      go_wp2_with fail
      go_ret3
      rw [HB.out, HNN.out]
      exact ⟨rfl, hbel⟩
theorem years_any (a0 : Int) (a1 : ByteArray) (a2 a3 a4 : Int) (w : World) (h1 : 1500 ≤ a2) (h2 : a2 ≤ a3) (h3 : a3 ≤ 2100) :
    Calls Tryd.prog 54 #[.agg #[.int .i64 a0, .string a1, .int .i64 a2, .int .i64 a3, .int .i64 a4]] w fun e w' => e = .returned (.int .i64 (a3 - a2 + 1)) ∧ Below w.heap.size w w' := by
  go_enter Tryd.func54, Tryd.ntmps54
  go_wp2_with fail
  go_ret
  exact ⟨rfl, below_alloc _ _⟩
def cmpI (a b : Int) : Int := if a < b then -1 else if b < a then 1 else 0
theorem compare_any (a b : Int) (w : World) : Calls Tryd.prog 53 #[.int .i64 a, .int .i64 b] w fun e w' => e = .returned (.int .i64 (cmpI a b)) ∧ w = w' := by
  have hn : ∀ (x : Int) (W : World), Calls Tryd.prog 70 #[.int .i64 x] W fun e w' => e = .returned (.bool false) ∧ W = w' := fun x W => by
    have t0 : (x != x) = false := by simp
    go_enter Tryd.func70, Tryd.ntmps70
    go_wp2_with fail
    go_ret
    exact ⟨rfl, rfl⟩
  have HN := hide hn; clear hn
  unfold cmpI
  by_cases h1 : a < b
  · rw [if_pos h1]
    go_enter Tryd.func53, Tryd.ntmps53
    go_wp2_with (go_at_call 70; refine (HN.out _ _).mono ?_; rintro e w' ⟨rfl, rfl⟩)
    go_ret
    exact ⟨rfl, rfl⟩
  · rw [if_neg h1]
    by_cases h2 : b < a
    · rw [if_pos h2]
      go_enter Tryd.func53, Tryd.ntmps53
      go_wp2_with (go_at_call 70; refine (HN.out _ _).mono ?_; rintro e w' ⟨rfl, rfl⟩)
      go_ret
      exact ⟨rfl, rfl⟩
    · rw [if_neg h2]
      go_enter Tryd.func53, Tryd.ntmps53
      go_wp2_with (go_at_call 70; refine (HN.out _ _).mono ?_; rintro e w' ⟨rfl, rfl⟩)
      go_ret
      exact ⟨rfl, rfl⟩
set_option maxHeartbeats 1000000 in
theorem longCmp_any (a0 : Int) (a1 : ByteArray) (a2 a3 a4 b0 : Int) (b1 : ByteArray) (b2 b3 b4 : Int) (w : World) (h1 : 1500 ≤ a2) (h2 : a2 ≤ a3) (h3 : a3 ≤ 2100) (k1 : 1500 ≤ b2) (k2 : b2 ≤ b3) (k3 : b3 ≤ 2100) :
    Calls Tryd.prog 52 #[.agg #[.int .i64 a0, .string a1, .int .i64 a2, .int .i64 a3, .int .i64 a4], .agg #[.int .i64 b0, .string b1, .int .i64 b2, .int .i64 b3, .int .i64 b4]] w fun e w' => e = .returned (.int .i64 (cmpI (a3 - a2 + 1) (b3 - b2 + 1))) ∧ Below w.heap.size w w' := by
  have hya := fun W => years_any a0 a1 a2 a3 a4 W h1 h2 h3
  have hyb := fun W => years_any b0 b1 b2 b3 b4 W k1 k2 k3
  have hcc := fun x y W => compare_any x y W
  have HYA := hide hya; have HYB := hide hyb; have HCC := hide hcc; clear hya hyb hcc h1 h2 h3 k1 k2 k3
  have hbx : ∀ W, Below (w.heap.size + 1 + 1) ((w.alloc (.cells #[.int .i64 a0, .string a1, .int .i64 a2, .int .i64 a3, .int .i64 a4] 27)).alloc (.cells #[.int .i64 b0, .string b1, .int .i64 b2, .int .i64 b3, .int .i64 b4] 27)) W →
      (W.cell? ⟨w.heap.size, 0, none⟩ = some (.int .i64 a0) ∧ W.cell? ⟨w.heap.size, 1, none⟩ = some (.string a1) ∧ W.cell? ⟨w.heap.size, 2, none⟩ = some (.int .i64 a2) ∧ W.cell? ⟨w.heap.size, 3, none⟩ = some (.int .i64 a3) ∧ W.cell? ⟨w.heap.size, 4, none⟩ = some (.int .i64 a4)) ∧
      (W.cell? ⟨w.heap.size + 1, 0, none⟩ = some (.int .i64 b0) ∧ W.cell? ⟨w.heap.size + 1, 1, none⟩ = some (.string b1) ∧ W.cell? ⟨w.heap.size + 1, 2, none⟩ = some (.int .i64 b2) ∧ W.cell? ⟨w.heap.size + 1, 3, none⟩ = some (.int .i64 b3) ∧ W.cell? ⟨w.heap.size + 1, 4, none⟩ = some (.int .i64 b4)) := by
    intro W hb
    have hk1 := ((Blk.new w 27 #[.int .i64 a0, .string a1, .int .i64 a2, .int .i64 a3, .int .i64 a4]).alloc (.cells #[.int .i64 b0, .string b1, .int .i64 b2, .int .i64 b3, .int .i64 b4] 27)).below hb (by omega)
    have hk2 := (Blk.new (w.alloc (.cells #[.int .i64 a0, .string a1, .int .i64 a2, .int .i64 a3, .int .i64 a4] 27)) 27 #[.int .i64 b0, .string b1, .int .i64 b2, .int .i64 b3, .int .i64 b4]).below hb (by simp)
    rw [show (w.alloc (.cells #[.int .i64 a0, .string a1, .int .i64 a2, .int .i64 a3, .int .i64 a4] 27)).heap.size = w.heap.size + 1 by simp] at hk2
    refine ⟨⟨?_, ?_, ?_, ?_, ?_⟩, ⟨?_, ?_, ?_, ?_, ?_⟩⟩ <;> first | (rw [hk1.cell]; rfl) | (rw [hk2.cell]; rfl)
  have hbx2 := fun n : Later ((w.alloc (.cells #[.int .i64 a0, .string a1, .int .i64 a2, .int .i64 a3, .int .i64 a4] 27)).alloc (.cells #[.int .i64 b0, .string b1, .int .i64 b2, .int .i64 b3, .int .i64 b4] 27)) => hbx n.W (n.h.mono (by simp))
  have m0 := fun n => (hbx2 n).1.1; have m1 := fun n => (hbx2 n).1.2.1; have m2 := fun n => (hbx2 n).1.2.2.1; have m3 := fun n => (hbx2 n).1.2.2.2.1; have m4 := fun n => (hbx2 n).1.2.2.2.2
  have l0 := fun n => (hbx2 n).2.1; have l1 := fun n => (hbx2 n).2.2.1; have l2 := fun n => (hbx2 n).2.2.2.1; have l3 := fun n => (hbx2 n).2.2.2.2.1; have l4 := fun n => (hbx2 n).2.2.2.2.2
  clear hbx hbx2
  have B2 := (below_alloc w (.cells #[.int .i64 a0, .string a1, .int .i64 a2, .int .i64 a3, .int .i64 a4] 27)).alloc (by simp) (.cells #[.int .i64 b0, .string b1, .int .i64 b2, .int .i64 b3, .int .i64 b4] 27)
  generalize cmpI = cm at HCC
  go_enter Tryd.func52, Tryd.ntmps52
  go_wp2_with fail
  (refine wp_region_later (by kernel_rfl) (by kernel_rfl) ?_; (repeat (go_big_quiet_step ((first | (go_at_call 54; (with_reducible exact later_call (HYA.out _))) | (go_at_call 54; (with_reducible exact later_call (HYB.out _))) | (go_at_call 53; exact later_same (HCC.out _ _ _)))))); refine wpQuiet_nil ?_; intro _ hw'; obtain ⟨nq, hw''⟩ := hw'; subst hw'')
  have B4 := B2.trans (nq.h.mono (by simp; omega))
  go_wp2_with fail
  go_ret
  exact ⟨rfl, B4⟩
end Go.Proofs.YtapbnggdclpokaaDoor
