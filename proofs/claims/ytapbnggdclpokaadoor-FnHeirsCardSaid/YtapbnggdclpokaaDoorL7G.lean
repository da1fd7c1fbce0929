/- Contracts of MaxFunc over makers and of impl's LongestMaker; of EndMaker, in impl and spec. Condition: the names' sizes are those of memory. -/
import Derived.Test.YtapbnggdclpokaaDoorL7F
namespace Go.Proofs.YtapbnggdclpokaaDoor
open Go.RowKit Go.Lib
set_option linter.unusedVariables false
theorem longTo_next (xs : List SMaker) (n j : Nat) (h : longTo xs n = ((SMaker.at xs j).ident, (SMaker.at xs j).yrs)) : longTo xs (n + 1) = if (SMaker.at xs j).untl - (SMaker.at xs j).frm + 1 < (SMaker.at xs n).untl - (SMaker.at xs n).frm + 1 then ((SMaker.at xs n).ident, (SMaker.at xs n).untl - (SMaker.at xs n).frm + 1) else longTo xs n := by
  show (if (longTo xs n).2 < _ then _ else _) = _
  rw [h]; rfl
theorem boxed_cell {w : World} {g : Nat} {c : SMaker} (h : Blk w g 27 c.boxed) : w.cell? ⟨g, 0, none⟩ = some (.int .i64 c.ident) ∧ w.cell? ⟨g, 1, none⟩ = some (.string c.name) ∧ w.cell? ⟨g, 2, none⟩ = some (.int .i64 c.frm) ∧ w.cell? ⟨g, 3, none⟩ = some (.int .i64 c.untl) ∧ w.cell? ⟨g, 4, none⟩ = some (.int .i64 c.heir) := by
  refine ⟨?_, ?_, ?_, ?_, ?_⟩ <;> rw [h.cell] <;> rfl
theorem SMaker.eta (c : SMaker) : c = ⟨c.ident, c.name, c.frm, c.untl, c.heir⟩ := rfl
set_option maxHeartbeats 2000000 in
theorem MaxFunc_is (v : Value) (xs : List SMaker) (w : World) (h : Is 5 SMaker.enc w v xs) (hg : goodB xs = true) (hne : 0 < xs.length) :
    Calls Tryd.prog 51 #[v, .func (.func 52) #[] #[]] w fun e w' => ∃ j, j < xs.length ∧ longTo xs xs.length = ((SMaker.at xs j).ident, (SMaker.at xs j).yrs) ∧ e = .returned (.agg #[.int .i64 (SMaker.at xs j).ident, .string (SMaker.at xs j).name, .int .i64 (SMaker.at xs j).frm, .int .i64 (SMaker.at xs j).untl, .int .i64 (SMaker.at xs j).heir]) ∧ Below w.heap.size w w' := by
  have hl10 := good_len hg
  have HGD := hide hg; clear hg
  have hm := h.len
  obtain ⟨A, cap, rfl, hr, _, _⟩ := h
  obtain ⟨b, off, rfl, hb, hd0⟩ := SMaker.cellsAt hr hne
  have HR := hide hr; clear hr
  have hd1 := hd0 _ (below_alloc w (.cells #[.int .i64 0, .string ⟨#[]⟩, .int .i64 0, .int .i64 0, .int .i64 0] 27))
  simp only [Nat.zero_mul, Nat.add_zero] at hd1
  obtain ⟨c0, c1, c2, c3, c4⟩ := hd1
  have hln : ¬ ((xs.length : Int) < 1) := by omega
  have hbox : Blk ((w.alloc (.cells #[.int .i64 0, .string ⟨#[]⟩, .int .i64 0, .int .i64 0, .int .i64 0] 27)).alloc (.cells (SMaker.at xs 0).boxed 27)) (w.heap.size + 1) 27 (SMaker.at xs 0).boxed := by
    have := Blk.new (w.alloc (.cells #[.int .i64 0, .string ⟨#[]⟩, .int .i64 0, .int .i64 0, .int .i64 0] 27)) 27 (SMaker.at xs 0).boxed
    simpa using this
  have hbox0 : Blk ((w.alloc (.cells #[.int .i64 0, .string ⟨#[]⟩, .int .i64 0, .int .i64 0, .int .i64 0] 27)).alloc (.cells (SMaker.at xs 0).boxed 27)) w.heap.size 27 #[.int .i64 0, .string ⟨#[]⟩, .int .i64 0, .int .i64 0, .int .i64 0] := (Blk.new w _ _).alloc _
  have BB : Below w.heap.size w ((w.alloc (.cells #[.int .i64 0, .string ⟨#[]⟩, .int .i64 0, .int .i64 0, .int .i64 0] 27)).alloc (.cells (SMaker.at xs 0).boxed 27)) := (below_alloc w _).alloc (by simp) _
  have hy0 : longTo xs 1 = ((SMaker.at xs 0).ident, (SMaker.at xs 0).yrs) := by
    have q := good_fine HGD.out hne
    have := q.f1; have := q.f2
    show (if (longTo xs 0).2 < (SMaker.at xs 0).yrs then _ else _) = _
    rw [if_pos (by simp only [longTo, SMaker.yrs]; omega)]
  have HY0 := hide hy0; have HBX := hide hbox; have HBX0 := hide hbox0; have HBB := hide BB; clear hy0 hbox hbox0 BB hd0
  have eg : ∀ args w, (callFunc 52 args).run Tryd.prog w = .ok (.enter 52 args) w := fun _ _ => by kernel_rfl
  generalize hB : w.heap.size = B at HR HBX HBX0 HBB
  have HB := hide hB
  go_enter Tryd.func51, Tryd.ntmps51
  go_wp2_with fail
  go_loopw [6] (fun i wr => ∃ n j : Nat, 1 ≤ n ∧ n ≤ xs.length ∧ j < xs.length ∧ i = .int .i64 (n : Int) ∧ longTo xs n = ((SMaker.at xs j).ident, (SMaker.at xs j).yrs) ∧ Blk wr (B + 1) 27 (SMaker.at xs j).boxed ∧ Blk wr B 27 #[.int .i64 0, .string ⟨#[]⟩, .int .i64 0, .int .i64 0, .int .i64 0] ∧ Below B w wr) (fun i _ => xs.length - (intOf i).toNat)
  case atStart => exact ⟨1, 0, Nat.le_refl _, hne, hne, rfl, HY0.out, HBX.out, HBX0.out, HBB.out⟩
  case round =>
    obtain ⟨n, j, hn1, hn, hj, rfl, hlong, hblk, hblk0, hbel⟩ := hrel
    have hsz : B ≤ wr.heap.size := by have := hbel.size; rw [hB] at this; exact this
    have hgl := hblk.lt
    have HLG := hide hlong; have HBK := hide hblk; have HBK0 := hide hblk0; clear hlong hblk hblk0 c0 c1 c2 c3 c4
    by_cases hlt : n < xs.length
    · obtain ⟨b', off', hA, hb', hd0⟩ := SMaker.cellsAt HR.out hlt
      injection hA with hA; injection hA with hA1 hA2; subst hA1 hA2
      have q := good_fine HGD.out hlt; have p := good_fine HGD.out hj
      have hcall := fun W => longCmp_any (SMaker.at xs n).ident (SMaker.at xs n).name (SMaker.at xs n).frm (SMaker.at xs n).untl (SMaker.at xs n).heir (SMaker.at xs j).ident (SMaker.at xs j).name (SMaker.at xs j).frm (SMaker.at xs j).untl (SMaker.at xs j).heir W q.f1 q.f2 q.f3 p.f1 p.f2 p.f3
      obtain ⟨c0, c1, c2, c3, c4⟩ := hd0 _ hbel
      obtain ⟨e0, e1, e2, e3, e4⟩ := boxed_cell HBK.out
      have hst := longTo_next xs n j HLG.out
      have HD := hide hd0; clear q p hd0
      have ecn := SMaker.eta (SMaker.at xs n)
      generalize (SMaker.at xs n).ident = y0 at *; generalize (SMaker.at xs n).name = y1 at *; generalize (SMaker.at xs n).frm = y2 at *; generalize (SMaker.at xs n).untl = y3 at *; generalize (SMaker.at xs n).heir = y4 at *
      generalize hz0 : (SMaker.at xs j).ident = z0 at *; generalize (SMaker.at xs j).name = z1 at *; generalize (SMaker.at xs j).frm = z2 at *; generalize (SMaker.at xs j).untl = z3 at *; generalize (SMaker.at xs j).heir = z4 at *
      have HEC := hide ecn; have HZ0 := hide hz0; clear ecn hz0
      have m0 := fun n => later_cell c0 n; have m1 := fun n => later_cell c1 n; have m2 := fun n => later_cell c2 n; have m3 := fun n => later_cell c3 n; have m4 := fun n => later_cell c4 n
      have l0 := fun n => later_cell e0 n; have l1 := fun n => later_cell e1 n; have l2 := fun n => later_cell e2 n; have l3 := fun n => later_cell e3 n; have l4 := fun n => later_cell e4 n
      by_cases hc : z3 - z2 + 1 < y3 - y2 + 1
      · rw [if_pos hc] at hst
        rw [show cmpI (y3 - y2 + 1) (z3 - z2 + 1) = 1 by unfold cmpI; rw [if_neg (by omega), if_pos hc]] at hcall
        have HST := hide hst; have HC := hide hcall; clear hst hcall hc
        go_wp2_with fail
        (refine wp_region_later (by kernel_rfl) (by kernel_rfl) ?_; (repeat (go_big_quiet_step ((go_at_fn 52; exact later_call (HC.out _))))); refine wpQuiet_nil ?_; intro _ hw'; obtain ⟨nq, hw''⟩ := hw'; subst hw'')
        have B4 := bstep hbel nq.h hsz
        have hk4 := HBK.out.below nq.h hgl
        have hk5 := HBK0.out.below nq.h (by omega)
        have hgl4 : B + 1 < nq.W.heap.size := Nat.lt_of_lt_of_le hgl nq.h.size
        obtain ⟨c0, c1, c2, c3, c4⟩ := HD.out _ B4
        generalize nq.W = W5 at B4 hk4 hk5 c0 c1 c2 c3 c4 hgl4
        clear nq m0 m1 m2 m3 m4 l0 l1 l2 l3 l4
        have g0 := hk4.some (i := 0) (show 0 < 5 by omega); have g1 := hk4.some (i := 1) (show 1 < 5 by omega); have g2 := hk4.some (i := 2) (show 2 < 5 by omega); have g3 := hk4.some (i := 3) (show 3 < 5 by omega); have g4 := hk4.some (i := 4) (show 4 < 5 by omega)
        have hf := hk4.frozen
        have HK4 := hide hk4; have HK5 := hide hk5; clear hk4 hk5
        go_wp2_with fail
        go_round
        case measure => (simp [intOf] <;> omega)
        case rel =>
          have hbs : B ≤ B + 1 := Nat.le_succ _
          refine ⟨n + 1, n, by omega, by omega, hlt, by go_num, ?_, ?_, ?_, ((((B4.setCell hbs _).setCell hbs _).setCell hbs _).setCell hbs _).setCell hbs _⟩
          · rw [HST.out, HEC.out]; rfl
          · rw [HEC.out]; exact ((((HK4.out.set 0 _).set 1 _).set 2 _).set 3 _).set 4 _
          · exact ((((HK5.out.far (p := ⟨B+1, 0, none⟩) (by simp) _).far (p := ⟨B+1, 1, none⟩) (by simp) _).far (p := ⟨B+1, 2, none⟩) (by simp) _).far (p := ⟨B+1, 3, none⟩) (by simp) _).far (p := ⟨B+1, 4, none⟩) (by simp) _
      · rw [if_neg hc] at hst
        have hcm : cmpI (y3 - y2 + 1) (z3 - z2 + 1) ≤ 0 := by unfold cmpI; rw [if_neg hc]; split <;> omega
        generalize cmpI (y3 - y2 + 1) (z3 - z2 + 1) = cm at hcall hcm
        have HST := hide hst; have HC := hide hcall; clear hst hcall hc
        go_wp2_with fail
        (refine wp_region_later (by kernel_rfl) (by kernel_rfl) ?_; (repeat (go_big_quiet_step ((go_at_fn 52; exact later_call (HC.out _))))); refine wpQuiet_nil ?_; intro _ hw'; obtain ⟨nq, hw''⟩ := hw'; subst hw'')
        have B4 := bstep hbel nq.h hsz
        have hk4 := HBK.out.below nq.h hgl
        have hk5 := HBK0.out.below nq.h (by omega)
        generalize nq.W = W5 at B4 hk4 hk5
        clear nq m0 m1 m2 m3 m4 l0 l1 l2 l3 l4
        have HK4 := hide hk4; have HK5 := hide hk5; clear hk4 hk5
        go_wp2_with fail
        go_round
        case measure => (simp [intOf] <;> omega)
        case rel => exact ⟨n + 1, j, by omega, by omega, hj, by go_num, by rw [HST.out, HZ0.out]; exact HLG.out, HK4.out, HK5.out, B4⟩
    · have hnn : n = xs.length := by omega
      obtain ⟨e0, e1, e2, e3, e4⟩ := boxed_cell HBK.out
      have g0 := HBK0.out.some (i := 0) (show 0 < 5 by omega); have g1 := HBK0.out.some (i := 1) (show 1 < 5 by omega); have g2 := HBK0.out.some (i := 2) (show 2 < 5 by omega); have g3 := HBK0.out.some (i := 3) (show 3 < 5 by omega); have g4 := HBK0.out.some (i := 4) (show 4 < 5 by omega)
      have hf := HBK0.out.frozen
      have hlg2 := HLG.out
      rw [hnn] at hlg2
      have HLG2 := hide hlg2; clear hlg2
      have HNN := hide hnn; clear hnn
      have hbf : Below B w (((((wr.setCell ⟨B, 0, none⟩ (.int .i64 (SMaker.at xs j).ident)).setCell ⟨B, 1, none⟩ (.string (SMaker.at xs j).name)).setCell ⟨B, 2, none⟩ (.int .i64 (SMaker.at xs j).frm)).setCell ⟨B, 3, none⟩ (.int .i64 (SMaker.at xs j).untl)).setCell ⟨B, 4, none⟩ (.int .i64 (SMaker.at xs j).heir)) :=
        ((((hbel.setCell (Nat.le_refl B) _).setCell (Nat.le_refl B) _).setCell (Nat.le_refl B) _).setCell (Nat.le_refl B) _).setCell (Nat.le_refl B) _
      have hblf : Blk (((((wr.setCell ⟨B, 0, none⟩ (.int .i64 (SMaker.at xs j).ident)).setCell ⟨B, 1, none⟩ (.string (SMaker.at xs j).name)).setCell ⟨B, 2, none⟩ (.int .i64 (SMaker.at xs j).frm)).setCell ⟨B, 3, none⟩ (.int .i64 (SMaker.at xs j).untl)).setCell ⟨B, 4, none⟩ (.int .i64 (SMaker.at xs j).heir)) B 27 (SMaker.at xs j).boxed :=
        ((((HBK0.out.set 0 _).set 1 _).set 2 _).set 3 _).set 4 _
      have HBF := hide hbf; have HBLF := hide hblf; clear hbf hblf
      go_wp2_with fail
      generalize hwf : (((((wr.setCell ⟨B, 0, none⟩ (.int .i64 (SMaker.at xs j).ident)).setCell ⟨B, 1, none⟩ (.string (SMaker.at xs j).name)).setCell ⟨B, 2, none⟩ (.int .i64 (SMaker.at xs j).frm)).setCell ⟨B, 3, none⟩ (.int .i64 (SMaker.at xs j).untl)).setCell ⟨B, 4, none⟩ (.int .i64 (SMaker.at xs j).heir)) = wf at HBF HBLF ⊢
      obtain ⟨f0, f1, f2, f3, f4⟩ := boxed_cell HBLF.out
      exact bodyPost_ret (v := .agg #[.int .i64 (SMaker.at xs j).ident, .string (SMaker.at xs j).name, .int .i64 (SMaker.at xs j).frm, .int .i64 (SMaker.at xs j).untl, .int .i64 (SMaker.at xs j).heir]) (by simp [results, Tryd.results51, go_sem, f0, f1, f2, f3, f4]) rfl ⟨j, hj, HLG2.out, rfl, HBF.out⟩
set_option maxHeartbeats 1000000 in
theorem implLongestMaker_any (v : Value) (xs : List SMaker) (w : World) (h : Is 5 SMaker.enc w v xs) (hw : ∀ z ∈ xs, z.wf) :
    Calls Tryd.prog 19 #[v] w fun e w' => e = .returned (.tuple #[.int .i64 (longV xs).1.1, .int .i64 (longV xs).1.2, .bool (longV xs).2]) ∧ Below w.heap.size w w' := by
  have hgood := AreMakers_is v xs w h hw
  have HI := hide h
  obtain ⟨A, cap, rfl, hr, _, _⟩ := h
  by_cases hg : goodB xs = true
  case neg =>
    rw [Bool.not_eq_true] at hg
    rw [show longV xs = ((0, 0), false) by unfold longV; rw [hg]; rfl]
    rw [hg] at hgood
    have HG := hide hgood; clear hgood hg hr
    go_enter Tryd.func19, Tryd.ntmps19
    go_wp2_with fail
    refine HG.out.mono ?_; rintro e w1 ⟨rfl, hb1⟩
    go_wp2_with fail
    go_ret3
    exact ⟨rfl, hb1⟩
  rw [hg] at hgood
  have HG := hide hgood; have HGD := hide hg; clear hgood
  have hl10 := good_len hg
  by_cases hz : xs.length = 0
  · rw [show longV xs = ((0, 0), false) by unfold longV; rw [hg, decide_eq_true hz]; rfl]
    have hz2 : ((xs.length : Int) == 0) = true := by simp [hz]
    clear hg hr hl10 hz
    go_enter Tryd.func19, Tryd.ntmps19
    go_wp2_with fail
    refine HG.out.mono ?_; rintro e w1 ⟨rfl, hb1⟩
    go_wp2_with fail
    go_ret3
    exact ⟨rfl, hb1⟩
  have hz2 : ((xs.length : Int) == 0) = false := beq_false_of_ne (by omega)
  rw [show longV xs = (longTo xs xs.length, true) by unfold longV; rw [hg, decide_eq_false hz]; rfl]
  have hpos : 0 < xs.length := by omega
  have HR := hide hr; clear hr hg hz
  go_enter Tryd.func19, Tryd.ntmps19
  go_wp2_with fail
  refine HG.out.mono ?_; rintro e w1 ⟨rfl, hb1⟩
  go_wp2_with fail
  refine (MaxFunc_is _ xs _ (HI.out.below hb1 (Nat.le_refl _)) HGD.out hpos).mono ?_; rintro e w2 ⟨j, hj, hlong, rfl, hb2⟩
  have B2 := bstep hb1 hb2 hb1.size
  have q := good_fine HGD.out hj
  have hcall := fun W => years_any (SMaker.at xs j).ident (SMaker.at xs j).name (SMaker.at xs j).frm (SMaker.at xs j).untl (SMaker.at xs j).heir W q.f1 q.f2 q.f3
  have hls : longTo xs xs.length = ((SMaker.at xs j).ident, (SMaker.at xs j).untl - (SMaker.at xs j).frm + 1) := hlong
  have HLS := hide hls
  have hb3 := fun (n : Later (w2.alloc (.cells #[.int .i64 (SMaker.at xs j).ident, .string (SMaker.at xs j).name, .int .i64 (SMaker.at xs j).frm, .int .i64 (SMaker.at xs j).untl, .int .i64 (SMaker.at xs j).heir] 27))) => boxed_cell ((Blk.new w2 27 (SMaker.at xs j).boxed).below n.h (by simp))
  have m0 := fun n => (hb3 n).1; have m1 := fun n => (hb3 n).2.1; have m2 := fun n => (hb3 n).2.2.1; have m3 := fun n => (hb3 n).2.2.2.1; have m4 := fun n => (hb3 n).2.2.2.2
  have B3 := B2.alloc B2.size (.cells #[.int .i64 (SMaker.at xs j).ident, .string (SMaker.at xs j).name, .int .i64 (SMaker.at xs j).frm, .int .i64 (SMaker.at xs j).untl, .int .i64 (SMaker.at xs j).heir] 27)
  clear q hlong hls hb3 hb2
  generalize (SMaker.at xs j).ident = y0 at *; generalize (SMaker.at xs j).name = y1 at *; generalize (SMaker.at xs j).frm = y2 at *; generalize (SMaker.at xs j).untl = y3 at *; generalize (SMaker.at xs j).heir = y4 at *
  have HC := hide hcall; clear hcall
  go_wp2_with fail
  (refine wp_region_later (by kernel_rfl) (by kernel_rfl) ?_; (repeat (go_big_quiet_step ((go_at_call 54; exact later_call (HC.out _))))); refine wpQuiet_nil ?_; intro _ hw'; obtain ⟨nq, hw''⟩ := hw'; subst hw'')
  have B4 := bstep B3 nq.h B3.size
  go_wp2_with fail
  go_ret3
  rw [HLS.out]
  exact ⟨rfl, B4⟩
end Go.Proofs.YtapbnggdclpokaaDoor
