/- Contracts of ActiveIn and FounderIds, in impl and spec. Condition: the names' sizes are those of memory. -/
import Derived.Test.YtapbnggdclpokaaDoorL7J
namespace Go.Proofs.YtapbnggdclpokaaDoor
open Go.RowKit Go.Lib
set_option linter.unusedVariables false
theorem cloneM_is (v : Value) (xs : List SMaker) (w : World) (h : Is 5 SMaker.enc w v xs) (h1 : xs.length ≤ 1048576) :
    Calls Tryd.prog 40 #[v] w fun e w' => ∃ r, e = .returned r ∧ Own 5 SMaker.enc 27 w' w.heap.size r xs ∧ Below w.heap.size w w' := by
  by_cases h0 : 1 ≤ xs.length
  · exact cloneM_any v xs w h h0 h1
  · obtain rfl : xs = [] := List.length_eq_zero_iff.1 (by omega)
    obtain ⟨A, cap, rfl, _, _, _⟩ := h
    have hnil := fun W => Go.Lib.run_eql_slice_nil (P := Tryd.prog) W 32 27 A 0 cap 0 0 Tryd.underlying32
    clear h0 h1
    cases A with
    | none =>
      go_enter Tryd.func40, Tryd.ntmps40
      go_wp2_with fail
      go_ret
      exact ⟨_, rfl, Own.nil, Below.refl _ _⟩
    | some ad =>
      go_enter Tryd.func40, Tryd.ntmps40
      have HO := hide (own_emptyM w (Nat.le_refl w.heap.size))
      have B1 := below_alloc w (.cells #[] 27)
      go_wp2_with (at_builtin; refine wpList_push (k := 5) (enc := SMaker.enc) _ rfl _ _ 32 rfl 27 (.agg #[.int .i64 0, .string ⟨#[]⟩, .int .i64 0, .int .i64 0, .int .i64 0]) 48 Tryd.underlying32 SMaker.info rfl (by omega) SMaker.one w.heap.size _ [] rfl HO.out ad cap ([] : List SMaker) rfl (by intro j u hu; simp [flat] at hu) (by simp) (by simp) B1.size ?_; intro v1 w1 ho1 hg1 _; have hb1 := HO.out.belowGrown B1 hg1 (Nat.le_refl _) B1.size; rw [List.nil_append] at ho1; have HO1 := hide ho1; clear ho1 hg1)
      go_ret
      exact ⟨_, rfl, HO1.out, hb1⟩
def actV (xs : List SMaker) (y : Int) : List Int × Bool := if goodB xs && inB y 1500 2100 then (idsOf (xs.filter fun c => inB y c.frm c.untl), true) else ([], false)
theorem actV_len {xs : List SMaker} (y : Int) (h : xs.length ≤ 1048576) : (actV xs y).1.length ≤ 1048576 := by
  unfold actV; split
  · simp only [idsOf, List.length_map]
    exact Nat.le_trans (List.length_filter_le _ _) h
  · simp
theorem works_any (a0 : Int) (a1 : ByteArray) (a2 a3 a4 y : Int) (w : World) :
    Calls Tryd.prog 58 #[.agg #[.int .i64 a0, .string a1, .int .i64 a2, .int .i64 a3, .int .i64 a4], .int .i64 y] w fun e w' => e = .returned (.bool (inB y a2 a3)) ∧ Below w.heap.size w w' := by
  go_enter Tryd.func58, Tryd.ntmps58
  go_wp2_with (first | (go_at_call 61; refine (within_any _ _ _ _).mono ?_; rintro e w' ⟨rfl, rfl⟩))
  go_ret
  exact ⟨rfl, below_alloc _ _⟩
theorem active1_any (a0 : Int) (a1 : ByteArray) (a2 a3 a4 y : Int) (b : Nat) (w : World) (hc : w.cell? ⟨b, 0, none⟩ = some (.int .i64 y)) :
    Calls Tryd.prog 57 #[.agg #[.int .i64 a0, .string a1, .int .i64 a2, .int .i64 a3, .int .i64 a4], .pointer (some ⟨b, 0, none⟩)] w fun e w' => e = .returned (.bool (!inB y a2 a3)) ∧ Below w.heap.size w w' := by
  have hbl := World.block_lt_of_cell? w _ hc
  have hc2 : (w.alloc (.cells #[.int .i64 a0, .string a1, .int .i64 a2, .int .i64 a3, .int .i64 a4] 27)).cell? ⟨b, 0, none⟩ = some (.int .i64 y) := ((bcell (below_alloc w _)).1 b 0 hbl).trans hc
  have hcall := fun W => works_any a0 a1 a2 a3 a4 y W
  have B1 := below_alloc w (.cells #[.int .i64 a0, .string a1, .int .i64 a2, .int .i64 a3, .int .i64 a4] 27)
  have HC := hide hcall; clear hcall
  go_enter Tryd.func57, Tryd.ntmps57
  go_wp2_with (go_at_call 58; refine (HC.out _).mono ?_; rintro e w1 ⟨rfl, hb1⟩)
  go_ret
  exact ⟨rfl, bstep B1 hb1 B1.size⟩
set_option maxHeartbeats 1000000 in
theorem implActiveIn_any (v : Value) (xs : List SMaker) (y : Int) (w : World) (h : Is 5 SMaker.enc w v xs) (hw : ∀ z ∈ xs, z.wf) :
    Calls Tryd.prog 25 #[v, .int .i64 y] w fun e w' => ∃ r, e = .returned (.tuple #[r, .bool (actV xs y).2]) ∧ Own 1 encI 3 w' w.heap.size r (actV xs y).1 ∧ Below w.heap.size w w' := by
  have B0 := below_alloc w (.cells #[.int .i64 y] 3)
  have hgood := AreMakers_is v xs _ (h.below B0 (Nat.le_refl _)) hw
  have hyc := fun W => isYear_any y W
  have HI := hide h
  have hbox : ∀ W, Below (w.heap.size + 1) (w.alloc (.cells #[.int .i64 y] 3)) W → W.cell? ⟨w.heap.size, 0, none⟩ = some (.int .i64 y) := fun W hb => by
    rw [hb.cell (p := ⟨w.heap.size, 0, none⟩) (by simp), (Blk.new w _ _).cell]; rfl
  have HBX := hide hbox; clear hbox h
  by_cases hg : goodB xs = true
  case neg =>
    rw [Bool.not_eq_true] at hg
    rw [show actV xs y = ([], false) by unfold actV; rw [hg]; rfl]
    rw [hg] at hgood
    have HG := hide hgood; clear hgood hg
    go_enter Tryd.func25, Tryd.ntmps25
    go_wp2_with fail
    refine HG.out.mono ?_; rintro e w1 ⟨rfl, hb1⟩
    go_wp2_with fail
    go_ret2
    exact ⟨_, rfl, Own.nil, bstep B0 hb1 B0.size⟩
  have hlen10 := good_len hg
  rw [hg] at hgood
  have HG := hide hgood; clear hgood
  by_cases hy : inB y 1500 2100 = true
  case neg =>
    rw [Bool.not_eq_true] at hy
    rw [show actV xs y = ([], false) by unfold actV; rw [hy, Bool.and_false]; rfl]
    rw [hy] at hyc
    have HY := hide hyc; clear hyc hy hg
    go_enter Tryd.func25, Tryd.ntmps25
    go_wp2_with fail
    refine HG.out.mono ?_; rintro e w1 ⟨rfl, hb1⟩
    have c1 := HBX.out w1 (hb1.mono (by simp))
    go_wp2_with fail
    refine (HY.out _).mono ?_; rintro e w' ⟨rfl, rfl⟩
    go_wp2_with fail
    go_ret2
    exact ⟨_, rfl, Own.nil, bstep B0 hb1 B0.size⟩
  rw [show actV xs y = (idsOf (xs.filter fun c => inB y c.frm c.untl), true) by unfold actV; rw [hg, hy]; rfl]
  rw [hy] at hyc
  have HY := hide hyc; clear hyc hy hg
  go_enter Tryd.func25, Tryd.ntmps25
  go_wp2_with fail
  refine HG.out.mono ?_; rintro e w1 ⟨rfl, hb1⟩
  have hbx1 := hb1.mono (show w.heap.size + 1 ≤ _ by simp)
  have c1 := HBX.out w1 hbx1
  have B1 := bstep B0 hb1 B0.size
  have s1 : w.heap.size + 1 ≤ w1.heap.size := by have := hb1.size; simpa using this
  go_wp2_with fail
  refine (HY.out _).mono ?_; rintro e w' ⟨rfl, rfl⟩
  go_wp2_with fail
  refine (cloneM_is _ xs _ (HI.out.below B1 (Nat.le_refl _)) (by omega)).mono ?_; rintro e w2 ⟨r, rfl, ho, hb2⟩
  have B2 := bstep B1 hb2 B1.size
  have hbx2 := hbx1.trans (hb2.mono s1)
  have HBX2 := hide hbx2; clear hbx1 hbx2
  have hp : ∀ (W : World) (c : SMaker), Below w1.heap.size w2 W → Calls Tryd.prog 57 (#[.agg #[.int .i64 c.ident, .string c.name, .int .i64 c.frm, .int .i64 c.untl, .int .i64 c.heir]] ++ #[.pointer (some ⟨w.heap.size, 0, none⟩)]) W fun e w' => e = .returned (.bool (!inB y c.frm c.untl)) ∧ Below W.heap.size W w' :=
    fun W c hb => active1_any _ _ _ _ _ y _ W (HBX.out W (HBX2.out.trans (hb.mono s1)))
  have hdel := DeleteFunc_is 57 #[.pointer (some ⟨w.heap.size, 0, none⟩)] (fun c => !inB y c.frm c.untl) w1.heap.size r xs w2 ho (by omega) hb2.size (fun _ _ => by kernel_rfl) hp
  simp only [Bool.not_not] at hdel
  have HD := hide hdel; clear hdel hp ho c1
  go_wp2_with fail
  refine HD.out.mono ?_; rintro e w3 ⟨r3, rfl, ho3, hb3⟩
  have B3 := B2.trans (hb3.mono B1.size)
  have hml : (xs.filter fun c => inB y c.frm c.untl).length ≤ 1048576 := Nat.le_trans (List.length_filter_le _ _) (by omega)
  go_wp2_with fail
  refine (makerIds_is r3 _ _ ho3.is hml).mono ?_; rintro e w4 ⟨r4, rfl, ho4, hb4⟩
  have B4 := bstep B3 hb4 B3.size
  have HO4 := hide (ho4.mono B3.size); clear ho4 ho3
  go_wp2_with fail
  go_ret2
  exact ⟨_, rfl, HO4.out, B4⟩
def actTo (xs : List SMaker) (y : Int) (n : Nat) : List Int := idsOf ((xs.take n).filter fun c => inB y c.frm c.untl)
theorem actTo_succ {xs : List SMaker} {y : Int} {n : Nat} (h : n < xs.length) : actTo xs y (n + 1) = actTo xs y n ++ if inB y xs[n].frm xs[n].untl then [xs[n].ident] else [] := by
  unfold actTo idsOf
  rw [take_snoc' h, List.filter_append, List.map_append]
  congr 1
  cases hp : inB y xs[n].frm xs[n].untl <;> simp [hp]
theorem actTo_le (xs : List SMaker) (y : Int) (n : Nat) : (actTo xs y n).length ≤ n := by
  unfold actTo idsOf
  rw [List.length_map]
  exact Nat.le_trans (List.length_filter_le _ _) (by simp; omega)
set_option maxHeartbeats 1000000 in
theorem specActiveIn_any (v : Value) (xs : List SMaker) (y : Int) (w : World) (h : Is 5 SMaker.enc w v xs) (hw : ∀ z ∈ xs, z.wf) :
    Calls Tryd.prog 26 #[v, .int .i64 y] w fun e w' => ∃ r, e = .returned (.tuple #[r, .bool (actV xs y).2]) ∧ Own 1 encI 3 w' w.heap.size r (actV xs y).1 ∧ Below w.heap.size w w' := by
  have B0 := below_alloc w (.cells #[] 3)
  have hgood := l7Good_is v xs _ (h.below B0 (Nat.le_refl _)) hw
  have hyc := fun W => l7Year_any y W
  have HE := hide (own_emptyI w (Nat.le_refl w.heap.size))
  by_cases hg : goodB xs = true
  case neg =>
    rw [Bool.not_eq_true] at hg
    rw [show actV xs y = ([], false) by unfold actV; rw [hg]; rfl]
    rw [hg] at hgood
    have HG := hide hgood; clear hgood hg h
    go_enter Tryd.func26, Tryd.ntmps26
    go_wp2_with fail
    refine HG.out.mono ?_; rintro e w1 ⟨rfl, hb1⟩
    go_wp2_with fail
    go_ret2
    exact ⟨_, rfl, HE.out.below hb1, bstep B0 hb1 B0.size⟩
  have hlen10 := good_len hg
  rw [hg] at hgood
  have HG := hide hgood; clear hgood
  by_cases hy : inB y 1500 2100 = true
  case neg =>
    rw [Bool.not_eq_true] at hy
    rw [show actV xs y = ([], false) by unfold actV; rw [hy, Bool.and_false]; rfl]
    rw [hy] at hyc
    have HY := hide hyc; clear hyc hy hg h
    go_enter Tryd.func26, Tryd.ntmps26
    go_wp2_with fail
    refine HG.out.mono ?_; rintro e w1 ⟨rfl, hb1⟩
    go_wp2_with fail
    refine (HY.out _).mono ?_; rintro e w' ⟨rfl, rfl⟩
    go_wp2_with fail
    go_ret2
    exact ⟨_, rfl, HE.out.below hb1, bstep B0 hb1 B0.size⟩
  rw [show actV xs y = (idsOf (xs.filter fun c => inB y c.frm c.untl), true) by unfold actV; rw [hg, hy]; rfl]
  rw [hy] at hyc
  have HY := hide hyc; clear hyc hy hg
  obtain ⟨A, cap, rfl, hr, _, _⟩ := h
  generalize hB : w.heap.size = B at hr
  have HB := hide hB; have HR := hide hr; clear hr
  go_enter Tryd.func26, Tryd.ntmps26
  go_wp2_with fail
  refine HG.out.mono ?_; rintro e w1 ⟨rfl, hb1⟩
  have B1 := bstep B0 hb1 B0.size
  have HE1 := hide (HE.out.below hb1)
  rw [hB] at B1 HE1
  clear hb1 HE hB B0
  go_wp2_with fail
  refine (HY.out _).mono ?_; rintro e w' ⟨rfl, rfl⟩
  go_wp2_with fail
  go_loopw [6, 7] (fun s i wr => ∃ n : Nat, n ≤ xs.length ∧ i = .int .i64 (n : Int) ∧ Own 1 encI 3 wr B s (actTo xs y n) ∧ Below B w wr) (fun _ i _ => xs.length - (intOf i).toNat)
  case atStart => exact ⟨0, Nat.zero_le _, rfl, HE1.out, B1⟩
  case round =>
    obtain ⟨n, hn, rfl, hown, hbel⟩ := hrel
    have hsz : B ≤ wr.heap.size := by have := hbel.size; rw [HB.out] at this; exact this
    have HOW := hide hown; clear hown
    by_cases hlt : n < xs.length
    · obtain ⟨b, off, rfl, hb, c0, _, c2, c3, _⟩ := SMaker.cells HR.out hlt hbel
      have hbw : b < wr.heap.size := by omega
      have hst := actTo_succ (y := y) hlt
      have hdl : (actTo xs y n).length ≤ 16777216 := by have := actTo_le xs y n; omega
      generalize xs[n].ident = fi at *; generalize xs[n].frm = ff at *; generalize xs[n].untl = fu at *
      have hin := fun W => l1In_any y ff fu W
      generalize inB y ff fu = iv at hin hst
      have m2 := fun n => later_cell c2 n; have m3 := fun n => later_cell c3 n
      have hcell := fun W (hb : Below wr.heap.size wr W) => ((bcell hb).1 b (off + n * 5) hbw).trans c0
      have HCL := hide hcell; have HIN := hide hin; clear hcell hin c0
      cases iv with
      | true =>
        rw [if_pos rfl] at hst
        have HST := hide hst; clear hst
        go_wp2_with fail
        (refine wp_region_later (by kernel_rfl) (by kernel_rfl) ?_; (repeat (go_big_quiet_step ((go_at_call 59; exact later_same (HIN.out _))))); refine wpQuiet_nil ?_; intro _ hw'; obtain ⟨nq, hw''⟩ := hw'; subst hw'')
        have B4 := bstep hbel nq.h hsz
        have c0 := HCL.out _ nq.h
        have ho4 := HOW.out.below nq.h
        have hs4 : B ≤ nq.W.heap.size := Nat.le_trans hsz nq.h.size
        generalize nq.W = W5 at B4 c0 ho4 hs4
        have HO4 := hide ho4; clear nq ho4 m2 m3 c2 c3
        go_wp2_with ((at_builtin; refine wpList_push1 (k := 1) (enc := encI) _ rfl _ _ 38 rfl 3 (.int .i64 0) 8 Tryd.underlying38 infoI rfl (by omega) (by omega) encI_one (B) _ (actTo xs y n) rfl (HO4.out) (fi) _ rfl rfl (hdl) (hs4) (B4) (Nat.le_refl _) rfl ?_; intro v1 w1 ho1 hb1 hg1))
        go_round
        case measure => (simp [intOf] <;> omega)
        case rel => exact ⟨n + 1, by omega, by go_num, by rw [HST.out]; exact ho1, hb1⟩
      | false =>
        have HST := hide hst; clear hst
        go_wp2_with fail
        (refine wp_region_later (by kernel_rfl) (by kernel_rfl) ?_; (repeat (go_big_quiet_step ((go_at_call 59; exact later_same (HIN.out _))))); refine wpQuiet_nil ?_; intro _ hw'; obtain ⟨nq, hw''⟩ := hw'; subst hw'')
        have B4 := bstep hbel nq.h hsz
        have ho4 := HOW.out.below nq.h
        generalize nq.W = W5 at B4 ho4
        have HO4 := hide ho4; clear nq ho4 m2 m3 c2 c3
        go_wp2_with fail
        go_round
        case measure => (simp [intOf] <;> omega)
        case rel => exact ⟨n + 1, by omega, by go_num, by rw [HST.out]; simpa using HO4.out, B4⟩
    · have hnn : n = xs.length := by omega
      have HNN := hide hnn; clear hnn
      go_wp2_with fail
      go_ret2
      refine ⟨_, rfl, ?_, hbel⟩
      have := HOW.out
      rw [HNN.out] at this
      unfold actTo at this
      rw [List.take_length] at this
      exact this
end Go.Proofs.YtapbnggdclpokaaDoor
