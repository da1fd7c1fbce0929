/- Contracts of FounderIds, in impl and spec. Condition: the names' sizes are those of memory. -/
import Derived.Test.YtapbnggdclpokaaDoorL7K
namespace Go.Proofs.YtapbnggdclpokaaDoor
open Go.RowKit Go.Lib
set_option linter.unusedVariables false
def isHeir (xs : List SMaker) (id : Int) : Bool := xs.any fun o => o.heir == id
def fouTo (xs : List SMaker) (n : Nat) : List Int := idsOf ((xs.take n).filter fun c => !isHeir xs c.ident)
def fouV (xs : List SMaker) : List Int × Bool := if goodB xs then (idsOf (xs.filter fun c => !isHeir xs c.ident), true) else ([], false)
theorem fouV_len {xs : List SMaker} (h : xs.length ≤ 1048576) : (fouV xs).1.length ≤ 1048576 := by
  unfold fouV; split
  · simp only [idsOf, List.length_map]
    exact Nat.le_trans (List.length_filter_le _ _) h
  · simp
theorem fouTo_succ {xs : List SMaker} {n : Nat} (h : n < xs.length) : fouTo xs (n + 1) = fouTo xs n ++ if isHeir xs xs[n].ident then [] else [xs[n].ident] := by
  unfold fouTo idsOf
  rw [take_snoc' h, List.filter_append, List.map_append]
  congr 1
  cases hp : isHeir xs xs[n].ident <;> simp [hp]
theorem fouTo_le (xs : List SMaker) (n : Nat) : (fouTo xs n).length ≤ n := by
  unfold fouTo idsOf
  rw [List.length_map]
  exact Nat.le_trans (List.length_filter_le _ _) (by simp; omega)
theorem founder11_any (a0 : Int) (a1 : ByteArray) (a2 a3 a4 id : Int) (b : Nat) (w : World) (hc : w.cell? ⟨b, 0, none⟩ = some (.int .i64 id)) :
    Calls Tryd.prog 49 #[.agg #[.int .i64 a0, .string a1, .int .i64 a2, .int .i64 a3, .int .i64 a4], .pointer (some ⟨b, 0, none⟩)] w fun e w' => e = .returned (.bool (a4 == id)) ∧ Below w.heap.size w w' := by
  have hbl := World.block_lt_of_cell? w _ hc
  have hc2 : (w.alloc (.cells #[.int .i64 a0, .string a1, .int .i64 a2, .int .i64 a3, .int .i64 a4] 27)).cell? ⟨b, 0, none⟩ = some (.int .i64 id) := ((bcell (below_alloc w _)).1 b 0 hbl).trans hc
  go_enter Tryd.func49, Tryd.ntmps49
  go_wp2_with fail
  go_ret
  exact ⟨rfl, below_alloc _ _⟩
set_option maxHeartbeats 1000000 in
theorem founder1_any (a0 : Int) (a1 : ByteArray) (a2 a3 a4 : Int) (b : Nat) (v : Value) (xs : List SMaker) (w : World) (hc : w.cell? ⟨b, 0, none⟩ = some v) (h : Is 5 SMaker.enc w v xs) :
    Calls Tryd.prog 47 #[.agg #[.int .i64 a0, .string a1, .int .i64 a2, .int .i64 a3, .int .i64 a4], .pointer (some ⟨b, 0, none⟩)] w fun e w' => e = .returned (.bool (isHeir xs a0)) ∧ Below w.heap.size w w' := by
  have hm := h.len
  obtain ⟨A, cap, rfl, hr, _, _⟩ := h
  have hbl := World.block_lt_of_cell? w _ hc
  have hc2 : (w.alloc (.cells #[.int .i64 a0, .string a1, .int .i64 a2, .int .i64 a3, .int .i64 a4] 27)).cell? ⟨b, 0, none⟩ = some (.slice A xs.length cap) := ((bcell (below_alloc w _)).1 b 0 hbl).trans hc
  have B1 := below_alloc w (.cells #[.int .i64 a0, .string a1, .int .i64 a2, .int .i64 a3, .int .i64 a4] 27)
  have hr1 := hr.below B1 (Nat.le_refl _) B1.size
  have hbox := Blk.new w 27 (⟨a0, a1, a2, a3, a4⟩ : SMaker).boxed
  have hp : SMaker.Pred 49 #[.pointer (some ⟨w.heap.size, 0, none⟩)] (fun o => o.heir == a0) (w.alloc (.cells #[.int .i64 a0, .string a1, .int .i64 a2, .int .i64 a3, .int .i64 a4] 27)).heap.size (w.alloc (.cells #[.int .i64 a0, .string a1, .int .i64 a2, .int .i64 a3, .int .i64 a4] 27)) := fun W c hb =>
    (founder11_any _ _ _ _ _ a0 w.heap.size W (by rw [(hbox.below hb (by simp)).cell]; rfl)).mono fun e w' ⟨h1, h2⟩ => ⟨h1, bstep hb h2 hb.size⟩
  have hcall := ContainsFuncMaker_any 49 #[.pointer (some ⟨w.heap.size, 0, none⟩)] (fun o => o.heir == a0) A cap xs _ hr1 hm (fun _ _ => by kernel_rfl) hp
  have HC := hide hcall; clear hcall hp hbox hr1 hr hc
  go_enter Tryd.func47, Tryd.ntmps47
  go_wp2_with (go_at_call 48; refine HC.out.mono ?_; rintro e w1 ⟨rfl, hb1⟩)
  go_ret
  exact ⟨rfl, bstep B1 hb1 B1.size⟩
set_option maxHeartbeats 1000000 in
theorem implFounderIds_any (v : Value) (xs : List SMaker) (w : World) (h : Is 5 SMaker.enc w v xs) (hw : ∀ z ∈ xs, z.wf) :
    Calls Tryd.prog 15 #[v] w fun e w' => ∃ r, e = .returned (.tuple #[r, .bool (fouV xs).2]) ∧ Own 1 encI 3 w' w.heap.size r (fouV xs).1 ∧ Below w.heap.size w w' := by
  have B0 := below_alloc w (.cells #[v] 32)
  have hgood := AreMakers_is v xs _ (h.below B0 (Nat.le_refl _)) hw
  have HI := hide h
  have hbox : ∀ W, Below (w.heap.size + 1) (w.alloc (.cells #[v] 32)) W → W.cell? ⟨w.heap.size, 0, none⟩ = some v := fun W hb => by
    rw [hb.cell (p := ⟨w.heap.size, 0, none⟩) (by simp), (Blk.new w _ _).cell]; rfl
  obtain ⟨A, cap, rfl, hr, _, _⟩ := h
  have c0 := hbox _ (Below.refl _ _)
  have HBX := hide hbox; clear hbox hr
  by_cases hg : goodB xs = true
  case neg =>
    rw [Bool.not_eq_true] at hg
    rw [show fouV xs = ([], false) by unfold fouV; rw [hg]; rfl]
    rw [hg] at hgood
    have HG := hide hgood; clear hgood hg
    go_enter Tryd.func15, Tryd.ntmps15
    go_wp2_with fail
    refine HG.out.mono ?_; rintro e w1 ⟨rfl, hb1⟩
    go_wp2_with fail
    go_ret2
    exact ⟨_, rfl, Own.nil, bstep B0 hb1 B0.size⟩
  have hlen10 := good_len hg
  rw [hg] at hgood
  have HG := hide hgood; clear hgood
  rw [show fouV xs = (idsOf (xs.filter fun c => !isHeir xs c.ident), true) by unfold fouV; rw [hg]; rfl]
  clear hg
  go_enter Tryd.func15, Tryd.ntmps15
  go_wp2_with fail
  refine HG.out.mono ?_; rintro e w1 ⟨rfl, hb1⟩
  have hbx1 := hb1.mono (show w.heap.size + 1 ≤ _ by simp)
  have c1 := HBX.out w1 hbx1
  have B1 := bstep B0 hb1 B0.size
  have s1 : w.heap.size + 1 ≤ w1.heap.size := by have := hb1.size; simpa using this
  clear c0
  go_wp2_with fail
  refine (cloneM_is _ xs _ (HI.out.below B1 (Nat.le_refl _)) (by omega)).mono ?_; rintro e w2 ⟨r, rfl, ho, hb2⟩
  have B2 := bstep B1 hb2 B1.size
  have hbx2 := hbx1.trans (hb2.mono s1)
  have HBX2 := hide hbx2; clear hbx1 hbx2
  have hp : ∀ (W : World) (c : SMaker), Below w1.heap.size w2 W → Calls Tryd.prog 47 (#[.agg #[.int .i64 c.ident, .string c.name, .int .i64 c.frm, .int .i64 c.untl, .int .i64 c.heir]] ++ #[.pointer (some ⟨w.heap.size, 0, none⟩)]) W fun e w' => e = .returned (.bool (isHeir xs c.ident)) ∧ Below W.heap.size W w' :=
    fun W c hb => founder1_any _ _ _ _ _ _ _ xs W (HBX.out W (HBX2.out.trans (hb.mono s1))) (HI.out.below (B2.trans (hb.mono B1.size)) (Nat.le_refl _))
  have hdel := DeleteFunc_is 47 #[.pointer (some ⟨w.heap.size, 0, none⟩)] (fun c => isHeir xs c.ident) w1.heap.size r xs w2 ho (by omega) hb2.size (fun _ _ => by kernel_rfl) hp
  have HD := hide hdel; clear hdel hp ho c1
  go_wp2_with fail
  refine HD.out.mono ?_; rintro e w3 ⟨r3, rfl, ho3, hb3⟩
  have B3 := B2.trans (hb3.mono B1.size)
  have hml : (xs.filter fun c => !isHeir xs c.ident).length ≤ 1048576 := Nat.le_trans (List.length_filter_le _ _) (by omega)
  go_wp2_with fail
  refine (makerIds_is r3 _ _ ho3.is hml).mono ?_; rintro e w4 ⟨r4, rfl, ho4, hb4⟩
  have B4 := bstep B3 hb4 B3.size
  have HO4 := hide (ho4.mono B3.size); clear ho4 ho3
  go_wp2_with fail
  go_ret2
  exact ⟨_, rfl, HO4.out, B4⟩
theorem isHeir_split (xs : List SMaker) (id : Int) (m : Nat) (hm : m < xs.length) : ((xs.take (m + 1)).any fun o => o.heir == id) = (((xs.take m).any fun o => o.heir == id) || xs[m].heir == id) := by
  rw [take_snoc' hm, List.any_append]; simp
set_option maxHeartbeats 1000000 in
theorem specFounderIds_any (v : Value) (xs : List SMaker) (w : World) (h : Is 5 SMaker.enc w v xs) (hw : ∀ z ∈ xs, z.wf) :
    Calls Tryd.prog 16 #[v] w fun e w' => ∃ r, e = .returned (.tuple #[r, .bool (fouV xs).2]) ∧ Own 1 encI 3 w' w.heap.size r (fouV xs).1 ∧ Below w.heap.size w w' := by
  have B0 := below_alloc w (.cells #[] 3)
  have hgood := l7Good_is v xs _ (h.below B0 (Nat.le_refl _)) hw
  have HE := hide (own_emptyI w (Nat.le_refl w.heap.size))
  by_cases hg : goodB xs = true
  case neg =>
    rw [Bool.not_eq_true] at hg
    rw [show fouV xs = ([], false) by unfold fouV; rw [hg]; rfl]
    rw [hg] at hgood
    have HG := hide hgood; clear hgood hg h
    go_enter Tryd.func16, Tryd.ntmps16
    go_wp2_with fail
    refine HG.out.mono ?_; rintro e w1 ⟨rfl, hb1⟩
    go_wp2_with fail
    go_ret2
    exact ⟨_, rfl, HE.out.below hb1, bstep B0 hb1 B0.size⟩
  have hlen10 := good_len hg
  rw [hg] at hgood
  have HG := hide hgood; clear hgood
  rw [show fouV xs = (idsOf (xs.filter fun c => !isHeir xs c.ident), true) by unfold fouV; rw [hg]; rfl]
  clear hg
  obtain ⟨A, cap, rfl, hr, _, _⟩ := h
  generalize hB : w.heap.size = B at hr
  have HB := hide hB; have HR := hide hr; clear hr
  go_enter Tryd.func16, Tryd.ntmps16
  go_wp2_with fail
  refine HG.out.mono ?_; rintro e w1 ⟨rfl, hb1⟩
  have B1 := bstep B0 hb1 B0.size
  have HE1 := hide (HE.out.below hb1)
  rw [hB] at B1 HE1
  clear hb1 HE hB B0
  go_wp2_with fail
  go_loopw [4, 5] (fun s i wr => ∃ n : Nat, n ≤ xs.length ∧ i = .int .i64 (n : Int) ∧ Own 1 encI 3 wr B s (fouTo xs n) ∧ Below B w wr) (fun _ i _ => xs.length - (intOf i).toNat)
  case atStart => exact ⟨0, Nat.zero_le _, rfl, HE1.out, B1⟩
  case round =>
    obtain ⟨n, hn, rfl, hown, hbel0⟩ := hrel
    have HOW := hide hown; clear hown
    by_cases hlt : n < xs.length
    · have hlt' : (n : Int) < xs.length := by omega
      have hst := fouTo_succ hlt
      have hdl : (fouTo xs n).length ≤ 16777216 := by have := fouTo_le xs n; omega
      have HST := hide hst; clear hst
      go_wp2_with fail
      go_loopw [6, 7] (fun s i wr => ∃ m : Nat, m ≤ xs.length ∧ i = .int .i64 (m : Int) ∧ s = .bool ((xs.take m).any fun o => o.heir == xs[n].ident) ∧ Own 1 encI 3 wr B u4 (fouTo xs n) ∧ Below B w wr) (fun _ i _ => xs.length - (intOf i).toNat)
      case atStart => exact ⟨0, Nat.zero_le _, rfl, rfl, HOW.out, hbel0⟩
      case round =>
        obtain ⟨m, hmm, rfl, rfl, hown, hbel⟩ := hrel
        have HOW2 := hide hown; clear hown
        have hsz : B ≤ wr.heap.size := by have := hbel.size; rw [HB.out] at this; exact this
        by_cases hlm : m < xs.length
        · obtain ⟨b, off, rfl, hb, c0, _, _, _, _⟩ := SMaker.cells HR.out hlt hbel
          obtain ⟨b', off', hA, hb', _, _, _, _, d4⟩ := SMaker.cells HR.out hlm hbel
          injection hA with hA; injection hA with hA1 hA2; subst hA1 hA2
          have hsp := isHeir_split xs xs[n].ident m hlm
          generalize (xs.take m).any (fun o => o.heir == xs[n].ident) = sb at *
          have HSP := hide hsp; clear hsp
          have hh : ∃ z, xs[m].heir = z := ⟨_, rfl⟩
          have n0 := fun n => later_cell c0 n; have n4 := fun n => later_cell d4 n
          cases sb with
          | true =>
            go_wp2_with fail
            (refine wp_region_later (by kernel_rfl) (by kernel_rfl) ?_; (repeat (go_big_quiet_step (fail))); refine wpQuiet_nil ?_; intro _ hw'; obtain ⟨nq, hw''⟩ := hw'; subst hw'')
            have B4 := bstep hbel nq.h hsz
            have ho4 := HOW2.out.below nq.h
            generalize nq.W = W5 at B4 ho4
            have HO4 := hide ho4; clear nq ho4 n0 n4
            go_wp2_with fail
            go_round
            case measure => (simp [intOf] <;> omega)
            case rel => exact ⟨m + 1, by omega, by go_num, by rw [HSP.out]; rfl, HO4.out, B4⟩
          | false =>
            go_wp2_with fail
            (refine wp_region_later (by kernel_rfl) (by kernel_rfl) ?_; (repeat (go_big_quiet_step (fail))); refine wpQuiet_nil ?_; intro _ hw'; obtain ⟨nq, hw''⟩ := hw'; subst hw'')
            have B4 := bstep hbel nq.h hsz
            have ho4 := HOW2.out.below nq.h
            generalize nq.W = W5 at B4 ho4
            have HO4 := hide ho4; clear nq ho4 n0 n4
            go_wp2_with fail
            go_round
            case measure => (simp [intOf] <;> omega)
            case rel => exact ⟨m + 1, by omega, by go_num, by rw [HSP.out]; simp, HO4.out, B4⟩
        · have hnn : m = xs.length := by omega
          obtain ⟨b, off, rfl, hb, c0, _, _, _, _⟩ := SMaker.cells HR.out hlt hbel
          have hih : ((xs.take m).any fun o => o.heir == xs[n].ident) = isHeir xs xs[n].ident := by unfold isHeir; rw [hnn, List.take_length]
          rw [hih]
          have HST2 := hide HST.out
          generalize xs[n].ident = fi at *
          generalize isHeir xs fi = ih at *
          have HOW3 := hide HOW2.out
          clear hih
          cases ih with
          | true =>
            go_wp2_with fail
            go_round
            case measure => (simp [intOf] <;> omega)
            case rel => exact ⟨n + 1, by omega, by go_num, by rw [HST2.out]; simpa using HOW3.out, hbel⟩
          | false =>
            go_wp2_with ((at_builtin; refine wpList_push1 (k := 1) (enc := encI) _ rfl _ _ 38 rfl 3 (.int .i64 0) 8 Tryd.underlying38 infoI rfl (by omega) (by omega) encI_one (B) _ (fouTo xs n) rfl (HOW3.out) (fi) _ rfl rfl (hdl) (hsz) (hbel) (Nat.le_refl _) rfl ?_; intro v1 w1 ho1 hb1 hg1))
            go_round
            case measure => (simp [intOf] <;> omega)
            case rel => exact ⟨n + 1, by omega, by go_num, by rw [HST2.out]; exact ho1, hb1⟩
    · have hnn : n = xs.length := by omega
      have HNN := hide hnn; clear hnn
      go_wp2_with fail
      go_ret2
      refine ⟨_, rfl, ?_, hbel0⟩
      have := HOW.out
      rw [HNN.out] at this
      unfold fouTo at this
      rw [List.take_length] at this
      exact this
end Go.Proofs.YtapbnggdclpokaaDoor
