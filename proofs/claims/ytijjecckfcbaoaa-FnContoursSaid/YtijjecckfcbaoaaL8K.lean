/- Sound claims: contracts of impl's isSound and spec's l8Sound, and of AreSoundClaims in both: the Lean function soundB. Condition of the first two: claims for n marks. -/
import Derived.Test.YtijjecckfcbaoaaL8J
namespace Go.Proofs.Ytijjecckfcbaoaa
open Go.RowKit
set_option linter.unusedVariables false
def soundB (n : Nat) (xs : List SClaim) : Bool := (lowerF (stepsOf xs) (n + 1) (zeros n)).2
theorem steps_lt {n : Nat} {xs : List SClaim} (h : areB n xs = true) : ∀ e ∈ stepsOf xs, e.1 < n ∧ e.2.1 < n := fun e he => by
  have := stepsOf_mem h e he
  simp only [Int.toNat_natCast] at this
  exact ⟨this.1, this.2.1⟩
theorem soundB_pot {n : Nat} {xs : List SClaim} (h : areB n xs = true) : soundB n xs = true ↔ Pot (stepsOf xs) := pot_zeros (steps_lt h)
def sndTo (n : Nat) (xs : List SClaim) (k : Nat) : Bool := (List.range k).all fun k => (lowerF (stepsOf xs) (n + 1) (source k)).2
theorem sndTo_succ (n : Nat) (xs : List SClaim) (k : Nat) : sndTo n xs (k + 1) = (sndTo n xs k && (lowerF (stepsOf xs) (n + 1) (source k)).2) := by
  unfold sndTo; rw [List.range_succ, List.all_append]; simp
theorem sndTo_all {n : Nat} {xs : List SClaim} (h : areB n xs = true) : sndTo n xs n = soundB n xs := by
  rw [Bool.eq_iff_iff, soundB_pot h, ← pot_sources (steps_lt h)]
  unfold sndTo
  simp [List.all_eq_true]
theorem sndTo_false {n : Nat} {xs : List SClaim} (h : areB n xs = true) {k : Nat} (hk : k < n) (hf : (lowerF (stepsOf xs) (n + 1) (source k)).2 = false) : soundB n xs = false := by
  cases hs : soundB n xs with
  | false => rfl
  | true =>
    have := (pot_sources (steps_lt h)).2 ((soundB_pot h).1 hs) k hk
    rw [hf] at this
    exact absurd this (by simp)
theorem HsOf_zeros (n : Nat) : HsOf n (zeros n) = (List.range n).map fun _ => (0 : Int) := by
  unfold HsOf
  apply List.map_congr_left
  intro v hv
  rw [List.mem_range] at hv
  simp [zeros, hv]
theorem TsOf_zeros (n : Nat) : TsOf n (zeros n) = List.replicate n true := by
  unfold TsOf
  apply List.ext_getElem
  · simp
  · intro i h1 h2
    have : i < n := by simpa using h1
    simp [zeros, this]
theorem lowM_zeros {w : World} {base gh ch gt ct n : Nat} (h1 : Own 1 encI 3 w base (.slice (some ⟨gh, 0, none⟩) n ch) ((List.range n).map fun _ => (0 : Int))) (h2 : Own 1 encBo 4 w base (.slice (some ⟨gt, 0, none⟩) n ct) (List.replicate n true)) : LowM w base gh ch gt ct n (zeros n) :=
  ⟨by rw [HsOf_zeros]; exact h1, by rw [TsOf_zeros]; exact h2⟩
set_option maxHeartbeats 2000000 in
theorem isSound_is (n : Nat) (v : Value) (xs : List SClaim) (w : World) (h : Is 4 SClaim.enc w v xs) (hok : areB n xs = true) :
    Calls Try.prog 70 #[.int .i64 (n : Int), v] w fun e w' => e = .returned (.bool (soundB n xs)) ∧ Below w.heap.size w w' := by
  obtain ⟨A, cap, rfl, hr, _, _⟩ := h
  obtain ⟨hc1, ⟨hn1, hn10⟩, hx24⟩ := areB_iff.1 hok
  have hmk := fun W => run_make_n (P := Try.prog) 42 3 _ 1 8 Try.underlying42 infoI n (by omega) (by omega) W
  have hmk1 : ∀ W : World, (Instr.makeSlice 42 (.int .i64 (n : Int)) (.int .i64 (n : Int))).run Try.prog W = .ok (.slice (some ⟨W.heap.size, 0, none⟩) n n) (W.alloc (.cells (madeCells #[.int .i64 0] n) 3)) := fun W => by
    have := hmk W
    rwa [show (madeCells (Value.cells (.int .i64 0)) (n * 1)) = madeCells #[.int .i64 0] n by rw [Nat.mul_one]; rfl] at this
  have hlow := fun W gh ch gt ct (hb : Below w.heap.size w W) (hm : LowM W w.heap.size gh ch gt ct n (zeros n)) => lower_is n A cap xs gh ch gt ct w.heap.size (zeros n) W (hr.below hb (Nat.le_refl _) (Nat.le_refl _)) hok hm (Bd_zeros n) hb.size
  have hrep := fun W b (hc : W.cell? ⟨b, 0, none⟩ = some (.bool true)) => repeatB_is n b W (by omega) (by omega) hc
  have hz := fun (W : World) (hb : Below w.heap.size w W) => own_zeros8 W hb.size n (by simp only [maxLen]; omega)
  have hszg : ∀ (W : World) (o : Obj), (W.alloc o).heap.size = W.heap.size + 1 := fun W o => by simp
  have bA := below_alloc w (.cells (madeCells #[.int .i64 0] n) 3)
  have bA2 := (bA.alloc (below_alloc w _).size (.cells #[.bool true] 4)).drew
  have bB := below_alloc w (.cells #[.bool true] 4)
  have bC2 := (bB.alloc (below_alloc w _).size (.cells (madeCells #[.int .i64 0] n) 3)).drew
  have iA : Own 1 encI 3 ((w.alloc (.cells (madeCells #[.int .i64 0] n) 3)).alloc (.cells #[.bool true] 4)).drew w.heap.size (.slice (some ⟨w.heap.size, 0, none⟩) n n) ((List.range n).map fun _ => (0 : Int)) := (own_zeros8 w (Nat.le_refl _) n (by simp only [maxLen]; omega)).alloc _
  have hsz1 : (w.alloc (.cells #[.bool true] 4)).heap.size = w.heap.size + 1 := hszg w _
  have iC : Own 1 encI 3 ((w.alloc (.cells #[.bool true] 4)).alloc (.cells (madeCells #[.int .i64 0] n) 3)).drew w.heap.size (.slice (some ⟨w.heap.size + 1, 0, none⟩) n n) ((List.range n).map fun _ => (0 : Int)) := by
    have := own_zeros8 (w.alloc (.cells #[.bool true] 4)) (B := w.heap.size) (by omega) n (by simp only [maxLen]; omega)
    rw [hsz1] at this
    exact this
  have hsz2 : (w.alloc (.cells (madeCells #[.int .i64 0] n) 3)).heap.size = w.heap.size + 1 := hszg w _
  have cA : ((w.alloc (.cells (madeCells #[.int .i64 0] n) 3)).alloc (.cells #[.bool true] 4)).drew.cell? ⟨w.heap.size + 1, 0, none⟩ = some (.bool true) := by
    have := (Blk.new (w.alloc (.cells (madeCells #[.int .i64 0] n) 3)) 4 #[.bool true]).cell 0
    rw [hsz2] at this
    exact this
  have cB : (w.alloc (.cells #[.bool true] 4)).drew.cell? ⟨w.heap.size, 0, none⟩ = some (.bool true) := (Blk.new w _ _).cell 0
  have cC : ((w.alloc (.cells #[.bool true] 4)).alloc (.cells (madeCells #[.int .i64 0] n) 3)).drew.cell? ⟨w.heap.size, 0, none⟩ = some (.bool true) := ((Blk.new w _ _).alloc _).cell 0
  unfold soundB
  have HLOW := hide hlow; have HZ := hide hz
  have HRA := hide (hrep _ _ cA); have HRB := hide (hrep _ _ cB); have HRC := hide (hrep _ _ cC)
  have HIA := hide iA; have HIC := hide iC; have BA := hide bA2; have BB := hide bB.drew; have BC := hide bC2
  clear hr hok hmk hlow hrep hz hc1 iA iC bA bA2 bB bC2 cA cB cC hsz1 hsz2 hszg
  go_enter Try.func70, Try.ntmps70
  go_wp2_with fail
  go_region_held3 (fun _ => True) (trivial)
    (first
      | (go_at_call 89; with_reducible refine HRA.out.mono ?_; rintro e w5 ⟨g, rfl, ht, hb5⟩; have HT := hide (ht.mono BA.out.size); have HI := hide (HIA.out.below hb5); have B5 := bstep BA.out hb5 BA.out.size; clear ht hb5)
      | (go_at_call 89; with_reducible refine HRC.out.mono ?_; rintro e w5 ⟨g, rfl, ht, hb5⟩; have HT := hide (ht.mono BC.out.size); have HI := hide (HIC.out.below hb5); have B5 := bstep BC.out hb5 BC.out.size; clear ht hb5)
      | (go_at_call 89; with_reducible refine HRB.out.mono ?_; rintro e w5 ⟨g, rfl, ht, hb5⟩; have B5 := bstep BB.out hb5 BB.out.size; have HT := hide ((ht.mono BB.out.size).alloc (.cells (madeCells #[.int .i64 0] n) 3)); have HI := hide (HZ.out _ B5); clear ht hb5; have B5 := B5.alloc B5.size (.cells (madeCells #[.int .i64 0] n) 3))
      | (go_at_call 86; refine (HLOW.out _ _ _ _ _ B5 (lowM_zeros HI.out HT.out)).mono ?_; rintro e w6 ⟨rfl, _, hb6⟩; have B6 := B5.trans hb6))
  all_goals
    go_wp2_with fail
    go_ret
    exact ⟨rfl, B6⟩
theorem l8Sound_is (n : Nat) (v : Value) (xs : List SClaim) (w : World) (h : Is 4 SClaim.enc w v xs) (hok : areB n xs = true) :
    Calls Try.prog 71 #[.int .i64 (n : Int), v] w fun e w' => e = .returned (.bool (soundB n xs)) ∧ Below w.heap.size w w' := by
  obtain ⟨hc1, ⟨hn1, hn10⟩, hx24⟩ := areB_iff.1 hok
  have hre := fun k (hk : k < n) W (hb : Below w.heap.size w W) => l8Reach_is n v xs k W (h.below hb (Nat.le_refl _)) hok hk
  have hall := sndTo_all hok
  have hno := fun k (hk : k < n) hf => sndTo_false hok hk hf
  have hsu := fun k => sndTo_succ n xs k
  have h0 : sndTo n xs 0 = true := rfl
  have HRE := hide hre; have HALL := hide hall; have HNO := hide hno; have HSU := hide hsu; have H0 := hide h0
  clear hre hall hno hsu h0 h hok hc1
  generalize hB : w.heap.size = B at *
  have HB := hide hB
  go_enter Try.func71, Try.ntmps71
  go_wp2_with fail
  go_loopw [5] (fun i wr => ∃ k : Nat, k ≤ n ∧ i = .int .i64 (k : Int) ∧ sndTo n xs k = true ∧ Below B w wr) (fun i _ => n - (intOf i).toNat)
  case atStart => exact ⟨0, Nat.zero_le _, rfl, H0.out, by rw [← hB]; exact Below.refl _ _⟩
  case round =>
    obtain ⟨k, hk, rfl, hs, hbel⟩ := hrel
    have hsz : B ≤ wr.heap.size := by have := hbel.size; rw [HB.out] at this; exact this
    have HS := hide hs; clear hs
    by_cases hlt : k < n
    · have hlt' : (k : Int) < n := by omega
      have hcall := HRE.out k hlt wr hbel
      have hno := HNO.out k hlt
      have hsu := HSU.out k
      generalize lowerF (stepsOf xs) (n + 1) (source k) = L at *
      obtain ⟨L1, L2⟩ := L
      simp only at hcall hno hsu
      have HC := hide hcall; have HN := hide hno; have HSS := hide hsu; clear hcall hno hsu
      cases L2 with
      | false =>
        have hnn := HN.out rfl
        have HNN := hide hnn; clear hnn
        go_wp2_with fail
        refine HC.out.mono ?_; rintro e w1 ⟨r, rfl, _, hb1⟩
        have B1 := bstep hbel hb1 hsz
        go_wp2_with fail
        go_ret
        exact ⟨ret_bool HNN.out.symm, B1⟩
      | true =>
        go_wp2_with fail
        refine HC.out.mono ?_; rintro e w1 ⟨r, rfl, _, hb1⟩
        have B1 := bstep hbel hb1 hsz
        go_wp2_with fail
        go_round
        case measure => (simp [intOf] <;> omega)
        case rel => exact ⟨k + 1, by omega, by go_num, by rw [HSS.out, HS.out]; rfl, B1⟩
    · have hkn : k = n := by omega
      have hfin : soundB n xs = true := by have h1 := HS.out; rw [hkn] at h1; rw [← HALL.out]; exact h1
      have HF := hide hfin; have HK := hide hkn; clear hfin hkn
      go_wp2_with fail
      go_ret
      exact ⟨ret_bool HF.out.symm, hbel⟩
/-- both answers of AreSoundClaims -/
def aresV (n : Int) (xs : List SClaim) : Bool × Bool := if areB n xs then (soundB n.toNat xs, true) else (false, false)
theorem areB_nat {n : Int} {xs : List SClaim} (h : areB n xs = true) : n = (n.toNat : Int) := by
  obtain ⟨_, ⟨hn1, _⟩, _⟩ := areB_iff.1 h
  omega
theorem implAreSoundClaims_any (n : Int) (v : Value) (xs : List SClaim) (w : World) (h : Is 4 SClaim.enc w v xs) :
    Calls Try.prog 32 #[.int .i64 n, v] w fun e w' => e = .returned (.tuple #[.bool (aresV n xs).1, .bool (aresV n xs).2]) ∧ Below w.heap.size w w' := by
  have hok := implAreClaims_is n v xs w h
  by_cases ha : areB n xs = true
  case neg =>
    rw [Bool.not_eq_true] at ha
    rw [show aresV n xs = (false, false) by unfold aresV; rw [ha]; rfl]
    rw [ha] at hok
    have HOK := hide hok; clear hok ha h
    go_enter Try.func32, Try.ntmps32
    go_wp2_with fail
    refine HOK.out.mono ?_; rintro e w1 ⟨rfl, hb1⟩
    go_wp2_with fail
    go_ret2
    exact ⟨rfl, hb1⟩
  have hnn := areB_nat ha
  rw [show aresV n xs = (soundB n.toNat xs, true) by unfold aresV; rw [ha]; rfl]
  rw [ha] at hok
  generalize n.toNat = k at hnn ⊢
  subst hnn
  have hsd := fun W (hb : Below w.heap.size w W) => isSound_is k v xs W (h.below hb (Nat.le_refl _)) ha
  generalize soundB k xs = s at *
  have HOK := hide hok; have HSD := hide hsd; clear hok ha h hsd
  go_enter Try.func32, Try.ntmps32
  go_wp2_with fail
  refine HOK.out.mono ?_; rintro e w1 ⟨rfl, hb1⟩
  go_wp2_with fail
  refine (HSD.out _ hb1).mono ?_; rintro e w2 ⟨rfl, hb2⟩
  have B2 := bstep hb1 hb2 hb1.size
  go_wp2_with fail
  go_ret2
  exact ⟨rfl, B2⟩
theorem specAreSoundClaims_any (n : Int) (v : Value) (xs : List SClaim) (w : World) (h : Is 4 SClaim.enc w v xs) :
    Calls Try.prog 33 #[.int .i64 n, v] w fun e w' => e = .returned (.tuple #[.bool (aresV n xs).1, .bool (aresV n xs).2]) ∧ Below w.heap.size w w' := by
  have hok := l8Good_is n v xs w h
  by_cases ha : areB n xs = true
  case neg =>
    rw [Bool.not_eq_true] at ha
    rw [show aresV n xs = (false, false) by unfold aresV; rw [ha]; rfl]
    rw [ha] at hok
    have HOK := hide hok; clear hok ha h
    go_enter Try.func33, Try.ntmps33
    go_wp2_with fail
    refine HOK.out.mono ?_; rintro e w1 ⟨rfl, hb1⟩
    go_wp2_with fail
    go_ret2
    exact ⟨rfl, hb1⟩
  have hnn := areB_nat ha
  rw [show aresV n xs = (soundB n.toNat xs, true) by unfold aresV; rw [ha]; rfl]
  rw [ha] at hok
  generalize n.toNat = k at hnn ⊢
  subst hnn
  have hsd := fun W (hb : Below w.heap.size w W) => l8Sound_is k v xs W (h.below hb (Nat.le_refl _)) ha
  generalize soundB k xs = s at *
  have HOK := hide hok; have HSD := hide hsd; clear hok ha h hsd
  go_enter Try.func33, Try.ntmps33
  go_wp2_with fail
  refine HOK.out.mono ?_; rintro e w1 ⟨rfl, hb1⟩
  go_wp2_with fail
  refine (HSD.out _ hb1).mono ?_; rintro e w2 ⟨rfl, hb2⟩
  have B2 := bstep hb1 hb2 hb1.size
  go_wp2_with fail
  go_ret2
  exact ⟨rfl, B2⟩
end Go.Proofs.Ytijjecckfcbaoaa
