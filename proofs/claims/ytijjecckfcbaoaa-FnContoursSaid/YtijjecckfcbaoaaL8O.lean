/- Contracts of impl's highest and HighestHeights. Condition of highest: claims for n marks. -/
import Derived.Test.YtijjecckfcbaoaaL8N
namespace Go.Proofs.Ytijjecckfcbaoaa
open Go.RowKit
set_option linter.unusedVariables false
def hiOk (n : Nat) (xs : List SClaim) : Bool := soundB n xs && toldA n xs 0
def hiL (n : Nat) (xs : List SClaim) : List Int := if hiOk n xs then HsOf n (st0 n xs 0) else []
theorem hiOk_told {n : Nat} {xs : List SClaim} (h : areB n xs = true) (hn : 0 < n) : (tiedA n xs 0 && soundB n xs) = hiOk n xs := by
  unfold hiOk
  cases hs : soundB n xs with
  | false => rw [Bool.and_false]; rfl
  | true => rw [told_tied h hn hs, Bool.and_true, Bool.true_and]
theorem own_falses8 (w : World) {B : Nat} (hB : B ≤ w.heap.size) (n : Nat) (hn : n ≤ maxLen) : Own 1 encBo 4 (w.alloc (.cells (tfA n 0) 4)) B (.slice (some ⟨w.heap.size, 0, none⟩) n n) (List.replicate n false) := by
  refine Own.made (by simp) hB (Blk.new _ _ _) (by rw [tfA_size (Nat.zero_le _)]; simp) (by simpa using hn) ?_
  intro i x hi hx c hc
  obtain rfl : c = 0 := by omega
  rw [List.length_replicate] at hi
  rw [List.getElem?_replicate, if_pos hi] at hx
  injection hx with hx
  subst hx
  rw [Nat.mul_one, Nat.add_zero]
  unfold tfA
  simp [hi]
  rfl
theorem HsOf_src (n k : Nat) : HsOf n (source k) = (List.range n).map fun _ => (0 : Int) := by
  unfold HsOf
  apply List.map_congr_left
  intro v _
  unfold source
  split <;> rfl
theorem TsOf_src {n : Nat} : (List.replicate n false).set 0 true = TsOf n (source 0) := by
  have h : List.replicate n false = (List.range n).map fun _ => false := by
    apply List.ext_getElem
    · simp
    · intro i h1 h2; simp
  rw [h, map_set_range]
  unfold TsOf
  apply List.map_congr_left
  intro v _
  unfold source
  by_cases hv : v = 0
  · simp [hv]
  · simp [hv]
theorem LowM.told {w : World} {base gh ch gt ct n : Nat} {s : Nat → Option Int} (h : LowM w base gh ch gt ct n s) : Row 1 encBo w w.heap.size (some ⟨gt, 0, none⟩) (TsOf n s) := by
  obtain ⟨A, cap, he, hr, _, _⟩ := h.ts.row
  injection he with e1 e2 e3
  subst e1
  exact hr
set_option maxHeartbeats 2000000 in
theorem highest_is (n : Nat) (v : Value) (xs : List SClaim) (w : World) (h : Is 4 SClaim.enc w v xs) (hok : areB n xs = true) :
    Calls Try.prog 67 #[.int .i64 (n : Int), v] w fun e w' => ∃ r, e = .returned (.tuple #[r, .bool (hiOk n xs)]) ∧ Own 1 encI 3 w' w.heap.size r (hiL n xs) ∧ Below w.heap.size w w' := by
  obtain ⟨hc1, ⟨hn1, hn10⟩, hx24⟩ := areB_iff.1 hok
  have hsd := fun W (hb : Below w.heap.size w W) => isSound_is n v xs W (h.below hb (Nat.le_refl _)) hok
  have hlt2 := fun (hs : soundB n xs = true) => (pot_sources (steps_lt hok)).2 ((soundB_pot hok).1 hs) 0 (by omega)
  obtain ⟨A, cap, rfl, hr, _, _⟩ := h
  have hlow := fun W gh ch gt ct (hb : Below w.heap.size w W) (hm : LowM W w.heap.size gh ch gt ct n (source 0)) => lower_is n A cap xs gh ch gt ct w.heap.size (source 0) W (hr.below hb (Nat.le_refl _) (Nat.le_refl _)) hok hm (Bd_source n 0) hb.size
  have hmki : ∀ W : World, (Instr.makeSlice 42 (.int .i64 (n : Int)) (.int .i64 (n : Int))).run Try.prog W = .ok (.slice (some ⟨W.heap.size, 0, none⟩) n n) (W.alloc (.cells (madeCells #[.int .i64 0] n) 3)) := fun W => by
    have := run_make_n (P := Try.prog) 42 3 _ 1 8 Try.underlying42 infoI n (by omega) (by omega) W
    rwa [show (madeCells (Value.cells (.int .i64 0)) (n * 1)) = madeCells #[.int .i64 0] n by rw [Nat.mul_one]; rfl] at this
  have hmkb : ∀ W : World, (Instr.makeSlice 89 (.int .i64 (n : Int)) (.int .i64 (n : Int))).run Try.prog W = .ok (.slice (some ⟨W.heap.size, 0, none⟩) n n) (W.alloc (.cells (tfA n 0) 4)) := fun W => by
    have := run_make_n (P := Try.prog) 89 4 _ 1 1 Try.underlying89 infoBo n (by omega) (by omega) W
    rwa [show (madeCells (Value.cells (.bool false)) (n * 1)) = tfA n 0 by rw [Nat.mul_one]; exact tfA_made n] at this
  have hszg : ∀ (W : World) (o : Obj), (W.alloc o).heap.size = W.heap.size + 1 := fun W o => by simp
  have bA := ((below_alloc w (.cells (madeCells #[.int .i64 0] n) 3)).alloc (below_alloc w _).size (.cells (tfA n 0) 4)).drew
  have bC := ((below_alloc w (.cells (tfA n 0) 4)).alloc (below_alloc w _).size (.cells (madeCells #[.int .i64 0] n) 3)).drew
  have iA : Own 1 encI 3 ((w.alloc (.cells (madeCells #[.int .i64 0] n) 3)).alloc (.cells (tfA n 0) 4)).drew w.heap.size (.slice (some ⟨w.heap.size, 0, none⟩) n n) ((List.range n).map fun _ => (0 : Int)) := (own_zeros8 w (Nat.le_refl _) n (by simp only [maxLen]; omega)).alloc _
  have z1 := hszg w (.cells (madeCells #[.int .i64 0] n) 3)
  have z2 := hszg w (.cells (tfA n 0) 4)
  have tA : Own 1 encBo 4 ((w.alloc (.cells (madeCells #[.int .i64 0] n) 3)).alloc (.cells (tfA n 0) 4)).drew w.heap.size (.slice (some ⟨w.heap.size + 1, 0, none⟩) n n) (List.replicate n false) := by
    have := own_falses8 (w.alloc (.cells (madeCells #[.int .i64 0] n) 3)) (B := w.heap.size) (by omega) n (by simp only [maxLen]; omega)
    rw [z1] at this
    exact this
  have tC : Own 1 encBo 4 ((w.alloc (.cells (tfA n 0) 4)).alloc (.cells (madeCells #[.int .i64 0] n) 3)).drew w.heap.size (.slice (some ⟨w.heap.size, 0, none⟩) n n) (List.replicate n false) := (own_falses8 w (Nat.le_refl _) n (by simp only [maxLen]; omega)).alloc _
  have iC : Own 1 encI 3 ((w.alloc (.cells (tfA n 0) 4)).alloc (.cells (madeCells #[.int .i64 0] n) 3)).drew w.heap.size (.slice (some ⟨w.heap.size + 1, 0, none⟩) n n) ((List.range n).map fun _ => (0 : Int)) := by
    have := own_zeros8 (w.alloc (.cells (tfA n 0) 4)) (B := w.heap.size) (by omega) n (by simp only [maxLen]; omega)
    rw [z2] at this
    exact this
  have HSD := hide hsd; have HLT := hide hlt2; have HLOW := hide hlow
  have HIA := hide iA; have HTA := hide tA; have HIC := hide iC; have HTC := hide tC; have BA := hide bA; have BC := hide bC
  clear hr hok hc1 hsd hlt2 hlow hszg bA bC iA tA iC tC z1 z2
  go_enter Try.func67, Try.ntmps67
  go_upto_region 1 with fail
  go_cut [6, 7] (fun a b wx => ∃ gh gt : Nat, a = .slice (some ⟨gh, 0, none⟩) n n ∧ b = .slice (some ⟨gt, 0, none⟩) n n ∧ Own 1 encI 3 wx w.heap.size (.slice (some ⟨gh, 0, none⟩) n n) ((List.range n).map fun _ => (0 : Int)) ∧ Own 1 encBo 4 wx w.heap.size (.slice (some ⟨gt, 0, none⟩) n n) (List.replicate n false) ∧ Below w.heap.size w wx)
  case first =>
    go_region_held3 (fun _ => True) (trivial) (fail)
    all_goals
      go_wp2_with fail
      go_meet
      first
        | exact ⟨_, _, rfl, rfl, HIA.out, HTA.out, BA.out⟩
        | exact ⟨_, _, rfl, rfl, HIC.out, HTC.out, BC.out⟩
  case rest =>
    clear HIA HTA HIC HTC BA BC hmki hmkb
    obtain ⟨gh, gt, rfl, rfl, hi, ht, hbel⟩ := hcut
    have hne : gt ≠ gh := fun e => own_ne8 ht hi (by decide) gt rfl (by rw [e]; rfl)
    have hi2 := hi.setCell (p := ⟨gt, 0, none⟩) (fun g hg => by have : gh = g := Option.some.inj hg; show g ≠ gt; omega) (.bool true)
    have ht2 := ht.setElem8 (j := 0) (by simp; omega) true rfl
    obtain ⟨hgt, hgl, g0, hfz⟩ := ht.cell8 (j := 0) (by simp; omega)
    rw [TsOf_src] at ht2
    rw [← HsOf_src n 0] at hi2
    have hM : LowM (wc.setCell ⟨gt, 0, none⟩ (.bool true)) w.heap.size gh n gt n n (source 0) := ⟨hi2, ht2⟩
    have hbel2 := hbel.setCell (p := ⟨gt, 0, none⟩) hgt (.bool true)
    have hsz2 : w.heap.size ≤ (wc.setCell ⟨gt, 0, none⟩ (.bool true)).heap.size := hbel2.size
    have hnp : (0 : Int) < n := by omega
    have HM := hide hM; have HB2 := hide hbel2; have HSZ := hide hsz2
    obtain ⟨old, g0⟩ : ∃ u, wc.cell? ⟨gt, 0, none⟩ = some u := ⟨_, g0⟩
    clear hi ht hi2 ht2 hM hbel hbel2 hsz2 hne
    cases hs : soundB n xs with
    | false =>
      have hv1 : hiOk n xs = false := by unfold hiOk; rw [hs]; rfl
      have hv2 : hiL n xs = [] := by unfold hiL; rw [hv1]; rfl
      have HV1 := hide hv1; have HV2 := hide hv2; clear hv1 hv2
      have hsd := HSD.out _ HB2.out
      rw [hs] at hsd
      have HSX := hide hsd; clear hsd hs HSD HLT
      go_wp2_with fail
      refine HSX.out.mono ?_; rintro e w3 ⟨rfl, hb3⟩
      have B3 := bstep HB2.out hb3 HSZ.out
      go_wp2_with fail
      go_ret2
      rw [HV1.out, HV2.out]
      exact ⟨_, rfl, Own.nil, B3⟩
    | true =>
      have hv1 : hiOk n xs = toldA n xs 0 := by unfold hiOk; rw [hs]; rfl
      have hv2 : toldA n xs 0 = true → hiL n xs = HsOf n (st0 n xs 0) := fun h => by unfold hiL; rw [hv1, h]; rfl
      have hv3 : toldA n xs 0 = false → hiL n xs = [] := fun h => by unfold hiL; rw [hv1, h]; rfl
      have HV1 := hide hv1; have HV2 := hide hv2; have HV3 := hide hv3; clear hv1 hv2 hv3
      have hsd := HSD.out _ HB2.out
      rw [hs] at hsd
      have hl := HLT.out hs
      have HSX := hide hsd; have HL := hide hl; clear hsd hs HSD HLT hl
      go_wp2_with fail
      refine HSX.out.mono ?_; rintro e w3 ⟨rfl, hb3⟩
      have B3 := bstep HB2.out hb3 HSZ.out
      have hM3 := HM.out.below hb3
      have hlow := HLOW.out w3 gh n gt n B3 hM3
      rw [HL.out] at hlow
      have HLX := hide hlow; clear hlow hM3 hb3 HM HB2 g0 hfz
      go_wp2_with fail
      refine HLX.out.mono ?_; rintro e w4 ⟨rfl, hM4, hb4⟩
      have B4 := B3.trans hb4
      have hcon := ContainsB_any (some ⟨gt, 0, none⟩) n (TsOf n (st0 n xs 0)) false w4 hM4.told (by rw [TsOf_len]; omega)
      rw [TsOf_len] at hcon
      have hta : ((TsOf n (st0 n xs 0)).any fun c => false == c) = !toldA n xs 0 := by
        unfold TsOf toldA
        rw [List.any_map]
        induction List.range n with
        | nil => rfl
        | cons a l ih =>
          simp only [List.any_cons, List.all_cons, Bool.not_and, Function.comp]
          rw [← ih]
          cases (st0 n xs 0 a).isSome <;> rfl
      rw [hta] at hcon
      have HCON := hide hcon; have HM4 := hide hM4; clear hcon hM4 hta
      generalize toldA n xs 0 = ta at *
      cases ta with
      | true =>
        go_wp2_with fail
        refine HCON.out.mono ?_; rintro e w5 ⟨rfl, rfl⟩
        go_wp2_with fail
        go_ret2
        rw [HV1.out, HV2.out (by first | trivial | rfl)]
        exact ⟨_, rfl, HM4.out.hs, B4⟩
      | false =>
        go_wp2_with fail
        refine HCON.out.mono ?_; rintro e w5 ⟨rfl, rfl⟩
        go_wp2_with fail
        go_ret2
        rw [HV1.out, HV3.out (by first | trivial | rfl)]
        exact ⟨_, rfl, Own.nil, B4⟩
theorem implHighestHeights_any (n : Int) (v : Value) (xs : List SClaim) (w : World) (h : Is 4 SClaim.enc w v xs) :
    Calls Try.prog 30 #[.int .i64 n, v] w fun e w' => ∃ r, e = .returned (.tuple #[r, .bool (highV n xs).2]) ∧ Own 1 encI 3 w' w.heap.size r (highV n xs).1 ∧ Below w.heap.size w w' := by
  have hok := implAreClaims_is n v xs w h
  by_cases ha : areB n xs = true
  case neg =>
    rw [Bool.not_eq_true] at ha
    rw [show highV n xs = ([], false) by unfold highV toldB; rw [ha]; rfl]
    rw [ha] at hok
    have HOK := hide hok; clear hok ha h
    go_enter Try.func30, Try.ntmps30
    go_wp2_with fail
    refine HOK.out.mono ?_; rintro e w1 ⟨rfl, hb1⟩
    go_wp2_with fail
    go_ret2
    exact ⟨_, rfl, Own.nil, hb1⟩
  have hnn := areB_nat ha
  obtain ⟨_, ⟨hn1, hn10⟩, _⟩ := areB_iff.1 ha
  have hV : highV n xs = (hiL n.toNat xs, hiOk n.toNat xs) := by
    unfold highV toldB hiL
    rw [ha, Bool.true_and, hiOk_told (by rw [← hnn]; exact ha) (by omega)]
    cases hiOk n.toNat xs <;> rfl
  rw [hV]
  rw [ha] at hok
  clear hV
  generalize n.toNat = k at hnn ⊢
  subst hnn
  have hhi := fun W (hb : Below w.heap.size w W) => highest_is k v xs W (h.below hb (Nat.le_refl _)) ha
  generalize hiL k xs = L at *
  generalize hiOk k xs = b at *
  have HOK := hide hok; have HHI := hide hhi; clear hok ha h hhi
  go_enter Try.func30, Try.ntmps30
  go_wp2_with fail
  refine HOK.out.mono ?_; rintro e w1 ⟨rfl, hb1⟩
  go_wp2_with fail
  refine (HHI.out _ hb1).mono ?_; rintro e w2 ⟨r, rfl, ho, hb2⟩
  have B2 := bstep hb1 hb2 hb1.size
  have HO := hide (ho.mono hb1.size); clear ho
  go_wp2_with fail
  go_ret2
  exact ⟨_, rfl, HO.out, B2⟩
end Go.Proofs.Ytijjecckfcbaoaa
