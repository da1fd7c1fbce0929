/- The walk of FnExactMakerText: it returns true whatever the maker; old memory stays. Conditions: those of the row's own reading, and the table of powers of ten as the row lists it. -/
import Derived.Test.YtapbnggdclpokaaDoorL7T
namespace Go.Proofs.YtapbnggdclpokaaDoor
open Go.RowKit
set_option linter.unusedVariables false
set_option maxHeartbeats 1000000 in
theorem law_MakerText (a0 : Int) (a1 : ByteArray) (a2 a3 a4 : Int) (w : World) (hm : a1.size ≤ 9223372036854775807) (ht : Tab w) :
    Calls Tryd.prog 3 #[.agg #[.int .i64 a0, .string a1, .int .i64 a2, .int .i64 a3, .int .i64 a4]] w fun e w' => e = .returned (.bool true) ∧ Below w.heap.size w w' := by
  have B0 := below_alloc w (.cells #[.int .i64 a0, .string a1, .int .i64 a2, .int .i64 a3, .int .i64 a4] 23)
  have hT0 := ht.alloc (.cells #[.int .i64 a0, .string a1, .int .i64 a2, .int .i64 a3, .int .i64 a4] 23)
  have HB0 := hide B0; have HT0 := hide hT0; clear B0 ht hT0
  have hce : ∀ W, Below (w.heap.size + 1) (w.alloc (.cells #[.int .i64 a0, .string a1, .int .i64 a2, .int .i64 a3, .int .i64 a4] 23)) W → W.cell? ⟨w.heap.size, 0, none⟩ = some (.int .i64 a0) ∧ W.cell? ⟨w.heap.size, 1, none⟩ = some (.string a1) ∧ W.cell? ⟨w.heap.size, 2, none⟩ = some (.int .i64 a2) ∧ W.cell? ⟨w.heap.size, 3, none⟩ = some (.int .i64 a3) ∧ W.cell? ⟨w.heap.size, 4, none⟩ = some (.int .i64 a4) := by
    intro W hb
    have hc := fun o => hb.cell (p := ⟨w.heap.size, o, none⟩) (by simp)
    refine ⟨?_, ?_, ?_, ?_, ?_⟩ <;> rw [hc, (Blk.new w _ _).cell] <;> rfl
  have HCE := hide hce; clear hce
  have hb : Below (w.heap.size + 1) (w.alloc (.cells #[.int .i64 a0, .string a1, .int .i64 a2, .int .i64 a3, .int .i64 a4] 23)) (w.alloc (.cells #[.int .i64 a0, .string a1, .int .i64 a2, .int .i64 a3, .int .i64 a4] 23)) := Below.refl _ _
  have hsz : w.heap.size + 1 ≤ (w.alloc (.cells #[.int .i64 a0, .string a1, .int .i64 a2, .int .i64 a3, .int .i64 a4] 23)).heap.size := by simp
  have HS0 := fun (W : World) (h : Below (w.heap.size + 1) (w.alloc (.cells #[.int .i64 a0, .string a1, .int .i64 a2, .int .i64 a3, .int .i64 a4] 23)) W) => Nat.le_trans hsz h.size
  by_cases hbig : (1048576 : Int) < a1.size
  · have hs : szR 1048576 (a1.size : Int) = -1 := if_pos hbig
    have HZ := hide hs; have HSS := hide HS0; clear hs hbig HS0 hb hsz
    go_enter Tryd.func3, Tryd.ntmps3
    go_wp2_with (go_at_call 5; refine (szMaker_any _ _ _ _ _ _ _ (by decide) (by decide) hm).mono ?_; rintro e w1 ⟨rfl, hb1⟩; rw [HZ.out])
    go_ret
    exact ⟨rfl, HB0.out.trans (hb1.mono (by simp))⟩
  have hs : szR 1048576 (a1.size : Int) = 1048576 - a1.size := if_neg hbig
  have hnn : ¬ (1048576 - (a1.size : Int) < 0) := by omega
  have hcS := fun W => MakerTextS_is a0 a1 a2 a3 a4 W hm
  have hcI := fun W h => MakerTextI_is a0 a1 a2 a3 a4 W hm h
  generalize textM ⟨a0, a1, a2, a3, a4⟩ = r at hcS hcI
  obtain ⟨rs, rb⟩ := r
  have t1 : (rs.toList == rs.toList) = true := by simp
  have t2 : (rs.toList != rs.toList) = false := by simp
  have t3 : (rb != rb) = false := by simp
  have HS := hide hcS; have HI := hide hcI
  have HZ := hide hs; have HBB := hide hb; have HSS := hide HS0; clear hs hbig HS0 hb hsz hcS hcI
  go_enter Tryd.func3, Tryd.ntmps3
  go_wp2_with (go_at_call 5; refine (szMaker_any _ _ _ _ _ _ _ (by decide) (by decide) hm).mono ?_; rintro e w1 ⟨rfl, hb1⟩; rw [HZ.out]; have hb1' := HBB.out.trans (hb1.mono (by simp)); have HB1 := hide hb1'; clear hb1' hb1; obtain ⟨c0, c1, c2, c3, c4⟩ := HCE.out _ HB1.out)
  refine (toMaker_any _ _ _ _ _ _).mono ?_; rintro e w2 ⟨rfl, hb2⟩
  have HB2 := hide (HB1.out.trans (hb2.mono (HSS.out _ HB1.out))); clear hb2
  go_wp2_with fail
  refine (HS.out _).mono ?_; rintro e w3 ⟨rfl, hb3⟩
  have HB3 := hide (HB2.out.trans (hb3.mono (HSS.out _ HB2.out))); clear hb3
  clear c0 c1 c2 c3 c4
  obtain ⟨c0, c1, c2, c3, c4⟩ := HCE.out _ HB3.out
  go_wp2_with fail
  refine (toMaker_any _ _ _ _ _ _).mono ?_; rintro e w4 ⟨rfl, hb4⟩
  have HB4 := hide (HB3.out.trans (hb4.mono (HSS.out _ HB3.out))); clear hb4
  go_wp2_with fail
  refine (HI.out _ (HT0.out.below HB4.out (by simp))).mono ?_; rintro e w5 ⟨rfl, hb5⟩
  have HB5 := hide (HB4.out.trans (hb5.mono (HSS.out _ HB4.out))); clear hb5
  go_wp2_with fail
  go_ret
  exact ⟨rfl, HB0.out.trans (HB5.out.mono (Nat.le_succ _))⟩
end Go.Proofs.YtapbnggdclpokaaDoor
