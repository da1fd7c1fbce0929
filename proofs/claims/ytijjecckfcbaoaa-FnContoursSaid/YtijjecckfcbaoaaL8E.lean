/- impl.broken -/
import Derived.Test.YtijjecckfcbaoaaL8D
namespace Go.Proofs.Ytijjecckfcbaoaa
open Go.RowKit
set_option maxHeartbeats 1000000 in
theorem broken_any (n : Int) (A : Option Addr) (cap : Nat) (xs : List SClaim) (A' : Option Addr) (cap' : Nat) (hs : List Int) (w : World) (hr : Row 4 SClaim.enc w w.heap.size A xs) (hr' : Row 1 encI w w.heap.size A' hs) (hm : hs.length ≤ 9223372036854775807)
    (hok : areB n xs = true) (hhg : hgtB n hs = true) :
    Calls Try.prog 72 #[.slice A xs.length cap, .slice A' hs.length cap'] w fun e w' => ∃ v, e = .returned v ∧ Own 1 encI 3 w' w.heap.size v (brk xs hs) ∧ Below w.heap.size w w' := by
  have hlen := (areB_iff.1 hok).2.2
  have HHG := hide hhg
  have HLN := hide (hgt_len hhg)
  have HOK := hide hok; clear hok hhg
  generalize hB : w.heap.size = B at hr hr' ⊢
  have HB := hide hB; clear hB
  have HR := hide hr; clear hr
  have HR' := hide hr'; clear hr'
  go_enter Try.func72, Try.ntmps72
  go_wp2_with fail
  go_loopw [5, 10] (fun v i wr => ∃ k : Nat, k ≤ xs.length ∧ i = .int .i64 k ∧ Own 1 encI 3 wr B v (idxs (brkAt xs hs) k) ∧ Below B w wr) (fun _ i _ => xs.length - (intOf i).toNat)
  case atStart => exact ⟨0, Nat.zero_le _, rfl, Own.nil, Below.refl _ _⟩
  case round =>
    obtain ⟨i, hi, rfl, hown, hbel⟩ := hrel
    have hsz : B ≤ wr.heap.size := by have := hbel.size; rw [HB.out] at this; exact this
    have HOW := hide hown; clear hown
    by_cases hlt : i < xs.length
    · obtain ⟨b, off, rfl, hb, c0, c1, c2, c3⟩ := SClaim.cells HR.out hlt hbel
      obtain ⟨g0, g1, g2, g3, g4, g5, g6, g7⟩ := ok_get HOK.out hlt
      have hl := HLN.out
      have h1 : xs[i].low < hs.length := by omega
      have h3 : xs[i].high < hs.length := by omega
      obtain ⟨b', off', rfl, hb', d0⟩ := hgt_cell HR'.out hbel g0 h1
      obtain ⟨b2, off2, hA, hb2, d1⟩ := hgt_cell HR'.out hbel g2 h3
      injection hA with hA; injection hA with hA1 hA2; subst hA1 hA2
      obtain ⟨q0, q1⟩ := hgt_get HHG.out xs[i].low.toNat
      obtain ⟨q2, q3⟩ := hgt_get HHG.out xs[i].high.toNat
      have hlx := idxs_le (brkAt xs hs) i
      have hl1 : (idxs (brkAt xs hs) i).length ≤ 16777216 := by omega
      clear hl
      have hst := brk_step (hs := hs) hlt
      generalize hs.getD xs[i].low.toNat 0 = x at d0 q0 q1 hst
      generalize hs.getD xs[i].high.toNat 0 = y at d1 q2 q3 hst
      have HST := hide hst; clear hst
      have hbw : b' < wr.heap.size := by omega
      go_wp2_with fail
      have e0 : IntKind.i64.wrap (y - x) = y - x := IntWalk.i64_in _ (by omega)
      go_quiet ((go_at_call 55; exact quiet_l (within_any _ _ _ _)))
      have B2 := below_drewN (hbel.alloc hsz (.cells #[.int .i64 xs[i].low, .int .i64 xs[i].high, .int .i64 xs[i].least, .int .i64 xs[i].most] 23)) nq
      have ho2 := (HOW.out.alloc (.cells #[.int .i64 xs[i].low, .int .i64 xs[i].high, .int .i64 xs[i].least, .int .i64 xs[i].most] 23)).drewN nq
      generalize (wr.alloc (.cells #[.int .i64 xs[i].low, .int .i64 xs[i].high, .int .i64 xs[i].least, .int .i64 xs[i].most] 23)).drewN nq = w2 at B2 ho2 ⊢
      have HO2 := hide ho2; clear ho2 e0
      have hl2 : B ≤ w2.heap.size := by have := B2.size; rw [HB.out] at this; exact this
      by_cases hho : inB (y - x) xs[i].least xs[i].most = true
      · have HS := hide (HST.out _ hho)
        rw [hho]
        go_wp2_with fail
        refine ⟨⟨i + 1, by omega, by go_num, ?_, B2⟩, by simp [intOf]; omega⟩
        rw [HS.out]; simpa using HO2.out
      · rw [Bool.not_eq_true] at hho
        have HS := hide (HST.out _ hho)
        rw [hho]
        go_wp2_with (at_builtin; refine wpList_push1 (k := 1) (enc := encI) _ rfl _ _ 42 rfl 3 (.int .i64 0) 8 Try.underlying42 infoI rfl (by omega) (by omega) encI_one (B) _ (idxs (brkAt xs hs) i) rfl (HO2.out) ((i : Int)) _ rfl rfl (hl1) (hl2) (B2) (Nat.le_refl _) rfl ?_; intro v1 w1 ho1 hb1 hg1)
        have B3 := hb1
        have HO3 := hide ho1; clear ho1 hg1 hb1
        go_wp2_with fail
        refine ⟨⟨i + 1, by omega, by go_num, ?_, B3⟩, by simp [intOf]; omega⟩
        rw [HS.out]; simpa using HO3.out
    · have hk : i = xs.length := by omega
      have HK := hide hk; clear hk
      go_wp2_with fail
      go_ret
      exact ⟨_, rfl, by have := HOW.out; rw [HK.out] at this; exact this, hbel⟩
end Go.Proofs.Ytijjecckfcbaoaa
