/- Contracts of FineOn, in impl and spec: the Lean function fineV. No condition. -/
import Derived.Test.YtplemibckjnbhaaL11B
namespace Go.Proofs.Ytplemibckjnbhaa
open Go.RowKit
set_option linter.unusedVariables false
def fineI (b u d : Int) : Int := min 1000 (10 * max 0 ((if b = -1 then d else min d b) - u))
def lastTo (xs : List SLoan) (s : Int) : Nat → Int
  | 0 => -1
  | n + 1 => if (SLoan.at xs n).sheet = s then (n : Int) else lastTo xs s n
theorem lastTo_cases (xs : List SLoan) (s : Int) : ∀ n, n ≤ xs.length → lastTo xs s n = -1 ∨ ∃ k, k < n ∧ lastTo xs s n = (k : Int) ∧ (SLoan.at xs k).sheet = s
  | 0, _ => .inl rfl
  | n + 1, h => by
    unfold lastTo
    by_cases hs : (SLoan.at xs n).sheet = s
    · rw [if_pos hs]; exact .inr ⟨n, by omega, rfl, hs⟩
    · rw [if_neg hs]
      rcases lastTo_cases xs s n (by omega) with h1 | ⟨k, hk, h1, h2⟩
      · exact .inl h1
      · exact .inr ⟨k, by omega, h1, h2⟩
def fineV (xs : List SLoan) (s d : Int) : Int × Bool :=
  if goodL xs && (decide (0 ≤ lastTo xs s xs.length) && inB d 0 4000) then (fineI (SLoan.at xs (lastTo xs s xs.length).toNat).back (SLoan.at xs (lastTo xs s xs.length).toNat).due d, true) else (0, false)
theorem goodL_at {xs : List SLoan} (h : goodL xs = true) {k : Nat} (hk : k < xs.length) : SLoan.okB ⟨(SLoan.at xs k).sheet, (SLoan.at xs k).reader, (SLoan.at xs k).out, (SLoan.at xs k).due, (SLoan.at xs k).back⟩ = true := by
  unfold goodL at h
  rw [Bool.and_eq_true] at h
  have := range_all h.1 hk
  unfold okL at this
  rw [Bool.and_eq_true, Bool.and_eq_true] at this
  exact this.1.1
theorem goodL_len {xs : List SLoan} (h : goodL xs = true) : xs.length ≤ 15 := by
  unfold goodL at h
  rw [Bool.and_eq_true] at h
  simpa using h.2
theorem l11Fine_any (a0 a1 a2 a3 a4 d : Int) (w : World) (h3 : 0 ≤ a3) (h3' : a3 ≤ 4000) (h4 : -1 ≤ a4) (h4' : a4 ≤ 4000) (hd : 0 ≤ d) (hd' : d ≤ 4000) :
    Calls Try.prog 85 #[.agg #[.int .i64 a0, .int .i64 a1, .int .i64 a2, .int .i64 a3, .int .i64 a4], .int .i64 d] w fun e w' => e = .returned (.int .i64 (fineI a4 a3 d)) ∧ Below w.heap.size w w' := by
  have hcap : ∀ (n : Int) (W : World), Calls Try.prog 179 #[.int .i64 n] W fun e w' => e = .returned (.int .i64 (min 1000 n)) ∧ W = w' := fun n W => by
    go_enter Try.func179, Try.ntmps179
    go_wp2_with (first | (go_at_call 116; refine (l1Least_any _ _ _).mono ?_; rintro e w' ⟨rfl, rfl⟩))
    go_ret
    exact ⟨rfl, rfl⟩
  have HCAP := hide hcap; clear hcap
  unfold fineI
  by_cases hb : a4 = -1
  · subst hb
    rw [if_pos rfl]
    go_enter Try.func85, Try.ntmps85
    go_wp2_with (first | (go_at_call 180; refine (l1Most_any _ _ _).mono ?_; rintro e w' ⟨rfl, rfl⟩) | (go_at_call 116; refine (l1Least_any _ _ _).mono ?_; rintro e w' ⟨rfl, rfl⟩) | (go_at_call 179; refine (HCAP.out _ _).mono ?_; rintro e w' ⟨rfl, rfl⟩))
    go_ret
    exact ⟨rfl, below_alloc _ _⟩
  · rw [if_neg hb]
    have hb0 : 0 ≤ a4 := by omega
    have hm1 : 0 ≤ min d a4 := by omega
    have hm2 : min d a4 ≤ 4000 := by omega
    clear hb
    generalize hme : min d a4 = me at hm1 hm2
    have HME := hide hme; clear hme
    have hle : ∀ W : World, Calls Try.prog 116 #[.int .i64 d, .int .i64 a4] W fun e w' => e = .returned (.int .i64 me) ∧ W = w' := fun W => by rw [← HME.out]; exact l1Least_any d a4 W
    have HLE := hide hle; clear hle
    go_enter Try.func85, Try.ntmps85
    go_wp2_with (first | (go_at_call 116; refine (HLE.out _).mono ?_; rintro e w' ⟨rfl, rfl⟩) | (go_at_call 180; refine (l1Most_any _ _ _).mono ?_; rintro e w' ⟨rfl, rfl⟩) | (go_at_call 179; refine (HCAP.out _ _).mono ?_; rintro e w' ⟨rfl, rfl⟩))
    go_ret
    exact ⟨rfl, below_alloc _ _⟩
theorem fine_any (a0 a1 a2 a3 a4 d : Int) (w : World) (h3 : 0 ≤ a3) (h3' : a3 ≤ 4000) (h4 : -1 ≤ a4) (h4' : a4 ≤ 4000) (hd : 0 ≤ d) (hd' : d ≤ 4000) :
    Calls Try.prog 88 #[.agg #[.int .i64 a0, .int .i64 a1, .int .i64 a2, .int .i64 a3, .int .i64 a4], .int .i64 d] w fun e w' => e = .returned (.int .i64 (fineI a4 a3 d)) ∧ Below w.heap.size w w' := by
  unfold fineI
  by_cases hb : a4 = -1
  · subst hb
    rw [if_pos rfl]
    have hq : ((-1 : Int) != -1) = false := by simp
    go_enter Try.func88, Try.ntmps88
    go_wp2_with fail
    all_goals go_ret
    all_goals refine ⟨ret_int ?_, below_alloc _ _⟩
    all_goals omega
  · rw [if_neg hb]
    have hq : (a4 != -1) = true := by simp [bne, hb]
    have hb0 : 0 ≤ a4 := by omega
    clear hb
    go_enter Try.func88, Try.ntmps88
    go_wp2_with fail
    all_goals go_ret
    all_goals refine ⟨ret_int ?_, below_alloc _ _⟩
    all_goals omega
theorem l11Last_any (v : Value) (xs : List SLoan) (s : Int) (w : World) (h : Is 5 SLoan.enc w v xs) :
    Calls Try.prog 83 #[v, .int .i64 s] w fun e w' => e = .returned (.int .i64 (lastTo xs s xs.length)) ∧ w = w' := by
  have hm := h.len
  obtain ⟨A, cap, rfl, hr, _, _⟩ := h
  have HR := hide hr; clear hr
  go_enter Try.func83, Try.ntmps83
  go_wp2_with fail
  go_loop [5, 6] (fun o i => ∃ (k : Nat), k ≤ xs.length ∧ i = .int .i64 k ∧ o = .int .i64 (lastTo xs s k)) (fun _ i => xs.length - (intOf i).toNat)
  case atStart => exact ⟨0, Nat.zero_le _, rfl, rfl⟩
  case round =>
    obtain ⟨i, hi, rfl, rfl⟩ := hrel
    by_cases hlt : i < xs.length
    · obtain ⟨b, off, rfl, hb, c0, _, _, _, _⟩ := SLoan.cells HR.out hlt (Below.refl _ _)
      have hst : lastTo xs s (i + 1) = if xs[i].sheet = s then (i : Int) else lastTo xs s i := by show (if (SLoan.at xs i).sheet = s then _ else _) = _; rw [SLoan.at_lt hlt]
      generalize xs[i].sheet = y at c0 hst
      by_cases hy : y = s
      · rw [if_pos hy] at hst
        have HST := hide hst; clear hst
        go_wp2_with fail
        go_round
        case measure => (simp [intOf] <;> omega)
        case rel => exact ⟨i + 1, by omega, by go_num, by rw [HST.out]⟩
      · rw [if_neg hy] at hst
        have HST := hide hst; clear hst
        go_wp2_with fail
        go_round
        case measure => (simp [intOf] <;> omega)
        case rel => exact ⟨i + 1, by omega, by go_num, by rw [HST.out]⟩
    · have hk : i = xs.length := by omega
      have HK := hide hk; clear hk
      go_wp2_with fail
      go_ret
      exact ⟨ret_int (by rw [HK.out]), rfl⟩
set_option maxHeartbeats 1000000 in
theorem specFineOn_any (v : Value) (xs : List SLoan) (s d : Int) (w : World) (h : Is 5 SLoan.enc w v xs) :
    Calls Try.prog 15 #[v, .int .i64 s, .int .i64 d] w fun e w' => e = .returned (.tuple #[.int .i64 (fineV xs s d).1, .bool (fineV xs s d).2]) ∧ Below w.heap.size w w' := by
  have hlast := l11Last_any v xs s w h
  have hgood := l11Good_is v xs w h
  have hday := fun W => l2Day_any d W
  by_cases hg : goodL xs = true
  case neg =>
    rw [Bool.not_eq_true] at hg
    rw [show fineV xs s d = (0, false) by unfold fineV; rw [hg]; rfl]
    rw [hg] at hgood
    have HG := hide hgood; have HL := hide hlast; clear hgood hlast hg h
    generalize lastTo xs s xs.length = f at HL
    go_enter Try.func15, Try.ntmps15
    go_wp2_with fail
    refine HL.out.mono ?_; rintro e w' ⟨rfl, rfl⟩
    go_wp2_with fail
    refine HG.out.mono ?_; rintro e w1 ⟨rfl, hb1⟩
    go_wp2_with fail
    go_ret2
    exact ⟨rfl, hb1⟩
  rw [hg] at hgood
  have HG := hide hgood; clear hgood
  rcases lastTo_cases xs s xs.length (Nat.le_refl _) with hf | ⟨k, hk, hf, _⟩
  · rw [show fineV xs s d = (0, false) by unfold fineV; rw [hf, Bool.and_eq_false_imp.2 (by simp)]; rfl]
    rw [hf] at hlast
    have HL := hide hlast; clear hlast hf h hg
    go_enter Try.func15, Try.ntmps15
    go_wp2_with fail
    refine HL.out.mono ?_; rintro e w' ⟨rfl, rfl⟩
    go_wp2_with fail
    refine HG.out.mono ?_; rintro e w1 ⟨rfl, hb1⟩
    go_wp2_with fail
    go_ret2
    exact ⟨rfl, hb1⟩
  have hV : fineV xs s d = if inB d 0 4000 then (fineI (SLoan.at xs k).back (SLoan.at xs k).due d, true) else (0, false) := by
    unfold fineV; rw [hg, hf, Int.toNat_natCast, decide_eq_true (show (0 : Int) ≤ (k : Int) by omega)]; rfl
  rw [hf] at hlast
  have HL := hide hlast; clear hlast
  by_cases hd : inB d 0 4000 = true
  case neg =>
    rw [Bool.not_eq_true] at hd
    rw [hd] at hV hday
    rw [hV, if_neg (by simp)]
    have HD := hide hday; clear hday hf h hg hV hd
    go_enter Try.func15, Try.ntmps15
    go_wp2_with fail
    refine HL.out.mono ?_; rintro e w' ⟨rfl, rfl⟩
    go_wp2_with fail
    refine HG.out.mono ?_; rintro e w1 ⟨rfl, hb1⟩
    go_wp2_with fail
    refine (HD.out _).mono ?_; rintro e w' ⟨rfl, rfl⟩
    go_wp2_with fail
    go_ret2
    exact ⟨rfl, hb1⟩
  have hd2 := inB_iff.1 hd
  rw [hd] at hV hday
  rw [hV, if_pos rfl]
  have hok := SLoan.okB_iff.1 (goodL_at hg hk)
  obtain ⟨A, cap, rfl, hr, _, _⟩ := h
  have hk' : (k : Int) < xs.length := by omega
  have hcall := fun W => l11Fine_any (SLoan.at xs k).sheet (SLoan.at xs k).reader (SLoan.at xs k).out (SLoan.at xs k).due (SLoan.at xs k).back d W (by omega) (by omega) (by omega) (by omega) hd2.1 hd2.2
  have HC := hide hcall; have HD := hide hday; have HR := hide hr; clear hcall hday hf hg hV hd hr hok hd2
  generalize hfv : fineI (SLoan.at xs k).back (SLoan.at xs k).due d = fv at HC
  clear hfv
  go_enter Try.func15, Try.ntmps15
  go_wp2_with fail
  refine HL.out.mono ?_; rintro e w' ⟨rfl, rfl⟩
  go_wp2_with fail
  refine HG.out.mono ?_; rintro e w1 ⟨rfl, hb1⟩
  obtain ⟨b, off, rfl, hb, c0, c1, c2, c3, c4⟩ := SLoan.cells HR.out hk hb1
  rw [← SLoan.at_lt hk] at c0 c1 c2 c3 c4
  generalize (SLoan.at xs k).sheet = z0 at c0 HC; generalize (SLoan.at xs k).reader = z1 at c1 HC; generalize (SLoan.at xs k).out = z2 at c2 HC; generalize (SLoan.at xs k).due = z3 at c3 HC; generalize (SLoan.at xs k).back = z4 at c4 HC
  go_wp2_with fail
  refine (HD.out _).mono ?_; rintro e w' ⟨rfl, rfl⟩
  go_wp2_with fail
  refine (HC.out _).mono ?_; rintro e w2 ⟨rfl, hb2⟩
  go_wp2_with fail
  go_ret2
  exact ⟨rfl, bstep hb1 hb2 hb1.size⟩
set_option maxHeartbeats 1000000 in
theorem implFineOn_any (v : Value) (xs : List SLoan) (s d : Int) (w : World) (h : Is 5 SLoan.enc w v xs) :
    Calls Try.prog 16 #[v, .int .i64 s, .int .i64 d] w fun e w' => e = .returned (.tuple #[.int .i64 (fineV xs s d).1, .bool (fineV xs s d).2]) ∧ Below w.heap.size w w' := by
  have hgood := AreLoans_is v xs w h
  have hday := fun W => isDay_any d W
  have hid := fun W => isId_any s W
  by_cases hg : goodL xs = true
  case neg =>
    rw [Bool.not_eq_true] at hg
    rw [show fineV xs s d = (0, false) by unfold fineV; rw [hg]; rfl]
    rw [hg] at hgood
    have HG := hide hgood; clear hgood hg h
    go_enter Try.func16, Try.ntmps16
    go_wp2_with fail
    refine HG.out.mono ?_; rintro e w1 ⟨rfl, hb1⟩
    go_wp2_with fail
    go_ret2
    exact ⟨rfl, hb1⟩
  rw [hg] at hgood
  have HG := hide hgood; clear hgood
  have hlen := goodL_len hg
  by_cases hs : inB s 1 999 = true
  case neg =>
    have hl : lastTo xs s xs.length = -1 := by
      rcases lastTo_cases xs s xs.length (Nat.le_refl _) with hf | ⟨k, hk, hf, he⟩
      · exact hf
      · exfalso
        have hok := SLoan.okB_iff.1 (goodL_at hg hk)
        rw [inB_iff] at hs
        omega
    rw [Bool.not_eq_true] at hs
    rw [show fineV xs s d = (0, false) by unfold fineV; rw [hl, Bool.and_eq_false_imp.2 (by simp)]; rfl]
    rw [hs] at hid
    have HI := hide hid; clear hid hs hl h hg
    go_enter Try.func16, Try.ntmps16
    go_wp2_with fail
    refine HG.out.mono ?_; rintro e w1 ⟨rfl, hb1⟩
    go_wp2_with fail
    refine (HI.out _).mono ?_; rintro e w' ⟨rfl, rfl⟩
    go_wp2_with fail
    go_ret2
    exact ⟨rfl, hb1⟩
  rw [hs] at hid
  have HI := hide hid; clear hid hs
  by_cases hd : inB d 0 4000 = true
  case neg =>
    rw [Bool.not_eq_true] at hd
    rw [show fineV xs s d = (0, false) by unfold fineV; rw [hd, Bool.and_false, Bool.and_false]; rfl]
    rw [hd] at hday
    have HD := hide hday; clear hday h hg hd
    go_enter Try.func16, Try.ntmps16
    go_wp2_with fail
    refine HG.out.mono ?_; rintro e w1 ⟨rfl, hb1⟩
    go_wp2_with fail
    refine (HI.out _).mono ?_; rintro e w' ⟨rfl, rfl⟩
    go_wp2_with fail
    refine (HD.out _).mono ?_; rintro e w' ⟨rfl, rfl⟩
    go_wp2_with fail
    go_ret2
    exact ⟨rfl, hb1⟩
  have hd2 := inB_iff.1 hd
  have hV : ∀ m : Int, lastTo xs s xs.length = m → fineV xs s d = if 0 ≤ m then (fineI (SLoan.at xs m.toNat).back (SLoan.at xs m.toNat).due d, true) else (0, false) := by
    intro m hm
    unfold fineV; rw [hg, hm, hd, Bool.true_and, Bool.and_true]
    by_cases h0 : 0 ≤ m <;> simp [h0]
  rw [hd] at hday
  obtain ⟨A, cap, rfl, hr, _, _⟩ := h
  have HD := hide hday; have HGD := hide hg; have HV := hide hV; have HR := hide hr; clear hday hg hV hr hd
  generalize hB : w.heap.size = B at HR
  have HB := hide hB; clear hB
  go_enter Try.func16, Try.ntmps16
  go_wp2_with fail
  refine HG.out.mono ?_; rintro e w1 ⟨rfl, hb1⟩
  rw [HB.out] at hb1
  go_wp2_with fail
  refine (HI.out _).mono ?_; rintro e w' ⟨rfl, rfl⟩
  go_wp2_with fail
  refine (HD.out _).mono ?_; rintro e w' ⟨rfl, rfl⟩
  go_wp2_with fail
  go_loop [8] (fun i => ∃ m : Nat, m ≤ xs.length ∧ i = .int .i64 ((m : Int) - 1) ∧ lastTo xs s xs.length = lastTo xs s m) (fun i => (intOf i + 1).toNat)
  case atStart => exact ⟨xs.length, Nat.le_refl _, rfl, rfl⟩
  case round =>
    obtain ⟨m, hm, rfl, hlast⟩ := hrel
    have HLA := hide hlast; clear hlast
    cases m with
    | zero =>
      have hl : lastTo xs s xs.length = -1 := HLA.out
      have hv := HV.out _ hl
      rw [if_neg (by decide)] at hv
      have HVV := hide hv; clear hv hl
      go_wp2_with fail
      go_ret2
      rw [HVV.out]
      exact ⟨rfl, hb1⟩
    | succ q =>
      have hq : q < xs.length := by omega
      have hq' : (q : Int) < xs.length := by omega
      obtain ⟨b, off, rfl, hb, c0, c1, c2, c3, c4⟩ := SLoan.cells HR.out hq hb1
      rw [← SLoan.at_lt hq] at c0 c1 c2 c3 c4
      have hok := SLoan.okB_iff.1 (goodL_at HGD.out hq)
      have hst : lastTo xs s (q + 1) = if (SLoan.at xs q).sheet = s then (q : Int) else lastTo xs s q := rfl
      have hidx : (((q + 1 : Nat) : Int) - 1) = (q : Int) := by omega
      rw [hidx]
      by_cases hy : (SLoan.at xs q).sheet = s
      · rw [if_pos hy] at hst
        have hv := HV.out _ (HLA.out.trans hst)
        rw [if_pos (show (0 : Int) ≤ (q : Int) by omega), Int.toNat_natCast] at hv
        have hcall := fun W => fine_any (SLoan.at xs q).sheet (SLoan.at xs q).reader (SLoan.at xs q).out (SLoan.at xs q).due (SLoan.at xs q).back d W (by omega) (by omega) (by omega) (by omega) hd2.1 hd2.2
        generalize fineI (SLoan.at xs q).back (SLoan.at xs q).due d = fv at hv hcall
        have HVV := hide hv; have HC := hide hcall; clear hv hcall hst hok hidx
        rw [hy] at c0 HC
        clear hy
        go_wp2_with fail
        refine (HC.out _).mono ?_; rintro e w2 ⟨rfl, hb2⟩
        go_wp2_with fail
        go_ret2
        rw [HVV.out]
        refine ⟨rfl, ?_⟩
        have := hb1.size
        rw [HB.out] at *
        exact bstep hb1 hb2 this
      · rw [if_neg hy] at hst
        have HST := hide hst; clear hst hok hidx
        go_wp2_with fail
        go_round
        case measure => (simp [intOf] <;> omega)
        case rel => exact ⟨q, by omega, by go_num, by rw [HLA.out, HST.out]⟩
end Go.Proofs.Ytplemibckjnbhaa
