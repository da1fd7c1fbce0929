/- Contracts of what tells which claims do not hold for heights, in impl and spec: both return the Lean list brk. Conditions: the claims are valid for as many marks as there are heights, the heights are valid. -/
import Derived.Test.YtijjecckfcbaoaaL8B
namespace Go.Proofs.Ytijjecckfcbaoaa
open Go.RowKit
def holdB (c : SClaim) (hs : List Int) : Bool := inB (hs.getD c.high.toNat 0 - hs.getD c.low.toNat 0) c.least c.most
/-- the indices of all claims that do not hold -/
def brkAt (xs : List SClaim) (hs : List Int) (i : Nat) : Bool := !holdB (xs.getD i SClaim.zero) hs
def brk (xs : List SClaim) (hs : List Int) : List Int := idxs (brkAt xs hs) xs.length
theorem brk_step {xs : List SClaim} {hs : List Int} {i : Nat} (h : i < xs.length) (b : Bool) (hb : inB (hs.getD xs[i].high.toNat 0 - hs.getD xs[i].low.toNat 0) xs[i].least xs[i].most = b) : idxs (brkAt xs hs) (i + 1) = idxs (brkAt xs hs) i ++ if b then [] else [(i : Int)] := by
  rw [idxs_succ]
  have hget : xs.getD i SClaim.zero = xs[i] := by rw [List.getD_eq_getElem?_getD, List.getElem?_eq_getElem h]; rfl
  have : brkAt xs hs i = !b := by rw [brkAt, hget, holdB, hb]
  rw [this]; cases b <;> rfl

theorem hgt_get {n : Int} {hs : List Int} (h : hgtB n hs = true) (i : Nat) : -200000 ≤ hs.getD i 0 ∧ hs.getD i 0 ≤ 200000 := by
  simp only [hgtB, Bool.and_eq_true, decide_eq_true_eq, List.all_eq_true] at h
  by_cases hi : i < hs.length
  · have := h.2 _ (List.getElem_mem hi)
    rw [inB_iff] at this
    simpa [List.getD_eq_getElem?_getD, List.getElem?_eq_getElem hi] using this
  · simp [List.getD_eq_getElem?_getD, List.getElem?_eq_none (Nat.not_lt.1 hi)]
theorem hgt_len {n : Int} {hs : List Int} (h : hgtB n hs = true) : (hs.length : Int) = n := by
  simp only [hgtB, Bool.and_eq_true, decide_eq_true_eq] at h
  exact h.1
theorem ok_get {n : Int} {xs : List SClaim} (h : areB n xs = true) {i : Nat} (hi : i < xs.length) : 0 ≤ xs[i].low ∧ xs[i].low < n ∧ 0 ≤ xs[i].high ∧ xs[i].high < n ∧ xs[i].low ≠ xs[i].high ∧ -9999 ≤ xs[i].least ∧ xs[i].least ≤ xs[i].most ∧ xs[i].most ≤ 9999 := by
  rw [areB_iff] at h
  exact oneB_iff.1 (h.1 _ (List.getElem_mem hi))
/-- the heights' cells at a mark -/
theorem hgt_cell {w wr : World} {B : Nat} {A : Option Addr} {hs : List Int} (h : Row 1 encI w B A hs) (hb : Below B w wr) {m : Int} (h0 : 0 ≤ m) (h1 : m < hs.length) :
    ∃ b off, A = some ⟨b, off, none⟩ ∧ b < B ∧ wr.cell? ⟨b, off + m.toNat, none⟩ = some (.int .i64 (hs.getD m.toNat 0)) := by
  obtain ⟨b, off, rfl, hl, hc⟩ := Ints.cells h (i := m.toNat) (by omega) hb
  refine ⟨b, off, rfl, hl, ?_⟩
  rw [hc, List.getD_eq_getElem?_getD, List.getElem?_eq_getElem (by omega)]; rfl

theorem l8Holds_any (lo hi le mo : Int) (A : Option Addr) (cap : Nat) (hs : List Int) (w : World) (hr : Row 1 encI w w.heap.size A hs) (h0 : 0 ≤ lo) (h1 : lo < hs.length) (h2 : 0 ≤ hi) (h3 : hi < hs.length)
    (hm : hs.length ≤ 9223372036854775807) (q0 : -200000 ≤ hs.getD lo.toNat 0) (q1 : hs.getD lo.toNat 0 ≤ 200000) (q2 : -200000 ≤ hs.getD hi.toNat 0) (q3 : hs.getD hi.toNat 0 ≤ 200000) :
    Calls Try.prog 91 #[.agg #[.int .i64 lo, .int .i64 hi, .int .i64 le, .int .i64 mo], .slice A hs.length cap] w fun e w' => e = .returned (.bool (inB (hs.getD hi.toNat 0 - hs.getD lo.toNat 0) le mo)) ∧ Below w.heap.size w w' := by
  obtain ⟨b, off, rfl, hb, c0⟩ := hgt_cell hr (Below.refl _ _) h0 h1
  obtain ⟨b', off', hA, hb', c1⟩ := hgt_cell hr (Below.refl _ _) h2 h3
  injection hA with hA; injection hA with hA1 hA2; subst hA1 hA2
  clear hr hb'
  generalize hs.getD lo.toNat 0 = x at c0 q0 q1 ⊢
  generalize hs.getD hi.toNat 0 = y at c1 q2 q3 ⊢
  generalize hs.length = n at h1 h3 hm ⊢
  have e0 : IntKind.i64.wrap (y - x) = y - x := IntWalk.i64_in _ (by omega)
  go_enter Try.func91, Try.ntmps91
  go_wp2_with fail
  go_quiet ((go_at_call 52; exact quiet_l (l1In_any _ _ _ _)))
  all_goals
    go_wp2_with fail
    go_ret
    exact ⟨rfl, below_drewN (below_alloc _ _) _⟩

theorem l8Heights_any (n : Int) (A : Option Addr) (cap : Nat) (xs : List Int) (w : World) (hr : Row 1 encI w w.heap.size A xs) (hm : xs.length ≤ 9223372036854775807) :
    Calls Try.prog 74 #[.int .i64 n, .slice A xs.length cap] w fun e w' => e = .returned (.bool (hgtB n xs)) ∧ w = w' := by
  have HR := hide hr; clear hr
  go_enter Try.func74, Try.ntmps74
  go_wp2_with fail
  go_loop [5] (fun i => ∃ k : Nat, k ≤ xs.length ∧ i = .int .i64 k ∧ (xs.take k).all (fun h => inB h (-200000) 200000) = true) (fun i => xs.length - (intOf i).toNat)
  case atStart => exact ⟨0, Nat.zero_le _, rfl, by simp⟩
  case round =>
    obtain ⟨i, hi, rfl, hall⟩ := hrel
    have HA := hide hall; clear hall
    by_cases hlt : i < xs.length
    · obtain ⟨b, off, rfl, hb, c0⟩ := Ints.cells HR.out hlt (Below.refl _ _)
      by_cases hone : inB xs[i] (-200000) 200000 = true
      · have HO := hide hone
        go_wp2_with (first | (go_at_call 52; refine (l1In_any _ _ _ _).mono ?_; rintro e w' ⟨rfl, rfl⟩))
        go_round
        case rel => exact ⟨i + 1, by omega, by go_num, by rw [all_take_succ hlt, HA.out]; simpa using HO.out⟩
        case measure => simp [intOf]; omega
      · have HO := hide hone
        rw [Bool.not_eq_true] at hone
        go_wp2_with (first | (go_at_call 52; refine (l1In_any _ _ _ _).mono ?_; rintro e w' ⟨rfl, rfl⟩))
        go_ret
        refine ⟨ret_bool ?_, rfl⟩
        unfold hgtB
        rw [eq_comm, Bool.and_eq_false_iff]
        exact .inr (List.all_eq_false.2 ⟨xs[i], List.getElem_mem hlt, HO.out⟩)
    · have hk : i = xs.length := by omega
      have hall := HA.out
      rw [hk, List.take_length] at hall
      have HALL := hide hall
      clear hall hk HA
      go_wp2_with fail
      go_ret
      refine ⟨ret_bool ?_, rfl⟩
      unfold hgtB
      rw [HALL.out, Bool.and_true, Bool.eq_iff_iff]
      simp


theorem l8Broken_any (n : Int) (A : Option Addr) (cap : Nat) (xs : List SClaim) (A' : Option Addr) (cap' : Nat) (hs : List Int) (w : World) (hr : Row 4 SClaim.enc w w.heap.size A xs) (hr' : Row 1 encI w w.heap.size A' hs) (hm : hs.length ≤ 9223372036854775807)
    (hok : areB n xs = true) (hhg : hgtB n hs = true) :
    Calls Try.prog 75 #[.slice A xs.length cap, .slice A' hs.length cap'] w fun e w' => ∃ v, e = .returned v ∧ Own 1 encI 3 w' w.heap.size v (brk xs hs) ∧ Below w.heap.size w w' := by
  have hlen := (areB_iff.1 hok).2.2
  have HHG := hide hhg
  have HLN := hide (hgt_len hhg)
  have HOK := hide hok; clear hok hhg
  generalize hB : w.heap.size = B at hr hr' ⊢
  have HB := hide hB; clear hB
  have HR := hide hr; clear hr
  have HR' := hide hr'; clear hr'
  go_enter Try.func75, Try.ntmps75
  go_wp2_with fail
  go_loopw [5, 6] (fun v i wr => ∃ k : Nat, k ≤ xs.length ∧ i = .int .i64 k ∧ Own 1 encI 3 wr B v (idxs (brkAt xs hs) k) ∧ Below B w wr) (fun _ i _ => xs.length - (intOf i).toNat)
  case atStart => exact ⟨0, Nat.zero_le _, rfl, (Own.made (cs := #[]) rfl (by rw [HB.out]; exact Nat.le_refl _) (Blk.new _ _ _) rfl (Nat.zero_le _) Filled.zero), (Below.refl _ _).alloc (by rw [HB.out]; exact Nat.le_refl _) _⟩
  case round =>
    obtain ⟨i, hi, rfl, hown, hbel⟩ := hrel
    have hsz : B ≤ wr.heap.size := by have := hbel.size; rw [HB.out] at this; exact this
    have HOW := hide hown; clear hown
    by_cases hlt : i < xs.length
    · obtain ⟨b, off, rfl, hb, c0, c1, c2, c3⟩ := SClaim.cells HR.out hlt hbel
      obtain ⟨g0, g1, g2, g3, g4, g5, g6, g7⟩ := ok_get HOK.out hlt
      have hl := HLN.out
      have HRw := HR'.out.below hbel (Nat.le_refl _) hsz
      have hh := l8Holds_any xs[i].low xs[i].high xs[i].least xs[i].most A' cap' hs wr HRw (by omega) (by omega) (by omega) (by omega) hm (hgt_get HHG.out _).1 (hgt_get HHG.out _).2 (hgt_get HHG.out _).1 (hgt_get HHG.out _).2
      have HH := hide hh; clear hh HRw hl
      go_wp2_with fail
      refine HH.out.mono ?_; rintro e w2 ⟨rfl, hb2⟩
      have hlx := idxs_le (brkAt xs hs) i
      have ho2 := HOW.out.below hb2
      have B2 := bstep hbel hb2 hsz
      have s2 := hb2.size
      by_cases hho : inB (hs.getD xs[i].high.toNat 0 - hs.getD xs[i].low.toNat 0) xs[i].least xs[i].most = true
      · have HST := hide (brk_step hlt _ hho)
        rw [hho]
        have HO2 := hide ho2; clear ho2 hho
        go_wp2_with fail
        refine ⟨⟨i + 1, by omega, by go_num, ?_, B2⟩, by simp [intOf]; omega⟩
        rw [HST.out]; simpa using HO2.out
      · rw [Bool.not_eq_true] at hho
        have HST := hide (brk_step hlt _ hho)
        rw [hho]
        have HO2 := hide ho2; clear ho2 hho
        have hl1 : (idxs (brkAt xs hs) i).length ≤ 16777216 := by omega
        have hl2 : B ≤ w2.heap.size := by omega
        go_wp2_with (at_builtin; refine wpList_push1 (k := 1) (enc := encI) _ rfl _ _ 42 rfl 3 (.int .i64 0) 8 Try.underlying42 infoI rfl (by omega) (by omega) encI_one (B) _ (idxs (brkAt xs hs) i) rfl (HO2.out) ((i : Int)) _ rfl rfl (hl1) (hl2) (B2) (Nat.le_refl _) rfl ?_; intro v1 w1 ho1 hb1 hg1)
        have B3 := hb1
        have HO3 := hide ho1; clear ho1 hg1 hb1
        go_wp2_with fail
        refine ⟨⟨i + 1, by omega, by go_num, ?_, B3⟩, by simp [intOf]; omega⟩
        rw [HST.out]; simpa using HO3.out
    · have hk : i = xs.length := by omega
      have HK := hide hk; clear hk
      go_wp2_with fail
      go_ret
      exact ⟨_, rfl, by have := HOW.out; rw [HK.out] at this; exact this, hbel⟩
end Go.Proofs.Ytijjecckfcbaoaa
