/- Contracts of DoHeightsFit and BrokenClaims, in impl and spec: both return the Lean functions fitV, and brk. Conditions: none beyond the reading of the slices. -/
import Derived.Test.YtijjecckfcbaoaaL8E
namespace Go.Proofs.Ytijjecckfcbaoaa
open Go.RowKit
/-- whether heights fit, and whether that can be asked -/
def fitV (n : Int) (xs : List SClaim) (hs : List Int) : Bool × Bool := if areB n xs && hgtB n hs then (decide (hs.getD 0 0 = 0) && decide ((brk xs hs).length = 0), true) else (false, false)
/-- the broken claims, and whether that can be asked -/
def brkV (n : Int) (xs : List SClaim) (hs : List Int) : List Int × Bool := if areB n xs && hgtB n hs then (brk xs hs, true) else ([], false)
theorem l8Good_is (n : Int) (v : Value) (xs : List SClaim) (w : World) (h : Is 4 SClaim.enc w v xs) :
    Calls Try.prog 62 #[.int .i64 n, v] w fun e w' => e = .returned (.bool (areB n xs)) ∧ Below w.heap.size w w' := by
  have hm := h.len
  obtain ⟨A, cap, rfl, hr, _, _⟩ := h
  exact l8Good_any n A cap xs w hr hm
theorem implAreClaims_is (n : Int) (v : Value) (xs : List SClaim) (w : World) (h : Is 4 SClaim.enc w v xs) :
    Calls Try.prog 23 #[.int .i64 n, v] w fun e w' => e = .returned (.bool (areB n xs)) ∧ Below w.heap.size w w' := by
  have hm := h.len
  obtain ⟨A, cap, rfl, hr, _, _⟩ := h
  exact implAreClaims_any n A cap xs w hr hm
theorem l8Heights_is (n : Int) (v : Value) (xs : List Int) (w : World) (h : Is 1 encI w v xs) :
    Calls Try.prog 74 #[.int .i64 n, v] w fun e w' => e = .returned (.bool (hgtB n xs)) ∧ Below w.heap.size w w' := by
  have hm := h.len
  obtain ⟨A, cap, rfl, hr, _, _⟩ := h
  exact (l8Heights_any n A cap xs w hr hm).mono fun e w' ⟨h1, h2⟩ => ⟨h1, h2 ▸ Below.refl _ _⟩
theorem areHeights_is (n : Int) (v : Value) (xs : List Int) (w : World) (h : Is 1 encI w v xs) :
    Calls Try.prog 60 #[.int .i64 n, v] w fun e w' => e = .returned (.bool (hgtB n xs)) ∧ Below w.heap.size w w' := by
  have hm := h.len
  obtain ⟨A, cap, rfl, hr, _, _⟩ := h
  exact areHeights_any n A cap xs w hr hm


theorem l8Broken_any_is (n : Int) (v : Value) (xs : List SClaim) (v' : Value) (hs : List Int) (w : World) (h : Is 4 SClaim.enc w v xs) (h' : Is 1 encI w v' hs) (hok : areB n xs = true) (hhg : hgtB n hs = true) :
    Calls Try.prog 75 #[v, v'] w fun e w' => ∃ v, e = .returned v ∧ Own 1 encI 3 w' w.heap.size v (brk xs hs) ∧ Below w.heap.size w w' := by
  have hm := h'.len
  obtain ⟨A, cap, rfl, hr, _, _⟩ := h
  obtain ⟨A', cap', rfl, hr', _, _⟩ := h'
  exact l8Broken_any n A cap xs A' cap' hs w hr hr' hm hok hhg
theorem specDoHeightsFit_any (n : Int) (v : Value) (xs : List SClaim) (v' : Value) (hs : List Int) (w : World) (h : Is 4 SClaim.enc w v xs) (h' : Is 1 encI w v' hs) :
    Calls Try.prog 37 #[.int .i64 n, v, v'] w fun e w' => e = .returned (.tuple #[.bool (fitV n xs hs).1, .bool (fitV n xs hs).2]) ∧ Below w.heap.size w w' := by
  have HI := hide h; have HI' := hide h'; clear h h'
  by_cases hok : areB n xs = true
  case neg =>
    have hv : fitV n xs hs = (false, false) := by simp [fitV, hok]
    rw [hv]; clear hv
    rw [Bool.not_eq_true] at hok
    go_enter Try.func37, Try.ntmps37
    go_wp2_with fail
    refine (l8Good_is _ _ _ _ HI.out).mono ?_; rintro e w1 ⟨rfl, hb1⟩
    rw [hok]
    go_wp2_with fail
    go_ret2
    exact ⟨rfl, hb1⟩
  by_cases hhg : hgtB n hs = true
  case neg =>
    have hv : fitV n xs hs = (false, false) := by simp [fitV, hhg]
    rw [hv]; clear hv
    rw [Bool.not_eq_true] at hhg
    go_enter Try.func37, Try.ntmps37
    go_wp2_with fail
    refine (l8Good_is _ _ _ _ HI.out).mono ?_; rintro e w1 ⟨rfl, hb1⟩
    rw [hok]
    go_wp2_with fail
    refine (l8Heights_is _ _ _ _ (HI'.out.below hb1 (Nat.le_refl _))).mono ?_; rintro e w2 ⟨rfl, hb2⟩
    rw [hhg]
    go_wp2_with fail
    go_ret2
    exact ⟨rfl, bstep hb1 hb2 hb1.size⟩
  have hn := (areB_iff.1 hok).2.1
  have hlen := hgt_len hhg
  have HOK := hide hok; have HHG := hide hhg
  have hp : 0 < hs.length := by omega
  have HLN := hide hlen; clear hlen
  have hg0 : hs.getD 0 0 = hs[0] := by rw [List.getD_eq_getElem?_getD, List.getElem?_eq_getElem hp]; rfl
  have HG0 := hide hg0; clear hg0
  clear hok hhg
  by_cases hx : hs.getD 0 0 = 0
  · have hx' : (hs[0] == 0) = true := by rw [← HG0.out, hx]; rfl
    by_cases hm0 : (brk xs hs).length = 0
    · have hv : fitV n xs hs = (true, true) := by simp only [fitV, HOK.out, HHG.out, hx, hm0]; rfl
      rw [hv]
      have HM := hide hm0
      clear hv hx hm0
      go_enter Try.func37, Try.ntmps37
      go_wp2_with fail
      refine (l8Good_is _ _ _ _ HI.out).mono ?_; rintro e w1 ⟨rfl, hb1⟩
      rw [HOK.out]
      go_wp2_with fail
      have HI1 := hide (HI.out.below hb1 (Nat.le_refl _)); have HI1' := hide (HI'.out.below hb1 (Nat.le_refl _))
      refine (l8Heights_is _ _ _ _ HI1'.out).mono ?_; rintro e w2 ⟨rfl, hb2⟩
      rw [HHG.out]
      have HI2 := hide (HI1.out.below hb2 (Nat.le_refl _)); have hi2 := HI1'.out.below hb2 (Nat.le_refl _)
      have HI2' := hide hi2
      have B2 := bstep hb1 hb2 hb1.size
      obtain ⟨A', cap', rfl, hr', hl', hc'⟩ := hi2
      obtain ⟨b, off, rfl, hb, c0⟩ := Ints.cells hr' hp (Below.refl _ _)
      rw [Nat.add_zero] at c0
      clear hr' HI1 HI1' hb1 hb2
      generalize hs[0] = x at c0 hx'
      have HX := hide hx'
      go_wp2_with fail
      refine (l8Broken_any_is n _ _ _ _ _ HI2.out HI2'.out HOK.out HHG.out).mono ?_; rintro e w3 ⟨v3, rfl, ho3, hb3⟩
      obtain ⟨A3, cap3, rfl, _, _, _⟩ := ho3.row
      clear ho3
      rw [HM.out]
      go_wp2_with fail
      go_ret2
      exact ⟨rfl, bstep B2 hb3 B2.size⟩
    · have hv : fitV n xs hs = (false, true) := by simp only [fitV, HOK.out, HHG.out, hx, hm0]; rfl
      rw [hv]
      have hm1 : (((brk xs hs).length : Int) == 0) = false := by simp; intro h; rw [h] at hm0; exact hm0 rfl
      generalize hm : (brk xs hs).length = m at hm1
      have HM := hide hm
      clear hv hx hm0 hm
      go_enter Try.func37, Try.ntmps37
      go_wp2_with fail
      refine (l8Good_is _ _ _ _ HI.out).mono ?_; rintro e w1 ⟨rfl, hb1⟩
      rw [HOK.out]
      go_wp2_with fail
      have HI1 := hide (HI.out.below hb1 (Nat.le_refl _)); have HI1' := hide (HI'.out.below hb1 (Nat.le_refl _))
      refine (l8Heights_is _ _ _ _ HI1'.out).mono ?_; rintro e w2 ⟨rfl, hb2⟩
      rw [HHG.out]
      have HI2 := hide (HI1.out.below hb2 (Nat.le_refl _)); have hi2 := HI1'.out.below hb2 (Nat.le_refl _)
      have HI2' := hide hi2
      have B2 := bstep hb1 hb2 hb1.size
      obtain ⟨A', cap', rfl, hr', hl', hc'⟩ := hi2
      obtain ⟨b, off, rfl, hb, c0⟩ := Ints.cells hr' hp (Below.refl _ _)
      rw [Nat.add_zero] at c0
      clear hr' HI1 HI1' hb1 hb2
      generalize hs[0] = x at c0 hx'
      go_wp2_with fail
      refine (l8Broken_any_is n _ _ _ _ _ HI2.out HI2'.out HOK.out HHG.out).mono ?_; rintro e w3 ⟨v3, rfl, ho3, hb3⟩
      obtain ⟨A3, cap3, rfl, _, _, _⟩ := ho3.row
      clear ho3
      rw [HM.out]
      go_wp2_with fail
      go_ret2
      exact ⟨rfl, bstep B2 hb3 B2.size⟩
  · have hx' : (hs[0] == 0) = false := by rw [← HG0.out]; simp; exact hx
    have hv : fitV n xs hs = (false, true) := by simp only [fitV, HOK.out, HHG.out, hx]; rfl
    rw [hv]
    clear hv hx
    go_enter Try.func37, Try.ntmps37
    go_wp2_with fail
    refine (l8Good_is _ _ _ _ HI.out).mono ?_; rintro e w1 ⟨rfl, hb1⟩
    rw [HOK.out]
    go_wp2_with fail
    have HI1 := hide (HI.out.below hb1 (Nat.le_refl _)); have HI1' := hide (HI'.out.below hb1 (Nat.le_refl _))
    refine (l8Heights_is _ _ _ _ HI1'.out).mono ?_; rintro e w2 ⟨rfl, hb2⟩
    rw [HHG.out]
    have HI2 := hide (HI1.out.below hb2 (Nat.le_refl _)); have hi2 := HI1'.out.below hb2 (Nat.le_refl _)
    have HI2' := hide hi2
    have B2 := bstep hb1 hb2 hb1.size
    obtain ⟨A', cap', rfl, hr', hl', hc'⟩ := hi2
    obtain ⟨b, off, rfl, hb, c0⟩ := Ints.cells hr' hp (Below.refl _ _)
    rw [Nat.add_zero] at c0
    clear hr' HI1 HI1' hb1 hb2
    generalize hs[0] = x at c0 hx'
    go_wp2_with fail
    go_ret2
    exact ⟨rfl, B2⟩
theorem specBrokenClaims_any (n : Int) (v : Value) (xs : List SClaim) (v' : Value) (hs : List Int) (w : World) (h : Is 4 SClaim.enc w v xs) (h' : Is 1 encI w v' hs) :
    Calls Try.prog 40 #[.int .i64 n, v, v'] w fun e w' => ∃ r, e = .returned (.tuple #[r, .bool (brkV n xs hs).2]) ∧ Own 1 encI 3 w' w.heap.size r (brkV n xs hs).1 ∧ Below w.heap.size w w' := by
  have HI := hide h; have HI' := hide h'; clear h h'
  by_cases hok : areB n xs = true
  case neg =>
    have hv : brkV n xs hs = ([], false) := by simp [brkV, hok]
    rw [hv]; clear hv
    rw [Bool.not_eq_true] at hok
    go_enter Try.func40, Try.ntmps40
    go_wp2_with fail
    refine (l8Good_is _ _ _ _ HI.out).mono ?_; rintro e w1 ⟨rfl, hb1⟩
    rw [hok]
    go_wp2_with fail
    go_ret2
    exact ⟨_, rfl, Own.made (cs := #[]) rfl hb1.size (Blk.new _ _ _) rfl (Nat.zero_le _) Filled.zero, hb1.alloc hb1.size _⟩
  by_cases hhg : hgtB n hs = true
  case neg =>
    have hv : brkV n xs hs = ([], false) := by simp [brkV, hhg]
    rw [hv]; clear hv
    rw [Bool.not_eq_true] at hhg
    go_enter Try.func40, Try.ntmps40
    go_wp2_with fail
    refine (l8Good_is _ _ _ _ HI.out).mono ?_; rintro e w1 ⟨rfl, hb1⟩
    rw [hok]
    go_wp2_with fail
    refine (l8Heights_is _ _ _ _ (HI'.out.below hb1 (Nat.le_refl _))).mono ?_; rintro e w2 ⟨rfl, hb2⟩
    rw [hhg]
    have B2 := bstep hb1 hb2 hb1.size
    go_wp2_with fail
    go_ret2
    exact ⟨_, rfl, Own.made (cs := #[]) rfl B2.size (Blk.new _ _ _) rfl (Nat.zero_le _) Filled.zero, B2.alloc B2.size _⟩
  have hv : brkV n xs hs = (brk xs hs, true) := by simp [brkV, hok, hhg]
  rw [hv]; clear hv
  have HOK := hide hok; have HHG := hide hhg
  go_enter Try.func40, Try.ntmps40
  go_wp2_with fail
  refine (l8Good_is _ _ _ _ HI.out).mono ?_; rintro e w1 ⟨rfl, hb1⟩
  rw [hok]
  go_wp2_with fail
  have HI1 := hide (HI.out.below hb1 (Nat.le_refl _)); have HI1' := hide (HI'.out.below hb1 (Nat.le_refl _))
  refine (l8Heights_is _ _ _ _ HI1'.out).mono ?_; rintro e w2 ⟨rfl, hb2⟩
  rw [hhg]
  have HI2 := hide (HI1.out.below hb2 (Nat.le_refl _)); have HI2' := hide (HI1'.out.below hb2 (Nat.le_refl _))
  have B2 := bstep hb1 hb2 hb1.size
  go_wp2_with fail
  refine (l8Broken_any_is n _ _ _ _ _ HI2.out HI2'.out HOK.out HHG.out).mono ?_; rintro e w3 ⟨v3, rfl, ho3, hb3⟩
  have HO3 := hide ho3; clear ho3
  go_wp2_with fail
  go_ret2
  exact ⟨v3, rfl, HO3.out.mono B2.size, bstep B2 hb3 B2.size⟩


theorem broken_any_is (n : Int) (v : Value) (xs : List SClaim) (v' : Value) (hs : List Int) (w : World) (h : Is 4 SClaim.enc w v xs) (h' : Is 1 encI w v' hs) (hok : areB n xs = true) (hhg : hgtB n hs = true) :
    Calls Try.prog 72 #[v, v'] w fun e w' => ∃ v, e = .returned v ∧ Own 1 encI 3 w' w.heap.size v (brk xs hs) ∧ Below w.heap.size w w' := by
  have hm := h'.len
  obtain ⟨A, cap, rfl, hr, _, _⟩ := h
  obtain ⟨A', cap', rfl, hr', _, _⟩ := h'
  exact broken_any n A cap xs A' cap' hs w hr hr' hm hok hhg
theorem implDoHeightsFit_any (n : Int) (v : Value) (xs : List SClaim) (v' : Value) (hs : List Int) (w : World) (h : Is 4 SClaim.enc w v xs) (h' : Is 1 encI w v' hs) :
    Calls Try.prog 34 #[.int .i64 n, v, v'] w fun e w' => e = .returned (.tuple #[.bool (fitV n xs hs).1, .bool (fitV n xs hs).2]) ∧ Below w.heap.size w w' := by
  have HI := hide h; have HI' := hide h'; clear h h'
  by_cases hok : areB n xs = true
  case neg =>
    have hv : fitV n xs hs = (false, false) := by simp [fitV, hok]
    rw [hv]; clear hv
    rw [Bool.not_eq_true] at hok
    go_enter Try.func34, Try.ntmps34
    go_wp2_with fail
    refine (implAreClaims_is _ _ _ _ HI.out).mono ?_; rintro e w1 ⟨rfl, hb1⟩
    rw [hok]
    go_wp2_with fail
    go_ret2
    exact ⟨rfl, hb1⟩
  by_cases hhg : hgtB n hs = true
  case neg =>
    have hv : fitV n xs hs = (false, false) := by simp [fitV, hhg]
    rw [hv]; clear hv
    rw [Bool.not_eq_true] at hhg
    go_enter Try.func34, Try.ntmps34
    go_wp2_with fail
    refine (implAreClaims_is _ _ _ _ HI.out).mono ?_; rintro e w1 ⟨rfl, hb1⟩
    rw [hok]
    go_wp2_with fail
    refine (areHeights_is _ _ _ _ (HI'.out.below hb1 (Nat.le_refl _))).mono ?_; rintro e w2 ⟨rfl, hb2⟩
    rw [hhg]
    go_wp2_with fail
    go_ret2
    exact ⟨rfl, bstep hb1 hb2 hb1.size⟩
  have hn := (areB_iff.1 hok).2.1
  have hlen := hgt_len hhg
  have HOK := hide hok; have HHG := hide hhg
  have hp : 0 < hs.length := by omega
  have HLN := hide hlen; clear hlen
  have hg0 : hs.getD 0 0 = hs[0] := by rw [List.getD_eq_getElem?_getD, List.getElem?_eq_getElem hp]; rfl
  have HG0 := hide hg0; clear hg0
  clear hok hhg
  by_cases hx : hs.getD 0 0 = 0
  · have hx' : (hs[0] == 0) = true := by rw [← HG0.out, hx]; rfl
    by_cases hm0 : (brk xs hs).length = 0
    · have hv : fitV n xs hs = (true, true) := by simp only [fitV, HOK.out, HHG.out, hx, hm0]; rfl
      rw [hv]
      have HM := hide hm0
      clear hv hx hm0
      go_enter Try.func34, Try.ntmps34
      go_wp2_with fail
      refine (implAreClaims_is _ _ _ _ HI.out).mono ?_; rintro e w1 ⟨rfl, hb1⟩
      rw [HOK.out]
      go_wp2_with fail
      have HI1 := hide (HI.out.below hb1 (Nat.le_refl _)); have HI1' := hide (HI'.out.below hb1 (Nat.le_refl _))
      refine (areHeights_is _ _ _ _ HI1'.out).mono ?_; rintro e w2 ⟨rfl, hb2⟩
      rw [HHG.out]
      have HI2 := hide (HI1.out.below hb2 (Nat.le_refl _)); have hi2 := HI1'.out.below hb2 (Nat.le_refl _)
      have HI2' := hide hi2
      have B2 := bstep hb1 hb2 hb1.size
      obtain ⟨A', cap', rfl, hr', hl', hc'⟩ := hi2
      obtain ⟨b, off, rfl, hb, c0⟩ := Ints.cells hr' hp (Below.refl _ _)
      rw [Nat.add_zero] at c0
      clear hr' HI1 HI1' hb1 hb2
      generalize hs[0] = x at c0 hx'
      have HX := hide hx'
      go_wp2_with fail
      refine (broken_any_is n _ _ _ _ _ HI2.out HI2'.out HOK.out HHG.out).mono ?_; rintro e w3 ⟨v3, rfl, ho3, hb3⟩
      obtain ⟨A3, cap3, rfl, _, _, _⟩ := ho3.row
      clear ho3
      rw [HM.out]
      go_wp2_with fail
      go_ret2
      exact ⟨rfl, bstep B2 hb3 B2.size⟩
    · have hv : fitV n xs hs = (false, true) := by simp only [fitV, HOK.out, HHG.out, hx, hm0]; rfl
      rw [hv]
      have hm1 : (((brk xs hs).length : Int) == 0) = false := by simp; intro h; rw [h] at hm0; exact hm0 rfl
      generalize hm : (brk xs hs).length = m at hm1
      have HM := hide hm
      clear hv hx hm0 hm
      go_enter Try.func34, Try.ntmps34
      go_wp2_with fail
      refine (implAreClaims_is _ _ _ _ HI.out).mono ?_; rintro e w1 ⟨rfl, hb1⟩
      rw [HOK.out]
      go_wp2_with fail
      have HI1 := hide (HI.out.below hb1 (Nat.le_refl _)); have HI1' := hide (HI'.out.below hb1 (Nat.le_refl _))
      refine (areHeights_is _ _ _ _ HI1'.out).mono ?_; rintro e w2 ⟨rfl, hb2⟩
      rw [HHG.out]
      have HI2 := hide (HI1.out.below hb2 (Nat.le_refl _)); have hi2 := HI1'.out.below hb2 (Nat.le_refl _)
      have HI2' := hide hi2
      have B2 := bstep hb1 hb2 hb1.size
      obtain ⟨A', cap', rfl, hr', hl', hc'⟩ := hi2
      obtain ⟨b, off, rfl, hb, c0⟩ := Ints.cells hr' hp (Below.refl _ _)
      rw [Nat.add_zero] at c0
      clear hr' HI1 HI1' hb1 hb2
      generalize hs[0] = x at c0 hx'
      go_wp2_with fail
      refine (broken_any_is n _ _ _ _ _ HI2.out HI2'.out HOK.out HHG.out).mono ?_; rintro e w3 ⟨v3, rfl, ho3, hb3⟩
      obtain ⟨A3, cap3, rfl, _, _, _⟩ := ho3.row
      clear ho3
      rw [HM.out]
      go_wp2_with fail
      go_ret2
      exact ⟨rfl, bstep B2 hb3 B2.size⟩
  · have hx' : (hs[0] == 0) = false := by rw [← HG0.out]; simp; exact hx
    have hv : fitV n xs hs = (false, true) := by simp only [fitV, HOK.out, HHG.out, hx]; rfl
    rw [hv]
    clear hv hx
    go_enter Try.func34, Try.ntmps34
    go_wp2_with fail
    refine (implAreClaims_is _ _ _ _ HI.out).mono ?_; rintro e w1 ⟨rfl, hb1⟩
    rw [HOK.out]
    go_wp2_with fail
    have HI1 := hide (HI.out.below hb1 (Nat.le_refl _)); have HI1' := hide (HI'.out.below hb1 (Nat.le_refl _))
    refine (areHeights_is _ _ _ _ HI1'.out).mono ?_; rintro e w2 ⟨rfl, hb2⟩
    rw [HHG.out]
    have HI2 := hide (HI1.out.below hb2 (Nat.le_refl _)); have hi2 := HI1'.out.below hb2 (Nat.le_refl _)
    have HI2' := hide hi2
    have B2 := bstep hb1 hb2 hb1.size
    obtain ⟨A', cap', rfl, hr', hl', hc'⟩ := hi2
    obtain ⟨b, off, rfl, hb, c0⟩ := Ints.cells hr' hp (Below.refl _ _)
    rw [Nat.add_zero] at c0
    clear hr' HI1 HI1' hb1 hb2
    generalize hs[0] = x at c0 hx'
    go_wp2_with fail
    go_ret2
    exact ⟨rfl, B2⟩
theorem implBrokenClaims_any (n : Int) (v : Value) (xs : List SClaim) (v' : Value) (hs : List Int) (w : World) (h : Is 4 SClaim.enc w v xs) (h' : Is 1 encI w v' hs) :
    Calls Try.prog 41 #[.int .i64 n, v, v'] w fun e w' => ∃ r, e = .returned (.tuple #[r, .bool (brkV n xs hs).2]) ∧ Own 1 encI 3 w' w.heap.size r (brkV n xs hs).1 ∧ Below w.heap.size w w' := by
  have HI := hide h; have HI' := hide h'; clear h h'
  by_cases hok : areB n xs = true
  case neg =>
    have hv : brkV n xs hs = ([], false) := by simp [brkV, hok]
    rw [hv]; clear hv
    rw [Bool.not_eq_true] at hok
    go_enter Try.func41, Try.ntmps41
    go_wp2_with fail
    refine (implAreClaims_is _ _ _ _ HI.out).mono ?_; rintro e w1 ⟨rfl, hb1⟩
    rw [hok]
    go_wp2_with fail
    go_ret2
    exact ⟨_, rfl, Own.nil, hb1⟩
  by_cases hhg : hgtB n hs = true
  case neg =>
    have hv : brkV n xs hs = ([], false) := by simp [brkV, hhg]
    rw [hv]; clear hv
    rw [Bool.not_eq_true] at hhg
    go_enter Try.func41, Try.ntmps41
    go_wp2_with fail
    refine (implAreClaims_is _ _ _ _ HI.out).mono ?_; rintro e w1 ⟨rfl, hb1⟩
    rw [hok]
    go_wp2_with fail
    refine (areHeights_is _ _ _ _ (HI'.out.below hb1 (Nat.le_refl _))).mono ?_; rintro e w2 ⟨rfl, hb2⟩
    rw [hhg]
    have B2 := bstep hb1 hb2 hb1.size
    go_wp2_with fail
    go_ret2
    exact ⟨_, rfl, Own.nil, B2⟩
  have hv : brkV n xs hs = (brk xs hs, true) := by simp [brkV, hok, hhg]
  rw [hv]; clear hv
  have HOK := hide hok; have HHG := hide hhg
  go_enter Try.func41, Try.ntmps41
  go_wp2_with fail
  refine (implAreClaims_is _ _ _ _ HI.out).mono ?_; rintro e w1 ⟨rfl, hb1⟩
  rw [hok]
  go_wp2_with fail
  have HI1 := hide (HI.out.below hb1 (Nat.le_refl _)); have HI1' := hide (HI'.out.below hb1 (Nat.le_refl _))
  refine (areHeights_is _ _ _ _ HI1'.out).mono ?_; rintro e w2 ⟨rfl, hb2⟩
  rw [hhg]
  have HI2 := hide (HI1.out.below hb2 (Nat.le_refl _)); have HI2' := hide (HI1'.out.below hb2 (Nat.le_refl _))
  have B2 := bstep hb1 hb2 hb1.size
  go_wp2_with fail
  refine (broken_any_is n _ _ _ _ _ HI2.out HI2'.out HOK.out HHG.out).mono ?_; rintro e w3 ⟨v3, rfl, ho3, hb3⟩
  have HO3 := hide ho3; clear ho3
  go_wp2_with fail
  go_ret2
  exact ⟨v3, rfl, HO3.out.mono B2.size, bstep B2 hb3 B2.size⟩

theorem brkV_len (n : Int) (xs : List SClaim) (hs : List Int) : (brkV n xs hs).1.length ≤ 1048576 := by
  unfold brkV
  split
  · rename_i h
    rw [Bool.and_eq_true] at h
    have h1 := (areB_iff.1 h.1).2.2
    have h2 := idxs_le (brkAt xs hs) xs.length
    simp only [brk]; omega
  · simp

end Go.Proofs.Ytijjecckfcbaoaa
