/- Contracts of ReverseRoad, in impl and spec, and of the library's Clone and Reverse on corners. Conditions: Clone of a list that is not empty; Reverse of a row of the call's own, not empty. -/
import Derived.Test.YtefnmfkndepfgaaL10G
namespace Go.Proofs.Ytefnmfkndepfgaa
open Go.RowKit
set_option linter.unusedVariables false
theorem grownBy_drew {w wr : World} {o : Option Nat} (h : w.grownBy wr o) : w.grownBy wr.drew o := ⟨h.os, h.tape, h.output, h.size, h.block⟩
theorem Blk.drew {w : World} {g : Nat} {t : TypeId} {cs : Array Value} (h : Blk w g t cs) : Blk w.drew g t cs := h
theorem src_row {α : Type} {k : Nat} {enc : α → Nat → Value} {ys : List α} {w : World} {B : Nat} {ad : Addr} (h : Row k enc w B (some ad) ys) (hk : 0 < k) :
    ∀ j u, (flat k enc ys)[j]? = some u → w.cell? (ad.add j) = some u := by
  intro j u hu
  have hlt : j < (flat k enc ys).length := (List.getElem?_eq_some_iff.1 hu).1
  rw [flat_length] at hlt
  have hi : j / k < ys.length := Nat.div_lt_of_lt_mul (by rw [Nat.mul_comm]; exact hlt)
  have hj : j % k < k := Nat.mod_lt _ hk
  have he : j / k * k + j % k = j := Nat.div_add_mod' j k
  have h2 := flat_get (enc := enc) (List.getElem?_eq_getElem hi) hj
  rw [he, hu] at h2
  obtain ⟨b, off, hA, _, hc⟩ := h.get hi
  injection hA with hA; subst hA
  have h1 := hc _ hj
  rw [Nat.add_assoc, he] at h1
  rw [Addr.add_lit, h1, h2]

theorem cloneC_any (v : Value) (xs : List SCorner) (w : World) (h : Is 2 SCorner.enc w v xs) (h0 : 1 ≤ xs.length) (h1 : xs.length ≤ 1048576) :
    Calls Try.prog 60 #[v] w fun e w' => ∃ r, e = .returned r ∧ Own 2 SCorner.enc 58 w' w.heap.size r xs ∧ Below w.heap.size w w' := by
  obtain ⟨A, cap, rfl, hr, _, _⟩ := h
  obtain ⟨b, off, rfl, hb, _⟩ := hr.get (show 0 < xs.length by omega)
  have HR := hide hr; clear hr
  have hnil := fun W => Go.Lib.run_eql_slice_nil (P := Try.prog) W 25 58 (some ⟨b, off, none⟩) xs.length cap 0 0 Try.underlying25
  go_enter Try.func60, Try.ntmps60
  have hown : Own 2 SCorner.enc 58 (w.alloc (.cells #[] 58)) w.heap.size (.slice (some ⟨w.heap.size, 0, none⟩) 0 0) ([] : List SCorner) := Own.made (cs := #[]) rfl (Nat.le_refl _) (Blk.new _ _ _) rfl (Nat.zero_le _) Filled.zero
  have HO := hide hown; clear hown
  have B1 := below_alloc w (.cells #[] 58)
  go_wp2_with (at_builtin; refine wpList_push (k := 2) (enc := SCorner.enc) _ rfl _ _ 25 rfl 58 (.agg #[.int .i64 0, .int .i64 0]) 16 Try.underlying25 SCorner.info rfl (by omega) SCorner.one w.heap.size _ [] rfl HO.out ⟨b, off, none⟩ cap xs rfl (src_row (HR.out.below B1 (Nat.le_refl _) B1.size) (by omega)) (by simp; omega) (by simp; omega) B1.size ?_; intro v1 w1 ho1 hg1 _; have hb1 := HO.out.belowGrown B1 hg1 (Nat.le_refl _) B1.size; rw [List.nil_append] at ho1; have HO1 := hide ho1; clear ho1 hg1)
  go_ret
  exact ⟨_, rfl, HO1.out, hb1⟩

/-- the list, of which i elements at each end have changed places -/
def revAt (xs : List SCorner) (i : Nat) : List SCorner := (List.range xs.length).map fun t => if t < i ∨ xs.length ≤ t + i then xs.getD (xs.length - 1 - t) SCorner.zero else xs.getD t SCorner.zero
theorem revAt_len (xs : List SCorner) (i : Nat) : (revAt xs i).length = xs.length := by simp [revAt]
theorem revAt_zero (xs : List SCorner) : revAt xs 0 = xs := by
  apply List.ext_getElem (revAt_len _ _)
  intro t h1 h2
  simp only [revAt, List.getElem_map, List.getElem_range]
  rw [if_neg (by omega), getD_lt _ h2]
theorem revAt_end (xs : List SCorner) (i : Nat) (h : xs.length ≤ i + i + 1) : revAt xs i = xs.reverse := by
  apply List.ext_getElem (by simp [revAt])
  intro t h1 h2
  have ht : t < xs.length := by simpa using h2
  simp only [revAt, List.getElem_map, List.getElem_range, List.getElem_reverse]
  by_cases hc : t < i ∨ xs.length ≤ t + i
  · rw [if_pos hc, getD_lt _ (by omega)]
  · rw [if_neg hc, getD_lt _ ht]
    congr 1; omega
theorem revAt_get {xs : List SCorner} {i t : Nat} (h : t < xs.length) : (revAt xs i)[t]? = some (if t < i ∨ xs.length ≤ t + i then xs.getD (xs.length - 1 - t) SCorner.zero else xs.getD t SCorner.zero) := by
  simp [revAt, List.getElem?_range h]
theorem revAt_step {xs : List SCorner} {i j : Nat} {cs : Array Value} (h : Filled 2 SCorner.enc cs xs.length (revAt xs i)) (hij : i < j) (hj : i + j + 1 = xs.length) (hs : xs.length * 2 ≤ cs.size) (p q : SCorner) (hp : xs.getD i SCorner.zero = p) (hq : xs.getD j SCorner.zero = q) :
    Filled 2 SCorner.enc ((((cs.setIfInBounds (i * 2) (.int .i64 q.x)).setIfInBounds (i * 2 + 1) (.int .i64 q.y)).setIfInBounds (j * 2) (.int .i64 p.x)).setIfInBounds (j * 2 + 1) (.int .i64 p.y)) xs.length (revAt xs (i + 1)) := by
  intro t x ht hx c hc
  rw [revAt_get ht] at hx
  replace hx := Option.some.inj hx
  have hc' : c = 0 ∨ c = 1 := by omega
  by_cases hti : t = i
  · subst hti
    rw [if_pos (by omega), show xs.length - 1 - t = j by omega, hq] at hx
    subst hx
    rcases hc' with rfl | rfl
    · simp only [Array.getElem?_setIfInBounds, Array.size_setIfInBounds, if_true]
      repeat (first | rw [if_neg (by omega)] | rw [if_pos (by omega)])
      rfl
    · simp only [Array.getElem?_setIfInBounds, Array.size_setIfInBounds, if_true]
      repeat (first | rw [if_neg (by omega)] | rw [if_pos (by omega)])
      rfl
  · by_cases htj : t = j
    · subst htj
      rw [if_pos (by omega), show xs.length - 1 - t = i by omega, hp] at hx
      subst hx
      rcases hc' with rfl | rfl
      · simp only [Array.getElem?_setIfInBounds, Array.size_setIfInBounds, if_true]
        repeat (first | rw [if_neg (by omega)] | rw [if_pos (by omega)])
        rfl
      · simp only [Array.getElem?_setIfInBounds, Array.size_setIfInBounds, if_true]
        repeat (first | rw [if_neg (by omega)] | rw [if_pos (by omega)])
        rfl
    · have h1 := h t x ht (by
        rw [revAt_get ht, ← hx]
        congr 1
        by_cases hcc : t < i ∨ xs.length ≤ t + i
        · rw [if_pos hcc, if_pos (by omega)]
        · rw [if_neg hcc, if_neg (by omega)]) c hc
      rw [← h1]
      simp only [Array.getElem?_setIfInBounds, Array.size_setIfInBounds, if_true]
      rw [if_neg (by omega), if_neg (by omega), if_neg (by omega), if_neg (by omega)]

theorem reverseC_any (v : Value) (xs : List SCorner) (base : Nat) (w : World) (ho : Own 2 SCorner.enc 58 w base v xs) (h0 : 1 ≤ xs.length) (h1 : xs.length ≤ 1048576) :
    Calls Try.prog 61 #[v] w fun e w' => e = .returned (.tuple #[]) ∧ Own 2 SCorner.enc 58 w' base v xs.reverse ∧ w.grownBy w' v.ownBlock := by
  rcases ho with ⟨rfl, rfl⟩ | ⟨g, cap, cs0, rfl, hg, hblk0, hle, hcm, hs0, hf0⟩
  · simp at h0
  have hcap : xs.length * 2 ≤ cs0.size := by rw [hs0]; exact Nat.mul_le_mul_right _ hle
  have H0 := hide hblk0; clear hblk0
  have HS0 := hide hs0; clear hs0
  have HF0 := hide hf0; clear hf0
  generalize hn : xs.length = n at hle hcap h0 h1 ⊢
  have HN := hide hn; clear hn
  go_enter Try.func61, Try.ntmps61
  go_wp2_with fail
  go_loopw [2, 3] (fun p q wr => ∃ (i j : Nat) (cs : Array Value), i + j + 1 = n ∧ i ≤ j + 1 ∧ p = .int .i64 i ∧ q = .int .i64 j ∧ Blk wr g 58 cs ∧ cs.size = cs0.size ∧ Hid (Filled 2 SCorner.enc cs n (revAt xs i)) ∧ w.grownBy wr (some g)) (fun p _ _ => n - (intOf p).toNat)
  case atStart => exact ⟨0, n - 1, cs0, by omega, by omega, rfl, by go_num, H0.out, rfl, by rw [revAt_zero, ← HN.out]; exact HF0.out, World.grownBy.refl _ _⟩
  case round =>
    obtain ⟨i, j, cs, hij, hle2, rfl, rfl, hblk, hsz, HF, hgr⟩ := hrel
    have HS := hide hsz; clear hsz
    have HG := hide hgr; clear hgr
    by_cases hlt : i < j
    · have hfi := HF.out i _ (by omega) (by rw [revAt_get (by rw [HN.out]; omega), if_neg (by rw [HN.out]; omega)])
      have hfj := HF.out j _ (by omega) (by rw [revAt_get (by rw [HN.out]; omega), if_neg (by rw [HN.out]; omega)])
      have hst := fun p q => revAt_step (xs := xs) (i := i) (j := j) (cs := cs) (by rw [HN.out]; exact HF.out) hlt (by rw [HN.out]; exact hij) (by rw [HN.out, HS.out]; exact hcap) p q
      generalize xs.getD i SCorner.zero = p at hfi hst
      generalize xs.getD j SCorner.zero = q at hfj hst
      replace hst := hst p q rfl rfl
      have HST := hide hst; clear hst
      have c0 := (hblk.cell (i * 2)).trans (hfi 0 (by omega))
      have c1 := (hblk.cell (i * 2 + 1)).trans (hfi 1 (by omega))
      have d0 := (hblk.cell (j * 2)).trans (hfj 0 (by omega))
      have d1 := (hblk.cell (j * 2 + 1)).trans (hfj 1 (by omega))
      change _ = some (Value.int IntKind.i64 p.x) at c0
      change _ = some (Value.int IntKind.i64 p.y) at c1
      change _ = some (Value.int IntKind.i64 q.x) at d0
      change _ = some (Value.int IntKind.i64 q.y) at d1
      clear hfi hfj
      generalize p.x = px at c0 HST; generalize p.y = py at c1 HST
      generalize q.x = qx at d0 HST; generalize q.y = qy at d1 HST
      have hf := hblk.frozen
      have HB := hide hblk; clear hblk
      go_wp2_with fail
      go_region
      go_wp2_with fail
      refine ⟨⟨i + 1, j - 1, _, by omega, by omega, by go_num, by go_num, ((((HB.out.set _ _).set _ _).set _ _).set _ _).drew, by simp [HS.out], by rw [← HN.out]; exact HST.out, grownBy_drew (grownBy_setCell (grownBy_setCell (grownBy_setCell (grownBy_setCell HG.out _ _) _ _) _ _) _ _)⟩, by simp [intOf]; omega⟩
    · have HB := hide hblk; clear hblk
      have hend := revAt_end xs i (by rw [HN.out]; omega)
      have HE := hide hend; clear hend
      go_wp2_with fail
      go_end0
      refine ⟨rfl, .inr ⟨g, cap, cs, ?_, hg, HB.out, ?_, hcm, by rw [HS.out, HS0.out], ?_⟩, HG.out⟩
      · rw [List.length_reverse, HN.out]
      · rw [List.length_reverse, HN.out]; exact hle
      · rw [List.length_reverse, HN.out, ← HE.out]; exact HF.out

def revV (xs : List SCorner) : List SCorner × Bool := if roadB xs then (xs.reverse, true) else ([], false)
theorem revV_len {xs : List SCorner} (h : xs.length ≤ 1048576) : (revV xs).1.length ≤ 1048576 := by
  unfold revV; split
  · simpa using h
  · simp
theorem own_empty (w : World) {B : Nat} {a : World} (hb : Below B a w) (hB : B ≤ w.heap.size) : Own 2 SCorner.enc 58 (w.alloc (.cells #[] 58)) B (.slice (some ⟨w.heap.size, 0, none⟩) 0 0) ([] : List SCorner) :=
  Own.made (cs := #[]) rfl hB (Blk.new _ _ _) rfl (Nat.zero_le _) Filled.zero
theorem specReverseRoad_any (v : Value) (xs : List SCorner) (w : World) (h : Is 2 SCorner.enc w v xs) :
    Calls Try.prog 22 #[v] w fun e w' => ∃ r, e = .returned (.tuple #[r, .bool (revV xs).2]) ∧ Own 2 SCorner.enc 58 w' w.heap.size r (revV xs).1 ∧ Below w.heap.size w w' := by
  have B1 := below_alloc w (.cells #[] 58)
  have hgood := l10Good_is v xs _ (h.below B1 (Nat.le_refl _))
  have HI := hide h; clear h
  generalize hB : w.heap.size = B at B1 ⊢
  have HB := hide hB; clear hB
  have s1 := B1.size
  rw [HB.out] at s1
  by_cases hok : roadB xs = true
  case neg =>
    rw [show revV xs = ([], false) by simp [revV, hok]]
    rw [Bool.not_eq_true] at hok
    rw [hok] at hgood
    have HG := hide hgood; clear hgood
    go_enter Try.func22, Try.ntmps22
    go_wp2_with fail
    refine HG.out.mono ?_; rintro e w1 ⟨rfl, hb1⟩
    go_wp2_with fail
    go_ret2
    exact ⟨_, rfl, (own_empty w (Below.refl _ _) (by rw [HB.out]; exact Nat.le_refl _)).below hb1, bstep B1 hb1 s1⟩
  rw [show revV xs = (xs.reverse, true) by simp [revV, hok]]
  rw [hok] at hgood
  have HG := hide hgood; clear hgood
  have hlen := road_len hok
  obtain ⟨hl2, hl12⟩ := hlen
  clear hok
  obtain ⟨A, cap, rfl, hr, _, _⟩ := HI.out
  rw [HB.out] at hr
  have HR := hide hr; clear hr
  go_enter Try.func22, Try.ntmps22
  go_wp2_with fail
  refine HG.out.mono ?_; rintro e w1 ⟨rfl, hb1⟩
  have B2 := bstep B1 hb1 s1
  have hown := (own_empty w (Below.refl _ _) (show B ≤ _ by rw [HB.out]; exact Nat.le_refl _)).below hb1
  have HO := hide hown; clear hown
  clear hb1
  go_wp2_with fail
  go_loopw [4, 5] (fun s i wr => ∃ k : Nat, k ≤ xs.length ∧ i = .int .i64 ((xs.length : Int) - 1 - k) ∧ Own 2 SCorner.enc 58 wr B s (xs.reverse.take k) ∧ Below B w wr) (fun _ i _ => (intOf i + 1).toNat)
  case atStart => exact ⟨0, by omega, by go_num, by rw [List.take_zero]; exact HO.out, B2⟩
  case round =>
    obtain ⟨i, hi, rfl, hown, hbel⟩ := hrel
    have hsz : B ≤ wr.heap.size := by have := hbel.size; rw [HB.out] at this; exact this
    have HOW := hide hown; clear hown
    by_cases hlt : i < xs.length
    · obtain ⟨j, hj⟩ : ∃ j : Nat, j + i + 1 = xs.length := ⟨xs.length - 1 - i, by omega⟩
      have hji : (xs.length : Int) - 1 - i = (j : Int) := by omega
      rw [hji]
      obtain ⟨b, off, rfl, hb, c0, c1⟩ := SCorner.cells HR.out (i := j) (by omega) hbel
      have hst : xs.reverse.take (i + 1) = xs.reverse.take i ++ [⟨xs[j].x, xs[j].y⟩] := by
        rw [take_snoc' (by simpa using hlt)]
        congr 2
        rw [List.getElem_reverse]
        congr 1; omega
      generalize xs[j].x = ax at c0 hst
      generalize xs[j].y = ay at c1 hst
      have HST := hide hst; clear hst
      have hl1 : (xs.reverse.take i).length ≤ 16777216 := by simp; omega
      go_wp2_with (at_builtin; refine wpList_push1 (k := 2) (enc := SCorner.enc) _ rfl _ _ 25 rfl 58 (.agg #[.int .i64 0, .int .i64 0]) 16 Try.underlying25 SCorner.info rfl (by omega) (by omega) SCorner.one (B) _ (xs.reverse.take i) rfl (HOW.out) ((⟨ax, ay⟩ : SCorner)) _ rfl rfl (hl1) (hsz) (hbel) (Nat.le_refl _) rfl ?_; intro v1 w1 ho1 hb1 hg1)
      refine ⟨⟨i + 1, by omega, by go_num, ?_, hb1⟩, by simp [intOf]⟩
      rw [HST.out]; exact ho1
    · have hk : i = xs.length := by omega
      have hL : xs.reverse.take i = xs.reverse := by rw [hk, ← List.length_reverse, List.take_length]
      have HL := hide hL
      have hge : ¬ ((xs.length : Int) - 1 - i ≥ 0) := by omega
      clear hk hL
      go_wp2_with fail
      go_ret2
      exact ⟨_, rfl, by rw [← HL.out]; exact HOW.out, hbel⟩
theorem implReverseRoad_any (v : Value) (xs : List SCorner) (w : World) (h : Is 2 SCorner.enc w v xs) :
    Calls Try.prog 23 #[v] w fun e w' => ∃ r, e = .returned (.tuple #[r, .bool (revV xs).2]) ∧ Own 2 SCorner.enc 58 w' w.heap.size r (revV xs).1 ∧ Below w.heap.size w w' := by
  have hgood := implIsRoadLine_any v xs w h
  have HI := hide h; clear h
  by_cases hok : roadB xs = true
  case neg =>
    rw [show revV xs = ([], false) by simp [revV, hok]]
    rw [Bool.not_eq_true] at hok
    rw [hok] at hgood
    have HG := hide hgood; clear hgood
    go_enter Try.func23, Try.ntmps23
    go_wp2_with fail
    refine HG.out.mono ?_; rintro e w1 ⟨rfl, hb1⟩
    go_wp2_with fail
    go_ret2
    exact ⟨_, rfl, Own.nil, hb1⟩
  rw [show revV xs = (xs.reverse, true) by simp [revV, hok]]
  rw [hok] at hgood
  have HG := hide hgood; clear hgood
  have hlen := road_len hok
  obtain ⟨hl2, hl12⟩ := hlen
  clear hok
  go_enter Try.func23, Try.ntmps23
  go_wp2_with fail
  refine HG.out.mono ?_; rintro e w1 ⟨rfl, hb1⟩
  go_wp2_with fail
  refine (cloneC_any v xs _ (HI.out.below hb1 (Nat.le_refl _)) (by omega) (by omega)).mono ?_; rintro e w2 ⟨r, rfl, ho, hb2⟩
  have B2 := bstep hb1 hb2 hb1.size
  have s1 := hb1.size
  have HO := hide ho; clear ho
  go_wp2_with fail
  refine (reverseC_any r xs _ _ HO.out (by omega) (by omega)).mono ?_; rintro e w3 ⟨rfl, ho, hg⟩
  have B3 := HO.out.belowGrown B2 hg s1 B2.size
  have HO3 := hide (ho.mono s1); clear ho hg
  go_wp2_with fail
  go_ret2
  exact ⟨_, rfl, HO3.out, B3⟩
end Go.Proofs.Ytefnmfkndepfgaa
