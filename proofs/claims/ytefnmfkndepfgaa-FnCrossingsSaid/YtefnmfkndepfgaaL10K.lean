/- Contracts of JoinRoads, in impl and spec: the Lean list joinV. No condition. -/
import Derived.Test.YtefnmfkndepfgaaL10J
namespace Go.Proofs.Ytefnmfkndepfgaa
open Go.RowKit Go.Lib
set_option linter.unusedVariables false
def meetsB (xs ys : List SCorner) : Bool := sameC (xs.getD (xs.length - 1) SCorner.zero).x (xs.getD (xs.length - 1) SCorner.zero).y (ys.getD 0 SCorner.zero).x (ys.getD 0 SCorner.zero).y
def joinV (xs ys : List SCorner) : List SCorner × Bool := if roadB xs && (roadB ys && (meetsB xs ys && roadB (xs ++ ys.drop 1))) then (xs ++ ys.drop 1, true) else ([], false)
theorem joinV_len {xs ys : List SCorner} (hx : xs.length ≤ 1048576) : (joinV xs ys).1.length ≤ 1048576 := by
  unfold joinV; split
  · rename_i h
    simp only [Bool.and_eq_true] at h
    have := road_len h.2.2.2
    show (xs ++ ys.drop 1).length ≤ _
    omega
  · simp
theorem Is.tail {α : Type} {k : Nat} {enc : α → Nat → Value} {w : World} {b off cap : Nat} {xs : List α} (h : Is k enc w (.slice (some ⟨b, off, none⟩) xs.length cap) xs) (h1 : 1 ≤ xs.length) : Is k enc w (.slice (some ⟨b, off + k, none⟩) (xs.length - 1) (cap - 1)) (xs.drop 1) := by
  obtain ⟨A, c, hv, hr, hle, hm⟩ := h
  injection hv with hv1 hv2 hv3
  subst hv1 hv3
  refine ⟨some ⟨b, off + k, none⟩, cap - 1, by rw [List.length_drop], ?_, by rw [List.length_drop]; omega, by omega⟩
  rcases hr with rfl | ⟨b', off', hA, hb, hc⟩
  · simp at h1
  · injection hA with hA; injection hA with hA1 hA2; subst hA1 hA2
    refine .inr ⟨b, off + k, rfl, hb, fun i x hx j hj => ?_⟩
    have := hc (i + 1) x (by rw [List.getElem?_drop] at hx; rw [Nat.add_comm]; exact hx) j hj
    rw [Nat.add_mul, Nat.one_mul] at this
    rw [show off + k + i * k + j = off + (i * k + k) + j by omega]; exact this
theorem Is.rowOf {α : Type} {k : Nat} {enc : α → Nat → Value} {w : World} {A : Option Addr} {n cap : Nat} {xs : List α} (h : Is k enc w (.slice A n cap) xs) : Row k enc w w.heap.size A xs := by
  obtain ⟨A', c, hv, hr, _, _⟩ := h
  injection hv with hv1 hv2 hv3
  subst hv1; exact hr
theorem sameC_comm (a b c d : Int) : sameC a b c d = sameC c d a b := by
  rw [Bool.eq_iff_iff, sameC_iff, sameC_iff]
  constructor <;> (rintro ⟨rfl, rfl⟩; exact ⟨rfl, rfl⟩)
/-- append of the elements ys, read at an address, to a row of the call's own, in a region that draws its order -/
theorem step_push {P : Program} {α : Type} {k : Nat} {enc : α → Nat → Value} (w : World) {ops : Array Oper} {o : Oper} {a : Act} {K : Act → World → Prop} {Q : Exit → Act → World → Prop} {E : Prop} (hgd : o.guard = none) (s x : Operand) (t : TypeId)
    (ho : o.op = .call { callee := .builtin .append, args := #[s, x], argTypes := #[t, t] })
    (e : TypeId) (z : Value) (bytes : Nat) (ht : P.underlying t = some (.slice e)) (hi : (P.info? e).map (fun i => (i.zero, i.size, i.bytes)) = some (some z, k, bytes))
    (hzs : z.cells.size = k) (hk : 0 < k) (hone : ∀ x j, (enc x j).oneCell' = true)
    (base : Nat) (v : Value) (xs : List α) (hs : a.eval s = v) (hown : Own k enc e w base v xs)
    (ad : Addr) (c : Nat) (ys : List α) (hx : a.eval x = .slice (some ad) ys.length c) (hsrc : ∀ j u, (flat k enc ys)[j]? = some u → w.cell? (ad.add j) = some u)
    (hbytes : (xs.length + ys.length) * bytes ≤ 140737488355328) (h63 : xs.length + ys.length ≤ 9223372036854775807) (hbase : base ≤ w.heap.size)
    {B : Nat} {a0 : World} (hbel : Below B a0 w) (hB : B ≤ base)
    (h : ∀ v' w', Own k enc e w' base v' (xs ++ ys) → Below B a0 w' → w.grownBy w' v.ownBlock → K (a.put o.dst v') w') :
    if Region.wanted o (yielded ops a.tmps) = true then Oper.wp P o a w K Q else E := by
  have hwd : Region.wanted o (yielded ops a.tmps) = true := by simp [Region.wanted, hgd]
  rw [if_pos hwd]
  obtain ⟨i, h1, h2, h3, h4⟩ := info_parts' hi
  refine wp_append_own w s x t ho base e i z k bytes ht h1 h2 h3 h4 hzs hk v xs.length (flat k enc xs) hs hown.ownsRow ad ys.length c (flat k enc ys) hx flat_length hsrc (one_cells hone ys) (by simp only [maxLen]; omega) hbytes hbase ?_
  intro v' w' h2 h3 h4
  rw [← flat_append] at h2
  exact h v' w' (Own.of_ownsRow h2 (by simp)) (hown.belowGrown hbel h3 hB (by omega)) h3
theorem specJoinRoads_any (v : Value) (xs : List SCorner) (v' : Value) (ys : List SCorner) (w : World) (h : Is 2 SCorner.enc w v xs) (h' : Is 2 SCorner.enc w v' ys) :
    Calls Try.prog 28 #[v, v'] w fun e w' => ∃ r, e = .returned (.tuple #[r, .bool (joinV xs ys).2]) ∧ Own 2 SCorner.enc 58 w' w.heap.size r (joinV xs ys).1 ∧ Below w.heap.size w w' := by
  have hga := fun n : Later w => l10Good_is v xs n.W (h.below n.h (Nat.le_refl _))
  have hgb := fun n : Later w => l10Good_is v' ys n.W (h'.below n.h (Nat.le_refl _))
  by_cases h1 : roadB xs = true
  case neg =>
    rw [show joinV xs ys = ([], false) by simp [joinV, h1]]
    rw [Bool.not_eq_true] at h1
    rw [h1] at hga
    have HGa := hide hga; have HGb := hide hgb; clear hga hgb h h'
    go_enter Try.func28, Try.ntmps28
    go_wp2_with fail
    (refine wp_region_later (by kernel_rfl) (by kernel_rfl) ?_; (repeat (go_big_quiet_step ((first | (go_at_call 53; (with_reducible exact later_call (HGa.out _))) | (go_at_call 53; (with_reducible exact later_call (HGb.out _))))))); refine wpQuiet_nil ?_; intro _ hw'; obtain ⟨nq, hw''⟩ := hw'; subst hw'')
    have B2 := bstep (Below.refl w.heap.size w) nq.h (Nat.le_refl _)
    have hs2 : w.heap.size ≤ nq.W.heap.size := nq.h.size
    generalize nq.W = W2 at B2 hs2
    go_wp2_with fail
    go_ret2
    exact ⟨_, rfl, own_empty W2 B2 hs2, B2.alloc hs2 _⟩
  rw [h1] at hga
  have HGa := hide hga; clear hga
  by_cases h2 : roadB ys = true
  case neg =>
    rw [show joinV xs ys = ([], false) by simp [joinV, h2]]
    rw [Bool.not_eq_true] at h2
    rw [h2] at hgb
    have HGb := hide hgb; clear hgb h h'
    go_enter Try.func28, Try.ntmps28
    go_wp2_with fail
    (refine wp_region_later (by kernel_rfl) (by kernel_rfl) ?_; (repeat (go_big_quiet_step ((first | (go_at_call 53; (with_reducible exact later_call (HGa.out _))) | (go_at_call 53; (with_reducible exact later_call (HGb.out _))))))); refine wpQuiet_nil ?_; intro _ hw'; obtain ⟨nq, hw''⟩ := hw'; subst hw'')
    have B2 := bstep (Below.refl w.heap.size w) nq.h (Nat.le_refl _)
    have hs2 : w.heap.size ≤ nq.W.heap.size := nq.h.size
    generalize nq.W = W2 at B2 hs2
    go_wp2_with fail
    go_ret2
    exact ⟨_, rfl, own_empty W2 B2 hs2, B2.alloc hs2 _⟩
  rw [h2] at hgb
  have HGb := hide hgb; clear hgb
  obtain ⟨l1, l2⟩ := road_len h1
  obtain ⟨l3, l4⟩ := road_len h2
  have HI := hide h; have HI' := hide h'
  obtain ⟨A, cap, rfl, hr, _, _⟩ := h
  obtain ⟨A', cap', rfl, hr', hle', hmx'⟩ := h'
  obtain ⟨m, hm⟩ : ∃ m, xs.length = m + 1 := ⟨xs.length - 1, by omega⟩
  obtain ⟨b, off, rfl, hb, c0, c1⟩ := SCorner.cells hr (i := m) (by omega) (Below.refl _ _)
  obtain ⟨b', off', rfl, hb', d0, d1⟩ := SCorner.cells hr' (i := 0) (by omega) (Below.refl _ _)
  rw [Nat.zero_mul, Nat.add_zero] at d0 d1
  have hmeet : meetsB xs ys = sameC xs[m].x xs[m].y ys[0].x ys[0].y := by
    unfold meetsB
    rw [show xs.length - 1 = m by omega, getD_lt _ (show m < xs.length by omega), getD_lt _ (show 0 < ys.length by omega)]
  have hrun := SCorner.neq_run
  have n0 := fun n => later_cell c0 n; have n1 := fun n => later_cell c1 n
  have n2 := fun n => later_cell d0 n; have n3 := fun n => later_cell d1 n
  clear hr hr' c0 c1 d0 d1
  have hidx : ((xs.length : Int) - 1).toNat = m := by omega
  generalize xs[m].x = ax at n0 hmeet; generalize xs[m].y = ay at n1 hmeet
  generalize ys[0].x = bx at n2 hmeet; generalize ys[0].y = b_ at n3 hmeet
  clear hm
  by_cases h3 : meetsB xs ys = true
  case neg =>
    rw [show joinV xs ys = ([], false) by simp [joinV, h3]]
    rw [Bool.not_eq_true] at h3
    rw [h3] at hmeet
    have he := hmeet.symm
    clear hmeet h1 h2 h3
    go_enter Try.func28, Try.ntmps28
    go_wp2_with fail
    (refine wp_region_later (by kernel_rfl) (by kernel_rfl) ?_; (repeat (go_big_quiet_step ((first | (go_at_call 53; (with_reducible exact later_call (HGa.out _))) | (go_at_call 53; (with_reducible exact later_call (HGb.out _))))))); refine wpQuiet_nil ?_; intro _ hw'; obtain ⟨nq, hw''⟩ := hw'; subst hw'')
    have B2 := bstep (Below.refl w.heap.size w) nq.h (Nat.le_refl _)
    have hs2 : w.heap.size ≤ nq.W.heap.size := nq.h.size
    generalize nq.W = W2 at B2 hs2
    go_wp2_with fail
    go_ret2
    exact ⟨_, rfl, own_empty W2 B2 hs2, B2.alloc hs2 _⟩
  rw [h3] at hmeet
  have he := hmeet.symm
  clear hmeet
  by_cases h5 : roadB (xs ++ ys.drop 1) = true
  case pos =>
    have hcat := fun V W (i : Is 2 SCorner.enc W V (xs ++ ys.drop 1)) => l10Good_is V _ W i
    rw [show joinV xs ys = (xs ++ ys.drop 1, true) by unfold joinV; rw [h1, h2, h3, h5]; rfl]
    rw [h5] at hcat
    have HCAT := hide hcat; clear hcat h1 h2 h3 h5
    go_enter Try.func28, Try.ntmps28
    go_wp2_with fail
    (refine wp_region_later (by kernel_rfl) (by kernel_rfl) ?_; (repeat (go_big_quiet_step ((first | (go_at_call 53; (with_reducible exact later_call (HGa.out _))) | (go_at_call 53; (with_reducible exact later_call (HGb.out _))))))); refine wpQuiet_nil ?_; intro _ hw'; obtain ⟨nq, hw''⟩ := hw'; subst hw'')
    have B2 := bstep (Below.refl w.heap.size w) nq.h (Nat.le_refl _)
    have hs2 : w.heap.size ≤ nq.W.heap.size := nq.h.size
    generalize nq.W = W2 at B2 hs2
    clear nq n0 n1 n2 n3 he hrun hidx
    go_wp2_with fail
    have q0 : (1 : Int) ≤ (ys.length : Int) := by omega
    have q1 : (ys.length : Int) ≤ (cap' : Int) := by omega
    have q2 : 1 ≤ ys.length := by omega
    have q3 : (1 : Int) ≤ (cap' : Int) := by omega
    have q4 : ¬ cap' = 1 := by omega
    have hO0 : Own 2 SCorner.enc 58 (W2.drew.alloc (.cells #[] 58)) w.heap.size (.slice (some ⟨W2.heap.size, 0, none⟩) 0 0) ([] : List SCorner) := own_empty W2.drew B2.drew hs2
    have hbA : Below w.heap.size w (W2.drew.alloc (.cells #[] 58)) := B2.drew.alloc hs2 _
    have hsA := hbA.size
    have hsrcA := src_row (Is.rowOf (HI.out.below hbA (Nat.le_refl _))) (by omega)
    have hy1 : (([] : List SCorner).length + xs.length) * 16 ≤ 140737488355328 := by simp; omega
    have hy2 : ([] : List SCorner).length + xs.length ≤ 9223372036854775807 := by simp; omega
    have hy3 : (([] ++ xs : List SCorner).length + (ys.drop 1).length) * 16 ≤ 140737488355328 := by simp; omega
    have hy4 : ([] ++ xs : List SCorner).length + (ys.drop 1).length ≤ 9223372036854775807 := by simp; omega
    have HO0 := hide hO0; have HBA := hide hbA; have HSA := hide hsA; have HSRC := hide hsrcA; have HY1 := hide hy1; have HY2 := hide hy2; have HY3 := hide hy3; have HY4 := hide hy4
    clear hO0 hbA hsA hsrcA hy1 hy2 hy3 hy4
    go_region_held3 (fun _ => True) (trivial)
      (first
        | (refine step_push (k := 2) (enc := SCorner.enc) _ (by rfl) _ _ 25 (by rfl) 58 (.agg #[.int .i64 0, .int .i64 0]) 16 Try.underlying25 SCorner.info rfl (by omega) SCorner.one w.heap.size _ ([] ++ xs) (by rfl) HO1.out ⟨b', off' + 2, none⟩ (cap' - 1) (ys.drop 1) (by rw [List.length_drop]; rfl) (src_row (Is.rowOf ((HI'.out.below hb1 (Nat.le_refl _)).tail q2)) (by omega)) HY3.out HY4.out hb1.size hb1 (Nat.le_refl _) ?_; intro v2 w2 ho2 hb2 hg2; have HO2 := hide ho2; clear ho2 hg2)
        | (refine step_push (k := 2) (enc := SCorner.enc) _ (by rfl) _ _ 25 (by rfl) 58 (.agg #[.int .i64 0, .int .i64 0]) 16 Try.underlying25 SCorner.info rfl (by omega) SCorner.one w.heap.size _ ([] : List SCorner) (by rfl) HO0.out ⟨b, off, none⟩ cap xs (by rfl) HSRC.out HY1.out HY2.out HSA.out HBA.out (Nat.le_refl _) ?_; intro v1 w1 ho1 hb1 hg1; have HO1 := hide ho1; clear ho1 hg1))
    all_goals
      go_wp2_with fail
      refine (HCAT.out _ _ HO2.out.is).mono ?_; rintro e w3 ⟨rfl, hb3⟩
      have hs3 := hb2.size
      go_wp2_with fail
      go_ret2
      exact ⟨_, rfl, HO2.out.below hb3, bstep hb2 hb3 hs3⟩
  case neg =>
    have hcat := fun V W (i : Is 2 SCorner.enc W V (xs ++ ys.drop 1)) => l10Good_is V _ W i
    rw [Bool.not_eq_true] at h5
    rw [show joinV xs ys = ([], false) by unfold joinV; rw [h1, h2, h3, h5]; rfl]
    rw [h5] at hcat
    have HCAT := hide hcat; clear hcat h1 h2 h3 h5
    go_enter Try.func28, Try.ntmps28
    go_wp2_with fail
    (refine wp_region_later (by kernel_rfl) (by kernel_rfl) ?_; (repeat (go_big_quiet_step ((first | (go_at_call 53; (with_reducible exact later_call (HGa.out _))) | (go_at_call 53; (with_reducible exact later_call (HGb.out _))))))); refine wpQuiet_nil ?_; intro _ hw'; obtain ⟨nq, hw''⟩ := hw'; subst hw'')
    have B2 := bstep (Below.refl w.heap.size w) nq.h (Nat.le_refl _)
    have hs2 : w.heap.size ≤ nq.W.heap.size := nq.h.size
    generalize nq.W = W2 at B2 hs2
    clear nq n0 n1 n2 n3 he hrun hidx
    go_wp2_with fail
    have q0 : (1 : Int) ≤ (ys.length : Int) := by omega
    have q1 : (ys.length : Int) ≤ (cap' : Int) := by omega
    have q2 : 1 ≤ ys.length := by omega
    have q3 : (1 : Int) ≤ (cap' : Int) := by omega
    have q4 : ¬ cap' = 1 := by omega
    have hO0 : Own 2 SCorner.enc 58 (W2.drew.alloc (.cells #[] 58)) w.heap.size (.slice (some ⟨W2.heap.size, 0, none⟩) 0 0) ([] : List SCorner) := own_empty W2.drew B2.drew hs2
    have hbA : Below w.heap.size w (W2.drew.alloc (.cells #[] 58)) := B2.drew.alloc hs2 _
    have hsA := hbA.size
    have hsrcA := src_row (Is.rowOf (HI.out.below hbA (Nat.le_refl _))) (by omega)
    have hy1 : (([] : List SCorner).length + xs.length) * 16 ≤ 140737488355328 := by simp; omega
    have hy2 : ([] : List SCorner).length + xs.length ≤ 9223372036854775807 := by simp; omega
    have hy3 : (([] ++ xs : List SCorner).length + (ys.drop 1).length) * 16 ≤ 140737488355328 := by simp; omega
    have hy4 : ([] ++ xs : List SCorner).length + (ys.drop 1).length ≤ 9223372036854775807 := by simp; omega
    have HO0 := hide hO0; have HBA := hide hbA; have HSA := hide hsA; have HSRC := hide hsrcA; have HY1 := hide hy1; have HY2 := hide hy2; have HY3 := hide hy3; have HY4 := hide hy4
    clear hO0 hbA hsA hsrcA hy1 hy2 hy3 hy4
    go_region_held3 (fun _ => True) (trivial)
      (first
        | (refine step_push (k := 2) (enc := SCorner.enc) _ (by rfl) _ _ 25 (by rfl) 58 (.agg #[.int .i64 0, .int .i64 0]) 16 Try.underlying25 SCorner.info rfl (by omega) SCorner.one w.heap.size _ ([] ++ xs) (by rfl) HO1.out ⟨b', off' + 2, none⟩ (cap' - 1) (ys.drop 1) (by rw [List.length_drop]; rfl) (src_row (Is.rowOf ((HI'.out.below hb1 (Nat.le_refl _)).tail q2)) (by omega)) HY3.out HY4.out hb1.size hb1 (Nat.le_refl _) ?_; intro v2 w2 ho2 hb2 hg2; have HO2 := hide ho2; clear ho2 hg2)
        | (refine step_push (k := 2) (enc := SCorner.enc) _ (by rfl) _ _ 25 (by rfl) 58 (.agg #[.int .i64 0, .int .i64 0]) 16 Try.underlying25 SCorner.info rfl (by omega) SCorner.one w.heap.size _ ([] : List SCorner) (by rfl) HO0.out ⟨b, off, none⟩ cap xs (by rfl) HSRC.out HY1.out HY2.out HSA.out HBA.out (Nat.le_refl _) ?_; intro v1 w1 ho1 hb1 hg1; have HO1 := hide ho1; clear ho1 hg1))
    all_goals
      go_wp2_with fail
      refine (HCAT.out _ _ HO2.out.is).mono ?_; rintro e w3 ⟨rfl, hb3⟩
      have hs3 := hb2.size
      go_wp2_with fail
      go_ret2
      exact ⟨_, rfl, own_empty w3 (bstep hb2 hb3 hs3) (Nat.le_trans hs3 hb3.size), (bstep hb2 hb3 hs3).alloc (Nat.le_trans hs3 hb3.size) _⟩

theorem implJoinRoads_any (v : Value) (xs : List SCorner) (v' : Value) (ys : List SCorner) (w : World) (h : Is 2 SCorner.enc w v xs) (h' : Is 2 SCorner.enc w v' ys) :
    Calls Try.prog 29 #[v, v'] w fun e w' => ∃ r, e = .returned (.tuple #[r, .bool (joinV xs ys).2]) ∧ Own 2 SCorner.enc 58 w' w.heap.size r (joinV xs ys).1 ∧ Below w.heap.size w w' := by
  have hga := fun n : Later w => implIsRoadLine_any v xs n.W (h.below n.h (Nat.le_refl _))
  have hgb := fun n : Later w => implIsRoadLine_any v' ys n.W (h'.below n.h (Nat.le_refl _))
  by_cases h1 : roadB xs = true
  case neg =>
    rw [show joinV xs ys = ([], false) by simp [joinV, h1]]
    rw [Bool.not_eq_true] at h1
    rw [h1] at hga
    have HGa := hide hga; have HGb := hide hgb; clear hga hgb h h'
    go_enter Try.func29, Try.ntmps29
    go_wp2_with fail
    (refine wp_region_later (by kernel_rfl) (by kernel_rfl) ?_; (repeat (go_big_quiet_step ((first | (go_at_call 18; (with_reducible exact later_call (HGa.out _))) | (go_at_call 18; (with_reducible exact later_call (HGb.out _))))))); refine wpQuiet_nil ?_; intro _ hw'; obtain ⟨nq, hw''⟩ := hw'; subst hw'')
    have B2 := bstep (Below.refl w.heap.size w) nq.h (Nat.le_refl _)
    have hs2 : w.heap.size ≤ nq.W.heap.size := nq.h.size
    generalize nq.W = W2 at B2 hs2
    go_wp2_with fail
    go_ret2
    exact ⟨_, rfl, Own.nil, B2⟩
  rw [h1] at hga
  have HGa := hide hga; clear hga
  by_cases h2 : roadB ys = true
  case neg =>
    rw [show joinV xs ys = ([], false) by simp [joinV, h2]]
    rw [Bool.not_eq_true] at h2
    rw [h2] at hgb
    have HGb := hide hgb; clear hgb h h'
    go_enter Try.func29, Try.ntmps29
    go_wp2_with fail
    (refine wp_region_later (by kernel_rfl) (by kernel_rfl) ?_; (repeat (go_big_quiet_step ((first | (go_at_call 18; (with_reducible exact later_call (HGa.out _))) | (go_at_call 18; (with_reducible exact later_call (HGb.out _))))))); refine wpQuiet_nil ?_; intro _ hw'; obtain ⟨nq, hw''⟩ := hw'; subst hw'')
    have B2 := bstep (Below.refl w.heap.size w) nq.h (Nat.le_refl _)
    have hs2 : w.heap.size ≤ nq.W.heap.size := nq.h.size
    generalize nq.W = W2 at B2 hs2
    go_wp2_with fail
    go_ret2
    exact ⟨_, rfl, Own.nil, B2⟩
  rw [h2] at hgb
  have HGb := hide hgb; clear hgb
  obtain ⟨l1, l2⟩ := road_len h1
  obtain ⟨l3, l4⟩ := road_len h2
  have HI := hide h; have HI' := hide h'
  obtain ⟨A, cap, rfl, hr, _, _⟩ := h
  obtain ⟨A', cap', rfl, hr', hle', hmx'⟩ := h'
  obtain ⟨m, hm⟩ : ∃ m, xs.length = m + 1 := ⟨xs.length - 1, by omega⟩
  obtain ⟨b, off, rfl, hb, c0, c1⟩ := SCorner.cells hr (i := m) (by omega) (Below.refl _ _)
  obtain ⟨b', off', rfl, hb', d0, d1⟩ := SCorner.cells hr' (i := 0) (by omega) (Below.refl _ _)
  rw [Nat.zero_mul, Nat.add_zero] at d0 d1
  have hmeet : meetsB xs ys = sameC xs[m].x xs[m].y ys[0].x ys[0].y := by
    unfold meetsB
    rw [show xs.length - 1 = m by omega, getD_lt _ (show m < xs.length by omega), getD_lt _ (show 0 < ys.length by omega)]
  rw [sameC_comm] at hmeet
  have hrun := SCorner.neq_run
  have n0 := fun n => later_cell c0 n; have n1 := fun n => later_cell c1 n
  have n2 := fun n => later_cell d0 n; have n3 := fun n => later_cell d1 n
  clear hr hr' c0 c1 d0 d1
  have hidx : ((xs.length : Int) - 1).toNat = m := by omega
  generalize xs[m].x = ax at n0 hmeet; generalize xs[m].y = ay at n1 hmeet
  generalize ys[0].x = bx at n2 hmeet; generalize ys[0].y = b_ at n3 hmeet
  clear hm
  by_cases h3 : meetsB xs ys = true
  case neg =>
    rw [show joinV xs ys = ([], false) by simp [joinV, h3]]
    rw [Bool.not_eq_true] at h3
    rw [h3] at hmeet
    have he := hmeet.symm
    clear hmeet h1 h2 h3
    go_enter Try.func29, Try.ntmps29
    go_wp2_with fail
    (refine wp_region_later (by kernel_rfl) (by kernel_rfl) ?_; (repeat (go_big_quiet_step ((first | (go_at_call 18; (with_reducible exact later_call (HGa.out _))) | (go_at_call 18; (with_reducible exact later_call (HGb.out _))))))); refine wpQuiet_nil ?_; intro _ hw'; obtain ⟨nq, hw''⟩ := hw'; subst hw'')
    have B2 := bstep (Below.refl w.heap.size w) nq.h (Nat.le_refl _)
    have hs2 : w.heap.size ≤ nq.W.heap.size := nq.h.size
    generalize nq.W = W2 at B2 hs2
    go_wp2_with fail
    go_ret2
    exact ⟨_, rfl, Own.nil, B2⟩
  rw [h3] at hmeet
  have he := hmeet.symm
  clear hmeet
  by_cases h5 : roadB (xs ++ ys.drop 1) = true
  case pos =>
    have hcat := fun V W (i : Is 2 SCorner.enc W V (xs ++ ys.drop 1)) => implIsRoadLine_any V _ W i
    rw [show joinV xs ys = (xs ++ ys.drop 1, true) by unfold joinV; rw [h1, h2, h3, h5]; rfl]
    rw [h5] at hcat
    have HCAT := hide hcat; clear hcat h1 h2 h3 h5
    go_enter Try.func29, Try.ntmps29
    go_wp2_with fail
    (refine wp_region_later (by kernel_rfl) (by kernel_rfl) ?_; (repeat (go_big_quiet_step ((first | (go_at_call 18; (with_reducible exact later_call (HGa.out _))) | (go_at_call 18; (with_reducible exact later_call (HGb.out _))))))); refine wpQuiet_nil ?_; intro _ hw'; obtain ⟨nq, hw''⟩ := hw'; subst hw'')
    have B2 := bstep (Below.refl w.heap.size w) nq.h (Nat.le_refl _)
    have hs2 : w.heap.size ≤ nq.W.heap.size := nq.h.size
    generalize nq.W = W2 at B2 hs2
    clear nq n0 n1 n2 n3 he hrun hidx
    go_wp2_with fail
    have hIx := HI.out.below (B2.alloc hs2 (.cells #[.slice (some ⟨b, off, none⟩) xs.length cap, .slice (some ⟨b', off' + 2, none⟩) (ys.length - 1) (cap' - 1)] 25)) (Nat.le_refl _)
    have hIy := (HI'.out.below (B2.alloc hs2 (.cells #[.slice (some ⟨b, off, none⟩) xs.length cap, .slice (some ⟨b', off' + 2, none⟩) (ys.length - 1) (cap' - 1)] 25)) (Nat.le_refl _)).tail (by omega)
    have hlit : Is 1 slotV (W2.alloc (.cells #[.slice (some ⟨b, off, none⟩) xs.length cap, .slice (some ⟨b', off' + 2, none⟩) (ys.length - 1) (cap' - 1)] 25)) (.slice (some ⟨W2.heap.size, 0, none⟩) 2 2) [(.slice (some ⟨b, off, none⟩) xs.length cap, xs), (.slice (some ⟨b', off' + 2, none⟩) (ys.length - 1) (cap' - 1), ys.drop 1)] := by
      refine Is.lit rfl (by simp [maxLen]) ?_
      intro j x hj hx c hc
      obtain rfl : c = 0 := by omega
      have hj' : j = 0 ∨ j = 1 := by simp at hj; omega
      rcases hj' with rfl | rfl <;> (simp at hx; subst hx; rfl)
    refine (concatC_any _ _ _ hlit (by
      intro p hp
      simp only [List.mem_cons, List.not_mem_nil, or_false] at hp
      rcases hp with rfl | rfl
      · exact ⟨hIx, by show 1 ≤ xs.length; omega, by show xs.length ≤ 1000; omega⟩
      · exact ⟨hIy, by show 1 ≤ (ys.drop 1).length; rw [List.length_drop]; omega, by show (ys.drop 1).length ≤ 1000; rw [List.length_drop]; omega⟩) (by simp) (by simp)).mono ?_; rintro e w2 ⟨r, rfl, ho2, hb2'⟩
    have hb2 := bstep (B2.alloc hs2 (.cells #[.slice (some ⟨b, off, none⟩) xs.length cap, .slice (some ⟨b', off' + 2, none⟩) (ys.length - 1) (cap' - 1)] 25)) hb2' (by simp; omega)
    rw [show cat [(.slice (some ⟨b, off, none⟩) xs.length cap, xs), (.slice (some ⟨b', off' + 2, none⟩) (ys.length - 1) (cap' - 1), ys.drop 1)] = xs ++ ys.drop 1 by simp [cat]] at ho2
    have HO2 := hide (ho2.mono (show w.heap.size ≤ _ by simp; omega)); clear ho2 hb2' hIx hIy hlit
    go_wp2_with fail
    refine (HCAT.out _ _ HO2.out.is).mono ?_; rintro e w3 ⟨rfl, hb3⟩
    have hs3 := hb2.size
    go_wp2_with fail
    go_ret2
    exact ⟨_, rfl, HO2.out.below hb3, bstep hb2 hb3 hs3⟩
  case neg =>
    have hcat := fun V W (i : Is 2 SCorner.enc W V (xs ++ ys.drop 1)) => implIsRoadLine_any V _ W i
    rw [Bool.not_eq_true] at h5
    rw [show joinV xs ys = ([], false) by unfold joinV; rw [h1, h2, h3, h5]; rfl]
    rw [h5] at hcat
    have HCAT := hide hcat; clear hcat h1 h2 h3 h5
    go_enter Try.func29, Try.ntmps29
    go_wp2_with fail
    (refine wp_region_later (by kernel_rfl) (by kernel_rfl) ?_; (repeat (go_big_quiet_step ((first | (go_at_call 18; (with_reducible exact later_call (HGa.out _))) | (go_at_call 18; (with_reducible exact later_call (HGb.out _))))))); refine wpQuiet_nil ?_; intro _ hw'; obtain ⟨nq, hw''⟩ := hw'; subst hw'')
    have B2 := bstep (Below.refl w.heap.size w) nq.h (Nat.le_refl _)
    have hs2 : w.heap.size ≤ nq.W.heap.size := nq.h.size
    generalize nq.W = W2 at B2 hs2
    clear nq n0 n1 n2 n3 he hrun hidx
    go_wp2_with fail
    have hIx := HI.out.below (B2.alloc hs2 (.cells #[.slice (some ⟨b, off, none⟩) xs.length cap, .slice (some ⟨b', off' + 2, none⟩) (ys.length - 1) (cap' - 1)] 25)) (Nat.le_refl _)
    have hIy := (HI'.out.below (B2.alloc hs2 (.cells #[.slice (some ⟨b, off, none⟩) xs.length cap, .slice (some ⟨b', off' + 2, none⟩) (ys.length - 1) (cap' - 1)] 25)) (Nat.le_refl _)).tail (by omega)
    have hlit : Is 1 slotV (W2.alloc (.cells #[.slice (some ⟨b, off, none⟩) xs.length cap, .slice (some ⟨b', off' + 2, none⟩) (ys.length - 1) (cap' - 1)] 25)) (.slice (some ⟨W2.heap.size, 0, none⟩) 2 2) [(.slice (some ⟨b, off, none⟩) xs.length cap, xs), (.slice (some ⟨b', off' + 2, none⟩) (ys.length - 1) (cap' - 1), ys.drop 1)] := by
      refine Is.lit rfl (by simp [maxLen]) ?_
      intro j x hj hx c hc
      obtain rfl : c = 0 := by omega
      have hj' : j = 0 ∨ j = 1 := by simp at hj; omega
      rcases hj' with rfl | rfl <;> (simp at hx; subst hx; rfl)
    refine (concatC_any _ _ _ hlit (by
      intro p hp
      simp only [List.mem_cons, List.not_mem_nil, or_false] at hp
      rcases hp with rfl | rfl
      · exact ⟨hIx, by show 1 ≤ xs.length; omega, by show xs.length ≤ 1000; omega⟩
      · exact ⟨hIy, by show 1 ≤ (ys.drop 1).length; rw [List.length_drop]; omega, by show (ys.drop 1).length ≤ 1000; rw [List.length_drop]; omega⟩) (by simp) (by simp)).mono ?_; rintro e w2 ⟨r, rfl, ho2, hb2'⟩
    have hb2 := bstep (B2.alloc hs2 (.cells #[.slice (some ⟨b, off, none⟩) xs.length cap, .slice (some ⟨b', off' + 2, none⟩) (ys.length - 1) (cap' - 1)] 25)) hb2' (by simp; omega)
    rw [show cat [(.slice (some ⟨b, off, none⟩) xs.length cap, xs), (.slice (some ⟨b', off' + 2, none⟩) (ys.length - 1) (cap' - 1), ys.drop 1)] = xs ++ ys.drop 1 by simp [cat]] at ho2
    have HO2 := hide (ho2.mono (show w.heap.size ≤ _ by simp; omega)); clear ho2 hb2' hIx hIy hlit
    go_wp2_with fail
    refine (HCAT.out _ _ HO2.out.is).mono ?_; rintro e w3 ⟨rfl, hb3⟩
    have hs3 := hb2.size
    go_wp2_with fail
    go_ret2
    exact ⟨_, rfl, Own.nil, bstep hb2 hb3 hs3⟩

end Go.Proofs.Ytefnmfkndepfgaa
