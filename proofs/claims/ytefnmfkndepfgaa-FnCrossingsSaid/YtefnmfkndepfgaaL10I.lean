/- Contracts of PlainRoad, in impl and spec: the Lean list plainV. No condition. -/
import Derived.Test.YtefnmfkndepfgaaL10H
namespace Go.Proofs.Ytefnmfkndepfgaa
open Go.RowKit
set_option linter.unusedVariables false
section
variable {P : Program} {α : Type} {k : Nat} {enc : α → Nat → Value}
/-- wpList_push1, the new block's number by its own equation -/
theorem wpList_push1s (w : World) {w0 : World} {cs : Array Value} {ops : Array Oper} {rest : List Oper} {o : Oper} {a : Act} {Q : Exit → Act → World → Prop} (hgd : o.guard = none) (s x : Operand) (t : TypeId)
    (ho : o.op = .call { callee := .builtin .append, args := #[s, x], argTypes := #[t, t] })
    (e : TypeId) (z : Value) (bytes : Nat) (ht : P.underlying t = some (.slice e)) (hi : (P.info? e).map (fun i => (i.zero, i.size, i.bytes)) = some (some z, k, bytes))
    (hzs : z.cells.size = k) (hk : 0 < k) (hby : bytes ≤ 4096) (hone : ∀ x j, (enc x j).oneCell' = true)
    (base : Nat) (v : Value) (xs : List α) (hs : a.eval s = v) (hown : Own k enc e w0 base v xs) (y : α) (c m : Nat) (hm : m = w0.heap.size) (hx : a.eval x = .slice (some ⟨m, 0, none⟩) 1 c) (hcs : cs.toList = flat k enc [y])
    (hlen : xs.length ≤ 16777216) (hbase : base ≤ w0.heap.size) {B : Nat} {a0 : World} (hbel : Below B a0 w0) (hB : B ≤ base) (hw : w = w0.alloc (.cells cs e))
    (h : ∀ v' w', Own k enc e w' base v' (xs ++ [y]) → Below B a0 w' → (w0.alloc (.cells cs e)).grownBy w' v.ownBlock → wpList P ops Q rest (a.put o.dst v') w') : wpList P ops Q (o :: rest) a w := by
  subst hm
  exact wpList_push1 w hgd s x t ho e z bytes ht hi hzs hk hby hone base v xs hs hown y c hx hcs hlen hbase hbel hB hw h
end
theorem bendU_four (ax ay bx b_ cx cy : Int) : bendU ax ay bx b_ cx cy = 108 ∨ bendU ax ay bx b_ cx cy = 114 ∨ bendU ax ay bx b_ cx cy = 115 ∨ bendU ax ay bx b_ cx cy = 98 := by
  unfold bendU
  split
  · simp
  · split
    · simp
    · split <;> simp
theorem let_nat (u : UInt8) : decide ((u.toNat : Int) = 115) = decide (u = 115) := by
  rw [decide_eq_decide]
  constructor
  · intro h
    apply UInt8.toNat_inj.1
    have : (115 : UInt8).toNat = 115 := rfl
    omega
  · rintro rfl; rfl
/-- whether the corner at place i stays -/
def stays (xs : List SCorner) (i : Nat) : Bool := decide (i = 0) || (decide (i + 1 = xs.length) || !decide (bendAt xs (i - 1) = 115))
def plainN (xs : List SCorner) (n : Nat) : List SCorner := ((List.range n).filter (stays xs)).map fun i => xs.getD i SCorner.zero
theorem plainN_succ (xs : List SCorner) (n : Nat) : plainN xs (n + 1) = plainN xs n ++ if stays xs n then [xs.getD n SCorner.zero] else [] := by
  simp only [plainN, List.range_succ, List.filter_append, List.map_append]
  congr 1
  by_cases h : stays xs n = true <;> simp [List.filter_cons, h]
theorem plainN_le (xs : List SCorner) (n : Nat) : (plainN xs n).length ≤ n := by
  simp only [plainN, List.length_map]
  exact Nat.le_trans (List.length_filter_le _ _) (by simp)
def plainV (xs : List SCorner) : List SCorner × Bool := if roadB xs then (plainN xs xs.length, true) else ([], false)
theorem plainV_len {xs : List SCorner} (h : xs.length ≤ 1048576) : (plainV xs).1.length ≤ 1048576 := by
  unfold plainV; split
  · have := plainN_le xs xs.length; simp only; omega
  · simp
theorem specPlainRoad_any (v : Value) (xs : List SCorner) (w : World) (h : Is 2 SCorner.enc w v xs) :
    Calls Try.prog 32 #[v] w fun e w' => ∃ r, e = .returned (.tuple #[r, .bool (plainV xs).2]) ∧ Own 2 SCorner.enc 58 w' w.heap.size r (plainV xs).1 ∧ Below w.heap.size w w' := by
  have B1 := below_alloc w (.cells #[] 58)
  have hgood := l10Good_is v xs _ (h.below B1 (Nat.le_refl _))
  have HI := hide h; clear h
  generalize hB : w.heap.size = B at B1 ⊢
  have HB := hide hB; clear hB
  have s1 := B1.size
  rw [HB.out] at s1
  by_cases hok : roadB xs = true
  case neg =>
    rw [show plainV xs = ([], false) by simp [plainV, hok]]
    rw [Bool.not_eq_true] at hok
    rw [hok] at hgood
    have HG := hide hgood; clear hgood
    go_enter Try.func32, Try.ntmps32
    go_wp2_with fail
    refine HG.out.mono ?_; rintro e w1 ⟨rfl, hb1⟩
    go_wp2_with fail
    go_ret2
    exact ⟨_, rfl, (own_empty w (Below.refl _ _) (by rw [HB.out]; exact Nat.le_refl _)).below hb1, bstep B1 hb1 s1⟩
  rw [show plainV xs = (plainN xs xs.length, true) by simp [plainV, hok]]
  rw [hok] at hgood
  have HG := hide hgood; have HOK := hide hok; clear hgood
  have hlen := road_len hok
  obtain ⟨hl2, hl12⟩ := hlen
  clear hok
  obtain ⟨A, cap, rfl, hr, _, _⟩ := HI.out
  rw [HB.out] at hr
  have HR := hide hr; clear hr
  go_enter Try.func32, Try.ntmps32
  go_wp2_with fail
  refine HG.out.mono ?_; rintro e w1 ⟨rfl, hb1⟩
  have B2 := bstep B1 hb1 s1
  have hown := (own_empty w (Below.refl _ _) (show B ≤ _ by rw [HB.out]; exact Nat.le_refl _)).below hb1
  have HO := hide hown; clear hown
  clear hb1
  go_wp2_with fail
  go_loopw [4, 5] (fun s i wr => ∃ k : Nat, k ≤ xs.length ∧ i = .int .i64 (k : Int) ∧ Own 2 SCorner.enc 58 wr B s (plainN xs k) ∧ Below B w wr) (fun _ i _ => xs.length - (intOf i).toNat)
  case atStart => exact ⟨0, by omega, rfl, HO.out, B2⟩
  case round =>
    obtain ⟨i, hi, rfl, hown, hbel⟩ := hrel
    have hsz : B ≤ wr.heap.size := by have := hbel.size; rw [HB.out] at this; exact this
    have HOW := hide hown; clear hown
    have hl1 : (plainN xs i).length ≤ 16777216 := by have := plainN_le xs i; omega
    by_cases hlt : i < xs.length
    · have hst := plainN_succ xs i
      rw [getD_lt _ hlt] at hst
      obtain ⟨b, off, rfl, hb, d0, d1⟩ := SCorner.cells HR.out (i := i) hlt hbel
      by_cases h0 : i = 0 ∨ i + 1 = xs.length
      · rw [show stays xs i = true by rcases h0 with h | h <;> simp [stays, h], if_pos rfl] at hst
        rw [show xs[i] = ⟨xs[i].x, xs[i].y⟩ from rfl] at hst
        generalize xs[i].x = ax at d0 hst
        generalize xs[i].y = ay at d1 hst
        have HST := hide hst; clear hst
        have n0 := fun n => later_cell d0 n; have n1 := fun n => later_cell d1 n
        by_cases hz : i = 0
        · subst hz
          rw [Nat.zero_mul, Nat.add_zero] at d0 d1
          have n0 := fun n => later_cell d0 n; have n1 := fun n => later_cell d1 n
          go_wp2_with fail
          (refine wp_region_later (by kernel_rfl) (by kernel_rfl) ?_; (repeat (go_big_quiet_step (fail))); refine wpQuiet_nil ?_; intro _ hw'; obtain ⟨nq, hw''⟩ := hw'; subst hw'')
          have ho2 := HOW.out.below nq.h
          have B3 := bstep hbel nq.h hsz
          have e0 := n0 nq; have e1 := n1 nq
          have hs2 : B ≤ nq.W.heap.size := Nat.le_trans hsz nq.h.size
          generalize nq.W = W2 at ho2 B3 e0 e1 hs2
          have HO2 := hide ho2; clear ho2 nq n0 n1
          go_wp2_with (at_builtin; refine wpList_push1 (k := 2) (enc := SCorner.enc) _ rfl _ _ 25 rfl 58 (.agg #[.int .i64 0, .int .i64 0]) 16 Try.underlying25 SCorner.info rfl (by omega) (by omega) SCorner.one (B) _ (plainN xs 0) rfl (HO2.out) ((⟨ax, ay⟩ : SCorner)) _ rfl rfl (hl1) (hs2) (B3) (Nat.le_refl _) rfl ?_; intro v1 w1 ho1 hb1 hg1)
          refine ⟨⟨1, by omega, by go_num, ?_, hb1⟩, by simp [intOf]; omega⟩
          rw [show (1 : Nat) = 0 + 1 from rfl, HST.out]; exact ho1
        · have hz' : ¬ (i : Int) = 0 := by omega
          have hz2 : ((i : Int) == 0) = false := beq_false_of_ne hz'
          have he : (i : Int) + 1 = (xs.length : Int) := by omega
          have he2 : ((i : Int) + 1 == (xs.length : Int)) = true := beq_iff_eq.2 he
          clear he
          go_wp2_with fail
          (refine wp_region_later (by kernel_rfl) (by kernel_rfl) ?_; (repeat (go_big_quiet_step (fail))); refine wpQuiet_nil ?_; intro _ hw'; obtain ⟨nq, hw''⟩ := hw'; subst hw'')
          have ho2 := HOW.out.below nq.h
          have B3 := bstep hbel nq.h hsz
          have e0 := n0 nq; have e1 := n1 nq
          have hs2 : B ≤ nq.W.heap.size := Nat.le_trans hsz nq.h.size
          generalize nq.W = W2 at ho2 B3 e0 e1 hs2
          have HO2 := hide ho2; clear ho2 nq n0 n1
          go_wp2_with (at_builtin; refine wpList_push1 (k := 2) (enc := SCorner.enc) _ rfl _ _ 25 rfl 58 (.agg #[.int .i64 0, .int .i64 0]) 16 Try.underlying25 SCorner.info rfl (by omega) (by omega) SCorner.one (B) _ (plainN xs i) rfl (HO2.out) ((⟨ax, ay⟩ : SCorner)) _ rfl rfl (hl1) (hs2) (B3) (Nat.le_refl _) rfl ?_; intro v1 w1 ho1 hb1 hg1)
          refine ⟨⟨i + 1, by omega, by go_num, ?_, hb1⟩, by simp [intOf]; omega⟩
          rw [HST.out]; exact ho1
      · obtain ⟨q, rfl⟩ : ∃ q, i = q + 1 := ⟨i - 1, by omega⟩
        have hq : q + 2 < xs.length := by omega
        obtain ⟨b', off', hA, hb', c0, c1⟩ := SCorner.cells HR.out (i := q) (by omega) hbel
        injection hA with hA; injection hA with hA1 hA2; subst hA1 hA2
        obtain ⟨b', off', hA, hb', e0, e1⟩ := SCorner.cells HR.out (i := q + 2) (by omega) hbel
        injection hA with hA; injection hA with hA1 hA2; subst hA1 hA2
        have i0 := road_corn HOK.out (i := q) (by omega)
        have i1 := road_corn HOK.out (i := q + 1) (by omega)
        have i2 := road_corn HOK.out (i := q + 2) (by omega)
        have hcall := fun W => l10Bend_any _ _ _ _ _ _ W i0 i1 i2
        have hstay : stays xs (q + 1) = !decide (bendU xs[q].x xs[q].y xs[q+1].x xs[q+1].y xs[q+2].x xs[q+2].y = 115) := by
          unfold stays
          rw [← bendAt_eq hq]
          simp; omega
        rw [hstay, show xs[q+1] = ⟨xs[q+1].x, xs[q+1].y⟩ from rfl] at hst
        clear hstay
        generalize xs[q].x = ax at c0 hst hcall i0
        generalize xs[q].y = ay at c1 hst hcall i0
        generalize xs[q+1].x = bx at d0 hst hcall i1
        generalize xs[q+1].y = b_ at d1 hst hcall i1
        generalize xs[q+2].x = cx at e0 hst hcall i2
        generalize xs[q+2].y = cy at e1 hst hcall i2
        generalize bendU ax ay bx b_ cx cy = u at hst hcall
        have HC := hide hcall; clear hcall i0 i1 i2
        have n0 := fun n => later_cell c0 n; have n1 := fun n => later_cell c1 n
        have n2 := fun n => later_cell d0 n; have n3 := fun n => later_cell d1 n
        have n4 := fun n => later_cell e0 n; have n5 := fun n => later_cell e1 n
        have hz3 : ¬ ((q : Int) + 1) = 0 := by omega
        have hz4 : ((q : Int) + 1 == 0) = false := beq_false_of_ne hz3
        have he' : ¬ ((q : Int) + 1 + 1) = (xs.length : Int) := by omega
        have he2 : ((q : Int) + 1 + 1 == (xs.length : Int)) = false := beq_false_of_ne he'
        rw [Int.natCast_add] at *
        by_cases hu : u = 115
        · have hub : (u == 115) = true := by simp [hu]
          rw [decide_eq_true hu, Bool.not_true, if_neg (by decide), List.append_nil] at hst
          have HST := hide hst; clear hst hu
          go_wp2_with fail
          (refine wp_region_later (by kernel_rfl) (by kernel_rfl) ?_; (repeat (go_big_quiet_step ((go_at_call 58; exact later_call (HC.out _))))); refine wpQuiet_nil ?_; intro _ hw'; obtain ⟨nq, hw''⟩ := hw'; subst hw'')
          have ho2 := HOW.out.below nq.h
          have B3 := bstep hbel nq.h hsz
          generalize nq.W = W2 at ho2 B3
          have HO2 := hide ho2; clear ho2 nq n0 n1
          go_wp2_with fail
          refine ⟨⟨q + 1 + 1, by omega, by go_num, ?_, B3⟩, by simp [intOf]; omega⟩
          rw [HST.out]; exact HO2.out
        · have hub : (u == 115) = false := by simpa using hu
          rw [decide_eq_false hu, Bool.not_false, if_pos rfl] at hst
          have HST := hide hst; clear hst hu
          go_wp2_with fail
          (refine wp_region_later (by kernel_rfl) (by kernel_rfl) ?_; (repeat (go_big_quiet_step ((go_at_call 58; exact later_call (HC.out _))))); refine wpQuiet_nil ?_; intro _ hw'; obtain ⟨nq, hw''⟩ := hw'; subst hw'')
          have ho2 := HOW.out.below nq.h
          have B3 := bstep hbel nq.h hsz
          have e2 := n2 nq; have e3 := n3 nq
          have hs2 : B ≤ nq.W.heap.size := Nat.le_trans hsz nq.h.size
          generalize nq.W = W2 at ho2 B3 e2 e3 hs2
          have HO2 := hide ho2; clear ho2 nq n0 n1 n2 n3 n4 n5
          go_wp2_with (at_builtin; refine wpList_push1 (k := 2) (enc := SCorner.enc) _ rfl _ _ 25 rfl 58 (.agg #[.int .i64 0, .int .i64 0]) 16 Try.underlying25 SCorner.info rfl (by omega) (by omega) SCorner.one (B) _ (plainN xs (q + 1)) rfl (HO2.out) ((⟨bx, b_⟩ : SCorner)) _ rfl rfl (hl1) (hs2) (B3) (Nat.le_refl _) rfl ?_; intro v1 w1 ho1 hb1 hg1)
          refine ⟨⟨q + 1 + 1, by omega, by go_num, ?_, hb1⟩, by simp [intOf]; omega⟩
          rw [HST.out]; exact ho1
    · have hk : i = xs.length := by omega
      have hL : plainN xs i = plainN xs xs.length := by rw [hk]
      have HL := hide hL
      clear hk hL
      go_wp2_with fail
      go_ret2
      exact ⟨_, rfl, by rw [← HL.out]; exact HOW.out, hbel⟩

theorem implPlainRoad_any (v : Value) (xs : List SCorner) (w : World) (h : Is 2 SCorner.enc w v xs) :
    Calls Try.prog 33 #[v] w fun e w' => ∃ r, e = .returned (.tuple #[r, .bool (plainV xs).2]) ∧ Own 2 SCorner.enc 58 w' w.heap.size r (plainV xs).1 ∧ Below w.heap.size w w' := by
  have hgood := implIsRoadLine_any v xs w h
  have HI := hide h; clear h
  generalize hB : w.heap.size = B
  have HB := hide hB; clear hB
  by_cases hok : roadB xs = true
  case neg =>
    rw [show plainV xs = ([], false) by simp [plainV, hok]]
    rw [Bool.not_eq_true] at hok
    rw [hok] at hgood
    have HG := hide hgood; clear hgood
    go_enter Try.func33, Try.ntmps33
    go_wp2_with fail
    refine HG.out.mono ?_; rintro e w1 ⟨rfl, hb1⟩
    go_wp2_with fail
    go_ret2
    rw [HB.out] at hb1
    exact ⟨_, rfl, Own.nil, hb1⟩
  rw [show plainV xs = (plainN xs xs.length, true) by simp [plainV, hok]]
  rw [hok] at hgood
  have HG := hide hgood; have HOK := hide hok; clear hgood
  have hlen := road_len hok
  obtain ⟨hl2, hl12⟩ := hlen
  clear hok
  go_enter Try.func33, Try.ntmps33
  go_wp2_with fail
  refine HG.out.mono ?_; rintro e w1 ⟨rfl, hb1⟩
  go_wp2_with fail
  refine (bends_any v xs _ (HI.out.below hb1 (Nat.le_refl _)) HOK.out).mono ?_; rintro e w2 ⟨r, rfl, ho, hb2⟩
  have B2 := bstep hb1 hb2 hb1.size
  have hI2 := HI.out.below B2 (Nat.le_refl _)
  have s2 := B2.size
  rw [HB.out] at B2 s2
  obtain ⟨A, cap, rfl, hr, _, _⟩ := hI2
  have HR := hide hr; clear hr
  obtain ⟨A', cap', rfl, hr', _, _⟩ := ho.row
  have HR' := hide hr'; clear hr' ho hb1 hb2
  have hbl : (bendsL xs).length = xs.length - 2 := bendsN_len _ _
  have HBL := hide hbl
  generalize hw2 : w2.heap.size = B' at HR HR' s2
  have HB' := hide hw2; clear hw2
  go_wp2_with fail
  go_loopw [5, 15] (fun s i wr => ∃ k : Nat, k ≤ xs.length ∧ i = .int .i64 (k : Int) ∧ Own 2 SCorner.enc 58 wr B' s (plainN xs k) ∧ Below B' w2 wr) (fun _ i _ => xs.length - (intOf i).toNat)
  case atStart => exact ⟨0, by omega, rfl, Own.nil, Below.refl _ _⟩
  case round =>
    obtain ⟨i, hi, rfl, hown, hbel⟩ := hrel
    have hsz : B' ≤ wr.heap.size := by have := hbel.size; rw [HB'.out] at this; exact this
    have HOW := hide hown; clear hown
    have hl1 : (plainN xs i).length ≤ 16777216 := by have := plainN_le xs i; omega
    by_cases hlt : i < xs.length
    · have hst := plainN_succ xs i
      rw [getD_lt _ hlt] at hst
      obtain ⟨b, off, rfl, hb, d0, d1⟩ := SCorner.cells HR.out (i := i) hlt hbel
      by_cases h0 : i = 0 ∨ i + 1 = xs.length
      · rw [show stays xs i = true by rcases h0 with h | h <;> simp [stays, h], if_pos rfl] at hst
        rw [show xs[i] = ⟨xs[i].x, xs[i].y⟩ from rfl] at hst
        generalize xs[i].x = ax at d0 hst
        generalize xs[i].y = ay at d1 hst
        have HST := hide hst; clear hst
        by_cases hz : i = 0
        · subst hz
          clear h0
          rw [Nat.zero_mul, Nat.add_zero] at d0 d1
          have hs2 : B' ≤ (wr.alloc (.cells #[.int .i64 ax, .int .i64 ay] 58)).heap.size := by simp; omega
          go_wp2_with (at_builtin; refine wpList_push1s (k := 2) (enc := SCorner.enc) _ rfl _ _ 25 rfl 58 (.agg #[.int .i64 0, .int .i64 0]) 16 Try.underlying25 SCorner.info rfl (by omega) (by omega) SCorner.one (B') _ (plainN xs 0) rfl (HOW.out.alloc (.cells #[.int .i64 ax, .int .i64 ay] 58)) ((⟨ax, ay⟩ : SCorner)) _ _ (by simp) rfl rfl (hl1) (hs2) (hbel.alloc hsz _) (Nat.le_refl _) rfl ?_; intro v1 w1 ho1 hb1 hg1)
          refine ⟨⟨1, by omega, by go_num, ?_, hb1⟩, by simp [intOf]; omega⟩
          rw [show (1 : Nat) = 0 + 1 from rfl, HST.out]; exact ho1
        · have hz' : ¬ (i : Int) = 0 := by omega
          have he : (i : Int) = (xs.length : Int) - 1 := by omega
          clear h0
          have hz2 : ((i : Int) == 0) = false := beq_false_of_ne hz'
          have he2 : ((i : Int) == (xs.length : Int) - 1) = true := beq_iff_eq.2 he
          clear he
          have hs2 : B' ≤ (wr.alloc (.cells #[.int .i64 ax, .int .i64 ay] 58)).heap.size := by simp; omega
          go_wp2_with (at_builtin; refine wpList_push1s (k := 2) (enc := SCorner.enc) _ rfl _ _ 25 rfl 58 (.agg #[.int .i64 0, .int .i64 0]) 16 Try.underlying25 SCorner.info rfl (by omega) (by omega) SCorner.one (B') _ (plainN xs i) rfl (HOW.out.alloc (.cells #[.int .i64 ax, .int .i64 ay] 58)) ((⟨ax, ay⟩ : SCorner)) _ _ (by simp) rfl rfl (hl1) (hs2) (hbel.alloc hsz _) (Nat.le_refl _) rfl ?_; intro v1 w1 ho1 hb1 hg1)
          refine ⟨⟨i + 1, by omega, by go_num, ?_, hb1⟩, by simp [intOf]; omega⟩
          rw [HST.out]; exact ho1
      · obtain ⟨q, rfl⟩ : ∃ q, i = q + 1 := ⟨i - 1, by omega⟩
        have hq : q + 2 < xs.length := by omega
        obtain ⟨b', off', rfl, hb', c0⟩ := Bytes.cells HR'.out (i := q) (by rw [HBL.out]; omega) hbel
        have hstay : stays xs (q + 1) = !decide (bendAt xs q = 115) := by
          unfold stays
          simp; omega
        have hget : (bendsL xs)[q]'(by rw [HBL.out]; omega) = bendAt xs q := by simp [bendsL, bendsN]
        rw [hget] at c0
        rw [hstay, show xs[q+1] = ⟨xs[q+1].x, xs[q+1].y⟩ from rfl] at hst
        clear hstay hget
        have hnat := let_nat (bendAt xs q)
        generalize xs[q+1].x = ax at d0 hst
        generalize xs[q+1].y = ay at d1 hst
        generalize bendAt xs q = u at hst c0 hnat
        have hs2 : B' ≤ (wr.alloc (.cells #[.int .i64 ax, .int .i64 ay] 58)).heap.size := by simp; omega
        have hz3 : ¬ ((q : Int) + 1) = 0 := by omega
        have hz4 : ((q : Int) + 1 == 0) = false := beq_false_of_ne hz3
        have he' : ¬ ((q : Int) + 1) = (xs.length : Int) - 1 := by omega
        have he2 : ((q : Int) + 1 == (xs.length : Int) - 1) = false := beq_false_of_ne he'
        rw [show ((q + 1 : Nat) : Int) = (q : Int) + 1 from by omega]
        have hbw : b' < wr.heap.size := by omega
        by_cases hu : u = 115
        · have hub : ((u.toNat : Int) == 115) = true := by rw [beq_iff_eq]; rw [hu] ; rfl
          rw [decide_eq_true hu, Bool.not_true, if_neg (by decide), List.append_nil] at hst
          have HST := hide hst; clear hst hu hnat
          go_wp2_with fail
          refine ⟨⟨q + 1 + 1, by omega, by go_num, ?_, hbel.alloc hsz _⟩, by simp [intOf]; omega⟩
          rw [HST.out]; exact HOW.out.alloc _
        · have hub : ((u.toNat : Int) == 115) = false := by
            have h2 : ¬ ((u.toNat : Int) = 115) := by rw [← decide_eq_false_iff_not, hnat]; simpa using hu
            exact beq_false_of_ne h2
          rw [decide_eq_false hu, Bool.not_false, if_pos rfl] at hst
          have HST := hide hst; clear hst hu hnat
          go_wp2_with (at_builtin; refine wpList_push1s (k := 2) (enc := SCorner.enc) _ rfl _ _ 25 rfl 58 (.agg #[.int .i64 0, .int .i64 0]) 16 Try.underlying25 SCorner.info rfl (by omega) (by omega) SCorner.one (B') _ (plainN xs (q + 1)) rfl (HOW.out.alloc (.cells #[.int .i64 ax, .int .i64 ay] 58)) ((⟨ax, ay⟩ : SCorner)) _ _ (by simp) rfl rfl (hl1) (hs2) (hbel.alloc hsz _) (Nat.le_refl _) rfl ?_; intro v1 w1 ho1 hb1 hg1)
          refine ⟨⟨q + 1 + 1, by omega, by go_num, ?_, hb1⟩, by simp [intOf]; omega⟩
          rw [HST.out]; exact ho1
    · have hk : i = xs.length := by omega
      have hL : plainN xs i = plainN xs xs.length := by rw [hk]
      have HL := hide hL
      clear hk hL
      go_wp2_with fail
      go_ret2
      exact ⟨_, rfl, by rw [← HL.out]; exact HOW.out.mono s2, B2.trans (hbel.mono s2)⟩
end Go.Proofs.Ytefnmfkndepfgaa
