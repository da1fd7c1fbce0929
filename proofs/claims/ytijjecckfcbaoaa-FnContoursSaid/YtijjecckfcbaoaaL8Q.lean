/- Lowest heights: seen upside down, in plain Lean; contracts of LowestHeights in spec and impl: the Lean function lowV. No condition. -/
import Derived.Test.YtijjecckfcbaoaaL8O
namespace Go.Proofs.Ytijjecckfcbaoaa
open Go.RowKit
set_option linter.unusedVariables false
section
variable {P : Program} {α : Type} {k : Nat} {enc : α → Nat → Value}
theorem wpList_push1s8 (w : World) {w0 : World} {cs : Array Value} {ops : Array Oper} {rest : List Oper} {o : Oper} {a : Act} {Q : Exit → Act → World → Prop} (hgd : o.guard = none) (s x : Operand) (t : TypeId)
    (ho : o.op = .call { callee := .builtin .append, args := #[s, x], argTypes := #[t, t] })
    (e : TypeId) (z : Value) (bytes : Nat) (ht : P.underlying t = some (.slice e)) (hi : (P.info? e).map (fun i => (i.zero, i.size, i.bytes)) = some (some z, k, bytes))
    (hzs : z.cells.size = k) (hk : 0 < k) (hby : bytes ≤ 4096) (hone : ∀ x j, (enc x j).oneCell' = true)
    (base : Nat) (v : Value) (xs : List α) (hs : a.eval s = v) (hown : Own k enc e w0 base v xs) (y : α) (c m : Nat) (hm : m = w0.heap.size) (hx : a.eval x = .slice (some ⟨m, 0, none⟩) 1 c) (hcs : cs.toList = flat k enc [y])
    (hlen : xs.length ≤ 16777216) (hbase : base ≤ w0.heap.size) {B : Nat} {a0 : World} (hbel : Below B a0 w0) (hB : B ≤ base) (hw : w = w0.alloc (.cells cs e))
    (h : ∀ v' w', Own k enc e w' base v' (xs ++ [y]) → Below B a0 w' → (w0.alloc (.cells cs e)).grownBy w' v.ownBlock → wpList P ops Q rest (a.put o.dst v') w') : wpList P ops Q (o :: rest) a w := by
  subst hm
  exact wpList_push1 w hgd s x t ho e z bytes ht hi hzs hk hby hone base v xs hs hown y c hx hcs hlen hbase hbel hB hw h
end
theorem Reach.trans {es : List Step} {a b c : Nat} (h : Reach es a b) (k : Reach es b c) : Reach es a c := by
  induction k with
  | base => exact h
  | step he _ ih => exact .step he ih
theorem Reach.symm {es : List Step} (hs : ∀ e ∈ es, ∃ e' ∈ es, e'.1 = e.2.1 ∧ e'.2.1 = e.1) {a b : Nat} (h : Reach es a b) : Reach es b a := by
  induction h with
  | base => exact .base
  | @step e he _ ih =>
    obtain ⟨e', he', h1, h2⟩ := hs e he
    have h3 : Reach es e.2.1 e.1 := by rw [← h2]; exact .step he' (by rw [h1]; exact .base)
    exact h3.trans ih
theorem steps_symm (xs : List SClaim) : ∀ e ∈ stepsOf xs, ∃ e' ∈ stepsOf xs, e'.1 = e.2.1 ∧ e'.2.1 = e.1 := by
  intro e he
  unfold stepsOf at he
  rw [List.mem_flatMap] at he
  obtain ⟨c, hc, he⟩ := he
  obtain ⟨m1, m2⟩ := steps_mem hc
  unfold stepsC at he
  rcases List.mem_cons.1 he with rfl | he
  · exact ⟨_, m2, rfl, rfl⟩
  · rw [List.mem_singleton.1 he]; exact ⟨_, m1, rfl, rfl⟩
def down (c : SClaim) : SClaim := ⟨c.low, c.high, -c.most, -c.least⟩
def downs (xs : List SClaim) : List SClaim := xs.map down
theorem areB_downs {n : Nat} {xs : List SClaim} (h : areB n xs = true) : areB n (downs xs) = true := by
  obtain ⟨h1, h2, h3⟩ := areB_iff.1 h
  refine areB_iff.2 ⟨fun c hc => ?_, h2, by unfold downs; simpa using h3⟩
  unfold downs at hc
  obtain ⟨d, hd, rfl⟩ := List.mem_map.1 hc
  have h4 := oneB_iff.1 (h1 d hd)
  refine oneB_iff.2 ?_
  unfold down
  simp only
  omega
theorem steps_rev {xs : List SClaim} {e : Step} (h : e ∈ stepsOf (downs xs)) : (e.2.1, e.1, e.2.2) ∈ stepsOf xs := by
  unfold stepsOf downs at h
  rw [List.mem_flatMap] at h
  obtain ⟨d, hd, he⟩ := h
  obtain ⟨c, hc, rfl⟩ := List.mem_map.1 hd
  obtain ⟨m1, m2⟩ := steps_mem hc
  unfold stepsC down at he
  rcases List.mem_cons.1 he with rfl | he
  · exact m2
  · rw [List.mem_singleton.1 he]
    simp only [Int.neg_neg]
    exact m1
theorem downs_downs (xs : List SClaim) : downs (downs xs) = xs := by
  unfold downs
  rw [List.map_map]
  have : (down ∘ down) = id := by funext c; simp [down]
  rw [this, List.map_id]
theorem steps_rev' {xs : List SClaim} {e : Step} (h : e ∈ stepsOf xs) : (e.2.1, e.1, e.2.2) ∈ stepsOf (downs xs) := steps_rev (xs := downs xs) (by rw [downs_downs]; exact h)
theorem pot_downs {xs : List SClaim} (h : Pot (stepsOf xs)) : Pot (stepsOf (downs xs)) := by
  obtain ⟨p, hp⟩ := h
  refine ⟨fun v => -p v, fun e he => ?_⟩
  have := hp _ (steps_rev he)
  simp only at this ⊢
  omega
theorem sound_downs {n : Nat} {xs : List SClaim} (h : areB n xs = true) : soundB n (downs xs) = soundB n xs := by
  rw [Bool.eq_iff_iff, soundB_pot h, soundB_pot (areB_downs h)]
  exact ⟨fun hp => by have := pot_downs hp; rwa [downs_downs] at this, pot_downs⟩
theorem tieS_downs (xs : List SClaim) (T : Nat → Bool) : tieS (downs xs) T = tieS xs T := by
  unfold tieS downs
  rw [List.foldl_map]
  rfl
theorem tieN_downs (xs : List SClaim) (T : Nat → Bool) : ∀ r, tieN (downs xs) r T = tieN xs r T
  | 0 => rfl
  | r + 1 => by show tieS _ _ = tieS _ _; rw [tieS_downs, tieN_downs xs T r]
theorem tied_downs (n : Nat) (xs : List SClaim) (k : Nat) : tiedA n (downs xs) k = tiedA n xs k := by unfold tiedA; rw [tieN_downs]
/-- sums of steps bound every potential -/
theorem dual {es : List Step} {n a : Nat} (hs : (lowerF es (n + 1) (source a)).2 = true) {p : Nat → Int} (hp : ∀ e ∈ es, p e.2.1 ≤ p e.1 + e.2.2) {v : Nat} {x : Int} (hv : (lowerF es (n + 1) (source a)).1 v = some x) : p v ≤ p a + x := by
  obtain ⟨_, r, hr⟩ := lowerF_true hs
  have h1 := sweeps_ge (es := es) (s := source a) (P := fun v => some (p v - p a)) (fun e he => by
    have := hp e he
    show leO (some _) (addO (some _) _)
    simp only [addO, leO]; omega) (fun v => by
    unfold source
    split
    · rename_i h; subst h; simp [leO]
    · simp [leO]) r v
  rw [← hr, hv] at h1
  simp only [leO] at h1
  omega
theorem told_all {n : Nat} {xs : List SClaim} (h : areB n xs = true) (hn : 0 < n) (hs : soundB n xs = true) (ht : tiedA n xs 0 = true) {k : Nat} (hk : k < n) : ∀ v, v < n → (st0 n xs k v).isSome = true := by
  intro v hv
  have hr : ∀ u, u < n → Reach (stepsOf xs) 0 u := fun u hu => by
    unfold tiedA at ht
    rw [decide_eq_true_eq, tl_full] at ht
    exact (tie_reach (in_range h) hn u).1 (ht u hu)
  have hl := (pot_sources (steps_lt h)).2 ((soundB_pot h).1 hs) k hk
  exact (told_reach hl v).2 (((hr k hk).symm (steps_symm xs)).trans (hr v hv))
theorem turned {n : Nat} {xs : List SClaim} (h : areB n xs = true) (hn : 0 < n) (hs : soundB n xs = true) (ht : tiedA n xs 0 = true) {k : Nat} (hk : k < n) : st0 n xs k 0 = st0 n (downs xs) 0 k := by
  have hd := areB_downs h
  have hsd : soundB n (downs xs) = true := by rw [sound_downs h]; exact hs
  have htd : tiedA n (downs xs) 0 = true := by rw [tied_downs]; exact ht
  have t1 := told_all h hn hs ht hk
  have t2 := told_all hd hn hsd htd (k := 0) hn
  have l1 := (pot_sources (steps_lt h)).2 ((soundB_pot h).1 hs) k hk
  have l2 := (pot_sources (steps_lt hd)).2 ((soundB_pot hd).1 hsd) 0 hn
  obtain ⟨f1, _⟩ := lowerF_true l1
  obtain ⟨f2, _⟩ := lowerF_true l2
  have e1 : ∀ e ∈ stepsOf xs, ((st0 n xs k) e.2.1).getD 0 ≤ ((st0 n xs k) e.1).getD 0 + e.2.2 := fun e he => by
    have h1 := fix_edge f1 he
    obtain ⟨a, ha⟩ := Option.isSome_iff_exists.1 (t1 e.1 (steps_lt h e he).1)
    obtain ⟨b, hb⟩ := Option.isSome_iff_exists.1 (t1 e.2.1 (steps_lt h e he).2)
    unfold st0 at ha hb
    rw [ha, hb] at h1
    simp only [addO, leO] at h1
    unfold st0
    rw [ha, hb]; exact h1
  have e2 : ∀ e ∈ stepsOf (downs xs), ((st0 n (downs xs) 0) e.2.1).getD 0 ≤ ((st0 n (downs xs) 0) e.1).getD 0 + e.2.2 := fun e he => by
    have h1 := fix_edge f2 he
    obtain ⟨a, ha⟩ := Option.isSome_iff_exists.1 (t2 e.1 (steps_lt hd e he).1)
    obtain ⟨b, hb⟩ := Option.isSome_iff_exists.1 (t2 e.2.1 (steps_lt hd e he).2)
    unfold st0 at ha hb
    rw [ha, hb] at h1
    simp only [addO, leO] at h1
    unfold st0
    rw [ha, hb]; exact h1
  obtain ⟨x, hx⟩ := Option.isSome_iff_exists.1 (t1 0 hn)
  obtain ⟨xk, hxk⟩ := Option.isSome_iff_exists.1 (t1 k hk)
  obtain ⟨y, hy⟩ := Option.isSome_iff_exists.1 (t2 k hk)
  obtain ⟨y0, hy0⟩ := Option.isSome_iff_exists.1 (t2 0 hn)
  have z1 : xk = 0 := by
    have h1 := dual l1 (p := fun v => ((st0 n xs k) v).getD 0) (fun e he => e1 e he) (v := k) (x := xk) hxk
    have h2 : leO (st0 n xs k k) (source k k) := by
      obtain ⟨_, r, hr⟩ := lowerF_true l1
      unfold st0; rw [hr]; exact sweeps_le _ _ r k
    rw [hxk, show source k k = some 0 by simp [source]] at h2
    simp only [leO] at h2
    omega
  have z2 : y0 = 0 := by
    have h1 := dual l2 (p := fun v => ((st0 n (downs xs) 0) v).getD 0) (fun e he => e2 e he) (v := 0) (x := y0) hy0
    have h2 : leO (st0 n (downs xs) 0 0) (source 0 0) := by
      obtain ⟨_, r, hr⟩ := lowerF_true l2
      unfold st0; rw [hr]; exact sweeps_le _ _ r 0
    rw [hy0, show source 0 0 = some 0 by simp [source]] at h2
    simp only [leO] at h2
    omega
  have d1 := dual l1 (p := fun v => -((st0 n (downs xs) 0) v).getD 0) (fun e he => by
    have := e2 _ (steps_rev' he)
    simp only at this ⊢
    omega) (v := 0) (x := x) hx
  have d2 := dual l2 (p := fun v => -((st0 n xs k) v).getD 0) (fun e he => by
    have := e1 _ (steps_rev he)
    simp only at this ⊢
    omega) (v := k) (x := y) hy
  simp only [hx, hxk, hy, hy0, Option.getD_some] at d1 d2
  rw [hx, hy]
  congr 1
  omega
def lwS (n : Nat) (xs : List SClaim) (k : Nat) : List Int := (List.range k).map fun v => -((st0 n xs v 0).getD 1000000)
theorem lwS_succ (n : Nat) (xs : List SClaim) (k : Nat) : lwS n xs (k + 1) = lwS n xs k ++ [-((st0 n xs k 0).getD 1000000)] := by unfold lwS; rw [List.range_succ, List.map_append]; rfl
theorem lwS_len (n : Nat) (xs : List SClaim) (k : Nat) : (lwS n xs k).length = k := by simp [lwS]
def lowV (n : Int) (xs : List SClaim) : List Int × Bool := if toldB n xs then (lwS n.toNat xs n.toNat, true) else ([], false)
theorem lowV_len (n : Int) (xs : List SClaim) : (lowV n xs).1.length ≤ 1048576 := by
  unfold lowV; split
  · rename_i h
    unfold toldB at h
    rw [Bool.and_eq_true] at h
    obtain ⟨_, ⟨_, h10⟩, _⟩ := areB_iff.1 h.1
    show (lwS _ _ _).length ≤ _
    rw [lwS_len]; omega
  · simp
theorem low_impl {n : Nat} {xs : List SClaim} (h : areB n xs = true) (hn : 0 < n) : lowV (n : Int) xs = ((hiL n (downs xs)).map fun x => -x, hiOk n (downs xs)) := by
  have hd := areB_downs h
  have hk := hiOk_told hd hn
  rw [tied_downs, sound_downs h] at hk
  unfold lowV toldB
  rw [Int.toNat_natCast, h, Bool.true_and, hk]
  unfold hiL
  cases hh : hiOk n (downs xs) with
  | false => simp
  | true =>
    rw [hh, Bool.and_eq_true] at hk
    rw [if_pos rfl, if_pos rfl]
    congr 1
    unfold lwS HsOf
    rw [List.map_map]
    apply List.map_congr_left
    intro v hv
    have hvn := List.mem_range.1 hv
    have ht := turned h hn hk.2 hk.1 hvn
    obtain ⟨x, hx⟩ := Option.isSome_iff_exists.1 (told_all h hn hk.2 hk.1 hvn 0 hn)
    simp only [Function.comp]
    rw [← ht, hx]; rfl
theorem sweep_bd {n : Nat} : ∀ (l : List Step) {s : Nat → Option Int} {K : Nat}, (∀ e ∈ l, e.1 < n ∧ -9999 ≤ e.2.2 ∧ e.2.2 ≤ 9999) → Bd n s K → Bd n (sweep l s) (K + l.length)
  | [], s, K, _, h => h
  | e :: l, s, K, hl, h => by
    have h1 := hl e List.mem_cons_self
    have h2 := sweep_bd l (s := relax s e) (K := K + 1) (fun x hx => hl x (List.mem_cons_of_mem _ hx)) (h.relax h1.1 h1.2.1 h1.2.2)
    show Bd n (sweep l (relax s e)) _
    refine h2.mono ?_
    simp only [List.length_cons]; omega
theorem lowerF_bd {n : Nat} {es : List Step} (hl : ∀ e ∈ es, e.1 < n ∧ -9999 ≤ e.2.2 ∧ e.2.2 ≤ 9999) : ∀ (k : Nat) {s : Nat → Option Int} {K : Nat}, Bd n s K → Bd n (lowerF es k s).1 (K + k * es.length)
  | 0, s, K, h => by simpa [lowerF] using h
  | k + 1, s, K, h => by
    have h1 := sweep_bd es hl h
    rw [lowerF_succ]
    split
    · refine (lowerF_bd hl k h1).mono ?_
      rw [Nat.add_mul]; omega
    · refine h1.mono ?_
      rw [Nat.add_mul]; omega
theorem stepsOf_len (xs : List SClaim) : (stepsOf xs).length = 2 * xs.length := by
  induction xs with
  | nil => rfl
  | cons c xs ih =>
    have : stepsOf (c :: xs) = stepsC c ++ stepsOf xs := by simp [stepsOf]
    rw [this, List.length_append, ih]
    simp [stepsC]; omega
theorem st0_bd {n : Nat} {xs : List SClaim} (h : areB n xs = true) {k v : Nat} (hv : v < n) : -1000000000 ≤ (st0 n xs k v).getD 1000000 ∧ (st0 n xs k v).getD 1000000 ≤ 1000000000 := by
  obtain ⟨_, ⟨_, hn10⟩, hx⟩ := areB_iff.1 h
  have hl : ∀ e ∈ stepsOf xs, e.1 < n ∧ -9999 ≤ e.2.2 ∧ e.2.2 ≤ 9999 := fun e he => by
    have := stepsOf_mem h e he
    simp only [Int.toNat_natCast] at this
    exact ⟨this.1, this.2.2.1, this.2.2.2⟩
  have h1 := lowerF_bd hl (n + 1) (Bd_source n k)
  have h2 : (n + 1) * (stepsOf xs).length ≤ 11 * 48 := Nat.mul_le_mul (by omega) (by rw [stepsOf_len]; omega)
  cases hs : st0 n xs k v with
  | none => simp
  | some a =>
    have h3 := h1 v a hv hs
    simp only [Option.getD_some]
    omega
set_option maxHeartbeats 1000000 in
theorem specLowestHeights_any (n : Int) (v : Value) (xs : List SClaim) (w : World) (h : Is 4 SClaim.enc w v xs) :
    Calls Try.prog 28 #[.int .i64 n, v] w fun e w' => ∃ r, e = .returned (.tuple #[r, .bool (lowV n xs).2]) ∧ Own 1 encI 3 w' w.heap.size r (lowV n xs).1 ∧ Below w.heap.size w w' := by
  have B0 := below_alloc w (.cells #[] 3)
  have htd := l8Told_is n v xs _ (h.below B0 (Nat.le_refl _))
  have HE := hide (own_empty8 w (Nat.le_refl w.heap.size))
  by_cases ht : toldB n xs = true
  case neg =>
    rw [Bool.not_eq_true] at ht
    rw [show lowV n xs = ([], false) by unfold lowV; rw [ht]; rfl]
    rw [ht] at htd
    have HT := hide htd; clear htd ht h
    go_enter Try.func28, Try.ntmps28
    go_wp2_with fail
    refine HT.out.mono ?_; rintro e w1 ⟨rfl, hb1⟩
    go_wp2_with fail
    go_ret2
    exact ⟨_, rfl, HE.out.below hb1, bstep B0 hb1 B0.size⟩
  rw [show lowV n xs = (lwS n.toNat xs n.toNat, true) by unfold lowV; rw [ht]; rfl]
  rw [ht] at htd
  unfold toldB at ht
  rw [Bool.and_eq_true, Bool.and_eq_true] at ht
  obtain ⟨ha, hti, hsd⟩ := ht
  have hnn := areB_nat ha
  obtain ⟨_, ⟨hn1, hn10⟩, _⟩ := areB_iff.1 ha
  generalize n.toNat = m at *
  subst hnn
  have hre := fun k (hk : k < m) W (hb : Below w.heap.size w W) => l8Reach_is m v xs k W (h.below hb (Nat.le_refl _)) ha hk
  have hbd : ∀ k, k < m → -1000000000 ≤ (st0 m xs k 0).getD 1000000 ∧ (st0 m xs k 0).getD 1000000 ≤ 1000000000 := fun k hk => st0_bd ha (by omega)
  have hsu := fun k => lwS_succ m xs k
  have hln := fun k => lwS_len m xs k
  have HT := hide htd; have HRE := hide hre; have HBD := hide hbd; have HSU := hide hsu; have HLN := hide hln; clear htd hre hbd hsu hln h ha hti hsd
  generalize hB : w.heap.size = B at *
  have HB := hide hB
  go_enter Try.func28, Try.ntmps28
  go_wp2_with fail
  refine HT.out.mono ?_; rintro e w1 ⟨rfl, hb1⟩
  have HE1 := hide (HE.out.below hb1)
  have B1 := bstep B0 hb1 (by rw [← hB]; exact B0.size)
  clear hb1 HE B0
  go_wp2_with fail
  go_loopw [6, 7] (fun s i wr => ∃ k : Nat, k ≤ m ∧ i = .int .i64 (k : Int) ∧ Own 1 encI 3 wr B s (lwS m xs k) ∧ Below B w wr) (fun _ i _ => m - (intOf i).toNat)
  case atStart => exact ⟨0, Nat.zero_le _, rfl, HE1.out, B1⟩
  case round =>
    clear B1 HE1
    obtain ⟨k, hk, rfl, hown, hbel⟩ := hrel
    have HOW := hide hown; clear hown
    have hsz : B ≤ wr.heap.size := by have := hbel.size; rw [HB.out] at this; exact this
    by_cases hlt : k < m
    · have hlt' : (k : Int) < m := by omega
      have hcall := HRE.out k hlt wr hbel
      have hbd := HBD.out k hlt
      have hsu := HSU.out k
      have hdl : (lwS m xs k).length ≤ 16777216 := by rw [HLN.out]; omega
      unfold st0 at hbd hsu
      have HC := hide hcall; have HSS := hide hsu; clear hcall hsu
      go_wp2_with fail
      refine HC.out.mono ?_; rintro e w5 ⟨r5, rfl, ho5, hb5⟩
      have B5 := bstep hbel hb5 hsz
      have how5 := HOW.out.below hb5
      obtain ⟨g5, c5, cs5, rfl, _, hbk5, _, _, hsz5, hf5⟩ := own_blk8 ho5 (by rw [FsOf_len]; omega)
      have g0 : w5.cell? ⟨g5, 0, none⟩ = some (.int .i64 ((lowerF (stepsOf xs) (m + 1) (source k)).1 0 |>.getD 1000000)) := by
        rw [hbk5.cell]
        have h1 := hf5 0 _ (by rw [FsOf_len]; omega) (List.getElem?_eq_getElem (by rw [FsOf_len]; omega)) 0 (by omega)
        rw [FsOf_get] at h1
        exact h1
      rw [FsOf_len]
      have hmp : (0 : Int) < m := by omega
      generalize (lowerF (stepsOf xs) (m + 1) (source k)).1 0 = D at *
      generalize D.getD 1000000 = d at *
      obtain ⟨hd1, hd2⟩ := hbd
      have HO5 := hide how5; clear ho5 how5 hb5 hbk5 hf5 hsz5
      have hs5 : B ≤ w5.heap.size := by have := B5.size; rw [HB.out] at this; exact this
      go_wp2_with ((at_builtin; refine wpList_push1 (k := 1) (enc := encI) _ rfl _ _ 42 rfl 3 (.int .i64 0) 8 Try.underlying42 infoI rfl (by omega) (by omega) encI_one (B) _ (lwS m xs k) rfl (HO5.out) (-d) _ rfl rfl (hdl) (hs5) (B5) (Nat.le_refl _) rfl ?_; intro v1 w1 ho1 hb1 hg1))
      go_round
      case measure => (simp [intOf] <;> omega)
      case rel => exact ⟨k + 1, by omega, by go_num, by rw [HSS.out]; exact ho1, hb1⟩
    · have hkm : k = m := by omega
      have HK := hide hkm; clear hkm
      go_wp2_with fail
      go_ret2
      have h1 := HOW.out
      rw [HK.out] at h1
      exact ⟨_, rfl, h1, hbel⟩
def negTo (L : List Int) (k : Nat) : List Int := (L.map fun x => -x).take k ++ L.drop k
theorem negTo_set {L : List Int} {k : Nat} (h : k < L.length) : (negTo L k).set k (-L[k]) = negTo L (k + 1) := by
  unfold negTo
  have h1 : k < (L.map fun x => -x).length := by simpa using h
  rw [List.set_append_right _ _ (by simp; omega), List.drop_eq_getElem_cons h]
  rw [show k - ((L.map fun x => -x).take k).length = 0 by simp; omega, List.set_cons_zero, take_snoc' h1, List.append_assoc]
  simp
theorem negTo_get {L : List Int} {k : Nat} (h : k < L.length) (h' : k < (negTo L k).length) : (negTo L k)[k] = L[k] := by
  have : (negTo L k)[k]? = some L[k] := by
    unfold negTo
    rw [List.getElem?_append_right (by simp; omega)]
    simp [show k - min k L.length = 0 by omega, h]
  obtain ⟨_, h2⟩ := List.getElem?_eq_some_iff.1 this
  exact h2
theorem negTo_len {L : List Int} {k : Nat} (h : k ≤ L.length) : (negTo L k).length = L.length := by unfold negTo; simp; omega
theorem negTo_all (L : List Int) : negTo L L.length = L.map fun x => -x := by unfold negTo; rw [List.drop_length, List.append_nil, List.take_of_length_le (by simp)]
theorem hiL_len {n : Nat} {xs : List SClaim} : (hiL n xs).length ≤ n := by
  unfold hiL; split
  · rw [HsOf_len]; exact Nat.le_refl _
  · simp
theorem hiL_bd {n : Nat} {xs : List SClaim} (h : areB n xs = true) : ∀ x ∈ hiL n xs, -1000000000 ≤ x ∧ x ≤ 1000000000 := by
  intro x hx
  unfold hiL at hx
  split at hx
  · unfold HsOf at hx
    obtain ⟨v, hv, rfl⟩ := List.mem_map.1 hx
    have h1 := st0_bd h (k := 0) (List.mem_range.1 hv)
    cases hs : st0 n xs 0 v with
    | none => simp
    | some a => rw [hs] at h1; exact h1
  · simp at hx
set_option maxHeartbeats 2000000 in
theorem implLowestHeights_any (n : Int) (v : Value) (xs : List SClaim) (w : World) (h : Is 4 SClaim.enc w v xs) :
    Calls Try.prog 27 #[.int .i64 n, v] w fun e w' => ∃ r, e = .returned (.tuple #[r, .bool (lowV n xs).2]) ∧ Own 1 encI 3 w' w.heap.size r (lowV n xs).1 ∧ Below w.heap.size w w' := by
  have hok := implAreClaims_is n v xs w h
  by_cases ha : areB n xs = true
  case neg =>
    rw [Bool.not_eq_true] at ha
    rw [show lowV n xs = ([], false) by unfold lowV toldB; rw [ha]; rfl]
    rw [ha] at hok
    have HOK := hide hok; clear hok ha h
    go_enter Try.func27, Try.ntmps27
    go_wp2_with fail
    refine HOK.out.mono ?_; rintro e w1 ⟨rfl, hb1⟩
    go_wp2_with fail
    go_ret2
    exact ⟨_, rfl, Own.nil, hb1⟩
  have hnn := areB_nat ha
  obtain ⟨hc1, ⟨hn1, hn10⟩, hx24⟩ := areB_iff.1 ha
  rw [ha] at hok
  generalize n.toNat = m at hnn
  subst hnn
  rw [low_impl ha (by omega)]
  have hcl := fun i (hi : i < xs.length) => oneB_iff.1 (hc1 xs[i] (List.getElem_mem hi))
  have hhi := fun V W (i : Is 4 SClaim.enc W V (downs xs)) => highest_is m V (downs xs) W i (areB_downs ha)
  have hdl : (downs xs).length = xs.length := by unfold downs; simp
  have hds : ∀ j (hj : j < xs.length), downs (xs.take (j + 1)) = downs (xs.take j) ++ [down xs[j]] := fun j hj => by unfold downs; rw [take_snoc' hj, List.map_append]; rfl
  have hdall : downs (xs.take xs.length) = downs xs := by rw [List.take_length]
  have hll := hiL_len (n := m) (xs := downs xs)
  have hlb := hiL_bd (areB_downs ha)
  obtain ⟨A, cap, rfl, hr, _, _⟩ := h
  have HOK := hide hok; have HCL := hide hcl; have HHI := hide hhi; have HDS := hide hds; have HDA := hide hdall; have HR := hide hr; have HLB := hide hlb
  clear hok hcl hhi hds hdall hr hlb ha hc1 hdl
  generalize hB : w.heap.size = B at *
  have HB := hide hB
  generalize hiL m (downs xs) = L at *
  generalize hiOk m (downs xs) = ob at *
  go_enter Try.func27, Try.ntmps27
  go_wp2_with fail
  refine HOK.out.mono ?_; rintro e w1 ⟨rfl, hb1⟩
  go_wp2_with fail
  go_loopw [6, 18] (fun s i wr => ∃ j : Nat, j ≤ xs.length ∧ i = .int .i64 (j : Int) ∧ Own 4 SClaim.enc 23 wr B s (downs (xs.take j)) ∧ Below B w wr) (fun _ i _ => xs.length - (intOf i).toNat)
  case atStart => exact ⟨0, Nat.zero_le _, rfl, Own.nil, hb1⟩
  case round =>
    clear hb1
    obtain ⟨j, hj, rfl, hown, hbel⟩ := hrel
    have HOW := hide hown; clear hown
    have hsz : B ≤ wr.heap.size := by have := hbel.size; rw [HB.out] at this; exact this
    by_cases hlt : j < xs.length
    · have hlt' : (j : Int) < xs.length := by omega
      obtain ⟨b, off, rfl, hb, c0, c1, c2, c3⟩ := SClaim.cells HR.out hlt hbel
      have hcl := HCL.out j hlt
      have hds := HDS.out j hlt
      generalize xs[j] = c at *
      obtain ⟨lo, hi, le, mo⟩ := c
      simp only at c0 c1 c2 c3 hcl
      obtain ⟨l0, l1, i0, i1, hlh, le0, le1, mo1⟩ := hcl
      have hdn : down ⟨lo, hi, le, mo⟩ = ⟨lo, hi, -mo, -le⟩ := rfl
      rw [hdn] at hds
      have hdl : (downs (xs.take j)).length ≤ 16777216 := by unfold downs; rw [List.length_map, List.length_take]; omega
      have BX := hbel.alloc hsz (.cells #[.int .i64 lo, .int .i64 hi, .int .i64 le, .int .i64 mo] 23)
      have hox := HOW.out.alloc (.cells #[.int .i64 lo, .int .i64 hi, .int .i64 le, .int .i64 mo] 23)
      have HDSS := hide hds; have HOX := hide hox; have HBX := hide BX; clear hds hox BX hdn
      go_wp2_with (at_builtin; refine wpList_push1s8 (k := 4) (enc := SClaim.enc) _ rfl _ _ 34 rfl 23 (.agg #[.int .i64 0, .int .i64 0, .int .i64 0, .int .i64 0]) 32 Try.underlying34 SClaim.info rfl (by omega) (by omega) SClaim.one B _ (downs (xs.take j)) rfl HOX.out (⟨lo, hi, -mo, -le⟩ : SClaim) _ _ (by simp) rfl rfl hdl (by simp; omega) HBX.out (Nat.le_refl _) rfl ?_; intro v1 w3 ho1 hb1 hg1)
      go_round
      case measure => (simp [intOf] <;> omega)
      case rel => exact ⟨j + 1, by omega, by go_num, by rw [HDSS.out]; exact ho1, hb1⟩
    · have hjx : j = xs.length := by omega
      have hfin := HOW.out
      rw [hjx, HDA.out] at hfin
      have hcall := HHI.out _ _ hfin.is
      have HC := hide hcall; have HJ := hide hjx; clear hcall hfin hjx HOW
      go_wp2_with fail
      refine HC.out.mono ?_; rintro e w5 ⟨r, rfl, ho5, hb5⟩
      have B5 := bstep hbel hb5 hsz
      have ho6 := ho5.mono hsz
      obtain ⟨A6, c6, rfl, _, _, _⟩ := ho6.row
      have HO6 := hide (show Own 1 encI 3 w5 B (.slice A6 L.length c6) (negTo L 0) from by simpa [negTo] using ho6)
      clear ho5 ho6 hb5
      go_wp2_with fail
      go_loopw [45] (fun i wr => ∃ k : Nat, k ≤ L.length ∧ i = .int .i64 (k : Int) ∧ Own 1 encI 3 wr B (.slice A6 L.length c6) (negTo L k) ∧ Below B w wr) (fun i _ => L.length - (intOf i).toNat)
      case atStart => exact ⟨0, Nat.zero_le _, rfl, HO6.out, B5⟩
      case round =>
        clear B5 HO6 hbel hsz
        obtain ⟨k, hk, rfl, hown, hbel⟩ := hrel
        by_cases hlk : k < L.length
        · have hlk' : (k : Int) < L.length := by omega
          have hnl := negTo_len (L := L) hk
          obtain ⟨g6, c7, cs6, hv6, hgB, _⟩ := own_blk8 hown (by rw [hnl]; omega)
          rw [hnl] at hv6
          injection hv6 with e1 e2 e3
          subst e1 e3
          obtain ⟨_, _, g0, hfz⟩ := hown.cell8 (j := k) (by rw [hnl]; exact hlk)
          rw [negTo_get hlk] at g0
          have hst := hown.setElem8 (j := k) (by rw [hnl]; exact hlk) (-L[k]) rfl
          rw [negTo_set hlk] at hst
          have hbd := HLB.out L[k] (List.getElem_mem hlk)
          generalize L[k] = x at *
          obtain ⟨x1, x2⟩ := hbd
          have HST := hide hst; clear hown hst hnl
          have g1 : wr.cell? ⟨g6, k, none⟩ = some (.int .i64 x) := g0
          clear g0
          go_wp2_with fail
          go_round
          case measure => (simp [intOf] <;> omega)
          case rel => exact ⟨k + 1, by omega, by go_num, HST.out, hbel.setCell (p := ⟨g6, k, none⟩) hgB _⟩
        · have hkl : k = L.length := by omega
          have hfin := hown
          rw [hkl, negTo_all] at hfin
          have HF := hide hfin; have HK := hide hkl; clear hfin hkl hown
          go_wp2_with fail
          go_ret2
          exact ⟨_, rfl, HF.out, hbel⟩
end Go.Proofs.Ytijjecckfcbaoaa
