/- What the lowest and the highest heights are, in plain Lean: both fit the claims, and the lowest lie below the highest; what the culprits are. Nothing here speaks of the program. -/
import Derived.Test.YtijjecckfcbaoaaL8R
namespace Go.Proofs.Ytijjecckfcbaoaa
open Go.RowKit
set_option linter.unusedVariables false
theorem TB_sweep {n : Nat} : ∀ (l : List Step) {s : Nat → Option Int}, (∀ e ∈ l, e.1 < n ∧ e.2.1 < n ∧ e.2.2 ≤ 9999) → TB n s → TB n (sweep l s)
  | [], _, _, h => h
  | e :: l, s, hl, h => TB_sweep l (s := relax s e) (fun x hx => hl x (List.mem_cons_of_mem _ hx)) (h.relax (hl e List.mem_cons_self).1 (hl e List.mem_cons_self).2.1 (hl e List.mem_cons_self).2.2)
theorem TB_sweeps {n : Nat} {es : List Step} {s : Nat → Option Int} (hl : ∀ e ∈ es, e.1 < n ∧ e.2.1 < n ∧ e.2.2 ≤ 9999) (h : TB n s) : ∀ r, TB n (sweeps es s r)
  | 0 => h
  | r + 1 => TB_sweep es hl (TB_sweeps hl h r)
theorem steps_bd {n : Nat} {xs : List SClaim} (h : areB n xs = true) : ∀ e ∈ stepsOf xs, e.1 < n ∧ e.2.1 < n ∧ e.2.2 ≤ 9999 := fun e he => by
  refine ⟨(steps_lt h e he).1, (steps_lt h e he).2, ?_⟩
  unfold stepsOf at he
  rw [List.mem_flatMap] at he
  obtain ⟨c, hc, he⟩ := he
  have h1 := oneB_iff.1 ((areB_iff.1 h).1 c hc)
  unfold stepsC at he
  rcases List.mem_cons.1 he with rfl | he
  · simp only; omega
  · rw [List.mem_singleton.1 he]; simp only; omega
section
variable {n : Nat} {xs : List SClaim}
theorem told_parts (h : toldB n xs = true) : areB n xs = true ∧ tiedA n xs 0 = true ∧ soundB n xs = true ∧ 0 < n := by
  unfold toldB at h
  rw [Bool.and_eq_true, Bool.and_eq_true] at h
  obtain ⟨h1, h2, h3⟩ := h
  rw [Int.toNat_natCast] at h2 h3
  exact ⟨h1, h2, h3, by have := (areB_iff.1 h1).2.1; omega⟩
theorem st0_edge (h : toldB n xs = true) {k : Nat} (hk : k < n) : ∀ e ∈ stepsOf xs, (st0 n xs k e.2.1).getD 0 ≤ (st0 n xs k e.1).getD 0 + e.2.2 := fun e he => by
  obtain ⟨ha, ht, hs, hn⟩ := told_parts h
  have t1 := told_all ha hn hs ht hk
  have l1 := (pot_sources (steps_lt ha)).2 ((soundB_pot ha).1 hs) k hk
  obtain ⟨f1, _⟩ := lowerF_true l1
  have h1 := fix_edge f1 he
  obtain ⟨a, hx⟩ := Option.isSome_iff_exists.1 (t1 e.1 (steps_lt ha e he).1)
  obtain ⟨b, hb⟩ := Option.isSome_iff_exists.1 (t1 e.2.1 (steps_lt ha e he).2)
  unfold st0 at hx hb
  rw [hx, hb] at h1
  simp only [addO, leO] at h1
  unfold st0
  rw [hx, hb]; exact h1
theorem st0_some (h : toldB n xs = true) {k v : Nat} (hk : k < n) (hv : v < n) : ∃ a, st0 n xs k v = some a ∧ a ≤ 89991 := by
  obtain ⟨ha, ht, hs, hn⟩ := told_parts h
  obtain ⟨a, hx⟩ := Option.isSome_iff_exists.1 (told_all ha hn hs ht hk v hv)
  refine ⟨a, hx, ?_⟩
  have l1 := (pot_sources (steps_lt ha)).2 ((soundB_pot ha).1 hs) k hk
  obtain ⟨_, r, hr⟩ := lowerF_true l1
  have h1 : TB n (st0 n xs k) := by unfold st0; rw [hr]; exact TB_sweeps (steps_bd ha) (TB_source hk) r
  have h10 : n ≤ 10 := by have := (areB_iff.1 ha).2.1; omega
  exact h1.lt h10 hv hx
theorem st0_self (h : toldB n xs = true) {k : Nat} (hk : k < n) : st0 n xs k k = some 0 := by
  obtain ⟨ha, ht, hs, hn⟩ := told_parts h
  obtain ⟨a, hx, _⟩ := st0_some h hk hk
  have l1 := (pot_sources (steps_lt ha)).2 ((soundB_pot ha).1 hs) k hk
  have h1 := dual l1 (p := fun v => (st0 n xs k v).getD 0) (st0_edge h hk) hx
  obtain ⟨_, r, hr⟩ := lowerF_true l1
  have h2 := sweeps_le (stepsOf xs) (source k) r k
  rw [← hr] at h2
  unfold st0 at hx
  rw [hx, show source k k = some 0 by simp [source]] at h2
  simp only [leO] at h2
  have : a = 0 := by omega
  unfold st0
  rw [hx, this]
theorem st0_round (h : toldB n xs = true) {v : Nat} (hv : v < n) : 0 ≤ (st0 n xs 0 v).getD 0 + (st0 n xs v 0).getD 0 := by
  obtain ⟨ha, ht, hs, hn⟩ := told_parts h
  obtain ⟨a, hx, _⟩ := st0_some h hv hn
  have l1 := (pot_sources (steps_lt ha)).2 ((soundB_pot ha).1 hs) v hv
  have h1 := dual l1 (p := fun v => (st0 n xs 0 v).getD 0) (st0_edge h hn) hx
  simp only [st0_self h hn, Option.getD_some] at h1
  rw [hx]
  simpa using h1
theorem idxs_none {p : Nat → Bool} : ∀ {m : Nat}, (∀ i, i < m → p i = false) → idxs p m = []
  | 0, _ => rfl
  | m + 1, h => by rw [idxs_succ, idxs_none (fun i hi => h i (by omega)), h m (by omega)]; rfl
theorem fitted {hs : List Int} (h : areB n xs = true) (hl : hs.length = n) (h0 : hs.getD 0 0 = 0) (hb : ∀ v, v < n → -200000 ≤ hs.getD v 0 ∧ hs.getD v 0 ≤ 200000) (hf : ∀ c ∈ xs, c.least ≤ hs.getD c.high.toNat 0 - hs.getD c.low.toNat 0 ∧ hs.getD c.high.toNat 0 - hs.getD c.low.toNat 0 ≤ c.most) : fitV n xs hs = (true, true) := by
  have hg : hgtB n hs = true := by
    unfold hgtB
    rw [Bool.and_eq_true, decide_eq_true_eq, List.all_eq_true]
    refine ⟨by omega, fun x hx => ?_⟩
    obtain ⟨v, hv, rfl⟩ := List.getElem_of_mem hx
    have := hb v (by omega)
    rw [List.getD_eq_getElem?_getD, List.getElem?_eq_getElem hv, Option.getD_some] at this
    exact inB_iff.2 this
  have hk : brk xs hs = [] := by
    unfold brk
    refine idxs_none fun i hi => ?_
    have hget : xs.getD i SClaim.zero = xs[i] := by rw [List.getD_eq_getElem?_getD, List.getElem?_eq_getElem hi]; rfl
    have hh := hf xs[i] (List.getElem_mem hi)
    unfold brkAt holdB
    rw [hget, inB_iff.2 hh]; rfl
  unfold fitV
  rw [h, hg, hk, h0]
  rfl
theorem high_get (h : toldB n xs = true) {v : Nat} (hv : v < n) : (highV n xs).1.getD v 0 = (st0 n xs 0 v).getD 0 := by
  unfold highV
  rw [if_pos h, Int.toNat_natCast]
  show (HsOf n (st0 n xs 0)).getD v 0 = _
  rw [List.getD_eq_getElem?_getD, List.getElem?_eq_getElem (by rw [HsOf_len]; exact hv), Option.getD_some, HsOf_get]
theorem low_get (h : toldB n xs = true) {v : Nat} (hv : v < n) : (lowV n xs).1.getD v 0 = -(st0 n xs v 0).getD 0 := by
  obtain ⟨ha, ht, hs, hn⟩ := told_parts h
  obtain ⟨a, hx, _⟩ := st0_some h hv hn
  unfold lowV
  rw [if_pos h, Int.toNat_natCast]
  show (lwS n xs n).getD v 0 = _
  unfold lwS
  rw [List.getD_eq_getElem?_getD, List.getElem?_eq_getElem (by simpa using hv), Option.getD_some, List.getElem_map, List.getElem_range, hx]
  rfl
theorem high_len (h : toldB n xs = true) : (highV n xs).1.length = n := by
  unfold highV
  rw [if_pos h, Int.toNat_natCast]
  exact HsOf_len _ _
theorem low_len (h : toldB n xs = true) : (lowV n xs).1.length = n := by
  unfold lowV
  rw [if_pos h, Int.toNat_natCast]
  exact lwS_len _ _ _
theorem low_high (h : toldB n xs = true) {v : Nat} (hv : v < n) : (lowV n xs).1.getD v 0 ≤ (highV n xs).1.getD v 0 := by
  rw [low_get h hv, high_get h hv]
  have := st0_round h hv
  omega
theorem high_fits (h : toldB n xs = true) : fitV n xs (highV n xs).1 = (true, true) := by
  obtain ⟨ha, ht, hs, hn⟩ := told_parts h
  refine fitted ha (high_len h) ?_ (fun v hv => ?_) fun c hc => ?_
  · rw [high_get h hn, st0_self h hn]; rfl
  · have h1 := st0_round h hv
    obtain ⟨a, hx, hxa⟩ := st0_some h hn hv
    obtain ⟨b, hy, hyb⟩ := st0_some h hv hn
    rw [high_get h hv]
    rw [hx, hy, Option.getD_some, Option.getD_some] at h1
    rw [hx, Option.getD_some]
    omega
  · obtain ⟨h1, h2⟩ := in_range ha c hc
    obtain ⟨s1, s2⟩ := steps_mem hc
    have e1 := st0_edge h hn _ s1
    have e2 := st0_edge h hn _ s2
    rw [high_get h h1, high_get h h2]
    simp only at e1 e2
    omega
theorem low_fits (h : toldB n xs = true) : fitV n xs (lowV n xs).1 = (true, true) := by
  obtain ⟨ha, ht, hs, hn⟩ := told_parts h
  have hd : toldB n (downs xs) = true := by
    unfold toldB
    rw [Int.toNat_natCast, tied_downs, sound_downs ha, areB_downs ha, ht, hs]; rfl
  have htu : ∀ v, v < n → st0 n xs v 0 = st0 n (downs xs) 0 v := fun v hv => turned ha hn hs ht hv
  refine fitted ha (low_len h) ?_ (fun v hv => ?_) fun c hc => ?_
  · rw [low_get h hn, st0_self h hn]; rfl
  · have h1 := st0_round h hv
    obtain ⟨a, hx, hxa⟩ := st0_some h hn hv
    obtain ⟨b, hy, hyb⟩ := st0_some h hv hn
    rw [low_get h hv]
    rw [hx, hy, Option.getD_some, Option.getD_some] at h1
    rw [hy, Option.getD_some]
    omega
  · obtain ⟨h1, h2⟩ := in_range ha c hc
    obtain ⟨s1, s2⟩ := steps_mem hc
    have e1 := st0_edge hd hn _ (steps_rev' s1)
    have e2 := st0_edge hd hn _ (steps_rev' s2)
    rw [low_get h h1, low_get h h2, htu _ h1, htu _ h2]
    simp only at e1 e2
    omega
end
end Go.Proofs.Ytijjecckfcbaoaa
