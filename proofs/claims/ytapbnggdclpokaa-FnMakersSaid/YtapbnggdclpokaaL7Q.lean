/- Rows of own grids appended to, and where a maker's family stands. No condition beyond a valid list. -/
import Derived.Test.YtapbnggdclpokaaL7P
namespace Go.Proofs.Ytapbnggdclpokaa
open Go.RowKit Go.Lib
set_option linter.unusedVariables false
theorem own_neF {α β : Type} {k k' : Nat} {enc : α → Nat → Value} {enc' : β → Nat → Value} {e e' : TypeId} {w : World} {b b' : Nat} {v v' : Value} {xs : List α} {ys : List β} (h : Own k enc e w b v xs) (h' : Own k' enc' e' w b' v' ys) (hne : e ≠ e') : ∀ g, v.ownBlock = some g → v'.ownBlock ≠ some g := by
  intro g hg hg'
  rcases h with ⟨rfl, _⟩ | ⟨g1, cap, cs, rfl, _, hb, _⟩
  · simp [Value.ownBlock] at hg
  rcases h' with ⟨rfl, _⟩ | ⟨g2, cap2, cs2, rfl, _, hb2, _⟩
  · simp [Value.ownBlock] at hg'
  simp only [Value.ownBlock, Option.some.injEq] at hg hg'
  subst hg hg'
  unfold Blk at hb hb2
  rw [hb] at hb2
  injection hb2 with h1
  injection h1 with _ h2 _
  exact hne h2
section
variable {w w' : World} {lo hi g : Nat} {v v' : Value} {rs : List SRow}
/-- a row that lies behind the grid is appended -/
theorem OwnG.pushF {w2 : World} (h : OwnG w2 lo hi v rs) (hlh : lo ≤ hi) (hhi : hi ≤ w2.heap.size) {r : SRow} (hr : Own 1 encI 3 w2 hi r.v r.xs) (hg : w2.grownBy w' v.ownBlock) (hsp : Own 1 SRow.enc 39 w' lo v' (rs ++ [r])) : OwnG w' lo w'.heap.size v' (rs ++ [r]) := by
  have hold : ∀ (i : Nat) (s : SRow), rs[i]? = some s → Own 1 encI 3 w' lo s.v s.xs := fun i s hs => (h.rows i s hs).grown hg fun g h1 h2 => h.rowSpine i s hs g h1 h2
  have hnew : Own 1 encI 3 w' hi r.v r.xs := hr.grown hg fun g h1 h2 => own_neF hr h.spine (by decide) g h1 h2
  exact h.push hold hsp (hnew.mono hlh) (Nat.le_trans hhi hg.size) (fun g hg' => (hsp.lt g hg').2) (fun i s hs g hg' => own_neF (hold i s hs) hsp (by decide) g hg') (fun g hg' => ⟨(hnew.lt g hg').2, (hnew.lt g hg').1, own_neF hnew hsp (by decide) g hg'⟩)

theorem own_nilF (w : World) (B hi : Nat) : OwnG w B hi (.slice none 0 0) [] :=
  ⟨Own.nil, by simp [Value.ownBlock], by simp, by simp, by simp, by simp⟩
/-- a row is appended to, and its place in the spine written anew -/
theorem OwnG.reRow {w1 : World} {gs cap i : Nat} {r' : SRow} (h : OwnG w lo hi (.slice (some ⟨gs, 0, none⟩) rs.length cap) rs) (hi' : i < rs.length) (hhi : hi ≤ w.heap.size) (hlo : lo ≤ w.heap.size) (hg : w.grownBy w1 rs[i].v.ownBlock) (ho : Own 1 encI 3 w1 lo r'.v r'.xs)
    (hb : ∀ g, r'.v.ownBlock = some g → rs[i].v.ownBlock = some g ∨ w.heap.size ≤ g) : OwnG (w1.setCell ⟨gs, i, none⟩ r'.v) lo w1.heap.size (.slice (some ⟨gs, 0, none⟩) rs.length cap) (rs.set i r') := by
  have hget := List.getElem?_eq_getElem hi'
  have hgs : gs < hi := h.spineHi gs rfl
  have hgsz := hg.size
  have hspine1 : Own 1 SRow.enc 39 w1 lo (.slice (some ⟨gs, 0, none⟩) rs.length cap) rs := h.spine.grown hg fun g h1 h2 => h.rowSpine i _ hget g h2 h1
  have hcase : ∀ (k : Nat) (r : SRow), (rs.set i r')[k]? = some r → (k = i ∧ r = r') ∨ (k ≠ i ∧ rs[k]? = some r) := fun k r hr => by
    by_cases hk : i = k
    · subst hk; rw [List.getElem?_set_self hi'] at hr; exact .inl ⟨rfl, (Option.some.inj hr).symm⟩
    · rw [List.getElem?_set_ne hk] at hr; exact .inr ⟨fun e => hk e.symm, hr⟩
  have hnew : ∀ g, r'.v.ownBlock = some g → g ≠ gs := fun g hg' e => by
    rcases hb g hg' with h1 | h1
    · exact h.rowSpine i _ hget g h1 (by rw [e]; rfl)
    · omega
  have hold : ∀ (k : Nat) (r : SRow), k ≠ i → rs[k]? = some r → Own 1 encI 3 w1 lo r.v r.xs := fun k r hk hr => (h.rows k r hr).grown hg fun g h1 h2 => h.sep k i r _ hr hget hk g h1 h2
  have hsz : (w1.setCell ⟨gs, i, none⟩ r'.v).heap.size = w1.heap.size := by simp
  refine ⟨?_, fun g hg' => ?_, ?_, ?_, ?_, ?_⟩
  · have := hspine1.setElem hi' r' (u := r'.v) rfl
    exact this
  · have e : gs = g := Option.some.inj hg'
    omega
  · intro k r hr
    rcases hcase k r hr with ⟨rfl, rfl⟩ | ⟨hk, hr⟩
    · exact ho.setCell (p := ⟨gs, k, none⟩) hnew _
    · exact (hold k r hk hr).setCell (p := ⟨gs, i, none⟩) (fun g hg' e => h.rowSpine k r hr g hg' (by rw [e]; rfl)) _
  · intro k r hr g hg'
    rcases hcase k r hr with ⟨rfl, rfl⟩ | ⟨hk, hr⟩
    · exact (ho.lt g hg').2
    · exact ((hold k r hk hr).lt g hg').2
  · intro k r hr g hg' e
    have e2 : gs = g := Option.some.inj e
    rcases hcase k r hr with ⟨rfl, rfl⟩ | ⟨hk, hr⟩
    · exact hnew g hg' e2.symm
    · exact h.rowSpine k r hr g hg' (by rw [e2]; rfl)
  · intro k l r s hr hs hkl g hg' hgs'
    rcases hcase k r hr with ⟨hk, hr2⟩ | ⟨hk, hr2⟩ <;> rcases hcase l s hs with ⟨hl, hs2⟩ | ⟨hl, hs2⟩
    · exact hkl (hk.trans hl.symm)
    · subst hk hr2
      rcases hb g hg' with h1 | h1
      · exact h.sep k l _ s hget hs2 hkl g h1 hgs'
      · have := h.rowHi l s hs2 g hgs'; omega
    · subst hl hs2
      rcases hb g hgs' with h1 | h1
      · exact h.sep k l r _ hr2 hget hkl g hg' h1
      · have := h.rowHi k r hr2 g hg'; omega
    · exact h.sep k l r s hr2 hs2 hkl g hg' hgs'
end
/-! ### where a maker's family stands -/
section
variable {xs : List SMaker}
theorem famP_row (hg : goodB xs = true) {n : Nat} (hn : n ≤ xs.length) {m : Nat} {gs : List (Nat × List Nat)} (hI : GrI xs m gs) (hm : m ≤ xs.length) {g : Nat × List Nat} (hgm : g ∈ gs) :
    famP xs n (g.2.map (idOf xs)) = decide (g.1 = endI xs n) ∧ ∃ j, j < xs.length ∧ (g.2.map (idOf xs)).head? = some (idOf xs j) := by
  cases hg2 : g.2 with
  | nil => exact absurd hg2 (hI.ne g hgm)
  | cons j l =>
    have hj := hI.mem g hgm j (by rw [hg2]; exact List.mem_cons_self)
    have hjl : j < xs.length := by omega
    refine ⟨?_, j, hjl, rfl⟩
    unfold famP
    rw [List.map_cons, List.headD_cons, find_self hg hjl, Int.toNat_natCast, hj.2]
theorem fam_idx (hg : goodB xs = true) {n : Nat} (hn : n ≤ xs.length) {gs : List (Nat × List Nat)} (hI : GrI xs n gs) {rs : List SRow} (hm : rs.map (·.xs) = famL xs gs) :
    (idxF (fun r : SRow => famP xs n r.xs) rs = -1 ∧ famL xs (addG gs (endI xs n) n) = famL xs gs ++ [[idOf xs n]]) ∨
    (∃ k, k < rs.length ∧ idxF (fun r : SRow => famP xs n r.xs) rs = (k : Int) ∧ famL xs (addG gs (endI xs n) n) = (famL xs gs).set k ((famL xs gs).getD k [] ++ [idOf xs n])) := by
  have hlen : rs.length = gs.length := by have := congrArg List.length hm; simpa [famL] using this
  have hrow : ∀ i (h1 : i < rs.length) (h2 : i < gs.length), rs[i].xs = (gs[i]).2.map (idOf xs) := fun i h1 h2 => by
    have h3 := congrArg (fun l => l[i]?) hm
    simp only [famL, List.getElem?_map, List.getElem?_eq_getElem h1, List.getElem?_eq_getElem h2, Option.map_some] at h3
    exact Option.some.inj h3
  have hp : ∀ i (h1 : i < rs.length) (h2 : i < gs.length), famP xs n rs[i].xs = decide (gs[i].1 = endI xs n) := fun i h1 h2 => by
    rw [hrow i h1 h2]; exact (famP_row hg hn hI hn (List.getElem_mem h2)).1
  by_cases hany : gs.any (fun g => g.1 == endI xs n) = true
  · right
    obtain ⟨g0, hg0, he0⟩ := List.any_eq_true.1 hany
    obtain ⟨k, hk, rfl⟩ := List.getElem_of_mem hg0
    have he : gs[k].1 = endI xs n := by simpa using he0
    have hother : ∀ i (h : i < gs.length), i ≠ k → gs[i].1 ≠ endI xs n := fun i h hik e => by
      rcases Nat.lt_or_gt_of_ne hik with h1 | h1
      · exact List.pairwise_iff_getElem.1 hI.nd i k h hk h1 (by rw [e, he])
      · exact List.pairwise_iff_getElem.1 hI.nd k i hk h h1 (by rw [e, he])
    refine ⟨k, by omega, idxF_hit (by omega) (by rw [hp k (by omega) hk, decide_eq_true he]) fun c hc => ?_, ?_⟩
    · obtain ⟨i, hi, rfl⟩ := List.getElem_of_mem hc
      have hi2 : i < k := by have := hi; rw [List.length_take] at this; omega
      rw [List.getElem_take, hp i (by omega) (by omega), decide_eq_false (hother i (by omega) (by omega))]
    · unfold addG
      rw [if_pos hany]
      unfold famL
      apply List.ext_getElem
      · simp
      · intro i h1 h2
        have hig : i < gs.length := by simpa using h1
        rw [List.getElem_map, List.getElem_map]
        by_cases hik : i = k
        · subst hik
          rw [List.getElem_set_self, if_pos he]
          simp [List.getD_eq_getElem?_getD, hig]
        · rw [List.getElem_set_ne (fun e => hik e.symm), if_neg (hother i hig hik)]
          simp
  · left
    rw [Bool.not_eq_true] at hany
    have hno : ∀ i (h : i < gs.length), gs[i].1 ≠ endI xs n := fun i h e => by
      rw [List.any_eq_false] at hany
      exact hany gs[i] (List.getElem_mem h) (by simpa using e)
    refine ⟨idxF_miss fun c hc => ?_, ?_⟩
    · obtain ⟨i, hi, rfl⟩ := List.getElem_of_mem hc
      rw [hp i hi (by omega), decide_eq_false (hno i (by omega))]
    · unfold addG
      rw [if_neg (by rw [hany]; decide)]
      simp [famL]
end
end Go.Proofs.Ytapbnggdclpokaa
