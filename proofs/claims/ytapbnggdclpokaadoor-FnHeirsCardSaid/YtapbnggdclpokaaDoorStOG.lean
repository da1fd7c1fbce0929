/- Grids of the call's own (each row in a block of its own): reading, writing, and the marks of the laws over them. Conditions: sizes up to 1048576 where a grid is marked. -/
import Derived.Test.YtapbnggdclpokaaDoorStGrid
namespace Go.Proofs.YtapbnggdclpokaaDoor
open Go.RowKit
set_option linter.unusedVariables false
/-- what lay below lo, or from hi on, stays -/
structure Within (lo hi : Nat) (w w' : World) : Prop where
  os : w'.os = w.os
  tape : w'.tape = w.tape
  output : w'.output = w.output
  size : w.heap.size ≤ w'.heap.size
  block : ∀ k, k < w.heap.size → (k < lo ∨ hi ≤ k) → w'.heap[k]? = w.heap[k]?
theorem Within.refl (lo hi : Nat) (w : World) : Within lo hi w w := ⟨rfl, rfl, rfl, Nat.le_refl _, fun _ _ _ => rfl⟩
theorem Within.trans {lo hi : Nat} {a b c : World} (h : Within lo hi a b) (k : Within lo hi b c) : Within lo hi a c :=
  ⟨k.os.trans h.os, k.tape.trans h.tape, k.output.trans h.output, Nat.le_trans h.size k.size, fun i hi ho => (k.block i (Nat.lt_of_lt_of_le hi h.size) ho).trans (h.block i hi ho)⟩
theorem Within.of_grown {lo hi : Nat} {w w' : World} {row : Option Nat} (h : w.grownBy w' row) (hr : ∀ g, row = some g → lo ≤ g ∧ g < hi) : Within lo hi w w' :=
  ⟨h.os, h.tape, h.output, h.size, fun k hk ho => h.block k hk (fun he => by have := hr k he.symm; omega)⟩
theorem below_within {B lo hi : Nat} {a w w' : World} (h : Below B a w) (hw : Within lo hi w w') (hB : B ≤ lo) (hs : B ≤ w.heap.size) : Below B a w' :=
  h.trans ⟨hw.os, hw.tape, hw.output, hw.size, fun k hk => hw.block k (by omega) (.inl (by omega))⟩
theorem Own.within {α : Type} {k : Nat} {enc : α → Nat → Value} {e : TypeId} {w w' : World} {base lo hi : Nat} {v : Value} {xs : List α} (h : Own k enc e w base v xs) (hw : Within lo hi w w') (hne : ∀ g, v.ownBlock = some g → g < lo ∨ hi ≤ g) : Own k enc e w' base v xs := by
  rcases h with h | ⟨g, cap, cs, rfl, hb, hbl, r⟩
  · exact .inl h
  · exact .inr ⟨g, cap, cs, rfl, hb, (hw.block g hbl.lt (hne g rfl)).trans hbl, r⟩
theorem Row.within {α : Type} {k : Nat} {enc : α → Nat → Value} {w w' : World} {B B' lo hi : Nat} {A : Option Addr} {xs : List α} (h : Row k enc w B A xs) (hw : Within lo hi w w') (h0 : B ≤ lo) (h1 : B ≤ w.heap.size) (hB : B ≤ B') : Row k enc w' B' A xs :=
  h.keep (fun b o hl => by have := hw.block b (by omega) (.inl (by omega)); simp [World.cell?, this]) hB
def SRow.v (r : SRow) : Value := .slice r.A r.xs.length r.cap
/-- rows: the grid v lies from lo on and below hi, each row in a block of its own -/
structure OwnG (w : World) (lo hi : Nat) (v : Value) (rs : List SRow) : Prop where
  spine : Own 1 SRow.enc 38 w lo v rs
  spineHi : ∀ g, v.ownBlock = some g → g < hi
  rows : ∀ (i : Nat) (r : SRow), rs[i]? = some r → Own 1 encI 3 w lo r.v r.xs
  rowHi : ∀ (i : Nat) (r : SRow), rs[i]? = some r → ∀ g, r.v.ownBlock = some g → g < hi
  rowSpine : ∀ (i : Nat) (r : SRow), rs[i]? = some r → ∀ g, r.v.ownBlock = some g → v.ownBlock ≠ some g
  sep : ∀ (i j : Nat) (r s : SRow), rs[i]? = some r → rs[j]? = some s → i ≠ j → ∀ g, r.v.ownBlock = some g → s.v.ownBlock ≠ some g
theorem OwnG.below {w w' : World} {lo hi : Nat} {v : Value} {rs : List SRow} (h : OwnG w lo hi v rs) (hb : Below w.heap.size w w') : OwnG w' lo hi v rs :=
  ⟨h.spine.below hb, h.spineHi, fun i r hr => (h.rows i r hr).below hb, h.rowHi, h.rowSpine, h.sep⟩
theorem OwnG.mono {w : World} {lo lo' hi hi' : Nat} {v : Value} {rs : List SRow} (h : OwnG w lo hi v rs) (h1 : lo' ≤ lo) (h2 : hi ≤ hi') : OwnG w lo' hi' v rs :=
  ⟨h.spine.mono h1, fun g hg => Nat.lt_of_lt_of_le (h.spineHi g hg) h2, fun i r hr => (h.rows i r hr).mono h1, fun i r hr g hg => Nat.lt_of_lt_of_le (h.rowHi i r hr g hg) h2, h.rowSpine, h.sep⟩
/-- blocks outside are written -/
theorem OwnG.within {w w' : World} {lo hi lo' hi' : Nat} {v : Value} {rs : List SRow} (h : OwnG w lo hi v rs) (hw : Within lo' hi' w w') (ho : hi ≤ lo' ∨ hi' ≤ lo) : OwnG w' lo hi v rs :=
  ⟨h.spine.within hw fun g hg => by have := h.spineHi g hg; have := (h.spine.lt g hg).1; omega, h.spineHi,
   fun i r hr => (h.rows i r hr).within hw fun g hg => by have := h.rowHi i r hr g hg; have := ((h.rows i r hr).lt g hg).1; omega, h.rowHi, h.rowSpine, h.sep⟩
theorem OwnG.isG {w : World} {lo hi : Nat} {v : Value} {rs : List SRow} (h : OwnG w lo hi v rs) : IsG w v (rs.map (·.xs)) :=
  ⟨rs, rfl, h.spine.is, fun r hr => by
    obtain ⟨i, hi, rfl⟩ := List.mem_iff_getElem.1 hr
    obtain ⟨A, cap, he, h1, h2, h3⟩ := (h.rows i _ (List.getElem?_eq_getElem hi)).row
    unfold SRow.v at he
    injection he with e1 e2 e3
    subst e1 e3
    exact ⟨h1, h3, h2⟩⟩
def OwnX (w : World) (lo hi : Nat) (v : Value) (xss : List (List Int)) : Prop := ∃ rs : List SRow, rs.map (·.xs) = xss ∧ OwnG w lo hi v rs
section
variable {w w' : World} {lo hi lo' hi' : Nat} {v : Value} {xss : List (List Int)}
theorem OwnX.below (h : OwnX w lo hi v xss) (hb : Below w.heap.size w w') : OwnX w' lo hi v xss := by obtain ⟨rs, h1, h2⟩ := h; exact ⟨rs, h1, h2.below hb⟩
theorem OwnX.mono (h : OwnX w lo hi v xss) (h1 : lo' ≤ lo) (h2 : hi ≤ hi') : OwnX w lo' hi' v xss := by obtain ⟨rs, h3, h4⟩ := h; exact ⟨rs, h3, h4.mono h1 h2⟩
theorem OwnX.within (h : OwnX w lo hi v xss) (hw : Within lo' hi' w w') (ho : hi ≤ lo' ∨ hi' ≤ lo) : OwnX w' lo hi v xss := by obtain ⟨rs, h3, h4⟩ := h; exact ⟨rs, h3, h4.within hw ho⟩
theorem OwnX.isG (h : OwnX w lo hi v xss) : IsG w v xss := by obtain ⟨rs, rfl, h4⟩ := h; exact h4.isG
end
/-- an own row with elements lies in a block -/
theorem own_blk {α : Type} {k : Nat} {enc : α → Nat → Value} {e : TypeId} {w : World} {base : Nat} {v : Value} {xs : List α} (h : Own k enc e w base v xs) (hp : 0 < xs.length) :
    ∃ g cap cs, v = .slice (some ⟨g, 0, none⟩) xs.length cap ∧ base ≤ g ∧ Blk w g e cs ∧ xs.length ≤ cap ∧ cap ≤ maxLen ∧ cs.size = cap * k ∧ Filled k enc cs xs.length xs := by
  rcases h with ⟨_, rfl⟩ | h
  · simp at hp
  · exact h
/-- the cells of an element of an own grid -/
theorem OwnG.cells {w : World} {lo hi : Nat} {v : Value} {rs : List SRow} (h : OwnG w lo hi v rs) {i j : Nat} (hi' : i < rs.length) (hj : j < rs[i].xs.length) :
    ∃ gs cap gr cr, v = .slice (some ⟨gs, 0, none⟩) rs.length cap ∧ rs[i].v = .slice (some ⟨gr, 0, none⟩) rs[i].xs.length cr ∧ lo ≤ gr ∧ gr < hi ∧ gr ≠ gs ∧ w.cell? ⟨gs, i, none⟩ = some (.slice (some ⟨gr, 0, none⟩) rs[i].xs.length cr) ∧ w.cell? ⟨gr, j, none⟩ = some (.int .i64 rs[i].xs[j]) ∧ (∀ o, w.frozen? ⟨gr, o, none⟩ = false) := by
  obtain ⟨gs, cap, cs, rfl, _, hbs, _, _, _, hfs⟩ := own_blk h.spine (by omega)
  have hget := List.getElem?_eq_getElem hi'
  obtain ⟨gr, cr, cr2, hv, hlo, hbr, _, _, _, hfr⟩ := own_blk (h.rows i _ hget) (by omega)
  have hhi := h.rowHi i _ hget gr (by rw [hv]; rfl)
  have hsp := h.rowSpine i _ hget gr (by rw [hv]; rfl)
  refine ⟨gs, cap, gr, cr, rfl, hv, hlo, hhi, fun e => hsp (by rw [e]; rfl), ?_, ?_, fun o => hbr.frozen o⟩
  · rw [hbs.cell]
    have := hfs i _ hi' hget 0 (by omega)
    rw [Nat.mul_one, Nat.add_zero] at this
    rw [this, ← hv]; rfl
  · rw [hbr.cell]
    have := hfr j _ hj (List.getElem?_eq_getElem hj) 0 (by omega)
    rw [Nat.mul_one, Nat.add_zero] at this
    exact this
theorem filled_set1 {α : Type} {enc : α → Nat → Value} {cs : Array Value} {xs : List α} (h : Filled 1 enc cs xs.length xs) {j : Nat} (hs : j < cs.size) (x : α) {u : Value} (hu : enc x 0 = u) : Filled 1 enc (cs.setIfInBounds j u) (xs.set j x).length (xs.set j x) := by
  subst hu
  intro i y hi hy c hc
  obtain rfl : c = 0 := by omega
  rw [Nat.mul_one, Nat.add_zero]
  rw [List.length_set] at hi
  by_cases hij : j = i
  · subst hij
    rw [List.getElem?_set_self hi] at hy
    injection hy with hy
    subst hy
    rw [Array.getElem?_setIfInBounds_self_of_lt hs]
  · rw [List.getElem?_set_ne hij] at hy
    rw [Array.getElem?_setIfInBounds_ne hij]
    have := h i y hi hy 0 (by omega)
    rw [Nat.mul_one, Nat.add_zero] at this
    exact this
def setXY (xss : List (List Int)) (i j : Nat) (x : Int) : List (List Int) := xss.set i ((xss.getD i []).set j x)
/-- a row of an own grid is written -/
theorem OwnG.setRow {w w' : World} {lo hi : Nat} {v : Value} {rs : List SRow} (h : OwnG w lo hi v rs) {i : Nat} (hi' : i < rs.length) (ys : List Int) (hl : ys.length = rs[i].xs.length) (hg : w.grownBy w' rs[i].v.ownBlock) (ho : Own 1 encI 3 w' lo rs[i].v ys) :
    OwnG w' lo hi v (rs.set i ⟨ys, rs[i].A, rs[i].cap⟩) := by
  have hget := List.getElem?_eq_getElem hi'
  have hval : (⟨ys, rs[i].A, rs[i].cap⟩ : SRow).v = rs[i].v := by simp [SRow.v, hl]
  have hcase : ∀ (k : Nat) (r : SRow), (rs.set i ⟨ys, rs[i].A, rs[i].cap⟩)[k]? = some r → (k = i ∧ r = ⟨ys, rs[i].A, rs[i].cap⟩) ∨ (k ≠ i ∧ rs[k]? = some r) := fun k r hr => by
    by_cases hk : i = k
    · subst hk; rw [List.getElem?_set_self hi'] at hr; exact .inl ⟨rfl, (Option.some.inj hr).symm⟩
    · rw [List.getElem?_set_ne hk] at hr; exact .inr ⟨fun e => hk e.symm, hr⟩
  have hvv : ∀ (k : Nat) (r : SRow), (rs.set i ⟨ys, rs[i].A, rs[i].cap⟩)[k]? = some r → ∃ r', rs[k]? = some r' ∧ r.v = r'.v := fun k r hr => by
    rcases hcase k r hr with ⟨rfl, rfl⟩ | ⟨_, hr⟩
    · exact ⟨_, hget, hval⟩
    · exact ⟨r, hr, rfl⟩
  refine ⟨?_, h.spineHi, ?_, ?_, ?_, ?_⟩
  · have hs2 : Own 1 SRow.enc 38 w lo v (rs.set i ⟨ys, rs[i].A, rs[i].cap⟩) := by
      obtain ⟨gs, cap, cs, rfl, h1, h2, h3, h4, h5, h6⟩ := own_blk h.spine (by omega)
      refine .inr ⟨gs, cap, cs, by rw [List.length_set], h1, h2, by rw [List.length_set]; exact h3, h4, h5, ?_⟩
      intro k r hk hr c hc
      rw [List.length_set] at hk
      obtain ⟨r', hr', hrv⟩ := hvv k r hr
      have := h6 k r' hk hr' c hc
      rw [this]
      exact congrArg some hrv.symm
    exact hs2.grown hg fun g hg' e => h.rowSpine i _ hget g e hg'
  · intro k r hr
    rcases hcase k r hr with ⟨rfl, rfl⟩ | ⟨hk, hr⟩
    · rw [hval]; exact ho
    · exact (h.rows k r hr).grown hg fun g hg' e => h.sep k i r _ hr hget hk g hg' e
  · intro k r hr g hg
    obtain ⟨r', hr', hrv⟩ := hvv k r hr
    rw [hrv] at hg
    exact h.rowHi k r' hr' g hg
  · intro k r hr g hg
    obtain ⟨r', hr', hrv⟩ := hvv k r hr
    rw [hrv] at hg
    exact h.rowSpine k r' hr' g hg
  · intro k l r s hr hs hkl g hg
    obtain ⟨r', hr', hrv⟩ := hvv k r hr
    obtain ⟨s', hs', hsv⟩ := hvv l s hs
    rw [hrv] at hg
    rw [hsv]
    exact h.sep k l r' s' hr' hs' hkl g hg
theorem Own.setElem {α : Type} {enc : α → Nat → Value} {e : TypeId} {w : World} {base g cap n : Nat} {xs : List α} (h : Own 1 enc e w base (.slice (some ⟨g, 0, none⟩) n cap) xs) {j : Nat} (hj : j < xs.length) (x : α) {u : Value} (hu : enc x 0 = u) : Own 1 enc e (w.setCell ⟨g, j, none⟩ u) base (.slice (some ⟨g, 0, none⟩) n cap) (xs.set j x) := by
  obtain ⟨g', cap', cs, he, h1, h2, h3, h4, h5, h6⟩ := own_blk h (by omega)
  injection he with e1 e2 e3
  injection e1 with e1; injection e1 with e1 _
  subst e1 e2 e3
  exact .inr ⟨g, cap, _, by rw [List.length_set], h1, h2.set _ _, by rw [List.length_set]; exact h3, h4, by simpa using h5, filled_set1 h6 (by omega) x hu⟩
/-- an element of an own grid is written -/
theorem OwnG.set {w : World} {lo hi : Nat} {v : Value} {rs : List SRow} (h : OwnG w lo hi v rs) {i j gr cr n : Nat} (hi' : i < rs.length) (hj : j < rs[i].xs.length) (hv : rs[i].v = .slice (some ⟨gr, 0, none⟩) n cr) (x : Int) :
    OwnG (w.setCell ⟨gr, j, none⟩ (.int .i64 x)) lo hi v (rs.set i ⟨rs[i].xs.set j x, rs[i].A, rs[i].cap⟩) := by
  have hown := h.rows i _ (List.getElem?_eq_getElem hi')
  refine h.setRow hi' (rs[i].xs.set j x) (by simp) ?_ ?_
  · rw [hv]; exact grownBy_setCell (World.grownBy.refl _ _) _ _
  · rw [hv] at hown ⊢
    exact hown.setElem hj x rfl
/-- a row is appended: the spine may have grown into a new block -/
theorem OwnG.push {w w' : World} {lo hi hi' : Nat} {v v' : Value} {rs : List SRow} (h : OwnG w lo hi v rs) {r : SRow} (hw : ∀ (i : Nat) (s : SRow), rs[i]? = some s → Own 1 encI 3 w' lo s.v s.xs) (hsp : Own 1 SRow.enc 38 w' lo v' (rs ++ [r])) (hr : Own 1 encI 3 w' lo r.v r.xs)
    (hh : hi ≤ hi') (hs1 : ∀ g, v'.ownBlock = some g → g < hi') (hs2 : ∀ (i : Nat) (s : SRow), rs[i]? = some s → ∀ g, s.v.ownBlock = some g → v'.ownBlock ≠ some g) (hr1 : ∀ g, r.v.ownBlock = some g → g < hi' ∧ hi ≤ g ∧ v'.ownBlock ≠ some g) : OwnG w' lo hi' v' (rs ++ [r]) := by
  have hcase : ∀ (k : Nat) (s : SRow), (rs ++ [r])[k]? = some s → (k < rs.length ∧ rs[k]? = some s) ∨ (k = rs.length ∧ s = r) := fun k s hk => by
    by_cases hl : k < rs.length
    · rw [List.getElem?_append_left hl] at hk; exact .inl ⟨hl, hk⟩
    · have h1 := (List.getElem?_eq_some_iff.1 hk).1
      have hkl : k = rs.length := by simp at h1; omega
      subst hkl
      simp at hk
      exact .inr ⟨rfl, hk.symm⟩
  refine ⟨hsp, hs1, ?_, ?_, ?_, ?_⟩
  · intro k s hk
    rcases hcase k s hk with ⟨_, h1⟩ | ⟨_, rfl⟩
    · exact hw k s h1
    · exact hr
  · intro k s hk g hg
    rcases hcase k s hk with ⟨_, h1⟩ | ⟨_, rfl⟩
    · exact Nat.lt_of_lt_of_le (h.rowHi k s h1 g hg) hh
    · exact (hr1 g hg).1
  · intro k s hk g hg
    rcases hcase k s hk with ⟨_, h1⟩ | ⟨_, rfl⟩
    · exact hs2 k s h1 g hg
    · exact (hr1 g hg).2.2
  · intro k l s t hk hl hkl g hg
    rcases hcase k s hk with ⟨h0, h1⟩ | ⟨h0, rfl⟩ <;> rcases hcase l t hl with ⟨h2, h3⟩ | ⟨h2, rfl⟩
    · exact h.sep k l s t h1 h3 hkl g hg
    · intro e; have := h.rowHi k s h1 g hg; have := (hr1 g e).2.1; omega
    · intro e; have := h.rowHi l t h3 g e; have := (hr1 g hg).2.1; omega
    · omega
/-! ### marks -/
def marksG (k0 : Int) : List (List Int) → List (List Int)
  | [] => []
  | xs :: r => marksI k0 xs.length :: marksG (k0 + (xs.length : Int)) r
def sumG (xss : List (List Int)) (i : Nat) : Nat := ((xss.take i).map List.length).sum
theorem sumG_succ {xss : List (List Int)} {i : Nat} (h : i < xss.length) : sumG xss (i + 1) = sumG xss i + xss[i].length := by
  unfold sumG; rw [take_snoc' h, List.map_append, List.sum_append]; simp
theorem sumG_le (xss : List (List Int)) (i : Nat) : sumG xss i ≤ szG xss := by
  have h := sumG_take_le (xss.map List.length) i
  rw [← List.map_take] at h
  unfold sumG szG
  omega
theorem sumG_cons (xs : List Int) (r : List (List Int)) (i : Nat) : sumG (xs :: r) (i + 1) = xs.length + sumG r i := by simp [sumG]
theorem marksG_length (k0 : Int) (xss : List (List Int)) : (marksG k0 xss).length = xss.length := by
  induction xss generalizing k0 with
  | nil => rfl
  | cons xs r ih => simp [marksG, ih]
theorem marksG_get (k0 : Int) (xss : List (List Int)) (i : Nat) (h : i < xss.length) : (marksG k0 xss)[i]'(by rw [marksG_length]; exact h) = marksI (k0 + (sumG xss i : Int)) xss[i].length := by
  induction xss generalizing k0 i with
  | nil => simp at h
  | cons xs r ih =>
    cases i with
    | zero => simp [marksG, sumG]
    | succ i =>
      have h' : i < r.length := by simpa using h
      simp only [marksG, List.getElem_cons_succ]
      rw [ih (k0 + (xs.length : Int)) i h', sumG_cons]
      congr 1
      rw [Int.natCast_add]; omega
theorem marksG_sum (k0 : Int) (xss : List (List Int)) (i : Nat) : sumG (marksG k0 xss) i = sumG xss i := by
  induction xss generalizing k0 i with
  | nil => rfl
  | cons xs r ih =>
    cases i with
    | zero => rfl
    | succ i => simp only [marksG, sumG_cons, ih, marksI_length]
theorem marksG_again (k0 k1 : Int) (xss : List (List Int)) : marksG k0 (marksG k1 xss) = marksG k0 xss := by
  induction xss generalizing k0 k1 with
  | nil => rfl
  | cons xs r ih => simp only [marksG, marksI_length, ih]
theorem marksG_sz (k0 : Int) (xss : List (List Int)) : szG (marksG k0 xss) = szG xss := by
  induction xss generalizing k0 with
  | nil => rfl
  | cons xs r ih =>
    have := ih (k0 + (xs.length : Int))
    unfold szG at *
    simp only [marksG, List.length_cons, List.map_cons, List.sum_cons, marksI_length]
    omega
theorem take_set {α : Type} {M X : List α} {k : Nat} (hl : M.length = X.length) (hk : k < M.length) : (M.take k ++ X.drop k).set k M[k] = M.take (k + 1) ++ X.drop (k + 1) := by
  have hk2 : k < X.length := by omega
  rw [List.set_append_right _ _ (by simp; omega), List.drop_eq_getElem_cons hk2]
  simp only [List.length_take]
  rw [show k - min k M.length = 0 by omega, List.set_cons_zero, take_snoc' hk, List.append_assoc]
  rfl
end Go.Proofs.YtapbnggdclpokaaDoor
