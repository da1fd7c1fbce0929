/- The filled levels of a relief, in plain Lean: one sweep over the squares; the two fillings (from 9999 and from 10000) end in one grid, levF. Nothing here speaks of the program. Condition: a relief. -/
import Derived.Test.YtomcdkkjknphpaaL9J
import Derived.Test.YtomcdkkjknphpaaStOG
namespace Go.Proofs.Ytomcdkkjknphpaa
open Go.RowKit
set_option linter.unusedVariables false
instance sa2Dec : DecidableEq SA2 := fun a b => if h : a.x = b.x ∧ a.y = b.y then isTrue (by cases a; cases b; simp_all) else isFalse (fun e => h (by rw [e]; exact ⟨rfl, rfl⟩))
theorem fold_gen {α β : Type} {P : β → Prop} {f : β → α → β} : ∀ (l : List α), (∀ a n, n ∈ l → P a → P (f a n)) → ∀ a, P a → P (l.foldl f a)
  | [], _, _, h => h
  | n :: l, hs, a, h => fold_gen l (fun a k hk => hs a k (List.mem_cons_of_mem _ hk)) _ (hs a n List.mem_cons_self h)
def setS (G : List (List Int)) (p : SA2) (x : Int) : List (List Int) := setXY G p.x.toNat p.y.toNat x
/-- a grid of the relief's size -/
def Shape (xss G : List (List Int)) : Prop := G.length = xss.length ∧ ∀ i, i < xss.length → (G.getD i []).length = hdLen xss
def InS (xss : List (List Int)) (p : SA2) : Prop := (0 ≤ p.x ∧ p.x < xss.length) ∧ (0 ≤ p.y ∧ p.y < hdLen xss)
section
variable {xss G : List (List Int)}
theorem setXY_get (G : List (List Int)) (i j : Nat) (x : Int) (a b : Nat) (hi : i < G.length) (hj : j < (G.getD i []).length) : ((setXY G i j x).getD a []).getD b 0 = if a = i ∧ b = j then x else (G.getD a []).getD b 0 := by
  unfold setXY
  by_cases ha : a = i
  · subst ha
    rw [show (G.set a ((G.getD a []).set j x)).getD a [] = (G.getD a []).set j x by simp [List.getD_eq_getElem?_getD, hi]]
    by_cases hb : b = j
    · subst hb
      simp [List.getD_eq_getElem?_getD, List.getElem?_set_self (by simpa [List.getD_eq_getElem?_getD] using hj)]
    · rw [if_neg (by omega)]
      simp only [List.getD_eq_getElem?_getD]
      rw [List.getElem?_set_ne (by omega)]
  · rw [if_neg (by omega)]
    simp only [List.getD_eq_getElem?_getD]
    rw [List.getElem?_set_ne (by omega)]
theorem Shape.set (h : Shape xss G) (p : SA2) (x : Int) : Shape xss (setS G p x) := by
  refine ⟨by simp [setS, setXY, h.1], fun i hi => ?_⟩
  unfold setS setXY
  by_cases hp : p.x.toNat = i
  · subst hp
    rw [show (G.set p.x.toNat ((G.getD p.x.toNat []).set p.y.toNat x)).getD p.x.toNat [] = (G.getD p.x.toNat []).set p.y.toNat x by
      simp [List.getD_eq_getElem?_getD, show p.x.toNat < G.length by rw [h.1]; exact hi]]
    rw [List.length_set]; exact h.2 _ hi
  · simp only [List.getD_eq_getElem?_getD]
    rw [List.getElem?_set_ne hp]
    have := h.2 i hi
    rwa [List.getD_eq_getElem?_getD] at this
theorem cellS_set (h : Shape xss G) {p : SA2} (hp : InS xss p) (x : Int) {q : SA2} (hq : InS xss q) : cellS (setS G p x) q = if q = p then x else cellS G q := by
  obtain ⟨⟨p1, p2⟩, p3, p4⟩ := hp
  obtain ⟨⟨q1, q2⟩, q3, q4⟩ := hq
  unfold cellS setS
  rw [setXY_get _ _ _ _ _ _ (by rw [h.1]; omega) (by rw [h.2 _ (by omega)]; omega)]
  obtain ⟨px, py⟩ := p
  obtain ⟨qx, qy⟩ := q
  simp only at *
  by_cases he : qx = px ∧ qy = py
  · obtain ⟨rfl, rfl⟩ := he; simp
  · rw [if_neg (by omega), if_neg (by simpa using he)]
/-- two grids of one size with the same cells are one -/
theorem grid_ext {H : List (List Int)} (h : Shape xss G) (k : Shape xss H) (he : ∀ q, InS xss q → cellS G q = cellS H q) : G = H := by
  have hlen : G.length = H.length := h.1.trans k.1.symm
  apply List.ext_getElem hlen
  intro i h1 h2
  have e1 : G[i] = G.getD i [] := by simp [List.getD_eq_getElem?_getD, h1]
  have e2 : H[i] = H.getD i [] := by simp [List.getD_eq_getElem?_getD, h2]
  have hi : i < xss.length := by rw [← h.1]; exact h1
  rw [e1, e2]
  have l1 := h.2 i hi
  have l2 := k.2 i hi
  apply List.ext_getElem (l1.trans l2.symm)
  intro j g1 g2
  have := he ⟨(i : Int), (j : Int)⟩ ⟨⟨by simp, by simpa using hi⟩, by simp, by simpa using (by omega : j < hdLen xss)⟩
  unfold cellS at this
  simp only [Int.toNat_natCast] at this
  generalize G.getD i [] = a at *
  generalize H.getD i [] = b at *
  simpa [List.getD_eq_getElem?_getD, g1, g2] using this
theorem set_same (h : Shape xss G) {p : SA2} (hp : InS xss p) : setS G p (cellS G p) = G :=
  grid_ext (h.set p _) h fun q hq => by rw [cellS_set h hp _ hq]; split <;> simp_all
/-! ### one step, one square, one sweep; the flag tells whether a level became less -/
def stepP (xss : List (List Int)) (s : SA2) (a : List (List Int) × Bool) (n : SA2) : List (List Int) × Bool :=
  if max (cellS xss s) (cellS a.1 n) < cellS a.1 s then (setS a.1 s (max (cellS xss s) (cellS a.1 n)), true) else a
def sqP (xss : List (List Int)) (a : List (List Int) × Bool) (s : SA2) : List (List Int) × Bool := (nearS xss s.x s.y).foldl (stepP xss s) a
def allS (xss : List (List Int)) : List SA2 := sqTo (hdLen xss) xss.length
def sweepP (xss G : List (List Int)) : List (List Int) × Bool := (allS xss).foldl (sqP xss) (G, false)
theorem allS_in {p : SA2} (h : p ∈ allS xss) : InS xss p := sqTo_mem h
/-- a property of pairs that each step keeps is kept by folds -/
theorem sqP_keep {P : List (List Int) × Bool → Prop} {s : SA2} (hs : ∀ a n, n ∈ nearS xss s.x s.y → P a → P (stepP xss s a n)) {a : List (List Int) × Bool} (h : P a) : P (sqP xss a s) := fold_gen _ hs _ h
theorem fold_keep {P : List (List Int) × Bool → Prop} {l : List SA2} (hs : ∀ a s, s ∈ l → P a → P (sqP xss a s)) {a : List (List Int) × Bool} (h : P a) : P (l.foldl (sqP xss) a) := fold_gen _ hs _ h
theorem near_in {s n : SA2} (h : n ∈ nearS xss s.x s.y) : InS xss n := nearS_in h
theorem stepP_shape {s : SA2} {a : List (List Int) × Bool} (n : SA2) (h : Shape xss a.1) : Shape xss (stepP xss s a n).1 := by
  unfold stepP; split
  · exact h.set _ _
  · exact h
theorem sqP_shape {s : SA2} {a : List (List Int) × Bool} (h : Shape xss a.1) : Shape xss (sqP xss a s).1 := sqP_keep (P := fun a => Shape xss a.1) (fun a n _ ha => stepP_shape n ha) h
theorem fold_shape {l : List SA2} {a : List (List Int) × Bool} (h : Shape xss a.1) : Shape xss (l.foldl (sqP xss) a).1 := fold_keep (P := fun a => Shape xss a.1) (fun a n _ ha => sqP_shape ha) h
theorem sweepP_shape (h : Shape xss G) : Shape xss (sweepP xss G).1 := fold_shape h
/-! ### a sweep makes nothing greater; it says true exactly if it made something less -/
def sumS (xss G : List (List Int)) : Int := ((allS xss).map (cellS G)).sum
theorem stepP_cell {s n : SA2} {a : List (List Int) × Bool} (h : Shape xss a.1) (hs : InS xss s) {q : SA2} (hq : InS xss q) : cellS (stepP xss s a n).1 q = if q = s then min (cellS a.1 s) (max (cellS xss s) (cellS a.1 n)) else cellS a.1 q := by
  unfold stepP
  by_cases hc : max (cellS xss s) (cellS a.1 n) < cellS a.1 s
  · rw [if_pos hc]
    rw [cellS_set h hs _ hq]
    split
    · omega
    · rfl
  · rw [if_neg hc]
    split
    · rename_i hqs; subst hqs; omega
    · rfl
theorem stepP_le {s n : SA2} {a : List (List Int) × Bool} (h : Shape xss a.1) (hs : InS xss s) {q : SA2} (hq : InS xss q) : cellS (stepP xss s a n).1 q ≤ cellS a.1 q := by
  rw [stepP_cell h hs hq]; split
  · rename_i hqs; subst hqs; omega
  · exact Int.le_refl _
theorem sqP_le {s : SA2} {a : List (List Int) × Bool} (h : Shape xss a.1) (hs : InS xss s) {q : SA2} (hq : InS xss q) : cellS (sqP xss a s).1 q ≤ cellS a.1 q :=
  (sqP_keep (P := fun b => Shape xss b.1 ∧ cellS b.1 q ≤ cellS a.1 q) (fun b n _ hb => ⟨stepP_shape n hb.1, Int.le_trans (stepP_le hb.1 hs hq) hb.2⟩) ⟨h, Int.le_refl _⟩).2
theorem fold_le {l : List SA2} (hl : ∀ s ∈ l, InS xss s) {a : List (List Int) × Bool} (h : Shape xss a.1) {q : SA2} (hq : InS xss q) : cellS (l.foldl (sqP xss) a).1 q ≤ cellS a.1 q :=
  (fold_keep (P := fun b => Shape xss b.1 ∧ cellS b.1 q ≤ cellS a.1 q) (fun b s hs hb => ⟨sqP_shape hb.1, Int.le_trans (sqP_le hb.1 (hl s hs) hq) hb.2⟩) ⟨h, Int.le_refl _⟩).2
theorem sum_le {l : List SA2} {f g : SA2 → Int} (h : ∀ q ∈ l, f q ≤ g q) : (l.map f).sum ≤ (l.map g).sum := by
  induction l with
  | nil => simp
  | cons a l ih =>
    have h1 := h a List.mem_cons_self
    have h2 := ih fun q hq => h q (List.mem_cons_of_mem _ hq)
    simp only [List.map_cons, List.sum_cons]; omega
theorem sum_lt {l : List SA2} {f g : SA2 → Int} (h : ∀ q ∈ l, f q ≤ g q) {p : SA2} (hp : p ∈ l) (hlt : f p < g p) : (l.map f).sum < (l.map g).sum := by
  induction l with
  | nil => simp at hp
  | cons a l ih =>
    have h1 := h a List.mem_cons_self
    have h2 := sum_le fun q hq => h q (List.mem_cons_of_mem _ hq)
    simp only [List.map_cons, List.sum_cons]
    rcases List.mem_cons.1 hp with rfl | hp
    · omega
    · have := ih (fun q hq => h q (List.mem_cons_of_mem _ hq)) hp; omega
theorem allS_mem {q : SA2} (h : InS xss q) : q ∈ allS xss := by
  obtain ⟨⟨h1, h2⟩, h3, h4⟩ := h
  unfold allS sqTo sqRow
  rw [List.mem_flatMap]
  refine ⟨q.x.toNat, List.mem_range.2 (by omega), List.mem_map.2 ⟨q.y.toNat, List.mem_range.2 (by omega), ?_⟩⟩
  obtain ⟨x, y⟩ := q
  simp only at *
  congr 1 <;> omega
/-- the flag, and the sum of the levels -/
theorem fold_flag {l : List SA2} (hl : ∀ s ∈ l, InS xss s) {G : List (List Int)} (h : Shape xss G) : ((l.foldl (sqP xss) (G, false)).2 = false → (l.foldl (sqP xss) (G, false)).1 = G) ∧ ((l.foldl (sqP xss) (G, false)).2 = true → sumS xss (l.foldl (sqP xss) (G, false)).1 < sumS xss G) := by
  have key : ∀ b : List (List Int) × Bool, (Shape xss b.1 ∧ (∀ q, InS xss q → cellS b.1 q ≤ cellS G q) ∧ (b.2 = false → b.1 = G) ∧ (b.2 = true → sumS xss b.1 < sumS xss G)) → ∀ s n, InS xss s → (Shape xss (stepP xss s b n).1 ∧ (∀ q, InS xss q → cellS (stepP xss s b n).1 q ≤ cellS G q) ∧ ((stepP xss s b n).2 = false → (stepP xss s b n).1 = G) ∧ ((stepP xss s b n).2 = true → sumS xss (stepP xss s b n).1 < sumS xss G)) := by
    intro b ⟨hb1, hb2, hb3, hb4⟩ s n hs
    refine ⟨stepP_shape n hb1, fun q hq => Int.le_trans (stepP_le hb1 hs hq) (hb2 q hq), ?_, ?_⟩
    · intro hf
      unfold stepP at hf ⊢
      split at hf
      · simp at hf
      · rename_i hc; rw [if_neg hc]; exact hb3 hf
    · intro ht
      by_cases hc : max (cellS xss s) (cellS b.1 n) < cellS b.1 s
      · refine sum_lt (fun q hq => Int.le_trans (stepP_le hb1 hs (allS_in hq)) (hb2 q (allS_in hq))) (allS_mem hs) ?_
        rw [stepP_cell hb1 hs hs, if_pos rfl]
        have := hb2 s hs; omega
      · have e : stepP xss s b n = b := by unfold stepP; rw [if_neg hc]
        rw [e] at ht ⊢; exact hb4 ht
  have := fold_keep (xss := xss) (P := fun b => Shape xss b.1 ∧ (∀ q, InS xss q → cellS b.1 q ≤ cellS G q) ∧ (b.2 = false → b.1 = G) ∧ (b.2 = true → sumS xss b.1 < sumS xss G)) (l := l) (fun b s hs hb => sqP_keep (fun b n hn hb => key b hb s n (hl s hs)) hb) (a := (G, false)) ⟨h, fun q _ => Int.le_refl _, fun _ => rfl, fun h => by simp at h⟩
  exact this.2.2
theorem sweep_flag (h : Shape xss G) : ((sweepP xss G).2 = false → (sweepP xss G).1 = G) ∧ ((sweepP xss G).2 = true → sumS xss (sweepP xss G).1 < sumS xss G) := fold_flag (fun s hs => allS_in hs) h
/-! ### sweeps -/
def sweeps9 (xss : List (List Int)) : Nat → List (List Int) → List (List Int)
  | 0, G => G
  | n + 1, G => sweeps9 xss n (sweepP xss G).1
theorem sweeps9_shape : ∀ (n : Nat) {G : List (List Int)}, Shape xss G → Shape xss (sweeps9 xss n G)
  | 0, _, h => h
  | n + 1, _, h => sweeps9_shape n (sweepP_shape h)
theorem sweeps9_add : ∀ (n k : Nat) (G : List (List Int)), sweeps9 xss (n + k) G = sweeps9 xss k (sweeps9 xss n G)
  | 0, k, G => by rw [Nat.zero_add]; rfl
  | n + 1, k, G => by rw [Nat.succ_add]; exact sweeps9_add n k _
theorem sweeps9_fix {G : List (List Int)} (h : (sweepP xss G).1 = G) : ∀ n, sweeps9 xss n G = G
  | 0 => rfl
  | n + 1 => by show sweeps9 xss n (sweepP xss G).1 = G; rw [h]; exact sweeps9_fix h n
/-- cells of a grid, all between 0 and u -/
def InR (xss G : List (List Int)) (u : Int) : Prop := ∀ q, InS xss q → 0 ≤ cellS G q ∧ cellS G q ≤ u
theorem InR.sum {u : Int} (h : InR xss G u) : 0 ≤ sumS xss G := by
  unfold sumS
  have h2 : ∀ q ∈ allS xss, 0 ≤ cellS G q := fun q hq => (h q (allS_in hq)).1
  generalize allS xss = l at *
  induction l with
  | nil => simp
  | cons a l ih =>
    have h1 := h2 a List.mem_cons_self
    have h3 := ih fun q hq => h2 q (List.mem_cons_of_mem _ hq)
    simp only [List.map_cons, List.sum_cons]; omega
theorem sweep_ge {u : Int} (hx : InR xss xss 9999) (hs : Shape xss G) (h : InR xss G u) : InR xss (sweepP xss G).1 u := by
  have := fold_keep (xss := xss) (P := fun b => Shape xss b.1 ∧ InR xss b.1 u) (l := allS xss) (fun b s hs hb => sqP_keep (P := fun b => Shape xss b.1 ∧ InR xss b.1 u) (fun b n hn hb => ⟨stepP_shape n hb.1, fun q hq => by
    rw [stepP_cell hb.1 (allS_in hs) hq]
    have h1 := hb.2 q hq; have h2 := hb.2 s (allS_in hs); have h3 := hx s (allS_in hs); have h4 := hb.2 n (near_in hn)
    split <;> omega⟩) hb) (a := (G, false)) ⟨hs, h⟩
  exact this.2
theorem sweeps_ge9 {u : Int} (hx : InR xss xss 9999) : ∀ (n : Nat) {G : List (List Int)}, Shape xss G → InR xss G u → InR xss (sweeps9 xss n G) u
  | 0, _, _, h => h
  | n + 1, _, hs, h => sweeps_ge9 hx n (sweepP_shape hs) (sweep_ge hx hs h)
/-- after as many sweeps as the sum tells nothing becomes less any more -/
theorem sweeps_stop (hx : InR xss xss 9999) {u : Int} : ∀ (n : Nat) {G : List (List Int)}, Shape xss G → InR xss G u → sumS xss G ≤ n → (sweepP xss (sweeps9 xss n G)).1 = sweeps9 xss n G := by
  intro n
  induction n with
  | zero =>
    intro G hs h hn
    show (sweepP xss G).1 = G
    cases hf : (sweepP xss G).2 with
    | false => exact (sweep_flag hs).1 hf
    | true =>
      have h1 := (sweep_flag hs).2 hf
      have h2 := (sweep_ge hx hs h).sum
      omega
  | succ n ih =>
    intro G hs h hn
    cases hf : (sweepP xss G).2 with
    | false =>
      have h1 := (sweep_flag hs).1 hf
      rw [sweeps9_fix h1]; exact h1
    | true =>
      have h1 := (sweep_flag hs).2 hf
      exact ih (sweepP_shape hs) (sweep_ge hx hs h) (by omega)
/-! ### the two beginnings: one is the other, cut at 9999 -/
def capG (G : List (List Int)) : List (List Int) := G.map fun r => r.map fun x => min x 9999
theorem capG_shape (h : Shape xss G) : Shape xss (capG G) := by
  refine ⟨by simp [capG, h.1], fun i hi => ?_⟩
  have hi' : i < G.length := by rw [h.1]; exact hi
  have := h.2 i hi
  simp only [List.getD_eq_getElem?_getD, List.getElem?_eq_getElem hi', Option.getD_some] at this
  simpa [capG, List.getD_eq_getElem?_getD, hi'] using this
theorem capG_cell (h : Shape xss G) {q : SA2} (hq : InS xss q) : cellS (capG G) q = min (cellS G q) 9999 := by
  obtain ⟨⟨h1, h2⟩, h3, h4⟩ := hq
  have hi : q.x.toNat < G.length := by rw [h.1]; omega
  have hr := h.2 q.x.toNat (by omega)
  simp only [List.getD_eq_getElem?_getD, List.getElem?_eq_getElem hi, Option.getD_some] at hr
  have hj : q.y.toNat < G[q.x.toNat].length := by omega
  unfold cellS capG
  simp [List.getD_eq_getElem?_getD, hi, hj]
theorem capG_step (hx : InR xss xss 9999) {s n : SA2} (hs : InS xss s) (hn : InS xss n) {a b : List (List Int) × Bool} (ha : Shape xss a.1) (hb : Shape xss b.1) (h : b.1 = capG a.1) : (stepP xss s b n).1 = capG (stepP xss s a n).1 := by
  refine grid_ext (stepP_shape n hb) (capG_shape (stepP_shape n ha)) fun q hq => ?_
  rw [stepP_cell hb hs hq, capG_cell (stepP_shape n ha) hq, stepP_cell ha hs hq, h, capG_cell ha hs, capG_cell ha hn, capG_cell ha hq]
  have := hx s hs
  split <;> omega
theorem capG_sweep (hx : InR xss xss 9999) (h : Shape xss G) : (sweepP xss (capG G)).1 = capG (sweepP xss G).1 := by
  unfold sweepP
  have key : ∀ (l : List SA2), (∀ s ∈ l, InS xss s) → ∀ a b : List (List Int) × Bool, Shape xss a.1 → Shape xss b.1 → b.1 = capG a.1 → (l.foldl (sqP xss) b).1 = capG (l.foldl (sqP xss) a).1 := by
    intro l
    induction l with
    | nil => intro _ a b _ _ hab; exact hab
    | cons s l ih =>
      intro hl a b ha hb hab
      refine ih (fun t ht => hl t (List.mem_cons_of_mem _ ht)) _ _ (sqP_shape ha) (sqP_shape hb) ?_
      have hs := hl s List.mem_cons_self
      unfold sqP
      have hnl : ∀ n ∈ nearS xss s.x s.y, InS xss n := fun n hn => near_in hn
      generalize nearS xss s.x s.y = l2 at hnl
      clear ih hl
      induction l2 generalizing a b with
      | nil => exact hab
      | cons n l2 ih2 => exact ih2 _ _ (stepP_shape n ha) (stepP_shape n hb) (capG_step hx hs (hnl n List.mem_cons_self) ha hb hab) fun k hk => hnl k (List.mem_cons_of_mem _ hk)
  exact key _ (fun s hs => allS_in hs) _ _ h (capG_shape h) rfl
theorem capG_sweeps (hx : InR xss xss 9999) : ∀ (n : Nat) {G : List (List Int)}, Shape xss G → sweeps9 xss n (capG G) = capG (sweeps9 xss n G)
  | 0, _, _ => rfl
  | n + 1, G, h => by
    show sweeps9 xss n (sweepP xss (capG G)).1 = capG (sweeps9 xss n (sweepP xss G).1)
    rw [capG_sweep hx h]
    exact capG_sweeps hx n (sweepP_shape h)
theorem capG_id {u : Int} (h : Shape xss G) (hr : InR xss G 9999) : capG G = G := grid_ext (capG_shape h) h fun q hq => by rw [capG_cell h hq]; have := hr q hq; omega
/-- a beginning: the relief at the border, u elsewhere -/
def isEdge (xss : List (List Int)) (r c : Nat) : Bool := decide (r = 0 ∨ c = 0 ∨ r + 1 = xss.length ∨ c + 1 = hdLen xss)
def initRow (xss : List (List Int)) (u : Int) (r : Nat) : List Int := (List.range (hdLen xss)).map fun c => if isEdge xss r c then (xss.getD r []).getD c 0 else u
def initG (xss : List (List Int)) (u : Int) : List (List Int) := (List.range xss.length).map (initRow xss u)
theorem initG_shape (u : Int) : Shape xss (initG xss u) := by
  refine ⟨by simp [initG], fun i hi => ?_⟩
  simp [initG, List.getD_eq_getElem?_getD, hi, initRow]
theorem initG_cell (u : Int) {q : SA2} (hq : InS xss q) : cellS (initG xss u) q = if isEdge xss q.x.toNat q.y.toNat then cellS xss q else u := by
  obtain ⟨⟨h1, h2⟩, h3, h4⟩ := hq
  unfold cellS initG
  simp [List.getD_eq_getElem?_getD, show q.x.toNat < xss.length by omega, initRow, show q.y.toNat < hdLen xss by omega]
theorem relief_inR (h : reliefB xss = true) : InR xss xss 9999 := fun q hq => cellS_in h hq
theorem relief_shape (h : reliefB xss = true) : Shape xss xss := ⟨rfl, fun i hi => by rw [← relief_row h hi]; simp [List.getD_eq_getElem?_getD, hi]⟩
theorem initG_cap (h : reliefB xss = true) : capG (initG xss 10000) = initG xss 9999 := grid_ext (capG_shape (initG_shape _)) (initG_shape _) fun q hq => by
  rw [capG_cell (initG_shape _) hq, initG_cell _ hq, initG_cell _ hq]
  have := relief_inR h q hq
  split <;> omega
theorem initG_inR (h : reliefB xss = true) {u : Int} (hu : 9999 ≤ u) : InR xss (initG xss u) u := fun q hq => by
  rw [initG_cell _ hq]
  have := relief_inR h q hq
  split <;> omega
/-- after a square is swept, it is at most 9999 if its upper neighbor is -/
theorem sqP_cap (hx : InR xss xss 9999) {s : SA2} (hs : InS xss s) {n : SA2} (hn : n ∈ nearS xss s.x s.y) {a : List (List Int) × Bool} (ha : Shape xss a.1) (hc : cellS a.1 n ≤ 9999) : cellS (sqP xss a s).1 s ≤ 9999 := by
  unfold sqP
  have hin : ∀ k ∈ nearS xss s.x s.y, InS xss k := fun k hk => near_in hk
  have hni := hin n hn
  generalize nearS xss s.x s.y = l at hn hin
  have keep : ∀ (l : List SA2) (b : List (List Int) × Bool), (∀ k ∈ l, InS xss k) → Shape xss b.1 → cellS b.1 s ≤ 9999 → cellS (l.foldl (stepP xss s) b).1 s ≤ 9999 := by
    intro l
    induction l with
    | nil => intro b _ _ h; exact h
    | cons k l ih =>
      intro b hk hb h
      exact ih _ (fun t ht => hk t (List.mem_cons_of_mem _ ht)) (stepP_shape k hb) (Int.le_trans (stepP_le hb hs hs) h)
  induction l generalizing a with
  | nil => simp at hn
  | cons k l ih =>
    rcases List.mem_cons.1 hn with rfl | hn'
    · refine keep l _ (fun t ht => hin t (List.mem_cons_of_mem _ ht)) (stepP_shape n ha) ?_
      rw [stepP_cell ha hs hs, if_pos rfl]
      have := hx s hs; omega
    · exact ih (stepP_shape k ha) (Int.le_trans (stepP_le ha hs hni) hc) hn' fun t ht => hin t (List.mem_cons_of_mem _ ht)
theorem up_near {r c : Nat} (hr : r + 1 < xss.length) (hc : c < hdLen xss) : (⟨(r : Int), (c : Int)⟩ : SA2) ∈ nearS xss ((r : Int) + 1) (c : Int) := by
  unfold nearS
  rw [List.mem_filter]
  refine ⟨by simp [cands], ?_⟩
  exact hasSq_of.2 ⟨⟨by simp, by simp; omega⟩, by simp, by simp; omega⟩
theorem first_cap (hx : InR xss xss 9999) (h : Shape xss G) (h0 : ∀ c, c < hdLen xss → cellS G ⟨0, (c : Int)⟩ ≤ 9999) : ∀ q, InS xss q → cellS (sweepP xss G).1 q ≤ 9999 := by
  -- rows below n are at most 9999 after the first n rows
  have row : ∀ n k, n < xss.length → k ≤ hdLen xss → ∀ a : List (List Int) × Bool, Shape xss a.1 → (∀ q, InS xss q → (q.x < n ∨ q.x = 0) → cellS a.1 q ≤ 9999) →
      ∀ q, InS xss q → (q.x < n ∨ q.x = 0 ∨ (q.x = n ∧ q.y < k)) → cellS ((sqRow n k).foldl (sqP xss) a).1 q ≤ 9999 := by
    intro n k hn hk a ha hrow
    induction k with
    | zero => intro q hq hc; exact hrow q hq (by have := hq.2.1; omega)
    | succ k ih =>
      have ih' := ih (by omega)
      intro q hq hc
      rw [sqRow_succ, List.foldl_append]
      simp only [List.foldl_cons, List.foldl_nil]
      have hsh : Shape xss ((sqRow n k).foldl (sqP xss) a).1 := fold_shape ha
      have hsi : InS xss ⟨(n : Int), (k : Int)⟩ := ⟨⟨by simp, by simp; omega⟩, by simp, by simp; omega⟩
      by_cases hq2 : q.x < n ∨ q.x = 0 ∨ (q.x = n ∧ q.y < k)
      · exact Int.le_trans (sqP_le hsh hsi hq) (ih' q hq hq2)
      · have he : q = ⟨(n : Int), (k : Int)⟩ := by
          obtain ⟨x, y⟩ := q
          simp only at hc hq2 ⊢
          rcases hc with hc | hc | ⟨hc1, hc2⟩
          · omega
          · omega
          · congr 1; omega
        subst he
        obtain ⟨r, rfl⟩ : ∃ r, n = r + 1 := ⟨n - 1, by simp only at hq2; omega⟩
        have hup := up_near (xss := xss) (r := r) (c := k) hn (by omega)
        have hui : InS xss ⟨(r : Int), (k : Int)⟩ := near_in (s := ⟨(r : Int) + 1, (k : Int)⟩) hup
        refine sqP_cap hx hsi (n := ⟨(r : Int), (k : Int)⟩) (by simpa using hup) hsh ?_
        exact ih' _ hui (.inl (by simp only; omega))
  have rows : ∀ n, n ≤ xss.length → ∀ q, InS xss q → (q.x < n ∨ q.x = 0) → cellS ((sqTo (hdLen xss) n).foldl (sqP xss) (G, false)).1 q ≤ 9999 := by
    intro n
    induction n with
    | zero =>
      intro _ q hq hc
      have h1 := hq.1.1
      have hx0 : q.x = 0 := by omega
      have := h0 q.y.toNat (by have := hq.2; omega)
      obtain ⟨x, y⟩ := q
      simp only at hx0 this
      subst hx0
      have hy : ((y.toNat : Nat) : Int) = y := by have := hq.2.1; simp only at this; omega
      rw [hy] at this
      exact this
    | succ n ih =>
      intro hn q hq hc
      rw [sqTo_succ, List.foldl_append]
      refine row n (hdLen xss) (by omega) (Nat.le_refl _) _ (fold_shape h) (ih (by omega)) q hq ?_
      have := hq.2.2
      omega
  intro q hq
  exact rows xss.length (Nat.le_refl _) q hq (.inl hq.1.2)
/-- the levels -/
def levF (xss : List (List Int)) : List (List Int) := sweeps9 xss (sumS xss (initG xss 10000)).toNat (initG xss 10000)
theorem fix_one {G0 : List (List Int)} {n k : Nat} (h1 : (sweepP xss (sweeps9 xss n G0)).1 = sweeps9 xss n G0) (h2 : (sweepP xss (sweeps9 xss k G0)).1 = sweeps9 xss k G0) : sweeps9 xss n G0 = sweeps9 xss k G0 := by
  have a := sweeps9_add (xss := xss) n k G0
  have b := sweeps9_add (xss := xss) k n G0
  rw [sweeps9_fix h1] at a
  rw [sweeps9_fix h2] at b
  rw [← a, ← b, Nat.add_comm]
theorem lev_stop (h : reliefB xss = true) : (sweepP xss (levF xss)).1 = levF xss :=
  sweeps_stop (relief_inR h) _ (initG_shape _) (initG_inR h (by omega)) (by have := (initG_inR h (u := 10000) (by omega)).sum; omega)
theorem lev_spec (h : reliefB xss = true) {n : Nat} (hf : (sweepP xss (sweeps9 xss n (initG xss 10000))).1 = sweeps9 xss n (initG xss 10000)) : sweeps9 xss n (initG xss 10000) = levF xss := fix_one hf (lev_stop h)
theorem lev_cap (h : reliefB xss = true) : ∀ q, InS xss q → cellS (levF xss) q ≤ 9999 := by
  have hx := relief_inR h
  have h1 : levF xss = (sweepP xss (levF xss)).1 := (lev_stop h).symm
  intro q hq
  rw [h1]
  refine first_cap hx (sweeps9_shape _ (initG_shape _)) (fun c hc => ?_) q hq
  have hdm := relief_dims h
  have hin : InS xss ⟨0, (c : Int)⟩ := ⟨⟨by simp, by simp only; omega⟩, by simp, by simp only; omega⟩
  have mono : ∀ (n : Nat) (G : List (List Int)), Shape xss G → cellS (sweeps9 xss n G) ⟨0, (c : Int)⟩ ≤ cellS G ⟨0, (c : Int)⟩ := by
    intro n
    induction n with
    | zero => intro G _; exact Int.le_refl _
    | succ n ih => intro G hG; exact Int.le_trans (ih _ (sweepP_shape hG)) (fold_le (fun s hs => allS_in hs) hG hin)
  refine Int.le_trans (mono _ _ (initG_shape _)) ?_
  rw [initG_cell _ hin]
  simp only [isEdge]
  have := hx _ hin
  simp; exact this.2
theorem lev_impl (h : reliefB xss = true) {n : Nat} (hf : (sweepP xss (sweeps9 xss n (initG xss 9999))).1 = sweeps9 xss n (initG xss 9999)) : sweeps9 xss n (initG xss 9999) = levF xss := by
  have hx := relief_inR h
  have hl : levF xss = sweeps9 xss (sumS xss (initG xss 10000)).toNat (initG xss 9999) := by
    rw [← initG_cap h, capG_sweeps hx _ (initG_shape _)]
    have hr : InR xss (levF xss) 9999 := fun q hq => ⟨(sweeps_ge9 hx _ (initG_shape _) (initG_inR h (u := 10000) (by omega)) q hq).1, lev_cap h q hq⟩
    exact (capG_id (u := 0) (sweeps9_shape _ (initG_shape _)) hr).symm
  rw [hl]
  refine fix_one hf ?_
  rw [← hl]
  exact lev_stop h
theorem lev_in (h : reliefB xss = true) : InR xss (levF xss) 9999 := fun q hq => ⟨(sweeps_ge9 (relief_inR h) _ (initG_shape _) (initG_inR h (u := 10000) (by omega)) q hq).1, lev_cap h q hq⟩
theorem lev_shape : Shape xss (levF xss) := sweeps9_shape _ (initG_shape _)
end
end Go.Proofs.Ytomcdkkjknphpaa
