import Derived.Test.YtplemibckjnbhaaGreatDoorProg
import Derived.Test.YtplemibckjnbhaaGreatDoorOwn
import Derived.Test.YtplemibckjnbhaaGreatDoorOpen
import Derived.Shelf.GgClosure.Gives
import Derived.Test.YtplemibckjnbhaaGreatDoorStInt
import Derived.Test.YtplemibckjnbhaaGreatDoorL1
import Derived.Test.YtplemibckjnbhaaGreatDoorStPush
/- Contracts of the helpers of the laws on lists of Sheet: conversion, equality, marks, and the library's search with a predicate. Conditions: lengths up to 1048576 where a slice is made or marked. -/
namespace Go.Proofs.YtplemibckjnbhaaGreatDoor
open Go.RowKit Go.ChangeShapes Go.WideShapes Go.Deep
set_option linter.unusedVariables false
structure SSheet where
  (id row col scale year : Int)
def SSheet.zero : SSheet := ⟨0, 0, 0, 0, 0⟩
def SSheet.enc (c : SSheet) : Nat → Value := fun j => match j with | 0 => .int .i64 c.id | 1 => .int .i64 c.row | 2 => .int .i64 c.col | 3 => .int .i64 c.scale | _ => .int .i64 c.year
theorem SSheet.one : ∀ (c : SSheet) (j : Nat), (SSheet.enc c j).oneCell' = true := fun c j => by unfold SSheet.enc; split <;> rfl
theorem SSheet.info : (Tryz.prog.info? 50).map (fun i => (i.zero, i.size, i.bytes)) = some (some (.agg #[.int .i64 0, .int .i64 0, .int .i64 0, .int .i64 0, .int .i64 0]), 5, 40) := by kernel_rfl
def SSheet.wf (c : SSheet) : Prop := (Lit.int .i64 c.id).wf = true ∧ (Lit.int .i64 c.row).wf = true ∧ (Lit.int .i64 c.col).wf = true ∧ (Lit.int .i64 c.scale).wf = true ∧ (Lit.int .i64 c.year).wf = true
theorem SSheet.cells {w : World} {B : Nat} {A : Option Addr} {xs : List SSheet} (h : Row 5 SSheet.enc w B A xs) {i : Nat} (hi : i < xs.length) {wr : World} (hb : Below B w wr) :
    ∃ b off, A = some ⟨b, off, none⟩ ∧ b < B ∧ wr.cell? ⟨b, off + i * 5, none⟩ = some (.int .i64 xs[i].id) ∧ wr.cell? ⟨b, off + i * 5 + 1, none⟩ = some (.int .i64 xs[i].row) ∧ wr.cell? ⟨b, off + i * 5 + 2, none⟩ = some (.int .i64 xs[i].col) ∧ wr.cell? ⟨b, off + i * 5 + 3, none⟩ = some (.int .i64 xs[i].scale) ∧ wr.cell? ⟨b, off + i * 5 + 4, none⟩ = some (.int .i64 xs[i].year) := by
  obtain ⟨b, off, rfl, hl, hc⟩ := h.get hi
  have hcell := fun j hj => (hb.cell (p := ⟨b, off + i * 5 + j, none⟩) hl).trans (hc j hj)
  exact ⟨b, off, rfl, hl, hcell 0 (by omega), hcell 1 (by omega), hcell 2 (by omega), hcell 3 (by omega), hcell 4 (by omega)⟩
/-- the numbers from k0 on, 5 an element -/
def SSheet.marks (k0 : Int) (n : Nat) : List SSheet := (List.range n).map fun (i : Nat) => (⟨k0 + (i : Int) * 5 + 0, k0 + (i : Int) * 5 + 1, k0 + (i : Int) * 5 + 2, k0 + (i : Int) * 5 + 3, k0 + (i : Int) * 5 + 4⟩ : SSheet)
theorem SSheet.marks_length (k0 : Int) (n : Nat) : (SSheet.marks k0 n).length = n := by simp [SSheet.marks]
theorem SSheet.marks_get (k0 : Int) (n i : Nat) (h : i < (SSheet.marks k0 n).length) : (SSheet.marks k0 n)[i] = ⟨k0 + (i : Int) * 5 + 0, k0 + (i : Int) * 5 + 1, k0 + (i : Int) * 5 + 2, k0 + (i : Int) * 5 + 3, k0 + (i : Int) * 5 + 4⟩ := by simp [SSheet.marks]
/-- the predicate g with the captured values cp answers p, in whatever world in which what lay below B stays -/
def SSheet.Pred (g : FuncId) (cp : Array Value) (p : SSheet → Bool) (B : Nat) (w : World) : Prop :=
  ∀ (W : World) (c : SSheet), Below B w W → Calls Tryz.prog g (#[.agg #[.int .i64 c.id, .int .i64 c.row, .int .i64 c.col, .int .i64 c.scale, .int .i64 c.year]] ++ cp) W fun e w' => e = .returned (.bool (p c)) ∧ Below B w w'
theorem IndexFuncSheet_any (g : FuncId) (cp : Array Value) (p : SSheet → Bool) (A : Option Addr) (cap : Nat) (xs : List SSheet) (w : World) (hr : Row 5 SSheet.enc w w.heap.size A xs) (hm : xs.length ≤ 9223372036854775807)
    (eg : ∀ args w, (callFunc g args).run Tryz.prog w = .ok (.enter g args) w) (hp : SSheet.Pred g cp p w.heap.size w) :
    Calls Tryz.prog 111 #[.slice A xs.length cap, .func (.func g) #[] cp] w fun e w' => e = .returned (.int .i64 (idxF p xs)) ∧ Below w.heap.size w w' := by
  generalize hB : w.heap.size = B at hr hp ⊢
  have HB := hide hB; clear hB
  have HR := hide hr; clear hr
  have HP := hide hp; clear hp
  go_enter Tryz.func111, Tryz.ntmps111
  go_wp2_with fail
  go_loopw [8] (fun i wr => ∃ (k : Nat), k ≤ xs.length ∧ i = .int .i64 k ∧ (∀ c ∈ xs.take k, p c = false) ∧ Below B w wr) (fun i _ => xs.length - (intOf i).toNat)
  case atStart => exact ⟨0, Nat.zero_le _, rfl, by simp, Below.refl _ _⟩
  case round =>
    obtain ⟨i, hi, rfl, hno, hbel⟩ := hrel
    have HN := hide hno; clear hno
    by_cases hlt : i < xs.length
    · obtain ⟨b, off, rfl, hb, c0, c1, c2, c3, c4⟩ := SSheet.cells HR.out hlt hbel
      have hcall := HP.out wr xs[i] hbel
      generalize hy : xs[i] = y at hcall c0 c1 c2 c3 c4
      have HY := hide hy; clear hy
      cases hq : p y with
      | true =>
        rw [hq] at hcall
        have HQ := hide hq; clear hq
        go_wp2_with (go_at_fn g; refine hcall.mono ?_; rintro e w' ⟨rfl, hb'⟩)
        go_ret
        refine ⟨ret_int ?_, hb'⟩
        exact (idxF_hit hlt (by rw [HY.out]; exact HQ.out) HN.out).symm
      | false =>
        rw [hq] at hcall
        have HQ := hide hq; clear hq
        go_wp2_with (go_at_fn g; refine hcall.mono ?_; rintro e w' ⟨rfl, hb'⟩)
        refine ⟨⟨i + 1, by omega, by go_num, ?_, hb'⟩, by simp [intOf]; omega⟩
        rw [take_snoc' hlt, HY.out]
        intro c hc
        rcases List.mem_append.1 hc with h | h
        · exact HN.out c h
        · rw [List.mem_singleton.1 h]; exact HQ.out
    · have hk : i = xs.length := by omega
      have HK := hide hk; clear hk
      go_wp2_with fail
      go_ret
      refine ⟨ret_int (idxF_miss ?_).symm, hbel⟩
      have := HN.out; rw [HK.out, List.take_length] at this; exact this
end Go.Proofs.YtplemibckjnbhaaGreatDoor

/- Plain facts of sheets: valid lists, neighbors, overviews, and the longest strip (two ways of asking are one). Nothing here speaks of the program. No condition. -/
namespace Go.Proofs.YtplemibckjnbhaaGreatDoor
open Go.RowKit
set_option linter.unusedVariables false
/-! ### the longest strip: two ways of asking are one -/
/-- the longer of two lists, the first one if they are as long -/
def updL (b c : List Int) : List Int := if b.length < c.length then c else b
/-- the ids while they go on -/
def chainL : List (Bool × Int) → List Int
  | [] => []
  | (f, x) :: l => if f then x :: chainL l else []
/-- impl: the strip that ends here, the best one so far -/
def stepL (s : List Int × List Int) (p : Bool × Int) : List Int × List Int :=
  ((if p.1 then s.1 else []) ++ [p.2], updL s.2 ((if p.1 then s.1 else []) ++ [p.2]))
/-- spec: the strips that begin somewhere -/
def bestL (b : List Int) : List (Bool × Int) → List Int
  | [] => b
  | (_, x) :: l => bestL (updL b (x :: chainL l)) l
theorem updL_len (b c : List Int) : b.length ≤ (updL b c).length ∧ c.length ≤ (updL b c).length := by
  unfold updL; split <;> omega
theorem updL_no {b c : List Int} (h : c.length ≤ b.length) : updL b c = b := if_neg (by omega)
theorem updL_two (b s t : List Int) (h : s.length ≤ t.length) (ht : t = s ∨ s.length < t.length) : updL (updL b s) t = updL b t := by
  by_cases h1 : b.length < s.length
  · rw [show updL b s = s from if_pos h1, show updL b t = t from if_pos (by omega)]
    rcases ht with rfl | ht
    · exact updL_no (Nat.le_refl _)
    · exact if_pos ht
  · rw [updL_no (b := b) (c := s) (by omega)]
theorem strips (l : List (Bool × Int)) : ∀ (strip best : List Int), strip.length ≤ best.length → (l.foldl stepL (strip, best)).2 = bestL (updL best (strip ++ chainL l)) l := by
  induction l with
  | nil => intro strip best h; simp only [List.foldl_nil, chainL, List.append_nil, bestL]; rw [updL_no h]
  | cons p l ih =>
    intro strip best h
    obtain ⟨f, x⟩ := p
    rw [List.foldl_cons]
    cases f with
    | true =>
      have h1 : stepL (strip, best) (true, x) = (strip ++ [x], updL best (strip ++ [x])) := rfl
      have h2 : chainL ((true, x) :: l) = x :: chainL l := rfl
      rw [h1, ih _ _ (updL_len _ _).2, h2]
      show _ = bestL (updL (updL best (strip ++ x :: chainL l)) (x :: chainL l)) l
      rw [updL_no (b := updL best (strip ++ x :: chainL l)) (Nat.le_trans (by simp) (updL_len _ _).2), updL_two _ _ _ (by simp) (by
        cases chainL l with
        | nil => left; simp
        | cons a b => right; simp)]
      simp
    | false =>
      have h1 : stepL (strip, best) (false, x) = ([x], updL best [x]) := rfl
      have h2 : chainL ((false, x) :: l) = [] := rfl
      rw [h1, ih _ _ (updL_len _ _).2, h2, List.append_nil, updL_no h]
      show _ = bestL (updL best (x :: chainL l)) l
      rw [updL_two _ _ _ (by simp) (by
        cases chainL l with
        | nil => left; simp
        | cons a b => right; simp)]
      rfl
/-- the run from a place on, as far as its row goes -/
def runK (g : Nat → Option Int) : Nat → Nat → List Int
  | 0, _ => []
  | f + 1, k => match g k with | none => [] | some x => x :: runK g f (k + 1)
/-- whether each one goes on from the one ahead -/
def flagsK : Option Nat → List (Nat × Int) → List (Bool × Int)
  | _, [] => []
  | p, (k, x) :: l => (decide (p = some (k - 1) ∧ k % 100 ≠ 0), x) :: flagsK (some k) l
/-- the best run among the places below n -/
def foldK (g : Nat → Option Int) : Nat → List Int
  | 0 => []
  | n + 1 => updL (foldK g n) (runK g (100 - n % 100) n)
theorem run_chain (g : Nat → Option Int) : ∀ (l : List (Nat × Int)) (k : Nat), (∀ p ∈ l, k < p.1) → l.Pairwise (fun a b => a.1 < b.1) → (∀ j y, k < j → (g j = some y ↔ (j, y) ∈ l)) →
    runK g (99 - k % 100) (k + 1) = chainL (flagsK (some k) l) := by
  intro l
  induction l with
  | nil =>
    intro k _ _ hg
    have h0 : g (k + 1) = none := by
      cases h : g (k + 1) with
      | none => rfl
      | some y => exact absurd ((hg (k + 1) y (by omega)).1 h) (by simp)
    cases 99 - k % 100 with
    | zero => rfl
    | succ f => show (match g (k + 1) with | none => [] | some x => x :: runK g f (k + 1 + 1)) = _; rw [h0]; rfl
  | cons p l ih =>
    intro k hlt hpw hg
    obtain ⟨k', x'⟩ := p
    have hk' : k < k' := hlt (k', x') (by simp)
    rw [List.pairwise_cons] at hpw
    show _ = if decide (some k = some (k' - 1) ∧ k' % 100 ≠ 0) = true then x' :: chainL (flagsK (some k') l) else []
    by_cases h1 : k' = k + 1
    · subst h1
      by_cases h2 : (k + 1) % 100 = 0
      · rw [show 99 - k % 100 = 0 by omega, if_neg (by simp [h2])]; rfl
      · obtain ⟨f, hf⟩ : ∃ f, 99 - k % 100 = f + 1 := ⟨98 - k % 100, by omega⟩
        rw [hf, if_pos (by simpa using h2)]
        show (match g (k + 1) with | none => [] | some x => x :: runK g f (k + 1 + 1)) = _
        rw [(hg (k + 1) x' (by omega)).2 (by simp)]
        show x' :: runK g f (k + 1 + 1) = _
        rw [show f = 99 - (k + 1) % 100 by omega, ih (k + 1) (fun p hp => hpw.1 p hp) hpw.2 (fun j y hj => by
          rw [hg j y (by omega)]
          constructor
          · intro h
            rcases List.mem_cons.1 h with h | h
            · injection h with h3 h4; omega
            · exact h
          · exact List.mem_cons_of_mem _)]
    · have h0 : g (k + 1) = none := by
        cases h : g (k + 1) with
        | none => rfl
        | some y =>
          have hm := (hg (k + 1) y (by omega)).1 h
          rcases List.mem_cons.1 hm with h3 | h3
          · injection h3 with h3 h4; omega
          · have := hpw.1 _ h3; simp only at this; omega
      rw [if_neg (by simp; intro h; omega)]
      cases 99 - k % 100 with
      | zero => rfl
      | succ f => show (match g (k + 1) with | none => [] | some x => x :: runK g f (k + 1 + 1)) = _; rw [h0]
theorem fold_best (g : Nat → Option Int) (d : Nat) : ∀ (n : Nat) (l : List (Nat × Int)) (p : Option Nat), n + d = 10000 → (∀ q ∈ l, n ≤ q.1 ∧ q.1 < 10000) → l.Pairwise (fun a b => a.1 < b.1) → (∀ j y, n ≤ j → (g j = some y ↔ (j, y) ∈ l)) →
    foldK g 10000 = bestL (foldK g n) (flagsK p l) := by
  induction d with
  | zero =>
    intro n l p hn hl _ _
    obtain rfl : n = 10000 := by omega
    cases l with
    | nil => rfl
    | cons q l => have := hl q (by simp); omega
  | succ d ih =>
    intro n l p hn hl hpw hg
    have hno : (∀ y, (n, y) ∉ l) → foldK g (n + 1) = foldK g n := fun h => by
      have h0 : g n = none := by
        cases h1 : g n with
        | none => rfl
        | some y => exact absurd ((hg n y (Nat.le_refl _)).1 h1) (h y)
      show updL (foldK g n) (runK g (100 - n % 100) n) = _
      obtain ⟨f, hf⟩ : ∃ f, 100 - n % 100 = f + 1 := ⟨99 - n % 100, by omega⟩
      rw [hf]
      show updL (foldK g n) (match g n with | none => [] | some x => x :: runK g f (n + 1)) = _
      rw [h0]
      exact updL_no (Nat.zero_le _)
    cases l with
    | nil =>
      rw [ih (n + 1) [] p (by omega) (by simp) List.Pairwise.nil (fun j y hj => hg j y (by omega)), hno (by simp)]
    | cons q l =>
      obtain ⟨k, x⟩ := q
      have hk := hl (k, x) (by simp)
      simp only at hk
      have hpw' := List.pairwise_cons.1 hpw
      by_cases hkn : k = n
      · subst hkn
        have hgt : ∀ j y, k < j → (g j = some y ↔ (j, y) ∈ l) := fun j y hj => by
          rw [hg j y (by omega)]
          constructor
          · intro h
            rcases List.mem_cons.1 h with h | h
            · injection h with h3 h4; omega
            · exact h
          · exact List.mem_cons_of_mem _
        have hrc := run_chain g l k (fun q hq => hpw'.1 q hq) hpw'.2 hgt
        rw [ih (k + 1) l (some k) (by omega) (fun q hq => ⟨hpw'.1 q hq, (hl q (List.mem_cons_of_mem _ hq)).2⟩) hpw'.2 (fun j y hj => hgt j y (by omega))]
        show bestL (updL (foldK g k) (runK g (100 - k % 100) k)) _ = bestL (updL (foldK g k) (x :: chainL (flagsK (some k) l))) (flagsK (some k) l)
        obtain ⟨f, hf⟩ : ∃ f, 100 - k % 100 = f + 1 := ⟨99 - k % 100, by omega⟩
        rw [hf]
        show bestL (updL (foldK g k) (match g k with | none => [] | some x => x :: runK g f (k + 1))) _ = _
        rw [(hg k x (Nat.le_refl _)).2 (by simp)]
        show bestL (updL (foldK g k) (x :: runK g f (k + 1))) _ = _
        rw [show f = 99 - k % 100 by omega, hrc]
      · have hn0 : ∀ y, (n, y) ∉ (k, x) :: l := fun y hy => by
          rcases List.mem_cons.1 hy with h | h
          · injection h with h3 h4; omega
          · have := hpw'.1 _ h; simp only at this; omega
        rw [ih (n + 1) ((k, x) :: l) p (by omega) (fun q hq => by
          have h1 := hl q hq
          refine ⟨?_, h1.2⟩
          by_cases h2 : q.1 = n
          · exact absurd (show (n, q.2) ∈ (k, x) :: l by rw [← h2]; exact hq) (hn0 _)
          · omega) hpw (fun j y hj => hg j y (by omega)), hno hn0]

/-! ### sheets -/
/-- whether one sheet is valid -/
def SSheet.okB (c : SSheet) : Bool := decide (1 ≤ c.id ∧ c.id ≤ 999 ∧ 0 ≤ c.row ∧ c.row ≤ 99 ∧ 0 ≤ c.col ∧ c.col ≤ 99 ∧ 10 ≤ c.scale ∧ c.scale ≤ 500 ∧ 1500 ≤ c.year ∧ c.year ≤ 2100)
theorem SSheet.okB_iff {a0 a1 a2 a3 a4 : Int} : SSheet.okB ⟨a0, a1, a2, a3, a4⟩ = true ↔ (1 ≤ a0 ∧ a0 ≤ 999 ∧ 0 ≤ a1 ∧ a1 ≤ 99 ∧ 0 ≤ a2 ∧ a2 ≤ 99 ∧ 10 ≤ a3 ∧ a3 ≤ 500 ∧ 1500 ≤ a4 ∧ a4 ≤ 2100) := decide_eq_true_iff
def SSheet.at (xs : List SSheet) (i : Nat) : SSheet := xs.getD i SSheet.zero
theorem SSheet.at_lt {xs : List SSheet} {i : Nat} (h : i < xs.length) : SSheet.at xs i = xs[i] := by simp [SSheet.at, List.getD_eq_getElem?_getD, h]
/-- lies at this place in this scale -/
def onP (row col scale : Int) (c : SSheet) : Bool := decide (c.row = row ∧ c.col = col ∧ c.scale = scale)
def atV (xs : List SSheet) (row col scale : Int) : Int := idxF (onP row col scale) xs
def findS (xs : List SSheet) (id : Int) : Int := idxF (fun c => c.id == id) xs
def okS (xs : List SSheet) (i : Nat) : Bool := (SSheet.at xs i).okB && ((decide (i = 0) || decide ((SSheet.at xs (i - 1)).id < (SSheet.at xs i).id)) && decide (atV xs (SSheet.at xs i).row (SSheet.at xs i).col (SSheet.at xs i).scale = (i : Int)))
def goodS (xs : List SSheet) : Bool := (List.range xs.length).all (okS xs) && decide (xs.length ≤ 12)
theorem goodS_no {xs : List SSheet} {i : Nat} (hi : i < xs.length) (h : okS xs i = false) : goodS xs = false := by
  unfold goodS
  rw [Bool.and_eq_false_iff]; left
  rw [List.all_eq_false]
  exact ⟨i, List.mem_range.2 hi, by rw [h]; simp⟩
theorem goodS_len {xs : List SSheet} (h : goodS xs = true) : xs.length ≤ 12 := by
  unfold goodS at h
  rw [Bool.and_eq_true, decide_eq_true_eq] at h
  exact h.2
theorem goodS_ok {xs : List SSheet} (h : goodS xs = true) {i : Nat} (hi : i < xs.length) : (SSheet.at xs i).okB = true ∧ (i = 0 ∨ (SSheet.at xs (i - 1)).id < (SSheet.at xs i).id) ∧ atV xs (SSheet.at xs i).row (SSheet.at xs i).col (SSheet.at xs i).scale = (i : Int) := by
  unfold goodS at h
  rw [Bool.and_eq_true, List.all_eq_true] at h
  have := h.1 i (List.mem_range.2 hi)
  unfold okS at this
  rw [Bool.and_eq_true, Bool.and_eq_true, Bool.or_eq_true, decide_eq_true_eq, decide_eq_true_eq, decide_eq_true_eq] at this
  exact this
theorem goodS_asc {xs : List SSheet} (h : goodS xs = true) {i j : Nat} (hij : i < j) (hj : j < xs.length) : (SSheet.at xs i).id < (SSheet.at xs j).id := by
  induction j with
  | zero => omega
  | succ j ih =>
    have h1 := (goodS_ok h hj).2.1
    rw [show j + 1 - 1 = j by omega] at h1
    have h2 : (SSheet.at xs j).id < (SSheet.at xs (j + 1)).id := h1.resolve_left (by omega)
    by_cases hx : i = j
    · subst hx; exact h2
    · have := ih (by omega) (by omega); omega
theorem goodS_one {xs : List SSheet} (h : goodS xs = true) {i j : Nat} (hi : i < xs.length) (hj : j < xs.length) (he : (SSheet.at xs i).id = (SSheet.at xs j).id) : i = j := by
  rcases Nat.lt_trichotomy i j with h1 | h1 | h1
  · have := goodS_asc h h1 hj; omega
  · exact h1
  · have := goodS_asc h h1 hi; omega
theorem idxF_three {α : Type} (p : α → Bool) (xs : List α) : (idxF p xs = -1 ∧ ∀ c ∈ xs, p c = false) ∨ ∃ i, ∃ h : i < xs.length, idxF p xs = (i : Int) ∧ p xs[i] = true ∧ ∀ c ∈ xs.take i, p c = false := by
  unfold idxF
  rcases h : xs.findIdx? p with _ | i
  · exact .inl ⟨rfl, by simpa [List.findIdx?_eq_none_iff] using h⟩
  · right
    rw [List.findIdx?_eq_some_iff_getElem] at h
    obtain ⟨hi, hp, hn⟩ := h
    refine ⟨i, hi, rfl, hp, fun c hc => ?_⟩
    obtain ⟨j, hj, rfl⟩ := List.mem_iff_getElem.1 hc
    rw [List.length_take] at hj
    rw [List.getElem_take]
    simpa using hn j (by omega)
theorem findS_cases (xs : List SSheet) (id : Int) : (findS xs id = -1 ∧ ∀ c ∈ xs, c.id ≠ id) ∨ ∃ k, k < xs.length ∧ findS xs id = (k : Int) ∧ (SSheet.at xs k).id = id := by
  rcases idxF_three (fun c : SSheet => c.id == id) xs with ⟨h1, h2⟩ | ⟨i, hi, h1, h2, _⟩
  · exact .inl ⟨h1, fun c hc => by simpa using h2 c hc⟩
  · exact .inr ⟨i, hi, h1, by rw [SSheet.at_lt hi]; simpa using h2⟩
theorem findS_at {xs : List SSheet} (hg : goodS xs = true) {k : Nat} (hk : k < xs.length) : findS xs (SSheet.at xs k).id = (k : Int) := by
  rcases findS_cases xs (SSheet.at xs k).id with ⟨_, h⟩ | ⟨j, hj, hf, he⟩
  · exact absurd rfl (h (SSheet.at xs k) (by rw [SSheet.at_lt hk]; exact List.getElem_mem hk))
  · rw [hf, goodS_one hg hj hk he]
theorem atV_cases (xs : List SSheet) (row col scale : Int) : (atV xs row col scale = -1 ∧ ∀ c ∈ xs, onP row col scale c = false) ∨ ∃ k, k < xs.length ∧ atV xs row col scale = (k : Int) ∧ (SSheet.at xs k).row = row ∧ (SSheet.at xs k).col = col ∧ (SSheet.at xs k).scale = scale := by
  rcases idxF_three (onP row col scale) xs with ⟨h1, h2⟩ | ⟨i, hi, h1, h2, _⟩
  · exact .inl ⟨h1, h2⟩
  · exact .inr ⟨i, hi, h1, by rw [SSheet.at_lt hi]; simpa [onP] using h2⟩
/-- the ids of those of the first n for which p holds -/
def filtTo (p : SSheet → Bool) (xs : List SSheet) (n : Nat) : List Int := ((xs.take n).filter p).map (·.id)
theorem filtTo_succ {p : SSheet → Bool} {xs : List SSheet} {n : Nat} (h : n < xs.length) : filtTo p xs (n + 1) = filtTo p xs n ++ if p xs[n] = true then [xs[n].id] else [] := by
  unfold filtTo
  rw [take_snoc' h, List.filter_append, List.map_append]
  congr 1
  cases hp : p xs[n] <;> simp [hp]
theorem filtTo_le (p : SSheet → Bool) (xs : List SSheet) (n : Nat) : (filtTo p xs n).length ≤ n := by
  unfold filtTo
  rw [List.length_map]
  exact Nat.le_trans (List.length_filter_le _ _) (by simp; omega)
/-- two other sheets side by side -/
def nbB (a b : SSheet) : Bool := decide (a.id ≠ b.id ∧ a.scale = b.scale ∧ -1 ≤ a.row - b.row ∧ a.row - b.row ≤ 1 ∧ -1 ≤ a.col - b.col ∧ a.col - b.col ≤ 1)
theorem nbB_iff {a b : SSheet} : nbB a b = true ↔ (a.id ≠ b.id ∧ a.scale = b.scale ∧ -1 ≤ a.row - b.row ∧ a.row - b.row ≤ 1 ∧ -1 ≤ a.col - b.col ∧ a.col - b.col ≤ 1) := decide_eq_true_iff
def nbV (xs : List SSheet) (id : Int) : List Int × Bool := if goodS xs = true ∧ 0 ≤ findS xs id then (filtTo (fun c => nbB c (SSheet.at xs (findS xs id).toNat)) xs xs.length, true) else ([], false)
/-- on which the beginning of b lies -/
def ovB (b a : SSheet) : Bool := decide (b.scale < a.scale ∧ 0 ≤ b.row * b.scale - a.row * a.scale ∧ b.row * b.scale - a.row * a.scale ≤ a.scale - 1 ∧ 0 ≤ b.col * b.scale - a.col * a.scale ∧ b.col * b.scale - a.col * a.scale ≤ a.scale - 1)
def ovV (xs : List SSheet) (id : Int) : List Int × Bool := if goodS xs = true ∧ 0 ≤ findS xs id then (filtTo (fun c => ovB (SSheet.at xs (findS xs id).toNat) c) xs xs.length, true) else ([], false)
theorem foundS {xs : List SSheet} {id : Int} (h : 0 ≤ findS xs id) : ∃ k, k < xs.length ∧ findS xs id = (k : Int) ∧ (SSheet.at xs k).id = id := by
  rcases findS_cases xs id with ⟨h1, _⟩ | h1
  · omega
  · exact h1
/-- a neighbor's neighbor is the sheet itself -/
theorem nb_law {xs : List SSheet} {id y : Int} (hy : y ∈ (nbV xs id).1) : (nbV xs y).2 = true ∧ id ∈ (nbV xs y).1 ∧ y ≠ id := by
  unfold nbV at hy
  split at hy
  · rename_i h
    obtain ⟨k, hk, hf, hid⟩ := foundS h.2
    rw [hf, Int.toNat_natCast] at hy
    simp only [filtTo, List.take_length, List.mem_map, List.mem_filter] at hy
    obtain ⟨c, ⟨hm, hn⟩, rfl⟩ := hy
    obtain ⟨j, hj, rfl⟩ := List.mem_iff_getElem.1 hm
    have hfj := findS_at h.1 hj
    rw [SSheet.at_lt hj] at hfj
    have hn' := nbB_iff.1 hn
    have hv : nbV xs xs[j].id = (filtTo (fun c => nbB c (SSheet.at xs j)) xs xs.length, true) := by
      unfold nbV; rw [if_pos ⟨h.1, by omega⟩, hfj, Int.toNat_natCast]
    rw [hv]
    refine ⟨rfl, ?_, by rw [← hid]; exact hn'.1⟩
    simp only [filtTo, List.take_length, List.mem_map, List.mem_filter]
    refine ⟨SSheet.at xs k, ⟨by rw [SSheet.at_lt hk]; exact List.getElem_mem hk, ?_⟩, hid⟩
    rw [SSheet.at_lt hj, nbB_iff]
    refine ⟨fun e => hn'.1 e.symm, hn'.2.1.symm, by omega, by omega, by omega, by omega⟩
  · simp at hy
theorem ov_law {xs : List SSheet} {id : Int} : id ∉ (ovV xs id).1 := by
  intro hy
  unfold ovV at hy
  split at hy
  · rename_i h
    obtain ⟨k, hk, hf, hid⟩ := foundS h.2
    rw [hf, Int.toNat_natCast] at hy
    simp only [filtTo, List.take_length, List.mem_map, List.mem_filter] at hy
    obtain ⟨c, ⟨hm, hn⟩, he⟩ := hy
    obtain ⟨j, hj, rfl⟩ := List.mem_iff_getElem.1 hm
    have hjk : j = k := goodS_one h.1 hj hk (by rw [SSheet.at_lt hj, he, hid])
    subst hjk
    rw [SSheet.at_lt hj] at hn
    simp [ovB] at hn
  · simp at hy
/-- the id of the sheet at a place (100 places a row) of a scale -/
def gS (xs : List SSheet) (scale : Int) (k : Nat) : Option Int := if atV xs (k / 100 : Nat) (k % 100 : Nat) scale < 0 then none else some (SSheet.at xs (atV xs (k / 100 : Nat) (k % 100 : Nat) scale).toNat).id
def stripV (xs : List SSheet) (scale : Int) : List Int × Bool := if goodS xs = true ∧ inB scale 10 500 = true then (foldK (gS xs scale) 10000, decide (0 < (foldK (gS xs scale) 10000).length)) else ([], false)
theorem foldK_run (g : Nat → Option Int) : ∀ n, foldK g n = [] ∨ ∃ k, foldK g n = runK g (100 - k % 100) k := by
  intro n
  induction n with
  | zero => exact .inl rfl
  | succ n ih =>
    show updL (foldK g n) (runK g (100 - n % 100) n) = [] ∨ _
    unfold updL
    rcases Nat.lt_or_ge (foldK g n).length (runK g (100 - n % 100) n).length with h | h
    · right; refine ⟨n, ?_⟩
      show updL _ _ = _
      exact if_pos h
    · rw [if_neg (by omega)]
      have : foldK g (n + 1) = foldK g n := updL_no h
      rw [this]; exact ih
theorem runK_get (g : Nat → Option Int) : ∀ (f k i : Nat) (x : Int), (runK g f k)[i]? = some x → i < f ∧ g (k + i) = some x := by
  intro f
  induction f with
  | zero => intro k i x h; simp [runK] at h
  | succ f ih =>
    intro k i x h
    simp only [runK] at h
    cases hg : g k with
    | none => rw [hg] at h; simp at h
    | some y =>
      rw [hg] at h
      cases i with
      | zero => simp at h; subst h; exact ⟨by omega, hg⟩
      | succ i =>
        simp only [List.getElem?_cons_succ] at h
        have := ih (k + 1) i x h
        exact ⟨by omega, by rw [show k + (i + 1) = k + 1 + i by omega]; exact this.2⟩
theorem gS_some {xs : List SSheet} {scale : Int} {k : Nat} {x : Int} (h : gS xs scale k = some x) : ∃ j, j < xs.length ∧ (SSheet.at xs j).id = x ∧ (SSheet.at xs j).row = (k / 100 : Nat) ∧ (SSheet.at xs j).col = (k % 100 : Nat) ∧ (SSheet.at xs j).scale = scale := by
  unfold gS at h
  split at h
  · cases h
  · rename_i hn
    rcases atV_cases xs (k / 100 : Nat) (k % 100 : Nat) scale with ⟨h1, _⟩ | ⟨j, hj, h1, h2, h3, h4⟩
    · omega
    · rw [h1, Int.toNat_natCast] at h
      injection h with h
      exact ⟨j, hj, h, h2, h3, h4⟩
/-- in a strip each sheet is a neighbor of the one ahead -/
theorem strip_law {xs : List SSheet} {scale : Int} {i : Nat} {a b : Int} (ha : (stripV xs scale).1[i]? = some a) (hb : (stripV xs scale).1[i + 1]? = some b) : (nbV xs a).2 = true ∧ b ∈ (nbV xs a).1 := by
  unfold stripV at ha hb
  split at ha
  · rename_i h
    rw [if_pos h] at hb
    simp only at ha hb
    rcases foldK_run (gS xs scale) 10000 with h0 | ⟨k, h0⟩
    · rw [h0] at ha; simp at ha
    · rw [h0] at ha hb
      have h1 := runK_get _ _ _ _ _ ha
      have h2 := runK_get _ _ _ _ _ hb
      obtain ⟨j, hj, e1, e2, e3, e4⟩ := gS_some h1.2
      obtain ⟨m, hm, d1, d2, d3, d4⟩ := gS_some h2.2
      have hf := findS_at h.1 hj
      rw [e1] at hf
      have hv : nbV xs a = (filtTo (fun c => nbB c (SSheet.at xs j)) xs xs.length, true) := by
        unfold nbV; rw [if_pos ⟨h.1, by omega⟩, hf, Int.toNat_natCast]
      rw [hv]
      refine ⟨rfl, ?_⟩
      simp only [filtTo, List.take_length, List.mem_map, List.mem_filter]
      refine ⟨SSheet.at xs m, ⟨by rw [SSheet.at_lt hm]; exact List.getElem_mem hm, ?_⟩, d1⟩
      rw [nbB_iff]
      have hr : (k + (i + 1)) / 100 = (k + i) / 100 := by omega
      have hc : (k + (i + 1)) % 100 = (k + i) % 100 + 1 := by omega
      rw [hr] at d2; rw [hc] at d3
      refine ⟨fun e => ?_, by rw [d4, e4], by omega, by omega, by omega, by omega⟩
      have hjm := goodS_one h.1 hm hj e
      subst hjm
      rw [e3] at d3; omega
  · simp at ha
end Go.Proofs.YtplemibckjnbhaaGreatDoor

/- Contracts of the small functions on sheets, in impl and spec: one sheet, neighbors, the place of an id and of a row, a column and a scale. Conditions: small numbers where they are subtracted; lengths below 2^63. -/
namespace Go.Proofs.YtplemibckjnbhaaGreatDoor
open Go.RowKit
set_option linter.unusedVariables false
theorem isIdS_any (n : Int) (w : World) : Calls Tryz.prog 48 #[.int .i64 n] w fun e w' => e = .returned (.bool (inB n 1 999)) ∧ w = w' := by
  go_enter Tryz.func48, Tryz.ntmps48
  go_wp2_with (first | (go_at_call 51; refine (within_any _ _ _ _).mono ?_; rintro e w' ⟨rfl, rfl⟩))
  go_ret
  exact ⟨rfl, rfl⟩
theorem isScale_any (n : Int) (w : World) : Calls Tryz.prog 80 #[.int .i64 n] w fun e w' => e = .returned (.bool (inB n 10 500)) ∧ w = w' := by
  go_enter Tryz.func80, Tryz.ntmps80
  go_wp2_with (first | (go_at_call 51; refine (within_any _ _ _ _).mono ?_; rintro e w' ⟨rfl, rfl⟩))
  go_ret
  exact ⟨rfl, rfl⟩
theorem isYearS_any (n : Int) (w : World) : Calls Tryz.prog 81 #[.int .i64 n] w fun e w' => e = .returned (.bool (inB n 1500 2100)) ∧ w = w' := by
  go_enter Tryz.func81, Tryz.ntmps81
  go_wp2_with (first | (go_at_call 51; refine (within_any _ _ _ _).mono ?_; rintro e w' ⟨rfl, rfl⟩))
  go_ret
  exact ⟨rfl, rfl⟩
theorem l2Scale_any (n : Int) (w : World) : Calls Tryz.prog 90 #[.int .i64 n] w fun e w' => e = .returned (.bool (inB n 10 500)) ∧ w = w' := by
  go_enter Tryz.func90, Tryz.ntmps90
  go_wp2_with (first | (go_at_call 75; refine (l1In_any _ _ _ _).mono ?_; rintro e w' ⟨rfl, rfl⟩))
  go_ret
  exact ⟨rfl, rfl⟩
theorem l2Sheet_any (a0 a1 a2 a3 a4 : Int) (w : World) :
    Calls Tryz.prog 78 #[.agg #[.int .i64 a0, .int .i64 a1, .int .i64 a2, .int .i64 a3, .int .i64 a4]] w fun e w' => e = .returned (.bool (SSheet.okB ⟨a0, a1, a2, a3, a4⟩)) ∧ Below w.heap.size w w' := by
  have HI := hide (@SSheet.okB_iff a0 a1 a2 a3 a4)
  have HB1 := hide (below_alloc w (.cells #[.int .i64 a0, .int .i64 a1, .int .i64 a2, .int .i64 a3, .int .i64 a4] 50))
  go_enter Tryz.func78, Tryz.ntmps78
  go_wp2_with (first | (go_at_call 75; refine (l1In_any _ _ _ _).mono ?_; rintro e w' ⟨rfl, rfl⟩) | (go_at_call 90; refine (l2Scale_any _ _).mono ?_; rintro e w' ⟨rfl, rfl⟩))
  all_goals go_ret
  all_goals refine ⟨ret_bool (bool_of_iff ?_), HB1.out⟩
  all_goals (rw [HI.out]; simp [inB_iff, inB_no] at *; try omega)
theorem IsSheet_any (a0 a1 a2 a3 a4 : Int) (w : World) :
    Calls Tryz.prog 30 #[.agg #[.int .i64 a0, .int .i64 a1, .int .i64 a2, .int .i64 a3, .int .i64 a4]] w fun e w' => e = .returned (.bool (SSheet.okB ⟨a0, a1, a2, a3, a4⟩)) ∧ Below w.heap.size w w' := by
  have HI := hide (@SSheet.okB_iff a0 a1 a2 a3 a4)
  have HB1 := hide (below_alloc w (.cells #[.int .i64 a0, .int .i64 a1, .int .i64 a2, .int .i64 a3, .int .i64 a4] 50))
  go_enter Tryz.func30, Tryz.ntmps30
  go_wp2_with (first | (go_at_call 51; refine (within_any _ _ _ _).mono ?_; rintro e w' ⟨rfl, rfl⟩) | (go_at_call 48; refine (isIdS_any _ _).mono ?_; rintro e w' ⟨rfl, rfl⟩) | (go_at_call 80; refine (isScale_any _ _).mono ?_; rintro e w' ⟨rfl, rfl⟩) | (go_at_call 81; refine (isYearS_any _ _).mono ?_; rintro e w' ⟨rfl, rfl⟩))
  all_goals go_ret
  all_goals refine ⟨ret_bool (bool_of_iff ?_), HB1.out⟩
  all_goals (rw [HI.out]; simp [inB_iff, inB_no] at *; try omega)
theorem absS_any (n : Int) (w : World) (h0 : -1000000 ≤ n) (h1 : n ≤ 1000000) :
    Calls Tryz.prog 117 #[.int .i64 n] w fun e w' => e = .returned (.int .i64 (max n (-n))) ∧ w = w' := by
  go_enter Tryz.func117, Tryz.ntmps117
  go_wp2_with fail
  go_ret
  exact ⟨rfl, rfl⟩
/-- numbers of a sheet are small -/
def SSheet.Fit (z : SSheet) : Prop := (-100000 ≤ z.id ∧ z.id ≤ 100000) ∧ (-1000 ≤ z.row ∧ z.row ≤ 1000) ∧ (-1000 ≤ z.col ∧ z.col ≤ 1000) ∧ (-1000 ≤ z.scale ∧ z.scale ≤ 1000) ∧ (-100000 ≤ z.year ∧ z.year ≤ 100000)
/-- side by side, or the same place -/
def nearB (a b : SSheet) : Bool := decide (a.scale = b.scale ∧ -1 ≤ a.row - b.row ∧ a.row - b.row ≤ 1 ∧ -1 ≤ a.col - b.col ∧ a.col - b.col ≤ 1)
theorem nearB_iff {a b : SSheet} : nearB a b = true ↔ (a.scale = b.scale ∧ -1 ≤ a.row - b.row ∧ a.row - b.row ≤ 1 ∧ -1 ≤ a.col - b.col ∧ a.col - b.col ≤ 1) := decide_eq_true_iff
theorem sheetOn1_any (a0 a1 a2 a3 a4 row col scale : Int) (b b2 b3 : Nat) (w : World) (hc : w.cell? ⟨b, 0, none⟩ = some (.int .i64 row)) (hc2 : w.cell? ⟨b2, 0, none⟩ = some (.int .i64 col)) (hc3 : w.cell? ⟨b3, 0, none⟩ = some (.int .i64 scale)) :
    Calls Tryz.prog 112 #[.agg #[.int .i64 a0, .int .i64 a1, .int .i64 a2, .int .i64 a3, .int .i64 a4], .pointer (some ⟨b, 0, none⟩), .pointer (some ⟨b2, 0, none⟩), .pointer (some ⟨b3, 0, none⟩)] w fun e w' => e = .returned (.bool (onP row col scale ⟨a0, a1, a2, a3, a4⟩)) ∧ Below w.heap.size w w' := by
  have k1 := ((bcell (below_alloc w (.cells #[.int .i64 a0, .int .i64 a1, .int .i64 a2, .int .i64 a3, .int .i64 a4] 50))).1 b 0 (World.block_lt_of_cell? w _ hc)).trans hc
  have k2 := ((bcell (below_alloc w (.cells #[.int .i64 a0, .int .i64 a1, .int .i64 a2, .int .i64 a3, .int .i64 a4] 50))).1 b2 0 (World.block_lt_of_cell? w _ hc2)).trans hc2
  have k3 := ((bcell (below_alloc w (.cells #[.int .i64 a0, .int .i64 a1, .int .i64 a2, .int .i64 a3, .int .i64 a4] 50))).1 b3 0 (World.block_lt_of_cell? w _ hc3)).trans hc3
  have HI := hide (show onP row col scale ⟨a0, a1, a2, a3, a4⟩ = true ↔ (a1 = row ∧ a2 = col ∧ a3 = scale) from decide_eq_true_iff)
  cases e1 : (a1 == row) with
  | false =>
    have HE := hide (show a1 ≠ row by simpa using e1)
    go_enter Tryz.func112, Tryz.ntmps112
    go_wp2_with fail
    go_ret
    exact ⟨ret_bool (bool_of_iff (by rw [HI.out]; simp [HE.out])), below_alloc _ _⟩
  | true =>
    have HE := hide (show a1 = row by simpa using e1)
    cases e2 : (a2 == col) with
    | false =>
      have HE2 := hide (show a2 ≠ col by simpa using e2)
      go_enter Tryz.func112, Tryz.ntmps112
      go_wp2_with fail
      go_ret
      exact ⟨ret_bool (bool_of_iff (by rw [HI.out]; simp [HE2.out])), below_alloc _ _⟩
    | true =>
      have HE2 := hide (show a2 = col by simpa using e2)
      go_enter Tryz.func112, Tryz.ntmps112
      go_wp2_with fail
      go_ret
      exact ⟨ret_bool (bool_of_iff (by rw [HI.out]; simp [HE.out, HE2.out])), below_alloc _ _⟩
theorem sheetOn_any (v : Value) (xs : List SSheet) (row col scale : Int) (w : World) (h : Is 5 SSheet.enc w v xs) :
    Calls Tryz.prog 86 #[v, .int .i64 row, .int .i64 col, .int .i64 scale] w fun e w' => e = .returned (.int .i64 (atV xs row col scale)) ∧ Below w.heap.size w w' := by
  have hm := h.len
  obtain ⟨A, cap, rfl, hr, _, _⟩ := h
  have B1 := below_alloc w (.cells #[.int .i64 row] 3)
  have B2 := B1.alloc B1.size (.cells #[.int .i64 col] 3)
  have B3 := B2.alloc B2.size (.cells #[.int .i64 scale] 3)
  have hr1 := hr.below B3 (Nat.le_refl _) B3.size
  have K1 := ((Blk.new w 3 #[.int .i64 row]).alloc (.cells #[.int .i64 col] 3)).alloc (.cells #[.int .i64 scale] 3)
  have K2 := (Blk.new (w.alloc (.cells #[.int .i64 row] 3)) 3 #[.int .i64 col]).alloc (.cells #[.int .i64 scale] 3)
  have K3 := Blk.new ((w.alloc (.cells #[.int .i64 row] 3)).alloc (.cells #[.int .i64 col] 3)) 3 #[.int .i64 scale]
  have hp : SSheet.Pred 112 #[.pointer (some ⟨w.heap.size, 0, none⟩), .pointer (some ⟨w.heap.size + 1, 0, none⟩), .pointer (some ⟨w.heap.size + 2, 0, none⟩)] (onP row col scale) (((w.alloc (.cells #[.int .i64 row] 3)).alloc (.cells #[.int .i64 col] 3)).alloc (.cells #[.int .i64 scale] 3)).heap.size (((w.alloc (.cells #[.int .i64 row] 3)).alloc (.cells #[.int .i64 col] 3)).alloc (.cells #[.int .i64 scale] 3)) := fun W c hb =>
    (sheetOn1_any _ _ _ _ _ row col scale w.heap.size (w.heap.size + 1) (w.heap.size + 2) W ((K1.below hb K1.lt).cell 0) (by have := (K2.below hb K2.lt).cell 0; simpa using this) (by have := (K3.below hb K3.lt).cell 0; simpa using this)).mono fun e w' ⟨he, hw⟩ => ⟨he, hb.trans (hw.mono hb.size)⟩
  have HR := hide hr1; have HP := hide hp; have HB := hide B3; clear hr hr1 hp K1 K2 K3 B1 B2 B3
  go_enter Tryz.func86, Tryz.ntmps86
  go_wp2_with (go_at_call 111; refine (IndexFuncSheet_any _ _ _ _ _ _ _ HR.out hm (fun _ _ => by kernel_rfl) HP.out).mono ?_; rintro e w' ⟨rfl, hb'⟩)
  go_ret
  exact ⟨rfl, bstep HB.out hb' HB.out.size⟩
set_option maxHeartbeats 1000000 in
theorem l2At_any (v : Value) (xs : List SSheet) (row col scale : Int) (w : World) (h : Is 5 SSheet.enc w v xs) :
    Calls Tryz.prog 87 #[v, .int .i64 row, .int .i64 col, .int .i64 scale] w fun e w' => e = .returned (.int .i64 (atV xs row col scale)) ∧ w = w' := by
  have hm := h.len
  obtain ⟨A, cap, rfl, hr, _, _⟩ := h
  have HR := hide hr; clear hr
  go_enter Tryz.func87, Tryz.ntmps87
  go_wp2_with fail
  go_loop [9] (fun i => ∃ (k : Nat), k ≤ xs.length ∧ i = .int .i64 k ∧ (∀ c ∈ xs.take k, onP row col scale c = false)) (fun i => xs.length - (intOf i).toNat)
  case atStart => exact ⟨0, Nat.zero_le _, rfl, by simp⟩
  case round =>
    obtain ⟨i, hi, rfl, hno⟩ := hrel
    have HN := hide hno; clear hno
    by_cases hlt : i < xs.length
    · have hlt' : (i : Int) < xs.length := by omega
      obtain ⟨b, off, rfl, hb, _, c1, c2, c3, _⟩ := SSheet.cells HR.out hlt (Below.refl _ _)
      have hy : onP row col scale xs[i] = decide (xs[i].row = row ∧ xs[i].col = col ∧ xs[i].scale = scale) := rfl
      generalize xs[i].row = y1 at c1 hy; generalize xs[i].col = y2 at c2 hy; generalize xs[i].scale = y3 at c3 hy
      have HY := hide hy; clear hy
      have hcont : onP row col scale xs[i] = false → ∀ c ∈ xs.take (i + 1), onP row col scale c = false := fun hf => by
        rw [take_snoc' hlt]
        intro c hc
        rcases List.mem_append.1 hc with h | h
        · exact HN.out c h
        · rw [List.mem_singleton.1 h]; exact hf
      have HC := hide hcont; clear hcont
      cases e1 : (y1 == row) with
      | false =>
        have HF := hide (HC.out (by rw [HY.out, decide_eq_false_iff_not]; rintro ⟨h, _⟩; rw [h] at e1; simp at e1))
        go_wp2_with fail
        go_round
        case measure => simp [intOf]; omega
        case rel => exact ⟨i + 1, by omega, by go_num, HF.out⟩
      | true =>
        have HE1 := hide (show y1 = row by simpa using e1)
        cases e2 : (y2 == col) with
        | false =>
          have HF := hide (HC.out (by rw [HY.out, decide_eq_false_iff_not]; rintro ⟨_, h, _⟩; rw [h] at e2; simp at e2))
          go_wp2_with fail
          go_round
          case measure => simp [intOf]; omega
          case rel => exact ⟨i + 1, by omega, by go_num, HF.out⟩
        | true =>
          have HE2 := hide (show y2 = col by simpa using e2)
          cases e3 : (y3 == scale) with
          | false =>
            have HF := hide (HC.out (by rw [HY.out, decide_eq_false_iff_not]; rintro ⟨_, _, h⟩; rw [h] at e3; simp at e3))
            go_wp2_with fail
            go_round
            case measure => simp [intOf]; omega
            case rel => exact ⟨i + 1, by omega, by go_num, HF.out⟩
          | true =>
            have HE3 := hide (show y3 = scale by simpa using e3)
            go_wp2_with fail
            go_ret
            refine ⟨ret_int ?_, rfl⟩
            exact (idxF_hit hlt (by rw [HY.out, decide_eq_true_iff]; exact ⟨HE1.out, HE2.out, HE3.out⟩) HN.out).symm
    · have hk : i = xs.length := by omega
      have HK := hide hk; clear hk
      go_wp2_with fail
      go_ret
      refine ⟨ret_int ?_, rfl⟩
      have := HN.out; rw [HK.out, List.take_length] at this
      exact (idxF_miss this).symm
end Go.Proofs.YtplemibckjnbhaaGreatDoor

/- Contracts of the test of a list of sheets, in impl and spec: the Lean function goodS. No condition. (Printed by mkgood2.py.) -/
namespace Go.Proofs.YtplemibckjnbhaaGreatDoor
open Go.RowKit
set_option linter.unusedVariables false
set_option maxHeartbeats 2000000 in
theorem l2Sheets_is (v : Value) (xs : List SSheet) (w : World) (h : Is 5 SSheet.enc w v xs) :
    Calls Tryz.prog 88 #[v] w fun e w' => e = .returned (.bool (goodS xs)) ∧ Below w.heap.size w w' := by
  have hm := h.len
  have HIS := hide h
  obtain ⟨A, cap, rfl, hr, _, _⟩ := h
  generalize hB : w.heap.size = B at hr ⊢
  have HB := hide hB; clear hB
  have HR := hide hr; clear hr
  by_cases h12 : 12 < xs.length
  · have h12' : (12 : Int) < xs.length := by omega
    have HN := hide (show goodS xs = false by unfold goodS; rw [Bool.and_eq_false_iff]; right; simpa using h12)
    clear h12
    go_enter Tryz.func88, Tryz.ntmps88
    go_wp2_with fail
    go_ret
    exact ⟨ret_bool HN.out.symm, Below.refl _ _⟩
  have h12' : ¬ (12 : Int) < xs.length := by omega
  go_enter Tryz.func88, Tryz.ntmps88
  go_wp2_with fail
  go_loopw [3] (fun i wr => ∃ (k : Nat), k ≤ xs.length ∧ i = .int .i64 k ∧ (List.range k).all (okS xs) = true ∧ Below B w wr) (fun i _ => xs.length - (intOf i).toNat)
  case atStart => exact ⟨0, Nat.zero_le _, rfl, rfl, Below.refl _ _⟩
  case round =>
    obtain ⟨i, hi, rfl, hall, hbel⟩ := hrel
    have HALL := hide hall; clear hall
    have hsz : B ≤ wr.heap.size := by have := hbel.size; rw [HB.out] at this; exact this
    by_cases hlt : i < xs.length
    · have hlt' : (i : Int) < xs.length := by omega
      obtain ⟨b, off, rfl, hb, c0, c1, c2, c3, c4⟩ := SSheet.cells HR.out hlt hbel
      have hbw : b < wr.heap.size := by omega
      have hat : SSheet.at xs i = ⟨xs[i].id, xs[i].row, xs[i].col, xs[i].scale, xs[i].year⟩ := SSheet.at_lt hlt
      have hir := HIS.out.below hbel (by rw [HB.out]; exact Nat.le_refl _)
      generalize xs[i].id = y0 at *; generalize xs[i].row = y1 at *; generalize xs[i].col = y2 at *; generalize xs[i].scale = y3 at *; generalize xs[i].year = y4 at *
      have hone := fun W => l2Sheet_any y0 y1 y2 y3 y4 W
      have hne : okS xs i = (SSheet.okB ⟨y0, y1, y2, y3, y4⟩ && ((decide (i = 0) || decide ((SSheet.at xs (i - 1)).id < y0)) && decide (atV xs y1 y2 y3 = (i : Int)))) := by unfold okS; rw [hat]
      have BX := hbel.alloc hsz (.cells #[.int .i64 y0, .int .i64 y1, .int .i64 y2, .int .i64 y3, .int .i64 y4] 50)
      have hia := hir.below (below_alloc wr (.cells #[.int .i64 y0, .int .i64 y1, .int .i64 y2, .int .i64 y3, .int .i64 y4] 50)) (Nat.le_refl _)
      have hatc := fun n : Later (wr.alloc (.cells #[.int .i64 y0, .int .i64 y1, .int .i64 y2, .int .i64 y3, .int .i64 y4] 50)) => l2At_any _ xs y1 y2 y3 n.W (hia.below n.h (Nat.le_refl _))
      generalize atV xs y1 y2 y3 = av at hne hatc
      have HAT := hide hatc
      clear hat hatc hia hir
      have hsx : B ≤ (wr.alloc (.cells #[.int .i64 y0, .int .i64 y1, .int .i64 y2, .int .i64 y3, .int .i64 y4] 50)).heap.size := Nat.le_trans hsz (by simp)
      have hbx : ∀ W, Below (wr.alloc (.cells #[.int .i64 y0, .int .i64 y1, .int .i64 y2, .int .i64 y3, .int .i64 y4] 50)).heap.size (wr.alloc (.cells #[.int .i64 y0, .int .i64 y1, .int .i64 y2, .int .i64 y3, .int .i64 y4] 50)) W → W.cell? ⟨wr.heap.size, 0, none⟩ = some (.int .i64 y0) ∧ W.cell? ⟨wr.heap.size, 1, none⟩ = some (.int .i64 y1) ∧ W.cell? ⟨wr.heap.size, 2, none⟩ = some (.int .i64 y2) ∧ W.cell? ⟨wr.heap.size, 3, none⟩ = some (.int .i64 y3) ∧ W.cell? ⟨wr.heap.size, 4, none⟩ = some (.int .i64 y4) := by
        intro W hb
        have hc := fun o => (bcell hb).1 wr.heap.size o (by simp)
        refine ⟨?_, ?_, ?_, ?_, ?_⟩ <;> rw [hc, (Blk.new wr _ _).cell] <;> rfl
      have HBX := hide hbx; clear hbx
      have m0 := fun n : Later (wr.alloc (.cells #[.int .i64 y0, .int .i64 y1, .int .i64 y2, .int .i64 y3, .int .i64 y4] 50)) => (HBX.out n.W n.h).1
      have m1 := fun n : Later (wr.alloc (.cells #[.int .i64 y0, .int .i64 y1, .int .i64 y2, .int .i64 y3, .int .i64 y4] 50)) => (HBX.out n.W n.h).2.1
      have m2 := fun n : Later (wr.alloc (.cells #[.int .i64 y0, .int .i64 y1, .int .i64 y2, .int .i64 y3, .int .i64 y4] 50)) => (HBX.out n.W n.h).2.2.1
      have m3 := fun n : Later (wr.alloc (.cells #[.int .i64 y0, .int .i64 y1, .int .i64 y2, .int .i64 y3, .int .i64 y4] 50)) => (HBX.out n.W n.h).2.2.2.1
      have m4 := fun n : Later (wr.alloc (.cells #[.int .i64 y0, .int .i64 y1, .int .i64 y2, .int .i64 y3, .int .i64 y4] 50)) => (HBX.out n.W n.h).2.2.2.2
      cases hok : SSheet.okB ⟨y0, y1, y2, y3, y4⟩ with
      | false =>
        rw [hok] at hone hne
        have HN := hide (goodS_no hlt hne); have HC := hide hone
        clear hone hne hok
        go_wp2_with fail
        (refine wp_region_later (by kernel_rfl) (by kernel_rfl) ?_; (repeat (go_big_quiet_step ((first | (go_at_call 78; exact later_call (HC.out _)) | (go_at_call 87; exact later_same (HAT.out _)))))); refine wpQuiet_nil ?_; intro _ hw'; obtain ⟨nq, hw''⟩ := hw'; subst hw'')
        have B3 := bstep BX nq.h hsx
        go_wp2_with fail
        go_ret
        exact ⟨ret_bool HN.out.symm, B3⟩
      | true =>
        rw [hok, Bool.true_and] at hne
        rw [hok] at hone
        have HC := hide hone; clear hone hok
        have hcont : okS xs i = true → (List.range (i + 1)).all (okS xs) = true := fun h => by rw [List.range_succ, List.all_append, HALL.out]; simp [h]
        have HCONT := hide hcont; clear hcont
        rcases Nat.eq_zero_or_pos i with hz | hpos
        · have hz1 : ¬ (0 : Int) < (i : Int) := by omega
          have hz3 : ¬ 0 < i := by omega
          have hz4 : decide (0 < i) = false := decide_eq_false hz3
          have hz5 : (i == 0) = true := by simpa using hz
          clear hz1
          have hne2 : okS xs i = decide (av = (i : Int)) := hne.trans (by rw [decide_eq_true hz]; simp)
          clear hne hz
          by_cases hav : av = (i : Int)
          · have ha2 : (av != (i : Int)) = false := by simpa using hav
            have HNE := hide (show okS xs i = true from hne2.trans (by rw [decide_eq_true hav])); clear hne2 hav
            go_wp2_with fail
            (refine wp_region_later (by kernel_rfl) (by kernel_rfl) ?_; (repeat (go_big_quiet_step ((first | (go_at_call 78; exact later_call (HC.out _)) | (go_at_call 87; exact later_same (HAT.out _)))))); refine wpQuiet_nil ?_; intro _ hw'; obtain ⟨nq, hw''⟩ := hw'; subst hw'')
            have B3 := bstep BX nq.h hsx
            generalize nq.W = W5 at B3
            go_wp2_with fail
            go_round
            case measure => (first | (simp [intOf]; done) | (simp [intOf] <;> omega))
            case rel => exact ⟨i + 1, by omega, by go_num, HCONT.out HNE.out, B3⟩
          · have ha2 : (av != (i : Int)) = true := by simpa using hav
            have HN := hide (goodS_no hlt (hne2.trans (by rw [decide_eq_false hav]))); clear hne2 hav
            go_wp2_with fail
            (refine wp_region_later (by kernel_rfl) (by kernel_rfl) ?_; (repeat (go_big_quiet_step ((first | (go_at_call 78; exact later_call (HC.out _)) | (go_at_call 87; exact later_same (HAT.out _)))))); refine wpQuiet_nil ?_; intro _ hw'; obtain ⟨nq, hw''⟩ := hw'; subst hw'')
            have B3 := bstep BX nq.h hsx
            go_wp2_with fail
            go_ret
            exact ⟨ret_bool HN.out.symm, B3⟩
        · obtain ⟨q, rfl⟩ : ∃ q, i = q + 1 := ⟨i - 1, by omega⟩
          obtain ⟨b', off', hA, hb', p0, _, _, _, _⟩ := SSheet.cells HR.out (i := q) (by omega) hbel
          injection hA with hA; injection hA with hA1 hA2; subst hA1 hA2
          rw [show q + 1 - 1 = q by omega, SSheet.at_lt (show q < xs.length by omega)] at hne
          generalize xs[q].id = pid at p0 hne
          have p1 : (wr.alloc (.cells #[.int .i64 y0, .int .i64 y1, .int .i64 y2, .int .i64 y3, .int .i64 y4] 50)).cell? ⟨b, off + q * 5, none⟩ = some (.int .i64 pid) := ((bcell (below_alloc wr _)).1 _ _ hbw).trans p0
          have n1 := fun n => later_cell p1 n
          by_cases hp : pid < y0
          · have hp' : ¬ y0 ≤ pid := by omega
            have hp3 : decide (y0 ≤ pid) = false := decide_eq_false hp'
            have hne2 : okS xs (q + 1) = decide (av = ((q + 1 : Nat) : Int)) := hne.trans (by rw [decide_eq_true hp, Bool.or_true, Bool.true_and])
            clear hne
            rw [show ((q + 1 : Nat) : Int) = (q : Int) + 1 from rfl] at hne2
            by_cases hav : av = ((q : Int) + 1)
            · have ha2 : (av != ((q : Int) + 1)) = false := by simpa using hav
              have HNE := hide (show okS xs (q + 1) = true from hne2.trans (by rw [decide_eq_true hav])); clear hne2 hav
              go_wp2_with fail
              (refine wp_region_later (by kernel_rfl) (by kernel_rfl) ?_; (repeat (go_big_quiet_step ((first | (go_at_call 78; exact later_call (HC.out _)) | (go_at_call 87; exact later_same (HAT.out _)))))); refine wpQuiet_nil ?_; intro _ hw'; obtain ⟨nq, hw''⟩ := hw'; subst hw'')
              have B3 := bstep BX nq.h hsx
              generalize nq.W = W5 at B3
              go_wp2_with fail
              go_round
              case measure => (first | (simp [intOf]; done) | (simp [intOf] <;> omega))
              case rel => exact ⟨(q + 1) + 1, by omega, by go_num, HCONT.out HNE.out, B3⟩
            · have ha2 : (av != ((q : Int) + 1)) = true := by simpa using hav
              have HN := hide (goodS_no hlt (hne2.trans (by rw [decide_eq_false hav]))); clear hne2 hav
              go_wp2_with fail
              (refine wp_region_later (by kernel_rfl) (by kernel_rfl) ?_; (repeat (go_big_quiet_step ((first | (go_at_call 78; exact later_call (HC.out _)) | (go_at_call 87; exact later_same (HAT.out _)))))); refine wpQuiet_nil ?_; intro _ hw'; obtain ⟨nq, hw''⟩ := hw'; subst hw'')
              have B3 := bstep BX nq.h hsx
              go_wp2_with fail
              go_ret
              exact ⟨ret_bool HN.out.symm, B3⟩
          · have hge : y0 ≤ pid := by omega
            have hne2 : okS xs (q + 1) = false := by rw [hne, decide_eq_false hp, decide_eq_false (show ¬ q + 1 = 0 by omega)]; rfl
            have HN := hide (goodS_no hlt hne2)
            clear hne hne2
            go_wp2_with fail
            (refine wp_region_later (by kernel_rfl) (by kernel_rfl) ?_; (repeat (go_big_quiet_step ((first | (go_at_call 78; exact later_call (HC.out _)) | (go_at_call 87; exact later_same (HAT.out _)))))); refine wpQuiet_nil ?_; intro _ hw'; obtain ⟨nq, hw''⟩ := hw'; subst hw'')
            have B3 := bstep BX nq.h hsx
            go_wp2_with fail
            go_ret
            exact ⟨ret_bool HN.out.symm, B3⟩
    · have hk : i = xs.length := by omega
      have hall := HALL.out
      rw [hk] at hall
      have HA := hide hall; clear hall hk
      go_wp2_with fail
      go_ret
      exact ⟨ret_bool (by unfold goodS; rw [HA.out, Bool.true_and]; simp; omega), hbel⟩
set_option maxHeartbeats 2000000 in
theorem AreSheets_is (v : Value) (xs : List SSheet) (w : World) (h : Is 5 SSheet.enc w v xs) :
    Calls Tryz.prog 36 #[v] w fun e w' => e = .returned (.bool (goodS xs)) ∧ Below w.heap.size w w' := by
  have hm := h.len
  have HIS := hide h
  obtain ⟨A, cap, rfl, hr, _, _⟩ := h
  generalize hB : w.heap.size = B at hr ⊢
  have HB := hide hB; clear hB
  have HR := hide hr; clear hr
  go_enter Tryz.func36, Tryz.ntmps36
  go_wp2_with fail
  go_loopw [7] (fun i wr => ∃ (k : Nat), k ≤ xs.length ∧ i = .int .i64 k ∧ (List.range k).all (okS xs) = true ∧ Below B w wr) (fun i _ => xs.length - (intOf i).toNat)
  case atStart => exact ⟨0, Nat.zero_le _, rfl, rfl, Below.refl _ _⟩
  case round =>
    obtain ⟨i, hi, rfl, hall, hbel⟩ := hrel
    have HALL := hide hall; clear hall
    have hsz : B ≤ wr.heap.size := by have := hbel.size; rw [HB.out] at this; exact this
    by_cases hlt : i < xs.length
    · have hlt' : (i : Int) < xs.length := by omega
      obtain ⟨b, off, rfl, hb, c0, c1, c2, c3, c4⟩ := SSheet.cells HR.out hlt hbel
      have hbw : b < wr.heap.size := by omega
      have hat : SSheet.at xs i = ⟨xs[i].id, xs[i].row, xs[i].col, xs[i].scale, xs[i].year⟩ := SSheet.at_lt hlt
      have hir := HIS.out.below hbel (by rw [HB.out]; exact Nat.le_refl _)
      generalize xs[i].id = y0 at *; generalize xs[i].row = y1 at *; generalize xs[i].col = y2 at *; generalize xs[i].scale = y3 at *; generalize xs[i].year = y4 at *
      have hone := fun W => IsSheet_any y0 y1 y2 y3 y4 W
      have hne : okS xs i = (SSheet.okB ⟨y0, y1, y2, y3, y4⟩ && ((decide (i = 0) || decide ((SSheet.at xs (i - 1)).id < y0)) && decide (atV xs y1 y2 y3 = (i : Int)))) := by unfold okS; rw [hat]
      have BX := hbel.alloc hsz (.cells #[.int .i64 y0, .int .i64 y1, .int .i64 y2, .int .i64 y3, .int .i64 y4] 50)
      have hia := hir.below (below_alloc wr (.cells #[.int .i64 y0, .int .i64 y1, .int .i64 y2, .int .i64 y3, .int .i64 y4] 50)) (Nat.le_refl _)
      have hatc := fun n : Later (wr.alloc (.cells #[.int .i64 y0, .int .i64 y1, .int .i64 y2, .int .i64 y3, .int .i64 y4] 50)) => sheetOn_any _ xs y1 y2 y3 n.W (hia.below n.h (Nat.le_refl _))
      generalize atV xs y1 y2 y3 = av at hne hatc
      have HAT := hide hatc
      clear hat hatc hia hir
      have hsx : B ≤ (wr.alloc (.cells #[.int .i64 y0, .int .i64 y1, .int .i64 y2, .int .i64 y3, .int .i64 y4] 50)).heap.size := Nat.le_trans hsz (by simp)
      have hbx : ∀ W, Below (wr.alloc (.cells #[.int .i64 y0, .int .i64 y1, .int .i64 y2, .int .i64 y3, .int .i64 y4] 50)).heap.size (wr.alloc (.cells #[.int .i64 y0, .int .i64 y1, .int .i64 y2, .int .i64 y3, .int .i64 y4] 50)) W → W.cell? ⟨wr.heap.size, 0, none⟩ = some (.int .i64 y0) ∧ W.cell? ⟨wr.heap.size, 1, none⟩ = some (.int .i64 y1) ∧ W.cell? ⟨wr.heap.size, 2, none⟩ = some (.int .i64 y2) ∧ W.cell? ⟨wr.heap.size, 3, none⟩ = some (.int .i64 y3) ∧ W.cell? ⟨wr.heap.size, 4, none⟩ = some (.int .i64 y4) := by
        intro W hb
        have hc := fun o => (bcell hb).1 wr.heap.size o (by simp)
        refine ⟨?_, ?_, ?_, ?_, ?_⟩ <;> rw [hc, (Blk.new wr _ _).cell] <;> rfl
      have HBX := hide hbx; clear hbx
      have m0 := fun n : Later (wr.alloc (.cells #[.int .i64 y0, .int .i64 y1, .int .i64 y2, .int .i64 y3, .int .i64 y4] 50)) => (HBX.out n.W n.h).1
      have m1 := fun n : Later (wr.alloc (.cells #[.int .i64 y0, .int .i64 y1, .int .i64 y2, .int .i64 y3, .int .i64 y4] 50)) => (HBX.out n.W n.h).2.1
      have m2 := fun n : Later (wr.alloc (.cells #[.int .i64 y0, .int .i64 y1, .int .i64 y2, .int .i64 y3, .int .i64 y4] 50)) => (HBX.out n.W n.h).2.2.1
      have m3 := fun n : Later (wr.alloc (.cells #[.int .i64 y0, .int .i64 y1, .int .i64 y2, .int .i64 y3, .int .i64 y4] 50)) => (HBX.out n.W n.h).2.2.2.1
      have m4 := fun n : Later (wr.alloc (.cells #[.int .i64 y0, .int .i64 y1, .int .i64 y2, .int .i64 y3, .int .i64 y4] 50)) => (HBX.out n.W n.h).2.2.2.2
      cases hok : SSheet.okB ⟨y0, y1, y2, y3, y4⟩ with
      | false =>
        rw [hok] at hone hne
        have HN := hide (goodS_no hlt hne); have HC := hide hone
        clear hone hne hok
        go_wp2_with fail
        (refine wp_region_later (by kernel_rfl) (by kernel_rfl) ?_; (repeat (go_big_quiet_step ((first | (go_at_call 30; exact later_call (HC.out _)) | (go_at_call 86; exact later_call (HAT.out _)))))); refine wpQuiet_nil ?_; intro _ hw'; obtain ⟨nq, hw''⟩ := hw'; subst hw'')
        have B3 := bstep BX nq.h hsx
        go_wp2_with fail
        go_ret
        exact ⟨ret_bool HN.out.symm, B3⟩
      | true =>
        rw [hok, Bool.true_and] at hne
        rw [hok] at hone
        have HC := hide hone; clear hone hok
        have hcont : okS xs i = true → (List.range (i + 1)).all (okS xs) = true := fun h => by rw [List.range_succ, List.all_append, HALL.out]; simp [h]
        have HCONT := hide hcont; clear hcont
        rcases Nat.eq_zero_or_pos i with hz | hpos
        · have hz1 : ¬ (0 : Int) < (i : Int) := by omega
          have hz3 : ¬ 0 < i := by omega
          have hz4 : decide (0 < i) = false := decide_eq_false hz3
          have hz5 : (i == 0) = true := by simpa using hz
          clear hz1
          have hne2 : okS xs i = decide (av = (i : Int)) := hne.trans (by rw [decide_eq_true hz]; simp)
          clear hne hz
          by_cases hav : av = (i : Int)
          · have ha2 : (av != (i : Int)) = false := by simpa using hav
            have HNE := hide (show okS xs i = true from hne2.trans (by rw [decide_eq_true hav])); clear hne2 hav
            go_wp2_with fail
            (refine wp_region_later (by kernel_rfl) (by kernel_rfl) ?_; (repeat (go_big_quiet_step ((first | (go_at_call 30; exact later_call (HC.out _)) | (go_at_call 86; exact later_call (HAT.out _)))))); refine wpQuiet_nil ?_; intro _ hw'; obtain ⟨nq, hw''⟩ := hw'; subst hw'')
            have B3 := bstep BX nq.h hsx
            generalize nq.W = W5 at B3
            go_wp2_with fail
            go_round
            case measure => (first | (simp [intOf]; done) | (simp [intOf] <;> omega))
            case rel => exact ⟨i + 1, by omega, by go_num, HCONT.out HNE.out, B3⟩
          · have ha2 : (av != (i : Int)) = true := by simpa using hav
            have HN := hide (goodS_no hlt (hne2.trans (by rw [decide_eq_false hav]))); clear hne2 hav
            go_wp2_with fail
            (refine wp_region_later (by kernel_rfl) (by kernel_rfl) ?_; (repeat (go_big_quiet_step ((first | (go_at_call 30; exact later_call (HC.out _)) | (go_at_call 86; exact later_call (HAT.out _)))))); refine wpQuiet_nil ?_; intro _ hw'; obtain ⟨nq, hw''⟩ := hw'; subst hw'')
            have B3 := bstep BX nq.h hsx
            go_wp2_with fail
            go_ret
            exact ⟨ret_bool HN.out.symm, B3⟩
        · obtain ⟨q, rfl⟩ : ∃ q, i = q + 1 := ⟨i - 1, by omega⟩
          obtain ⟨b', off', hA, hb', p0, _, _, _, _⟩ := SSheet.cells HR.out (i := q) (by omega) hbel
          injection hA with hA; injection hA with hA1 hA2; subst hA1 hA2
          rw [show q + 1 - 1 = q by omega, SSheet.at_lt (show q < xs.length by omega)] at hne
          generalize xs[q].id = pid at p0 hne
          have p1 : (wr.alloc (.cells #[.int .i64 y0, .int .i64 y1, .int .i64 y2, .int .i64 y3, .int .i64 y4] 50)).cell? ⟨b, off + q * 5, none⟩ = some (.int .i64 pid) := ((bcell (below_alloc wr _)).1 _ _ hbw).trans p0
          have n1 := fun n => later_cell p1 n
          by_cases hp : pid < y0
          · have hp' : ¬ y0 ≤ pid := by omega
            have hp3 : decide (y0 ≤ pid) = false := decide_eq_false hp'
            have hne2 : okS xs (q + 1) = decide (av = ((q + 1 : Nat) : Int)) := hne.trans (by rw [decide_eq_true hp, Bool.or_true, Bool.true_and])
            clear hne
            rw [show ((q + 1 : Nat) : Int) = (q : Int) + 1 from rfl] at hne2
            by_cases hav : av = ((q : Int) + 1)
            · have ha2 : (av != ((q : Int) + 1)) = false := by simpa using hav
              have HNE := hide (show okS xs (q + 1) = true from hne2.trans (by rw [decide_eq_true hav])); clear hne2 hav
              go_wp2_with fail
              (refine wp_region_later (by kernel_rfl) (by kernel_rfl) ?_; (repeat (go_big_quiet_step ((first | (go_at_call 30; exact later_call (HC.out _)) | (go_at_call 86; exact later_call (HAT.out _)))))); refine wpQuiet_nil ?_; intro _ hw'; obtain ⟨nq, hw''⟩ := hw'; subst hw'')
              have B3 := bstep BX nq.h hsx
              generalize nq.W = W5 at B3
              go_wp2_with fail
              go_round
              case measure => (first | (simp [intOf]; done) | (simp [intOf] <;> omega))
              case rel => exact ⟨(q + 1) + 1, by omega, by go_num, HCONT.out HNE.out, B3⟩
            · have ha2 : (av != ((q : Int) + 1)) = true := by simpa using hav
              have HN := hide (goodS_no hlt (hne2.trans (by rw [decide_eq_false hav]))); clear hne2 hav
              go_wp2_with fail
              (refine wp_region_later (by kernel_rfl) (by kernel_rfl) ?_; (repeat (go_big_quiet_step ((first | (go_at_call 30; exact later_call (HC.out _)) | (go_at_call 86; exact later_call (HAT.out _)))))); refine wpQuiet_nil ?_; intro _ hw'; obtain ⟨nq, hw''⟩ := hw'; subst hw'')
              have B3 := bstep BX nq.h hsx
              go_wp2_with fail
              go_ret
              exact ⟨ret_bool HN.out.symm, B3⟩
          · have hge : y0 ≤ pid := by omega
            have hne2 : okS xs (q + 1) = false := by rw [hne, decide_eq_false hp, decide_eq_false (show ¬ q + 1 = 0 by omega)]; rfl
            have HN := hide (goodS_no hlt hne2)
            clear hne hne2
            go_wp2_with fail
            (refine wp_region_later (by kernel_rfl) (by kernel_rfl) ?_; (repeat (go_big_quiet_step ((first | (go_at_call 30; exact later_call (HC.out _)) | (go_at_call 86; exact later_call (HAT.out _)))))); refine wpQuiet_nil ?_; intro _ hw'; obtain ⟨nq, hw''⟩ := hw'; subst hw'')
            have B3 := bstep BX nq.h hsx
            go_wp2_with fail
            go_ret
            exact ⟨ret_bool HN.out.symm, B3⟩
    · have hk : i = xs.length := by omega
      have hall := HALL.out
      rw [hk] at hall
      have HA := hide hall; clear hall hk
      go_wp2_with fail
      go_ret
      exact ⟨ret_bool (by unfold goodS; rw [HA.out, Bool.true_and]; simp; omega), hbel⟩
end Go.Proofs.YtplemibckjnbhaaGreatDoor

/- Contracts of idsOf (over a predicate) and of NeighborsOf, in impl and spec: the Lean function nbV. Condition: small numbers. -/
namespace Go.Proofs.YtplemibckjnbhaaGreatDoor
open Go.RowKit
set_option linter.unusedVariables false
/-- the predicate g with the captured values cp answers p at each of xs, in whatever world in which what lay below B stays -/
def PredIn (g : FuncId) (cp : Array Value) (p : SSheet → Bool) (xs : List SSheet) (B : Nat) (w : World) : Prop :=
  ∀ (W : World) (c : SSheet), c ∈ xs → Below B w W → Calls Tryz.prog g (#[.agg #[.int .i64 c.id, .int .i64 c.row, .int .i64 c.col, .int .i64 c.scale, .int .i64 c.year]] ++ cp) W fun e w' => e = .returned (.bool (p c)) ∧ Below W.heap.size W w'
theorem mk5S {w : World} {g : Nat} {t : TypeId} {a b c d e : Value} (h : Blk w g t #[a, b, c, d, e]) : w.cell? ⟨g, 0, none⟩ = some a ∧ w.cell? ⟨g, 1, none⟩ = some b ∧ w.cell? ⟨g, 2, none⟩ = some c ∧ w.cell? ⟨g, 3, none⟩ = some d ∧ w.cell? ⟨g, 4, none⟩ = some e :=
  ⟨by rw [h.cell]; rfl, by rw [h.cell]; rfl, by rw [h.cell]; rfl, by rw [h.cell]; rfl, by rw [h.cell]; rfl⟩
theorem nbV_no {xs : List SSheet} {id : Int} (h : ¬ (goodS xs = true ∧ 0 ≤ findS xs id)) : nbV xs id = ([], false) := if_neg h
theorem nbV_yes {xs : List SSheet} {id : Int} (h1 : goodS xs = true) {k : Nat} (hk : findS xs id = (k : Int)) : nbV xs id = (filtTo (fun c => nbB c (SSheet.at xs k)) xs xs.length, true) := by
  unfold nbV; rw [if_pos ⟨h1, by omega⟩, hk, Int.toNat_natCast]
end Go.Proofs.YtplemibckjnbhaaGreatDoor
