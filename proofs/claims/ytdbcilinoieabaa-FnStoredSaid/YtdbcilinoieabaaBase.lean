/- Plain facts on worlds, rows of elements, lists and endings, for the walks over this seat's program; nothing here speaks of the program. No condition. -/
import Derived.WalkKit
import Derived.WalkSpells
import Derived.WalkLawsBesides
import Derived.Deep.QuietTactic
import Derived.BigQuiet
import Derived.Deep.RegionHeld3
import Derived.Deep.DeepCutAuto
import Derived.Deep.LoopGhost
import Derived.Deep.DeepMust
import Derived.Deep.DeepFit
import Derived.StillTailTactics
namespace Go.Proofs.Ytdbcilinoieabaa
open Go.RowKit

/-! ### numbers and endings -/
/-- n lies in lo to hi -/
def inB (n lo hi : Int) : Bool := decide (lo ≤ n ∧ n ≤ hi)
theorem inB_iff {n lo hi : Int} : inB n lo hi = true ↔ lo ≤ n ∧ n ≤ hi := decide_eq_true_iff
theorem inB_no {n lo hi : Int} : inB n lo hi = false ↔ ¬ (lo ≤ n ∧ n ≤ hi) := decide_eq_false_iff_not
theorem ret_bool {a b : Bool} (h : a = b) : Ending.returned (.bool a) = .returned (.bool b) := by rw [h]
theorem ret_int {k : IntKind} {a b : Int} (h : a = b) : Ending.returned (.int k a) = .returned (.int k b) := by rw [h]
theorem bool_of_iff {a b : Bool} (h : a = true ↔ b = true) : a = b := Bool.eq_iff_iff.2 h
theorem wf64 {a : Int} (h : (Lit.int .i64 a).wf = true) : -9223372036854775808 ≤ a ∧ a ≤ 9223372036854775807 := by
  simpa [Lit.wf, IntKind.min, IntKind.max, IntKind.signed, IntKind.bits] using h
theorem hide {p : Prop} (h : p) : Hid p := h

/-- what is left of an allowance -/
def szR (left n : Int) : Int := if left < n then -1 else left - n
/-! ### worlds -/
theorem bcell {W w1 : World} (hb : Below W.heap.size W w1) : (∀ b o, b < W.heap.size → w1.cell? ⟨b, o, none⟩ = W.cell? ⟨b, o, none⟩) ∧ (∀ b o, b < W.heap.size → w1.frozen? ⟨b, o, none⟩ = W.frozen? ⟨b, o, none⟩) :=
  ⟨fun b o h => hb.cell (p := ⟨b, o, none⟩) h, fun b o h => hb.frozen (p := ⟨b, o, none⟩) h⟩
theorem bstep {B : Nat} {a W w' : World} (h : Below B a W) (hb : Below W.heap.size W w') (hB : B ≤ W.heap.size) : Below B a w' := h.trans (hb.mono hB)
theorem below_drewN {B : Nat} {a w : World} (h : Below B a w) (n : Nat) : Below B a (w.drewN n) := ⟨h.os, h.tape, h.output, h.size, h.block⟩
theorem below_of_drewN {w : World} (n : Nat) : Below w.heap.size w (w.drewN n) := below_drewN (Below.refl _ _) n
theorem below_alloc (w : World) (o : Obj) : Below w.heap.size w (w.alloc o) := (Below.refl _ _).alloc (Nat.le_refl _) o

theorem info_parts' {o : Option TypeInfo} {z : Value} {s b : Nat} (h : o.map (fun i => (i.zero, i.size, i.bytes)) = some (some z, s, b)) : ∃ i, o = some i ∧ i.zero = some z ∧ i.size = s ∧ i.bytes = b := by
  obtain ⟨i, hi, hzz⟩ := Option.map_eq_some_iff.1 h
  simp only [Prod.mk.injEq] at hzz
  exact ⟨i, hi, hzz⟩
/-- make of n elements, n a Nat -/
theorem run_make_n {P : Program} (t e : TypeId) (z : Value) (s b : Nat) (ht : P.underlying t = some (.slice e)) (hi : (P.info? e).map (fun i => (i.zero, i.size, i.bytes)) = some (some z, s, b))
    (n : Nat) (hb : b * n ≤ 281474976710656) (h63 : n ≤ 9223372036854775807) (w : World) :
    (Instr.makeSlice t (.int .i64 (n : Int)) (.int .i64 (n : Int))).run P w = .ok (.slice (some ⟨w.heap.size, 0, none⟩) n n) (w.alloc (.cells (madeCells z.cells (n * s)) e)) := by
  obtain ⟨i, h1, h2, h3, h4⟩ := info_parts' hi
  subst h3 h4
  have hb' : (i.bytes : Int) * (n : Int) ≤ 281474976710656 := by
    have h : ((i.bytes * n : Nat) : Int) ≤ 281474976710656 := by omega
    rwa [Int.natCast_mul] at h
  have hr := run_make (P := P) w t e i z ht h1 h2 .i64 .i64 n n (by omega) (Int.le_refl _) hb' (by omega)
  simpa only [Int.toNat_natCast] using hr

theorem grownBy_setCell {w wr : World} {g : Nat} (h : w.grownBy wr (some g)) (i : Nat) (u : Value) : w.grownBy (wr.setCell ⟨g, i, none⟩ u) (some g) :=
  ⟨h.os, h.tape, h.output, by simpa [World.setCell] using h.size, fun k hk hne => (Below.heap_setCell wr ⟨g, i, none⟩ u k (fun e => hne (by rw [e]))).trans (h.block k hk hne)⟩

/-! ### rows: a list of elements, k cells each -/
/-- The elements xs, of k cells each, lie one behind the other at the address A, in a block below B. (An empty list says nothing of A.) -/
def Row {α : Type} (k : Nat) (enc : α → Nat → Value) (w : World) (B : Nat) (A : Option Addr) (xs : List α) : Prop :=
  xs = [] ∨ ∃ b off, A = some ⟨b, off, none⟩ ∧ b < B ∧ ∀ i x, xs[i]? = some x → ∀ j, j < k → w.cell? ⟨b, off + i * k + j, none⟩ = some (enc x j)

section
variable {α : Type} {k : Nat} {enc : α → Nat → Value} {w w' : World} {B B' : Nat} {A : Option Addr} {xs : List α}
theorem Row.nil : Row k enc w B A ([] : List α) := .inl rfl
theorem Row.get (h : Row k enc w B A xs) {i : Nat} (hi : i < xs.length) :
    ∃ b off, A = some ⟨b, off, none⟩ ∧ b < B ∧ ∀ j, j < k → w.cell? ⟨b, off + i * k + j, none⟩ = some (enc (xs[i]'hi) j) := by
  rcases h with rfl | ⟨b, off, rfl, hb, hc⟩
  · simp at hi
  · exact ⟨b, off, rfl, hb, fun j hj => hc i _ (List.getElem?_eq_getElem hi) j hj⟩
theorem Row.keep (h : Row k enc w B A xs) (hk : ∀ b o, b < B → w'.cell? ⟨b, o, none⟩ = w.cell? ⟨b, o, none⟩) (hB : B ≤ B') : Row k enc w' B' A xs := by
  rcases h with rfl | ⟨b, off, rfl, hb, hc⟩
  · exact .inl rfl
  · exact .inr ⟨b, off, rfl, by omega, fun i x hx j hj => (hk _ _ hb).trans (hc i x hx j hj)⟩
theorem Row.below {B0 : Nat} (h : Row k enc w B A xs) (hb : Below B0 w w') (h0 : B ≤ B0) (hB : B ≤ B') : Row k enc w' B' A xs :=
  h.keep (fun b o hl => hb.cell (p := ⟨b, o, none⟩) (Nat.lt_of_lt_of_le hl h0)) hB
theorem Row.more (h : Row k enc w B A xs) (hB : B ≤ B') : Row k enc w B' A xs := h.keep (fun _ _ _ => rfl) hB
end

/-! ### lists -/
theorem take_snoc' {α : Type} {xs : List α} {i : Nat} (h : i < xs.length) : xs.take (i + 1) = xs.take i ++ [xs[i]] := by
  rw [List.take_succ_eq_append_getElem h]
theorem all_take_succ {α : Type} {xs : List α} {i : Nat} {p : α → Bool} (h : i < xs.length) : (xs.take (i + 1)).all p = ((xs.take i).all p && p xs[i]) := by
  rw [take_snoc' h, List.all_append]; simp

/-! ### a block of the call's own, known whole -/
/-- block g is the cells cs of element type t, none of them frozen -/
def Blk (w : World) (g : Nat) (t : TypeId) (cs : Array Value) : Prop := w.heap[g]? = some (.cells cs t (0, 0))
section
variable {w w' : World} {g : Nat} {t : TypeId} {cs : Array Value}
theorem Blk.lt (h : Blk w g t cs) : g < w.heap.size := (Array.getElem?_eq_some_iff.1 h).1
theorem Blk.cell (h : Blk w g t cs) (i : Nat) : w.cell? ⟨g, i, none⟩ = cs[i]? := cell_of_row w g i cs t (0, 0) h
theorem Blk.frozen (h : Blk w g t cs) (i : Nat) : w.frozen? ⟨g, i, none⟩ = false := by
  unfold Blk at h; simp [World.frozen?, h]
theorem Blk.new (w : World) (t : TypeId) (cs : Array Value) : Blk (w.alloc (.cells cs t)) w.heap.size t cs := heap_alloc_new w _
theorem Blk.alloc (h : Blk w g t cs) (o : Obj) : Blk (w.alloc o) g t cs := (Below.heap_alloc w o g h.lt).trans h
theorem Blk.drewN (h : Blk w g t cs) (n : Nat) : Blk (w.drewN n) g t cs := h
theorem Blk.set (h : Blk w g t cs) (i : Nat) (u : Value) : Blk (w.setCell ⟨g, i, none⟩ u) g t (cs.setIfInBounds i u) := by
  unfold Blk at h ⊢
  simp [World.setCell, Array.getElem?_modify, h]
theorem Blk.far (h : Blk w g t cs) {p : Addr} (hp : g ≠ p.block) (u : Value) : Blk (w.setCell p u) g t cs := (Below.heap_setCell w p u g hp).trans h
theorem Blk.below {B : Nat} (h : Blk w g t cs) (hb : Below B w w') (hg : g < B) : Blk w' g t cs := (hb.block g hg).trans h
theorem Blk.some (h : Blk w g t cs) {i : Nat} (hi : i < cs.size) : w.cell? ⟨g, i, none⟩ = some cs[i] := by rw [h.cell, Array.getElem?_eq_getElem hi]
end
/-- the first i elements of a block are the first i of xs -/
def Filled {α : Type} (k : Nat) (enc : α → Nat → Value) (cs : Array Value) (i : Nat) (xs : List α) : Prop :=
  ∀ j x, j < i → xs[j]? = some x → ∀ c, c < k → cs[j * k + c]? = some (enc x c)
theorem Filled.zero {α : Type} {k : Nat} {enc : α → Nat → Value} {cs : Array Value} {xs : List α} : Filled k enc cs 0 xs := fun j _ hj => absurd hj (by omega)
theorem Filled.row {α : Type} {k : Nat} {enc : α → Nat → Value} {cs : Array Value} {xs : List α} {w : World} {g B : Nat} {t : TypeId} (h : Filled k enc cs xs.length xs) (hb : Blk w g t cs) (hB : g < B) :
    Row k enc w B (some ⟨g, 0, none⟩) xs :=
  .inr ⟨g, 0, rfl, hB, fun i x hx j hj => by rw [Nat.zero_add, hb.cell]; exact h i x (List.getElem?_eq_some_iff.1 hx).1 hx j hj⟩
theorem Filled.step {α : Type} {k : Nat} {enc : α → Nat → Value} {cs cs' : Array Value} {i : Nat} {xs : List α} (h : Filled k enc cs i xs) (hi : i < xs.length)
    (h1 : ∀ c, c < k → cs'[i * k + c]? = some (enc xs[i] c)) (h2 : ∀ m, m < i * k → cs'[m]? = cs[m]?) : Filled k enc cs' (i + 1) xs := by
  intro j x hj hx c hc
  by_cases hji : j = i
  · subst hji
    rw [List.getElem?_eq_getElem hi] at hx
    injection hx with hx
    subst hx
    exact h1 c hc
  · have hlt : j < i := by omega
    have hm : j * k + c < i * k := by
      have := Nat.mul_le_mul_right k (show j + 1 ≤ i from hlt)
      rw [Nat.add_mul, Nat.one_mul] at this
      omega
    rw [h2 _ hm]
    exact h j x hlt hx c hc
theorem Filled.step1 {α : Type} {enc : α → Nat → Value} {cs : Array Value} {i : Nat} {xs : List α} (h : Filled 1 enc cs i xs) (hi : i < xs.length) (hs : cs.size = xs.length * 1) {a0 : Value} (h0 : enc xs[i] 0 = a0) :
    Filled 1 enc (cs.setIfInBounds i a0) (i + 1) xs := by
  subst h0
  refine h.step hi (fun c hc => ?_) (fun m hm => ?_)
  · obtain rfl : c = 0 := by omega
    rw [Nat.mul_one, Nat.add_zero, Array.getElem?_setIfInBounds_self_of_lt (by omega)]
  · rw [Array.getElem?_setIfInBounds_ne (by omega)]
theorem Filled.step1' {α : Type} {enc : α → Nat → Value} {cs : Array Value} {i : Nat} {xs : List α} (h : Filled 1 enc cs i xs) (hi : i < xs.length) (hs : i * 1 + 0 < cs.size) {a0 : Value} (h0 : enc xs[i] 0 = a0) :
    Filled 1 enc (cs.setIfInBounds i a0) (i + 1) xs := by
  subst h0
  refine h.step hi (fun c hc => ?_) (fun m hm => ?_)
  · obtain rfl : c = 0 := by omega
    rw [Nat.mul_one, Nat.add_zero, Array.getElem?_setIfInBounds_self_of_lt (by omega)]
  · rw [Array.getElem?_setIfInBounds_ne (by omega)]
theorem Filled.step2 {α : Type} {enc : α → Nat → Value} {cs : Array Value} {i : Nat} {xs : List α} (h : Filled 2 enc cs i xs) (hi : i < xs.length) (hs : cs.size = xs.length * 2) {a0 a1 : Value} (h0 : enc xs[i] 0 = a0) (h1 : enc xs[i] 1 = a1) :
    Filled 2 enc ((cs.setIfInBounds (i * 2) a0).setIfInBounds (i * 2 + 1) a1) (i + 1) xs := by
  subst h0 h1
  refine h.step hi (fun c hc => ?_) (fun m hm => ?_)
  · have : c = 0 ∨ c = 1 := by omega
    rcases this with rfl | rfl
    · rw [Array.getElem?_setIfInBounds_ne (by omega), Nat.add_zero, Array.getElem?_setIfInBounds_self_of_lt (by omega)]
    · rw [Array.getElem?_setIfInBounds_self_of_lt (by simp; omega)]
  · rw [Array.getElem?_setIfInBounds_ne (by omega), Array.getElem?_setIfInBounds_ne (by omega)]
theorem Filled.step2' {α : Type} {enc : α → Nat → Value} {cs : Array Value} {i : Nat} {xs : List α} (h : Filled 2 enc cs i xs) (hi : i < xs.length) (hs : i * 2 + 1 < cs.size) {a0 a1 : Value} (h0 : enc xs[i] 0 = a0) (h1 : enc xs[i] 1 = a1) :
    Filled 2 enc ((cs.setIfInBounds (i * 2) a0).setIfInBounds (i * 2 + 1) a1) (i + 1) xs := by
  subst h0 h1
  refine h.step hi (fun c hc => ?_) (fun m hm => ?_)
  · have : c = 0 ∨ c = 1 := by omega
    rcases this with rfl | rfl
    · rw [Array.getElem?_setIfInBounds_ne (by omega), Nat.add_zero, Array.getElem?_setIfInBounds_self_of_lt (by omega)]
    · rw [Array.getElem?_setIfInBounds_self_of_lt (by simp; omega)]
  · rw [Array.getElem?_setIfInBounds_ne (by omega), Array.getElem?_setIfInBounds_ne (by omega)]
theorem Filled.step4 {α : Type} {enc : α → Nat → Value} {cs : Array Value} {i : Nat} {xs : List α} (h : Filled 4 enc cs i xs) (hi : i < xs.length) (hs : cs.size = xs.length * 4) {a0 a1 a2 a3 : Value}
    (h0 : enc xs[i] 0 = a0) (h1 : enc xs[i] 1 = a1) (h2 : enc xs[i] 2 = a2) (h3 : enc xs[i] 3 = a3) :
    Filled 4 enc ((((cs.setIfInBounds (i * 4) a0).setIfInBounds (i * 4 + 1) a1).setIfInBounds (i * 4 + 2) a2).setIfInBounds (i * 4 + 3) a3) (i + 1) xs := by
  subst h0 h1 h2 h3
  refine h.step hi (fun c hc => ?_) (fun m hm => ?_)
  · have : c = 0 ∨ c = 1 ∨ c = 2 ∨ c = 3 := by omega
    rcases this with rfl | rfl | rfl | rfl
    · rw [Array.getElem?_setIfInBounds_ne (by omega), Array.getElem?_setIfInBounds_ne (by omega), Array.getElem?_setIfInBounds_ne (by omega), Nat.add_zero, Array.getElem?_setIfInBounds_self_of_lt (by omega)]
    · rw [Array.getElem?_setIfInBounds_ne (by omega), Array.getElem?_setIfInBounds_ne (by omega), Array.getElem?_setIfInBounds_self_of_lt (by simp; omega)]
    · rw [Array.getElem?_setIfInBounds_ne (by omega), Array.getElem?_setIfInBounds_self_of_lt (by simp; omega)]
    · rw [Array.getElem?_setIfInBounds_self_of_lt (by simp; omega)]
  · rw [Array.getElem?_setIfInBounds_ne (by omega), Array.getElem?_setIfInBounds_ne (by omega), Array.getElem?_setIfInBounds_ne (by omega), Array.getElem?_setIfInBounds_ne (by omega)]
theorem Filled.step4' {α : Type} {enc : α → Nat → Value} {cs : Array Value} {i : Nat} {xs : List α} (h : Filled 4 enc cs i xs) (hi : i < xs.length) (hs : i * 4 + 3 < cs.size) {a0 a1 a2 a3 : Value}
    (h0 : enc xs[i] 0 = a0) (h1 : enc xs[i] 1 = a1) (h2 : enc xs[i] 2 = a2) (h3 : enc xs[i] 3 = a3) :
    Filled 4 enc ((((cs.setIfInBounds (i * 4) a0).setIfInBounds (i * 4 + 1) a1).setIfInBounds (i * 4 + 2) a2).setIfInBounds (i * 4 + 3) a3) (i + 1) xs := by
  subst h0 h1 h2 h3
  refine h.step hi (fun c hc => ?_) (fun m hm => ?_)
  · have : c = 0 ∨ c = 1 ∨ c = 2 ∨ c = 3 := by omega
    rcases this with rfl | rfl | rfl | rfl
    · rw [Array.getElem?_setIfInBounds_ne (by omega), Array.getElem?_setIfInBounds_ne (by omega), Array.getElem?_setIfInBounds_ne (by omega), Nat.add_zero, Array.getElem?_setIfInBounds_self_of_lt (by omega)]
    · rw [Array.getElem?_setIfInBounds_ne (by omega), Array.getElem?_setIfInBounds_ne (by omega), Array.getElem?_setIfInBounds_self_of_lt (by simp; omega)]
    · rw [Array.getElem?_setIfInBounds_ne (by omega), Array.getElem?_setIfInBounds_self_of_lt (by simp; omega)]
    · rw [Array.getElem?_setIfInBounds_self_of_lt (by simp; omega)]
  · rw [Array.getElem?_setIfInBounds_ne (by omega), Array.getElem?_setIfInBounds_ne (by omega), Array.getElem?_setIfInBounds_ne (by omega), Array.getElem?_setIfInBounds_ne (by omega)]
theorem Filled.step5 {α : Type} {enc : α → Nat → Value} {cs : Array Value} {i : Nat} {xs : List α} (h : Filled 5 enc cs i xs) (hi : i < xs.length) (hs : cs.size = xs.length * 5) {a0 a1 a2 a3 a4 : Value}
    (h0 : enc xs[i] 0 = a0) (h1 : enc xs[i] 1 = a1) (h2 : enc xs[i] 2 = a2) (h3 : enc xs[i] 3 = a3) (h4 : enc xs[i] 4 = a4) :
    Filled 5 enc (((((cs.setIfInBounds (i * 5) a0).setIfInBounds (i * 5 + 1) a1).setIfInBounds (i * 5 + 2) a2).setIfInBounds (i * 5 + 3) a3).setIfInBounds (i * 5 + 4) a4) (i + 1) xs := by
  subst h0 h1 h2 h3 h4
  refine h.step hi (fun c hc => ?_) (fun m hm => ?_)
  · have : c = 0 ∨ c = 1 ∨ c = 2 ∨ c = 3 ∨ c = 4 := by omega
    rcases this with rfl | rfl | rfl | rfl | rfl
    · rw [Array.getElem?_setIfInBounds_ne (by omega), Array.getElem?_setIfInBounds_ne (by omega), Array.getElem?_setIfInBounds_ne (by omega), Array.getElem?_setIfInBounds_ne (by omega), Nat.add_zero, Array.getElem?_setIfInBounds_self_of_lt (by omega)]
    · rw [Array.getElem?_setIfInBounds_ne (by omega), Array.getElem?_setIfInBounds_ne (by omega), Array.getElem?_setIfInBounds_ne (by omega), Array.getElem?_setIfInBounds_self_of_lt (by simp; omega)]
    · rw [Array.getElem?_setIfInBounds_ne (by omega), Array.getElem?_setIfInBounds_ne (by omega), Array.getElem?_setIfInBounds_self_of_lt (by simp; omega)]
    · rw [Array.getElem?_setIfInBounds_ne (by omega), Array.getElem?_setIfInBounds_self_of_lt (by simp; omega)]
    · rw [Array.getElem?_setIfInBounds_self_of_lt (by simp; omega)]
  · rw [Array.getElem?_setIfInBounds_ne (by omega), Array.getElem?_setIfInBounds_ne (by omega), Array.getElem?_setIfInBounds_ne (by omega), Array.getElem?_setIfInBounds_ne (by omega), Array.getElem?_setIfInBounds_ne (by omega)]
theorem Filled.step5' {α : Type} {enc : α → Nat → Value} {cs : Array Value} {i : Nat} {xs : List α} (h : Filled 5 enc cs i xs) (hi : i < xs.length) (hs : i * 5 + 4 < cs.size) {a0 a1 a2 a3 a4 : Value}
    (h0 : enc xs[i] 0 = a0) (h1 : enc xs[i] 1 = a1) (h2 : enc xs[i] 2 = a2) (h3 : enc xs[i] 3 = a3) (h4 : enc xs[i] 4 = a4) :
    Filled 5 enc (((((cs.setIfInBounds (i * 5) a0).setIfInBounds (i * 5 + 1) a1).setIfInBounds (i * 5 + 2) a2).setIfInBounds (i * 5 + 3) a3).setIfInBounds (i * 5 + 4) a4) (i + 1) xs := by
  subst h0 h1 h2 h3 h4
  refine h.step hi (fun c hc => ?_) (fun m hm => ?_)
  · have : c = 0 ∨ c = 1 ∨ c = 2 ∨ c = 3 ∨ c = 4 := by omega
    rcases this with rfl | rfl | rfl | rfl | rfl
    · rw [Array.getElem?_setIfInBounds_ne (by omega), Array.getElem?_setIfInBounds_ne (by omega), Array.getElem?_setIfInBounds_ne (by omega), Array.getElem?_setIfInBounds_ne (by omega), Nat.add_zero, Array.getElem?_setIfInBounds_self_of_lt (by omega)]
    · rw [Array.getElem?_setIfInBounds_ne (by omega), Array.getElem?_setIfInBounds_ne (by omega), Array.getElem?_setIfInBounds_ne (by omega), Array.getElem?_setIfInBounds_self_of_lt (by simp; omega)]
    · rw [Array.getElem?_setIfInBounds_ne (by omega), Array.getElem?_setIfInBounds_ne (by omega), Array.getElem?_setIfInBounds_self_of_lt (by simp; omega)]
    · rw [Array.getElem?_setIfInBounds_ne (by omega), Array.getElem?_setIfInBounds_self_of_lt (by simp; omega)]
    · rw [Array.getElem?_setIfInBounds_self_of_lt (by simp; omega)]
  · rw [Array.getElem?_setIfInBounds_ne (by omega), Array.getElem?_setIfInBounds_ne (by omega), Array.getElem?_setIfInBounds_ne (by omega), Array.getElem?_setIfInBounds_ne (by omega), Array.getElem?_setIfInBounds_ne (by omega)]

/-! ### search -/
/-- the first index at which p holds, or -1 -/
def idxF {α : Type} (p : α → Bool) (xs : List α) : Int := match xs.findIdx? p with | some i => i | none => -1
theorem idxF_hit {α : Type} {p : α → Bool} {xs : List α} {i : Nat} (hi : i < xs.length) (h : p xs[i] = true) (hn : ∀ c ∈ xs.take i, p c = false) : idxF p xs = i := by
  have : xs.findIdx? p = some i := by
    rw [List.findIdx?_eq_some_iff_getElem]
    refine ⟨hi, h, fun j hj => ?_⟩
    rw [Bool.not_eq_true]
    exact hn _ (by rw [List.mem_take_iff_getElem]; exact ⟨j, by omega, rfl⟩)
  simp [idxF, this]
theorem idxF_miss {α : Type} {p : α → Bool} {xs : List α} (hn : ∀ c ∈ xs, p c = false) : idxF p xs = -1 := by
  have : xs.findIdx? p = none := by rw [List.findIdx?_eq_none_iff]; exact hn
  simp [idxF, this]
theorem idxF_any {α : Type} (p : α → Bool) (xs : List α) : decide (0 ≤ idxF p xs) = xs.any p := by
  unfold idxF
  rcases h : xs.findIdx? p with _ | i
  · rw [List.findIdx?_eq_none_iff] at h
    rw [List.any_eq_false.2 (by simpa using h)]
    simp
  · rw [List.findIdx?_eq_some_iff_getElem] at h
    obtain ⟨hi, hp, _⟩ := h
    rw [List.any_eq_true.2 ⟨xs[i], List.getElem_mem hi, hp⟩]
    simp
theorem any_not_all {α : Type} (p : α → Bool) (xs : List α) : (!xs.any fun c => !p c) = xs.all p := by
  induction xs with
  | nil => rfl
  | cons x xs ih => simp only [List.any_cons, List.all_cons, Bool.not_or, Bool.not_not, ih]
end Go.Proofs.Ytdbcilinoieabaa
