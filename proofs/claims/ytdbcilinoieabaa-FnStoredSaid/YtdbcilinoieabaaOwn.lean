/- Slices of the call's own (made, appended to, written into), read as lists of elements of k cells. No condition; nothing here speaks of the program. -/
import Derived.Test.YtdbcilinoieabaaBase
namespace Go.Proofs.Ytdbcilinoieabaa
open Go.RowKit

/-- The slice v of xs.length elements of type e (k cells each) reads as xs; it is nil, or begins at the head of a block from base on that is the call's own. -/
def Own {α : Type} (k : Nat) (enc : α → Nat → Value) (e : TypeId) (w : World) (base : Nat) (v : Value) (xs : List α) : Prop :=
  (v = .slice none 0 0 ∧ xs = []) ∨
  ∃ g cap cs, v = .slice (some ⟨g, 0, none⟩) xs.length cap ∧ base ≤ g ∧ Blk w g e cs ∧ xs.length ≤ cap ∧ cap ≤ maxLen ∧ cs.size = cap * k ∧ Filled k enc cs xs.length xs

/-- the cells of a list, one behind the other -/
def flat {α : Type} (k : Nat) (enc : α → Nat → Value) (xs : List α) : List Value := xs.flatMap fun x => (List.range k).map (enc x)

section
variable {α : Type} {k : Nat} {enc : α → Nat → Value} {e : TypeId} {w w' : World} {base B : Nat} {v : Value} {xs ys : List α}

theorem flat_length : (flat k enc xs).length = xs.length * k := by
  induction xs with
  | nil => simp [flat]
  | cons x xs ih =>
    simp only [flat, List.flatMap_cons, List.length_append, List.length_map, List.length_range, List.length_cons] at ih ⊢
    rw [ih, Nat.add_mul]; omega
theorem flat_append : flat k enc (xs ++ ys) = flat k enc xs ++ flat k enc ys := by simp [flat]
theorem flat_one (x : α) : flat k enc [x] = (List.range k).map (enc x) := by simp [flat]
theorem flat_get {i : Nat} {x : α} (h : xs[i]? = some x) {j : Nat} (hj : j < k) : (flat k enc xs)[i * k + j]? = some (enc x j) := by
  induction xs generalizing i with
  | nil => simp at h
  | cons y ys ih =>
    rw [show flat k enc (y :: ys) = (List.range k).map (enc y) ++ flat k enc ys from by simp [flat]]
    cases i with
    | zero =>
      simp only [List.getElem?_cons_zero, Option.some.injEq] at h
      subst h
      rw [List.getElem?_append_left (by simpa using hj)]
      simp [List.getElem?_range hj]
    | succ i =>
      simp only [List.getElem?_cons_succ] at h
      rw [List.getElem?_append_right (by simp; rw [Nat.add_mul]; omega)]
      have hm : (i + 1) * k + j - ((List.range k).map (enc y)).length = i * k + j := by simp; rw [Nat.add_mul]; omega
      rw [hm]
      exact ih h
theorem filled_of_flat {cs : Array Value} (h : cs.toList.take (xs.length * k) = flat k enc xs) : Filled k enc cs xs.length xs := by
  intro j x hj hx c hc
  have hm : j * k + c < xs.length * k := by
    have := Nat.mul_le_mul_right k (show j + 1 ≤ xs.length from hj)
    rw [Nat.add_mul, Nat.one_mul] at this
    omega
  have h1 : (cs.toList.take (xs.length * k))[j * k + c]? = some (enc x c) := by rw [h]; exact flat_get hx hc
  rw [List.getElem?_take, if_pos hm] at h1
  simpa using h1
theorem flat_of_filled {cs : Array Value} (hs : xs.length * k ≤ cs.size) (h : Filled k enc cs xs.length xs) : cs.toList.take (xs.length * k) = flat k enc xs := by
  apply List.ext_getElem?
  intro m
  by_cases hm : m < xs.length * k
  · have hk : 0 < k := by
      rcases Nat.eq_zero_or_pos k with rfl | hk
      · simp at hm
      · exact hk
    have hi : m / k < xs.length := Nat.div_lt_of_lt_mul (by rw [Nat.mul_comm]; exact hm)
    have hj : m % k < k := Nat.mod_lt _ hk
    have he : m / k * k + m % k = m := Nat.div_add_mod' m k
    have h1 := h (m / k) _ hi (List.getElem?_eq_getElem hi) (m % k) hj
    have h2 := flat_get (enc := enc) (List.getElem?_eq_getElem hi) hj
    rw [he] at h1 h2
    rw [List.getElem?_take, if_pos hm, h2]
    simpa using h1
  · rw [List.getElem?_eq_none (by simp; omega), List.getElem?_eq_none (by rw [flat_length]; omega)]

theorem Own.nil : Own k enc e w base (.slice none 0 0) ([] : List α) := .inl ⟨rfl, rfl⟩
theorem Own.row (h : Own k enc e w base v xs) : ∃ A cap, v = .slice A xs.length cap ∧ Row k enc w w.heap.size A xs ∧ cap ≤ maxLen ∧ xs.length ≤ cap := by
  rcases h with ⟨rfl, rfl⟩ | ⟨g, cap, cs, rfl, _, hb, hc, hm, hs, hf⟩
  · exact ⟨none, 0, rfl, .inl rfl, Nat.zero_le _, Nat.le_refl _⟩
  · exact ⟨_, _, rfl, hf.row hb hb.lt, hm, hc⟩
theorem Own.len (h : Own k enc e w base v xs) : xs.length ≤ maxLen := by
  obtain ⟨_, _, _, _, h1, h2⟩ := h.row
  omega
theorem Own.mono (h : Own k enc e w base v xs) (hB : B ≤ base) : Own k enc e w B v xs := by
  rcases h with h | ⟨g, cap, cs, rfl, hg, r⟩
  · exact .inl h
  · exact .inr ⟨g, cap, cs, rfl, by omega, r⟩
theorem Own.below (h : Own k enc e w base v xs) (hb : Below w.heap.size w w') : Own k enc e w' base v xs := by
  rcases h with h | ⟨g, cap, cs, rfl, hg, hbl, r⟩
  · exact .inl h
  · exact .inr ⟨g, cap, cs, rfl, hg, hbl.below hb hbl.lt, r⟩
theorem Own.alloc (h : Own k enc e w base v xs) (o : Obj) : Own k enc e (w.alloc o) base v xs := h.below (below_alloc w o)
theorem Own.drewN (h : Own k enc e w base v xs) (n : Nat) : Own k enc e (w.drewN n) base v xs := h
theorem Own.drew (h : Own k enc e w base v xs) : Own k enc e w.drew base v xs := h
theorem Own.lt (h : Own k enc e w base v xs) : ∀ g, v.ownBlock = some g → base ≤ g ∧ g < w.heap.size := by
  rcases h with ⟨rfl, _⟩ | ⟨g, cap, cs, rfl, hg, hbl, _⟩
  · simp [Value.ownBlock]
  · intro g' hg'
    simp only [Value.ownBlock, Option.some.injEq] at hg'
    subst hg'
    exact ⟨hg, hbl.lt⟩
/-- another block than the row's own is written, or new ones are made -/
theorem Own.grown {row : Option Nat} (h : Own k enc e w base v xs) (hg : w.grownBy w' row) (hne : ∀ g, v.ownBlock = some g → row ≠ some g) : Own k enc e w' base v xs := by
  rcases h with h | ⟨g, cap, cs, rfl, hb, hbl, r⟩
  · exact .inl h
  · exact .inr ⟨g, cap, cs, rfl, hb, (hg.block g hbl.lt (fun h => hne g rfl h.symm)).trans hbl, r⟩
theorem Own.setCell (h : Own k enc e w base v xs) {p : Addr} (hne : ∀ g, v.ownBlock = some g → g ≠ p.block) (u : Value) : Own k enc e (w.setCell p u) base v xs := by
  rcases h with h | ⟨g, cap, cs, rfl, hb, hbl, r⟩
  · exact .inl h
  · exact .inr ⟨g, cap, cs, rfl, hb, hbl.far (hne g rfl) u, r⟩

theorem Own.ownsRow (h : Own k enc e w base v xs) : w.ownsRow base e k v xs.length (flat k enc xs) := by
  refine ⟨flat_length, ?_⟩
  rcases h with ⟨rfl, rfl⟩ | ⟨g, cap, cs, rfl, hg, hbl, hc, hm, hs, hf⟩
  · exact .inl ⟨rfl, rfl⟩
  · exact .inr ⟨g, cap, cs, rfl, hg, hbl, hc, hm, hs, flat_of_filled (by rw [hs]; exact Nat.mul_le_mul_right k hc) hf⟩
theorem Own.of_ownsRow {n : Nat} (h : w.ownsRow base e k v n (flat k enc xs)) (hn : n = xs.length) : Own k enc e w base v xs := by
  subst hn
  rcases h.2 with ⟨rfl, h0⟩ | ⟨g, cap, cs, rfl, hg, hbl, hc, hm, hs, hf⟩
  · exact .inl ⟨rfl, List.eq_nil_of_length_eq_zero h0⟩
  · exact .inr ⟨g, cap, cs, rfl, hg, hbl, hc, hm, hs, filled_of_flat hf⟩

/-- a block made whole, filled to its end -/
theorem Own.made {g : Nat} {cs : Array Value} {n : Nat} (hn : n = xs.length) (hg : base ≤ g) (hb : Blk w g e cs) (hs : cs.size = xs.length * k) (hm : xs.length ≤ maxLen) (hf : Filled k enc cs xs.length xs) : Own k enc e w base (.slice (some ⟨g, 0, none⟩) n n) xs := by
  subst hn
  exact .inr ⟨g, _, cs, rfl, hg, hb, Nat.le_refl _, hm, hs, hf⟩
end

/-- the slice value v reads as the list xs -/
def Is {α : Type} (k : Nat) (enc : α → Nat → Value) (w : World) (v : Value) (xs : List α) : Prop :=
  ∃ A cap, v = .slice A xs.length cap ∧ Row k enc w w.heap.size A xs ∧ xs.length ≤ cap ∧ cap ≤ maxLen
section
variable {α : Type} {k : Nat} {enc : α → Nat → Value} {e : TypeId} {w w' : World} {base : Nat} {v : Value} {xs : List α}
theorem Is.len (h : Is k enc w v xs) : xs.length ≤ 9223372036854775807 := by
  obtain ⟨A, cap, _, _, h1, h2⟩ := h
  simp only [maxLen] at h2; omega
theorem Is.below (h : Is k enc w v xs) {B : Nat} (hb : Below B w w') (hB : w.heap.size ≤ B) : Is k enc w' v xs := by
  obtain ⟨A, cap, rfl, hr, h1, h2⟩ := h
  exact ⟨A, cap, rfl, hr.below hb hB hb.size, h1, h2⟩
theorem Is.nil : Is k enc w (.slice none 0 0) ([] : List α) := ⟨none, 0, rfl, .inl rfl, Nat.le_refl _, Nat.zero_le _⟩
theorem Own.is (h : Own k enc e w base v xs) : Is k enc w v xs := by
  obtain ⟨A, cap, rfl, hr, h1, h2⟩ := h.row
  exact ⟨A, cap, rfl, hr, h2, h1⟩
/-- a new block made by the text's own list of elements -/
theorem Is.lit {cs : Array Value} {n : Nat} (hn : n = xs.length) (hm : xs.length ≤ maxLen) (hf : Filled k enc cs xs.length xs) : Is k enc (w.alloc (.cells cs e)) (.slice (some ⟨w.heap.size, 0, none⟩) n n) xs := by
  subst hn
  exact ⟨_, _, rfl, hf.row (Blk.new _ _ _) (by simp), Nat.le_refl _, hm⟩
end

/-- a Below, behind an append to a row of the call's own -/
theorem Own.belowGrown {α : Type} {k : Nat} {enc : α → Nat → Value} {e : TypeId} {w w' a : World} {base B : Nat} {v : Value} {xs : List α} (h : Own k enc e w base v xs) (hb : Below B a w) (hg : w.grownBy w' v.ownBlock) (hB : B ≤ base) (hw : B ≤ w.heap.size) : Below B a w' :=
  hb.grown hg hw fun g hg' => by have := (h.lt g hg').1; omega

section
variable {P : Program} {α : Type} {k : Nat} {enc : α → Nat → Value}
theorem one_cells (hone : ∀ x j, (enc x j).oneCell' = true) (xs : List α) : ∀ u ∈ flat k enc xs, u.oneCell' = true := by
  intro u hu
  simp only [flat, List.mem_flatMap, List.mem_map] at hu
  obtain ⟨x, _, j, _, rfl⟩ := hu
  exact hone x j

/-- append of the elements ys, read at an address, to a row of the call's own -/
theorem wpList_push (w : World) {ops : Array Oper} {rest : List Oper} {o : Oper} {a : Act} {Q : Exit → Act → World → Prop} (hgd : o.guard = none) (s x : Operand) (t : TypeId)
    (ho : o.op = .call { callee := .builtin .append, args := #[s, x], argTypes := #[t, t] })
    (e : TypeId) (z : Value) (bytes : Nat) (ht : P.underlying t = some (.slice e)) (hi : (P.info? e).map (fun i => (i.zero, i.size, i.bytes)) = some (some z, k, bytes))
    (hzs : z.cells.size = k) (hk : 0 < k) (hone : ∀ x j, (enc x j).oneCell' = true)
    (base : Nat) (v : Value) (xs : List α) (hs : a.eval s = v) (hown : Own k enc e w base v xs)
    (ad : Addr) (c : Nat) (ys : List α) (hx : a.eval x = .slice (some ad) ys.length c) (hsrc : ∀ j u, (flat k enc ys)[j]? = some u → w.cell? (ad.add j) = some u)
    (hbytes : (xs.length + ys.length) * bytes ≤ 140737488355328) (h63 : xs.length + ys.length ≤ 9223372036854775807) (hbase : base ≤ w.heap.size)
    (h : ∀ v' w', Own k enc e w' base v' (xs ++ ys) → w.grownBy w' v.ownBlock → (v' = .slice none 0 0 ↔ v = .slice none 0 0 ∧ ys.length = 0) → wpList P ops Q rest (a.put o.dst v') w') : wpList P ops Q (o :: rest) a w := by
  obtain ⟨i, h1, h2, h3, h4⟩ := info_parts' hi
  refine wpList_append_own w hgd s x t ho base e i z k bytes ht h1 h2 h3 h4 hzs hk v xs.length (flat k enc xs) hs hown.ownsRow ad ys.length c (flat k enc ys) hx flat_length hsrc (one_cells hone ys) (by simp only [maxLen]; omega) hbytes hbase ?_
  intro v' w' h2 h3 h4
  rw [← flat_append] at h2
  exact h v' w' (Own.of_ownsRow h2 (by simp)) h3 h4
end

/-- the cells of a block that was just made -/
theorem src_new {α : Type} {k : Nat} {enc : α → Nat → Value} {ys : List α} (w : World) {cs : Array Value} {e : TypeId} (h : cs.toList = flat k enc ys) : ∀ j u, (flat k enc ys)[j]? = some u → (w.alloc (.cells cs e)).cell? ((⟨w.heap.size, 0, none⟩ : Addr).add j) = some u := by
  intro j u hu
  rw [Addr.add_lit, Nat.zero_add, (Blk.new w e cs).cell j, ← hu, ← h]
  simp
/-- the numbers below n at which p holds -/
def idxs (p : Nat → Bool) (n : Nat) : List Int := ((List.range n).filter p).map fun (i : Nat) => (i : Int)
theorem idxs_succ (p : Nat → Bool) (n : Nat) : idxs p (n + 1) = idxs p n ++ if p n then [(n : Int)] else [] := by
  simp only [idxs, List.range_succ, List.filter_append, List.map_append]
  congr 1
  by_cases h : p n = true <;> simp [List.filter_cons, h]
theorem idxs_le (p : Nat → Bool) (n : Nat) : (idxs p n).length ≤ n := by
  simp only [idxs, List.length_map]
  exact Nat.le_trans (List.length_filter_le _ _) (by simp)
/-- a quiet call in a region that draws, by a contract that leaves the world alone -/
theorem quiet_l {P : Program} {f : FuncId} {args : Array Value} {w : World} {n : Nat} {v : Value}
    (h : Calls P f args (w.drewN n) fun e w' => e = .returned v ∧ w.drewN n = w') : Calls P f args (w.drewN n) fun e w'' => e = .returned v ∧ ∃ m, w'' = w.drewN m :=
  h.mono fun _ _ ⟨he, hm⟩ => ⟨he, n, hm.symm⟩

section
variable {P : Program} {α : Type} {k : Nat} {enc : α → Nat → Value}
/-- append of ONE element, laid in a new block, to a row of the call's own -/
theorem wpList_push1 (w : World) {w0 : World} {cs : Array Value} {ops : Array Oper} {rest : List Oper} {o : Oper} {a : Act} {Q : Exit → Act → World → Prop} (hgd : o.guard = none) (s x : Operand) (t : TypeId)
    (ho : o.op = .call { callee := .builtin .append, args := #[s, x], argTypes := #[t, t] })
    (e : TypeId) (z : Value) (bytes : Nat) (ht : P.underlying t = some (.slice e)) (hi : (P.info? e).map (fun i => (i.zero, i.size, i.bytes)) = some (some z, k, bytes))
    (hzs : z.cells.size = k) (hk : 0 < k) (hby : bytes ≤ 4096) (hone : ∀ x j, (enc x j).oneCell' = true)
    (base : Nat) (v : Value) (xs : List α) (hs : a.eval s = v) (hown : Own k enc e w0 base v xs) (y : α) (c : Nat) (hx : a.eval x = .slice (some ⟨w0.heap.size, 0, none⟩) 1 c) (hcs : cs.toList = flat k enc [y])
    (hlen : xs.length ≤ 16777216) (hbase : base ≤ w0.heap.size) {B : Nat} {a0 : World} (hbel : Below B a0 w0) (hB : B ≤ base) (hw : w = w0.alloc (.cells cs e))
    (h : ∀ v' w', Own k enc e w' base v' (xs ++ [y]) → Below B a0 w' → (w0.alloc (.cells cs e)).grownBy w' v.ownBlock → wpList P ops Q rest (a.put o.dst v') w') : wpList P ops Q (o :: rest) a w := by
  subst hw
  refine wpList_push _ hgd s x t ho e z bytes ht hi hzs hk hone base v xs hs (hown.alloc _) ⟨w0.heap.size, 0, none⟩ c [y] hx (src_new w0 hcs) ?_ (by simp; omega) (by simp; omega) ?_
  · have : (xs.length + 1) * bytes ≤ 16777217 * 4096 := Nat.mul_le_mul (by omega) hby
    simp only [List.length_singleton]; omega
  · intro v' w' h1 h2 _
    exact h v' w' h1 ((hown.alloc _).belowGrown (hbel.alloc (by omega) _) h2 hB (by simp; omega)) h2
end

/-! ### a region that draws its order, whose operations read and whose calls make memory of their own at most: walked once, in the order of the text -/
/-- a world in which what was there stays -/
structure Later (w : World) where
  W : World
  h : Below w.heap.size w W
instance laterSome (w : World) : Nonempty (Later w) := ⟨⟨w, Below.refl _ _⟩⟩
theorem wp_region_later {P : Program} {id : Nat} {Q : Exit → Act → World → Prop} {a : Act} {w : World} {l : List Oper} (hm : P.follows .mixedOrders = true) (hB : Region.lexB .any l.toArray = true)
    (h : wpQuiet P l.toArray (fun w' => ∃ n : Later w, w' = n.W) (fun a' => ∀ w', (∃ n : Later w, w' = n.W) → Q .normal a' w') l a) : (Code.region id l.toArray true).wp P Q a w :=
  wp_region_quiet (C := fun w' => ∃ n : Later w, w' = n.W) hm hB ⟨⟨_, (Below.refl _ w).drew⟩, rfl⟩ (by simpa using h)
theorem later_call {P : Program} {f : FuncId} {args : Array Value} {w : World} {n : Later w} {v : Value}
    (h : Calls P f args n.W fun e w' => e = .returned v ∧ Below n.W.heap.size n.W w') : Calls P f args n.W fun e w'' => e = .returned v ∧ ∃ m : Later w, w'' = m.W :=
  h.mono fun _ w'' ⟨he, hb⟩ => ⟨he, ⟨w'', n.h.trans (hb.mono n.h.size)⟩, rfl⟩
theorem later_same {P : Program} {f : FuncId} {args : Array Value} {w : World} {n : Later w} {v : Value}
    (h : Calls P f args n.W fun e w' => e = .returned v ∧ n.W = w') : Calls P f args n.W fun e w'' => e = .returned v ∧ ∃ m : Later w, w'' = m.W :=
  h.mono fun _ _ ⟨he, hm⟩ => ⟨he, n, hm.symm⟩
theorem later_alloc {P : Program} {f : FuncId} {args : Array Value} {w : World} {n : Later w} {v : Value} {o : Obj}
    (h : Calls P f args n.W fun e w' => e = .returned v ∧ n.W.alloc o = w') : Calls P f args n.W fun e w'' => e = .returned v ∧ ∃ m : Later w, w'' = m.W :=
  later_call (h.mono fun _ _ ⟨he, hm⟩ => ⟨he, hm ▸ below_alloc _ _⟩)
/-- a cell that was there -/
theorem later_cell {w : World} {b o : Nat} {v : Value} (h : w.cell? ⟨b, o, none⟩ = some v) (n : Later w) : n.W.cell? ⟨b, o, none⟩ = some v :=
  (n.h.cell (p := ⟨b, o, none⟩) (World.block_lt_of_cell? w _ h)).trans h

/-! ### bytes -/
def encB (x : UInt8) : Nat → Value := fun _ => .int .u8 (x.toNat : Int)
theorem encB_one : ∀ (c : UInt8) (j : Nat), (encB c j).oneCell' = true := fun _ _ => rfl
theorem Bytes.cells {w : World} {B : Nat} {A : Option Addr} {xs : List UInt8} (h : Row 1 encB w B A xs) {i : Nat} (hi : i < xs.length) {wr : World} (hb : Below B w wr) :
    ∃ b off, A = some ⟨b, off, none⟩ ∧ b < B ∧ wr.cell? ⟨b, off + i, none⟩ = some (.int .u8 (xs[i].toNat : Int)) := by
  obtain ⟨b, off, rfl, hl, hc⟩ := h.get hi
  have h0 := (hb.cell (p := ⟨b, off + i * 1 + 0, none⟩) hl).trans (hc 0 (by omega))
  rw [Nat.mul_one, Nat.add_zero] at h0
  exact ⟨b, off, rfl, hl, h0⟩
/-- string(b): the text of a slice of bytes -/
theorem run_convert_is {P : Program} {w : World} {v : Value} {xs : List UInt8} {src e dst : TypeId} (hs : P.underlying src = some (.slice e)) (he : P.underlying e = some (.int .u8)) (hd : P.underlying dst = some .string) (h : Is 1 encB w v xs) :
    (convert src dst v).run P w = .ok (.string ⟨xs.toArray⟩) w := by
  obtain ⟨A, cap, rfl, hr, _, _⟩ := h
  by_cases h0 : xs = []
  · subst h0
    rw [run_convert_bytes_string w src dst e _ _ cap hs he hd]
    cases A <;> simp [Conv.bytesToString, loadCells, loadCellsFrom, ByteArray.empty, ByteArray.emptyWithCapacity] <;> rfl
  · have hp : 0 < xs.length := List.length_pos_iff.2 h0
    obtain ⟨b, off, rfl, _, _⟩ := Bytes.cells hr hp (Below.refl _ _)
    rw [run_convert_bytes_arg w src e hs he b off xs.length cap (xs.map fun x => (x.toNat : Int)) (by simp) (fun i hi => by
      obtain ⟨b', off', hA, _, hc⟩ := Bytes.cells hr hi (Below.refl _ _)
      injection hA with hA; injection hA with h1 h2; subst h1 h2
      rw [hc]; simp [List.getD_eq_getElem?_getD, List.getElem?_eq_getElem hi]) dst hd]
    simp only [strOfNums, List.map_map]
    congr 4
    have : ((fun n : Int => UInt8.ofNat n.toNat) ∘ fun x : UInt8 => (x.toNat : Int)) = id := by
      funext x; simp
    rw [this, List.map_id]

section
variable {P : Program} {α : Type} {k : Nat} {enc : α → Nat → Value}
/-- the same append, in a region that draws its order -/
theorem step_push1 (w : World) {w0 : World} {cs : Array Value} {ops : Array Oper} {o : Oper} {a : Act} {K : Act → World → Prop} {Q : Exit → Act → World → Prop} {E : Prop} (hgd : o.guard = none) (s x : Operand) (t : TypeId)
    (ho : o.op = .call { callee := .builtin .append, args := #[s, x], argTypes := #[t, t] })
    (e : TypeId) (z : Value) (bytes : Nat) (ht : P.underlying t = some (.slice e)) (hi : (P.info? e).map (fun i => (i.zero, i.size, i.bytes)) = some (some z, k, bytes))
    (hzs : z.cells.size = k) (hk : 0 < k) (hby : bytes ≤ 4096) (hone : ∀ x j, (enc x j).oneCell' = true)
    (base : Nat) (v : Value) (xs : List α) (hs : a.eval s = v) (hown : Own k enc e w0 base v xs) (y : α) (c : Nat) (hx : a.eval x = .slice (some ⟨w0.heap.size, 0, none⟩) 1 c) (hcs : cs.toList = flat k enc [y])
    (hlen : xs.length ≤ 16777216) (hbase : base ≤ w0.heap.size) {B : Nat} {a0 : World} (hbel : Below B a0 w0) (hB : B ≤ base) (hw : w = w0.alloc (.cells cs e))
    (h : ∀ v' w', Own k enc e w' base v' (xs ++ [y]) → Below B a0 w' → (w0.alloc (.cells cs e)).grownBy w' v.ownBlock → K (a.put o.dst v') w') :
    if Region.wanted o (yielded ops a.tmps) = true then Oper.wp P o a w K Q else E := by
  subst hw
  have hwd : Region.wanted o (yielded ops a.tmps) = true := by simp [Region.wanted, hgd]
  rw [if_pos hwd]
  obtain ⟨i, h1, h2, h3, h4⟩ := info_parts' hi
  have hb1 : (xs.length + 1) * bytes ≤ 16777217 * 4096 := Nat.mul_le_mul (by omega) hby
  refine wp_append_own (w0.alloc (.cells cs e)) s x t ho base e i z k bytes ht h1 h2 h3 h4 hzs hk v xs.length (flat k enc xs) hs (hown.alloc _).ownsRow ⟨w0.heap.size, 0, none⟩ 1 c (flat k enc [y]) hx (by rw [flat_length]; rfl) (src_new w0 hcs) (one_cells hone [y]) (by simp only [maxLen]; omega) (by omega) (by simp; omega) ?_
  intro v' w' h2 h3 h4
  rw [← flat_append] at h2
  exact h v' w' (Own.of_ownsRow h2 (by simp)) ((hown.alloc _).belowGrown (hbel.alloc (by omega) _) h3 hB (by simp; omega)) h3
end
end Go.Proofs.Ytdbcilinoieabaa
