/- The library's BinarySearch, Insert and DeleteFunc on own rows of ints. Conditions: at most a thousand elements. -/
import Derived.Test.YtdbcilinoieabaaL5I
import Derived.Test.YtdbcilinoieabaaLayD
import Derived.Shelf.Slices.SearchI
import Derived.Shelf.Spec.SlicesInsertGrow
import Derived.Shelf.SlicesE.DeleteFunc
namespace Go.Proofs.Ytdbcilinoieabaa
open Go.RowKit Go.Lib Go.Shelf
set_option linter.unusedVariables false
set_option linter.unusedSimpArgs false
theorem blk_setCells {g : Nat} {t : TypeId} : ∀ (vs : List Value) (o : Nat) (w : World) (cs : Array Value), Blk w g t cs → ∃ cs', Blk (w.setCells g o vs) g t cs' ∧ cs'.size = cs.size
  | [], o, w, cs, h => ⟨cs, h, rfl⟩
  | v :: r, o, w, cs, h => by
    obtain ⟨cs', h1, h2⟩ := blk_setCells r (o + 1) _ _ (h.set o v)
    exact ⟨cs', h1, by simpa using h2⟩
theorem grown_setCells {g : Nat} : ∀ (vs : List Value) (o : Nat) (a w : World), a.grownBy w (some g) → a.grownBy (w.setCells g o vs) (some g)
  | [], o, a, w, h => h
  | v :: r, o, a, w, h => grown_setCells r (o + 1) a _ (grownBy_setCell h o v)
theorem own_of_cells {w : World} {g cap base : Nat} {cs : Array Value} {xs : List Int} {n : Nat} (hn : n = xs.length) (hb : Blk w g 3 cs) (hs : cs.size = cap) (hlen : xs.length ≤ cap) (hcm : cap ≤ maxLen) (hbase : base ≤ g)
    (hc : ∀ j x, xs[j]? = some x → w.cell? ⟨g, j, none⟩ = some (.int .i64 x)) : Own 1 encI 3 w base (.slice (some ⟨g, 0, none⟩) n cap) xs := by
  subst hn
  refine .inr ⟨g, cap, cs, rfl, hbase, hb, hlen, hcm, by rw [hs, Nat.mul_one], ?_⟩
  intro j x hj hx c hc0
  obtain rfl : c = 0 := by omega
  rw [Nat.mul_one, Nat.add_zero, ← hb.cell]
  exact hc j x hx
theorem own_cell {w : World} {g base n cap : Nat} {xs : List Int} (h : Own 1 encI 3 w base (.slice (some ⟨g, 0, none⟩) n cap) xs) : ∀ j x, xs[j]? = some x → w.cell? ⟨g, j, none⟩ = some (.int .i64 x) := by
  rcases h with ⟨h, _⟩ | ⟨g', cap', cs, he, _, hb, _, _, _, hf⟩
  · cases h
  · injection he with h1 h2 h3
    injection h1 with h1; injection h1 with h1; subst h1
    intro j x hx
    have := hf j x (List.getElem?_eq_some_iff.1 hx).1 hx 0 (by omega)
    rw [Nat.mul_one, Nat.add_zero] at this
    rw [hb.cell]; exact this
theorem shape_blk {w : World} {g : Nat} {t : TypeId} {cs : Array Value} (h : Blk w g t cs) : w.shape? g = some (t, cs.size) := by
  unfold Blk at h
  simp [World.shape?, h]
/-! ### BinarySearch -/
theorem bs_none (cap : Nat) (x : Int) (w : World) : Calls Try.prog 182 #[.slice none 0 cap, .int .i64 x] w fun e w' => (∃ bb, e = .returned (.tuple #[.int .i64 0, .bool bb])) ∧ w' = w := by
  go_enter Try.func182, Try.ntmps182
  go_wp2_with fail
  refine wp_loop_rounds 1 ?_
  rw [rounds_succ]
  go_wp2_with fail
  go_ret2
  exact ⟨⟨_, rfl⟩, rfl⟩
def below (xs : List Int) (x : Int) : Nat := xs.countP (fun y => decide (y < x))
theorem below_le (xs : List Int) (x : Int) : below xs x ≤ xs.length := List.countP_le_length
theorem bs_is {base : Nat} (v : Value) (xs : List Int) (x : Int) (w : World) (h : Own 1 encI 3 w base v xs) (hs : xs.Pairwise (· ≤ ·)) (hl : xs.length ≤ 1000) :
    Calls Try.prog 182 #[v, .int .i64 x] w fun e w' => (∃ bb, e = .returned (.tuple #[.int .i64 (below xs x : Nat), .bool bb])) ∧ Below w.heap.size w w' := by
  rcases h with ⟨rfl, rfl⟩ | ⟨g, cap, cs, rfl, _, hb, _, _, _, hf⟩
  · refine (bs_none 0 x w).mono ?_
    rintro e w' ⟨⟨bb, rfl⟩, rfl⟩
    exact ⟨⟨bb, rfl⟩, Below.refl _ _⟩
  · have hc : ∀ j, j < xs.length → w.cell? ⟨g, 0 + j, none⟩ = some (.int .i64 (xs.getD j 0)) := fun j hj => by
      have := hf j _ hj (List.getElem?_eq_getElem hj) 0 (by omega)
      rw [Nat.mul_one, Nat.add_zero] at this
      rw [hb.cell, Nat.zero_add, this, getD_int hj]; rfl
    have key := Any.slices_BinarySearch_int (P := Try.prog) layBS g 0 xs.length cap xs x w (Nat.le_refl _) (by omega) hc (by rw [List.take_length]; exact hs)
    rw [List.take_length] at key
    refine key.mono ?_
    rintro e w' ⟨rfl, q, rfl⟩
    exact ⟨⟨_, rfl⟩, below_of_drewN q⟩
/-! ### Insert -/
theorem fresh_alloc {w : World} {base n G : Nat} {arr : Array Value} {ys : List Int} (hn : n = ys.length) (h1 : n ≤ G) (h2 : G ≤ maxLen) (h3 : arr.size = G) (hb : base ≤ w.heap.size) (hc : ∀ (j : Nat) (y : Int), ys[j]? = some y → arr[j]? = some (Value.int .i64 y)) (row : Option Nat) :
    Own 1 encI 3 (w.drew.alloc (.cells arr 3)) base (.slice (some ⟨w.heap.size, 0, none⟩) n G) ys ∧ w.grownBy (w.drew.alloc (.cells arr 3)) row ∧ ∀ g, (Value.slice (some ⟨w.heap.size, 0, none⟩) n G).ownBlock = some g → w.heap.size ≤ g := by
  refine ⟨own_of_cells hn (Blk.new w.drew _ _) h3 (by omega) h2 hb ?_, ?_, ?_⟩
  · intro j y hj
    rw [show w.heap.size = w.drew.heap.size from rfl, (Blk.new w.drew _ _).cell]
    exact hc j y hj
  · have h := World.grownBy_alloc w.drew (.cells arr 3) row
    exact ⟨h.os, h.tape, h.output, h.size, h.block⟩
  · intro g hg
    simp [Value.ownBlock] at hg
    omega
theorem zeros_size (n : Nat) : (Builtin.zeroCells (Value.int .i64 0).cells n).size = n := by simp [Builtin.zeroCells, Value.cells]
theorem mapI_get {xs : List Int} {j : Nat} {u : Value} (h : (xs.map (Value.int .i64))[j]? = some u) : ∃ y, xs[j]? = some y ∧ u = .int .i64 y := by
  rw [List.getElem?_map] at h
  cases hq : xs[j]? with
  | none => rw [hq] at h; cases h
  | some y => rw [hq] at h; exact ⟨y, rfl, (Option.some.inj h).symm⟩
theorem oneI (xs : List Int) : ∀ u ∈ xs.map (Value.int .i64), u.oneCell' = true := fun u hu => by
  obtain ⟨y, _, rfl⟩ := List.mem_map.1 hu; rfl
set_option maxHeartbeats 1000000 in
theorem ins_is {base : Nat} (v : Value) (xs : List Int) (p : Nat) (x : Int) (vb : Nat) (w : World) (h : Own 1 encI 3 w base v xs) (hvb : Blk w vb 3 #[.int .i64 x]) (hne : v.ownBlock ≠ some vb) (hp : p ≤ xs.length) (hl : xs.length ≤ 1000) (hbw : base ≤ w.heap.size) :
    Calls Try.prog 183 #[v, .int .i64 (p : Int), .slice (some ⟨vb, 0, none⟩) 1 1] w fun e w' => ∃ r, e = .returned r ∧ Own 1 encI 3 w' base r (xs.take p ++ x :: xs.drop p) ∧ w.grownBy w' v.ownBlock ∧ (∀ g, r.ownBlock = some g → v.ownBlock = some g ∨ w.heap.size ≤ g) := by
  have hvs : ∀ j u, ([.int .i64 x] : List Value)[j]? = some u → w.cell? ⟨vb, 0 + j, none⟩ = some u := fun j u hj => by
    rw [hvb.cell, Nat.zero_add, ← hj]; simp
  have h1v : ∀ u ∈ ([.int .i64 x] : List Value), u.oneCell' = true := fun u hu => by rw [List.mem_singleton.1 hu]; rfl
  have hxl : (xs.take p ++ x :: xs.drop p).length = xs.length + 1 := by simp; omega
  have hG1 : ∀ old, xs.length + 1 ≤ grownCap w (xs.length + 1) old 3 := fun old => grownCap_ge _ _ _ _
  have hG2 : ∀ old, grownCap w (xs.length + 1) old 3 ≤ maxLen := fun old => grownCap_le_maxLen _ _ _ _ (by simp only [maxLen]; omega)
  have hcl : (xs.map (Value.int .i64)).length = xs.length := by simp
  rcases h with ⟨rfl, rfl⟩ | ⟨g, cap, cs, rfl, hbase, hb, hle, hcm, hcs, hf⟩
  · obtain rfl : p = 0 := by simpa using hp
    have key := Any2.slices_Insert_int_end_grow (P := Try.prog) layIN none 0 0 vb 0 1 1 [] [.int .i64 x] w (by omega) (by omega) (by omega) (by omega) rfl rfl (fun _ => rfl) (fun a ha => by cases ha) hvs h1v
    refine key.mono ?_
    rintro e w' ⟨rfl, rfl⟩
    obtain ⟨q1, q2, q3⟩ := fresh_alloc (w := w) (base := base) (n := 0 + 1) (G := grownCap w (0 + 1) 0 3) (arr := (([] ++ [Value.int .i64 x] : List Value).toArray ++ Builtin.zeroCells (Value.int .i64 0).cells (grownCap w (0 + 1) 0 3 - (0 + 1)))) (ys := ([].take 0 ++ x :: [].drop 0)) rfl (hG1 0) (hG2 0) (by have := hG1 0; rw [Array.size_append, zeros_size]; simp at this ⊢; omega) hbw (fun j y hj => by
      have hj0 : j = 0 := by have := (List.getElem?_eq_some_iff.1 hj).1; simp at this; exact this
      subst hj0
      simp at hj
      subst hj
      rw [Array.getElem?_append_left (by simp)]
      rfl) (Value.slice none 0 0).ownBlock
    exact ⟨_, rfl, q1, q2, fun g hg => .inr (q3 g hg)⟩
  have hcell : ∀ j u, (xs.map (Value.int .i64))[j]? = some u → w.cell? ⟨g, 0 + j, none⟩ = some u := fun j u hj => by
    obtain ⟨y, hy, rfl⟩ := mapI_get hj
    have := hf j y (List.getElem?_eq_some_iff.1 hy).1 hy 0 (by omega)
    rw [Nat.mul_one, Nat.add_zero] at this
    rw [hb.cell, Nat.zero_add, this]; rfl
  have hcs1 : cs.size = cap := by rw [hcs, Nat.mul_one]
  have hvg : vb ≠ g := fun e => hne (by rw [e]; rfl)
  have hspare : ∀ j, j < xs.length + 1 → xs.length + 1 ≤ cap → (w.cell? ⟨g, 0 + j, none⟩).isSome = true := fun j h1 h2 => by
    rw [Nat.zero_add, hb.some (show j < cs.size by omega)]; rfl
  by_cases hroom : xs.length + 1 ≤ cap
  · have hc63 : cap ≤ 9223372036854775807 := by simp only [maxLen] at hcm; omega
    by_cases hend : p = xs.length
    · subst hend
      have key := Any2.slices_Insert_int_end_room (P := Try.prog) layIN g 0 xs.length cap vb 0 1 1 [.int .i64 x] w (by omega) hroom hc63 rfl (fun j hj => by rw [show 0 + xs.length + j = 0 + (xs.length + j) by omega]; exact hspare _ (by omega) hroom) (fun j hj => hb.frozen _) hvs h1v
      refine key.mono ?_
      rintro e w' ⟨rfl, rfl⟩
      obtain ⟨cs', k1, k2⟩ := blk_setCells [Value.int .i64 x] (0 + xs.length) w cs hb
      refine ⟨_, rfl, own_of_cells hxl.symm k1 (k2.trans hcs1) (by omega) hcm hbase ?_, grown_setCells _ _ _ _ (World.grownBy.refl _ _), fun g' hg => .inl hg⟩
      intro j y hj
      have hjl : j < xs.length + 1 := by have := (List.getElem?_eq_some_iff.1 hj).1; omega
      by_cases hjx : j < xs.length
      · rw [World.cell?_setCells_out g _ _ _ _ (fun _ _ => .inl (by show j < 0 + xs.length; omega))]
        rw [List.getElem?_append_left (by simpa using hjx), List.take_length] at hj
        have := hcell j (.int .i64 y) (by rw [List.getElem?_map, hj]; rfl)
        rwa [Nat.zero_add] at this
      · obtain rfl : j = xs.length := by omega
        have := World.cell?_setCells_in g [Value.int .i64 x] (0 + xs.length) w (fun j hj => by
          have hj0 : j = 0 := by simpa using hj
          subst hj0
          exact hspare _ (by omega) hroom) 0 (by simp)
        simp only [Nat.zero_add, Nat.add_zero] at this ⊢
        rw [this]
        rw [List.getElem?_append_right (by simp)] at hj
        simp at hj
        subst hj; rfl
    · have hpl : p < xs.length := by omega
      have key := Any2.slices_Insert_int_shift (P := Try.prog) layIN g 0 xs.length cap p vb 0 1 1 (xs.map (Value.int .i64)) [.int .i64 x] w hpl (by omega) hroom hc63 hvg hcl rfl hcell (fun j hj => hspare j hj hroom) (fun j hj => hb.frozen _) hvs (oneI xs) h1v 3 3 1 cs.size (by rw [shape_blk hvb]; rfl) (shape_blk hb) (by omega) (hvb.frozen _) (hvb.frozen _)
      refine key.mono ?_
      rintro e w' ⟨rfl, rfl⟩
      have hbd : Blk w.drew g 3 cs := hb
      obtain ⟨cs1, k1, k2⟩ := blk_setCells ((xs.map (Value.int .i64)).drop p) (0 + (p + 1)) w.drew cs hbd
      obtain ⟨cs2, k3, k4⟩ := blk_setCells [Value.int .i64 x] (0 + p) _ cs1 k1
      have hgr : w.grownBy (w.drew.setCells g (0 + (p + 1)) ((xs.map (Value.int .i64)).drop p)) (some g) := grown_setCells _ _ _ _ ⟨rfl, rfl, rfl, Nat.le_refl _, fun _ _ _ => rfl⟩
      refine ⟨_, rfl, own_of_cells hxl.symm k3 ((k4.trans k2).trans hcs1) (by omega) hcm hbase ?_, grown_setCells _ _ _ _ hgr, fun g' hg => .inl hg⟩
      intro j y hj
      have hjl : j < xs.length + 1 := by have := (List.getElem?_eq_some_iff.1 hj).1; omega
      have hdl : ((xs.map (Value.int .i64)).drop p).length = xs.length - p := by simp
      by_cases hjp : j = p
      · subst hjp
        have := World.cell?_setCells_in g [Value.int .i64 x] (0 + j) (w.drew.setCells g (0 + (j + 1)) ((xs.map (Value.int .i64)).drop j)) (fun i hi => by
          have hi0 : i = 0 := by simpa using hi
          subst hi0
          rw [k1.some (show 0 + j + 0 < cs1.size by omega)]; rfl) 0 (by simp)
        simp only [Nat.zero_add, Nat.add_zero] at this ⊢
        rw [this]
        rw [List.getElem?_append_right (by simp; omega)] at hj
        simp [Nat.min_eq_left hp] at hj
        subst hj; rfl
      · rw [World.cell?_setCells_out g [Value.int .i64 x] (0 + p) _ _ (fun _ _ => by show j < 0 + p ∨ 0 + p + 1 ≤ j; omega)]
        by_cases hjlt : j < p
        · rw [World.cell?_setCells_out g _ (0 + (p + 1)) _ _ (fun _ _ => .inl (by show j < 0 + (p + 1); omega))]
          rw [List.getElem?_append_left (by simp; omega), List.getElem?_take_of_lt hjlt] at hj
          have := hcell j (.int .i64 y) (by rw [List.getElem?_map, hj]; rfl)
          rw [Nat.zero_add] at this
          exact this
        · have hjj : j = 0 + (p + 1) + (j - (p + 1)) := by omega
          have hin := World.cell?_setCells_in g ((xs.map (Value.int .i64)).drop p) (0 + (p + 1)) w.drew (fun i hi => by
            have := hspare (p + 1 + i) (by omega) hroom
            rw [show 0 + (p + 1 + i) = 0 + (p + 1) + i by omega] at this
            exact this) (j - (p + 1)) (by omega)
          rw [← hjj] at hin
          rw [hin]
          rw [List.getElem?_append_right (by simp; omega)] at hj
          have hji : j - (xs.take p).length = (j - (p + 1)) + 1 := by simp [Nat.min_eq_left hp]; omega
          rw [hji, List.getElem?_cons_succ, List.getElem?_drop] at hj
          obtain ⟨hh, hv⟩ := List.getElem?_eq_some_iff.1 hj
          simp [← hv]
  · have hroom' : cap < xs.length + 1 := by omega
    by_cases hend : p = xs.length
    · subst hend
      have key := Any2.slices_Insert_int_end_grow (P := Try.prog) layIN (some ⟨g, 0, none⟩) xs.length cap vb 0 1 1 (xs.map (Value.int .i64)) [.int .i64 x] w (by omega) hle hroom' (by omega) hcl rfl (fun h => by cases h) (fun a ha j u hj => by injection ha with ha; subst ha; rw [Addr.add_lit]; exact hcell j u hj) hvs h1v
      refine key.mono ?_
      rintro e w' ⟨rfl, rfl⟩
      obtain ⟨q1, q2, q3⟩ := fresh_alloc (w := w) (base := base) (n := xs.length + 1) (G := grownCap w (xs.length + 1) cap 3) (arr := ((xs.map (Value.int .i64) ++ [Value.int .i64 x] : List Value).toArray ++ Builtin.zeroCells (Value.int .i64 0).cells (grownCap w (xs.length + 1) cap 3 - (xs.length + 1)))) (ys := (xs.take xs.length ++ x :: xs.drop xs.length)) hxl.symm (hG1 cap) (hG2 cap) (by have := hG1 cap; rw [Array.size_append, zeros_size]; simp at this ⊢; omega) hbw (fun j y hj => by
        have hjl : j < xs.length + 1 := by have := (List.getElem?_eq_some_iff.1 hj).1; omega
        rw [Array.getElem?_append_left (by simp; omega)]
        rw [List.take_length, List.drop_length] at hj
        have : (xs.map (Value.int .i64) ++ [Value.int .i64 x]) = (xs ++ [x]).map (Value.int .i64) := by simp
        rw [this]
        simp only [List.getElem?_toArray, List.getElem?_map, hj, Option.map_some]) (Value.slice (some ⟨g, 0, none⟩) xs.length cap).ownBlock
      exact ⟨_, rfl, q1, q2, fun g hg => .inr (q3 g hg)⟩
    · have hpl : p < xs.length := by omega
      have key := Any2.slices_Insert_int_grow (P := Try.prog) layIN g 0 xs.length cap p vb 0 1 1 (xs.map (Value.int .i64)) [.int .i64 x] w hpl (by omega) hle hroom' (by omega) hcl rfl hcell hvs (oneI xs) h1v
      refine key.mono ?_
      rintro e w' ⟨rfl, rfl⟩
      have hg1 := hG1 cap
      have hg2 := hG2 cap
      change xs.length + 1 ≤ grownCap w (xs.length + 1) cap (layIN_ren.t 3) at hg1
      change grownCap w (xs.length + 1) cap (layIN_ren.t 3) ≤ maxLen at hg2
      generalize grownCap w (xs.length + 1) cap (layIN_ren.t 3) = G at *
      generalize har : ((xs.map (Value.int .i64)).take p).toArray ++ Builtin.zeroCells (Value.int .i64 0).cells (xs.length + 1 - p) ++ Builtin.zeroCells (Value.int .i64 0).cells (G - (xs.length + 1)) = arr
      have hars : arr.size = G := by rw [← har, Array.size_append, Array.size_append, zeros_size, zeros_size]; simp; omega
      have hb0 : Blk (w.alloc (.cells arr 3)).drew w.heap.size 3 arr := Blk.new w _ _
      have hdl : ((xs.map (Value.int .i64)).drop p).length = xs.length - p := by simp
      obtain ⟨cs1, k1, k2⟩ := blk_setCells [Value.int .i64 x] p _ arr hb0
      have k1' : Blk ((w.alloc (.cells arr 3)).drew.setCells w.heap.size p [Value.int .i64 x]).drew w.heap.size 3 cs1 := k1
      obtain ⟨cs2, k3, k4⟩ := blk_setCells ((xs.map (Value.int .i64)).drop p) (p + 1) _ cs1 k1'
      have hga : w.grownBy (w.alloc (.cells arr 3)).drew (some w.heap.size) := by
        have h := World.grownBy_alloc w (.cells arr 3) (some w.heap.size)
        exact ⟨h.os, h.tape, h.output, h.size, h.block⟩
      have hgb := grown_setCells [Value.int .i64 x] p _ _ hga
      have hgb' : w.grownBy ((w.alloc (.cells arr 3)).drew.setCells w.heap.size p [Value.int .i64 x]).drew (some w.heap.size) := ⟨hgb.os, hgb.tape, hgb.output, hgb.size, hgb.block⟩
      have hgc := grown_setCells ((xs.map (Value.int .i64)).drop p) (p + 1) _ _ hgb'
      have hgd : w.grownBy (((w.alloc (.cells arr 3)).drew.setCells w.heap.size p [Value.int .i64 x]).drew.setCells w.heap.size (p + 1) ((xs.map (Value.int .i64)).drop p)) (Value.slice (some ⟨g, 0, none⟩) xs.length cap).ownBlock := ⟨hgc.os, hgc.tape, hgc.output, hgc.size, fun k hk _ => hgc.block k hk (fun e => by injection e with e; omega)⟩
      refine ⟨_, rfl, own_of_cells hxl.symm k3 ((k4.trans k2).trans hars) (by omega) hg2 hbw ?_, hgd, fun g' hg => .inr (by simp [Value.ownBlock] at hg; omega)⟩
      intro j y hj
      have hjl : j < xs.length + 1 := by have := (List.getElem?_eq_some_iff.1 hj).1; omega
      by_cases hjlt : j < p + 1
      · rw [World.cell?_setCells_out _ _ (p + 1) _ _ (fun _ _ => .inl hjlt)]
        by_cases hjp : j = p
        · subst hjp
          have := World.cell?_setCells_in w.heap.size [Value.int .i64 x] j (w.alloc (.cells arr 3)).drew (fun i hi => by
            have hi0 : i = 0 := by simpa using hi
            subst hi0
            rw [hb0.some (show j + 0 < arr.size by omega)]; rfl) 0 (by simp)
          rw [Nat.add_zero] at this
          refine Eq.trans this ?_
          rw [List.getElem?_append_right (by simp; omega)] at hj
          simp [Nat.min_eq_left hp] at hj
          subst hj; rfl
        · have hout := World.cell?_setCells_out w.heap.size [Value.int .i64 x] p (w.alloc (.cells arr 3)).drew ⟨w.heap.size, j, none⟩ (fun _ _ => .inl (by show j < p; omega))
          refine Eq.trans hout ?_
          rw [hb0.cell, ← har]
          rw [List.getElem?_append_left (by simp; omega), List.getElem?_take_of_lt (by omega)] at hj
          rw [Array.getElem?_append_left (by simp; omega), Array.getElem?_append_left (by simp; omega)]
          simp only [List.getElem?_toArray]
          rw [List.getElem?_take_of_lt (by omega), List.getElem?_map, hj]; rfl
      · have hin := World.cell?_setCells_in w.heap.size ((xs.map (Value.int .i64)).drop p) (p + 1) ((w.alloc (.cells arr 3)).drew.setCells w.heap.size p [Value.int .i64 x]).drew (fun i hi => by
            rw [k1'.some (show p + 1 + i < cs1.size by omega)]; rfl) (j - (p + 1)) (by omega)
        rw [show p + 1 + (j - (p + 1)) = j by omega] at hin
        refine Eq.trans hin ?_
        rw [List.getElem?_append_right (by simp; omega)] at hj
        have hji : j - (xs.take p).length = (j - (p + 1)) + 1 := by simp [Nat.min_eq_left hp]; omega
        rw [hji, List.getElem?_cons_succ, List.getElem?_drop] at hj
        obtain ⟨hh, hv⟩ := List.getElem?_eq_some_iff.1 hj
        simp [← hv]
/-! ### DeleteFunc -/
theorem takeFlat1_any (y flat : Int) (gp : Nat) (w : World) (hc : w.cell? ⟨gp, 0, none⟩ = some (.int .i64 flat)) :
    Calls Try.prog 123 #[.int .i64 y, .pointer (some ⟨gp, 0, none⟩)] w fun e w' => e = .returned (.bool (y == flat)) ∧ w' = w := by
  go_enter Try.func123, Try.ntmps123
  go_wp2_with fail
  go_ret
  exact ⟨rfl, rfl⟩
theorem grown_sort {enc : Int → Value} {w : World} {g n : Nat} {os : Array Obj} (d : Array Int) : w.grownBy (sortWorld enc w g 0 n d os) (some g) := by
  refine ⟨rfl, rfl, rfl, by simp [sortWorld, Sort.putRow, Sort.mapBlock, Sort.ahead], fun k hk hne => ?_⟩
  unfold sortWorld Sort.putRow
  rw [Sort.heap_grow_old _ _ (by simpa [Sort.mapBlock, Sort.ahead] using hk)]
  have : g ≠ k := fun e => hne (by rw [e])
  simp [Sort.mapBlock, Sort.ahead, Array.getElem?_modify, this]
theorem putRow_blk {w : World} {g n : Nat} {e : TypeId} {cs : Array Value} (d : Array Int) (hb : Blk w g e cs) : Blk (Sort.putRow (Value.int .i64) (Sort.ahead w n) g 0 d) g e (Sort.putCells (Value.int .i64) 0 d cs) := by
  unfold Blk at hb ⊢
  simp [Sort.putRow, Sort.mapBlock, Sort.ahead, Array.getElem?_modify, hb, Sort.onCells]
theorem putRow_grown {w : World} {g n : Nat} (d : Array Int) : w.grownBy (Sort.putRow (Value.int .i64) (Sort.ahead w n) g 0 d) (some g) := by
  refine ⟨rfl, rfl, rfl, by simp [Sort.putRow, Sort.mapBlock, Sort.ahead], fun k hk hne => ?_⟩
  have : g ≠ k := fun e => hne (by rw [e])
  simp [Sort.putRow, Sort.mapBlock, Sort.ahead, Array.getElem?_modify, this]
theorem del_is {base : Nat} (v : Value) (xs : List Int) (flat : Int) (gp : Nat) (w : World) (h : Own 1 encI 3 w base v xs) (hc : w.cell? ⟨gp, 0, none⟩ = some (.int .i64 flat)) (hne : v.ownBlock ≠ some gp) (hp : 0 < xs.length) (hl : xs.length ≤ 1000) :
    Calls Try.prog 122 #[v, .func (.func 123) #[] #[.pointer (some ⟨gp, 0, none⟩)]] w fun e w' => ∃ r, e = .returned r ∧ Own 1 encI 3 w' base r (xs.filter fun y => !(y == flat)) ∧ w.grownBy w' v.ownBlock ∧ r.ownBlock = v.ownBlock := by
  rcases h with ⟨_, rfl⟩ | ⟨g, cap, cs, rfl, hbase, hb, hle, hcm, hcs, hf⟩
  · simp at hp
  have hgp := World.block_lt_of_cell? w _ hc
  have hg : some gp ≠ some g := fun e => hne (by rw [e]; rfl)
  have hcs1 : cs.size = cap := by rw [hcs, Nat.mul_one]
  have hH : Sort.Holds (Value.int .i64) w g 0 xs.toArray := fun j hj => by
    have hj' : j < xs.length := by simpa using hj
    refine ⟨?_, hb.frozen _⟩
    have := hf j _ hj' (List.getElem?_eq_getElem hj') 0 (by omega)
    rw [Nat.mul_one, Nat.add_zero] at this
    rw [hb.cell, Nat.zero_add, this]
    simp [hj', encI]
  have hpa : PredAt Try.prog 123 #[.pointer (some ⟨gp, 0, none⟩)] (Value.int .i64) (fun y => y == flat) w := fun W x hbW =>
    (takeFlat1_any x flat gp W ((hbW.cell (p := ⟨gp, 0, none⟩) hgp).trans hc)).mono fun e w' ⟨he, hw⟩ => ⟨he, 0, hw⟩
  have hpo : PredOver Try.prog 123 #[.pointer (some ⟨gp, 0, none⟩)] (Value.int .i64) (fun y => y == flat) g 0 xs.toArray.size w := fun n os dk x hd =>
    (takeFlat1_any x flat gp _ ((grown_sort dk).cell hc hg)).mono fun e w' ⟨he, hw⟩ => ⟨he, 0, hw⟩
  have key := AnyE.slices_DeleteFunc (P := Try.prog) layDF (Value.int .i64) (fun _ => rfl) (fun y => y == flat) 123 #[.pointer (some ⟨gp, 0, none⟩)] (fun _ _ => by kernel_rfl) 0 Try.zeroValue3 g 0 cap xs.toArray w hpa hpo hH (by simp; omega) (by simpa using hle)
  have key2 : Calls Try.prog 122 #[.slice (some ⟨g, 0, none⟩) xs.length cap, .func (.func 123) #[] #[.pointer (some ⟨gp, 0, none⟩)]] w fun e w' => e = .returned (.slice (some ⟨g, 0, none⟩) (xs.filter fun x => !(x == flat)).length cap) ∧ ∃ q, w' = Sort.putRow (Value.int .i64) (Sort.ahead w q) g 0 ((xs.filter fun x => !(x == flat)) ++ List.replicate (xs.length - (xs.filter fun x => !(x == flat)).length) 0).toArray := by
    have hk := key
    simp only [List.size_toArray, List.toList_toArray] at hk
    exact hk
  refine key2.mono ?_
  rintro e w' ⟨rfl, q, rfl⟩
  have hfl : (xs.filter fun x => !(x == flat)).length ≤ xs.length := List.length_filter_le _ _
  generalize (xs.filter fun x => !(x == flat)) = ys at *
  refine ⟨_, rfl, own_of_cells rfl (putRow_blk _ hb) (by simp [Sort.putCells, hcs1]) (by omega) hcm hbase ?_, putRow_grown _, rfl⟩
  intro j y hj
  obtain ⟨hjl, hjv⟩ := List.getElem?_eq_some_iff.1 hj
  rw [(putRow_blk _ hb).cell]
  unfold Sort.putCells
  rw [Array.getElem?_mapIdx, Array.getElem?_eq_getElem (show j < cs.size by omega)]
  simp only [Option.map_some]
  have hm : j < (ys ++ List.replicate (xs.length - ys.length) 0).toArray.size := by simp; omega
  simp only [Nat.zero_le, Nat.zero_add, hm, and_self, if_true, Nat.sub_zero]
  rw [getElem!_pos _ j hm]
  simp [List.getElem_append_left hjl, hjv]
end Go.Proofs.Ytdbcilinoieabaa
