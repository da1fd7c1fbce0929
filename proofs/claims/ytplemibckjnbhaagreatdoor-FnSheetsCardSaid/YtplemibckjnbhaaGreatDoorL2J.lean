/- The library's sort of sheets at this seat, by rows and then by columns: on an own row it leaves a sorted permutation. Condition: fewer than 1000 sheets. -/
import Derived.Test.YtplemibckjnbhaaGreatDoorLayS
import Derived.Shelf.SlSortCmp.WholeK
namespace Go.Proofs.YtplemibckjnbhaaGreatDoor
open Go.RowKit Go.Shelf Go.Sort
set_option linter.unusedVariables false
instance : Inhabited SSheet := ⟨SSheet.zero⟩
def SSheet.encL (c : SSheet) : List Value := [.int .i64 c.id, .int .i64 c.row, .int .i64 c.col, .int .i64 c.scale, .int .i64 c.year]
theorem encL_get (c : SSheet) (j : Nat) (hj : j < 5) : (SSheet.encL c)[j]! = SSheet.enc c j := by
  rcases (show j = 0 ∨ j = 1 ∨ j = 2 ∨ j = 3 ∨ j = 4 by omega) with rfl | rfl | rfl | rfl | rfl <;> rfl
theorem ltOf_cmpS (a b : SSheet) : ltOf cmpS a b = ltS a b := by
  unfold ltOf cmpS orV cmpI ltS
  apply decide_eq_decide.2
  by_cases h1 : a.row < b.row
  · simp [h1]
  · by_cases h2 : b.row < a.row
    · simp [h1, h2]; omega
    · by_cases h3 : a.col < b.col
      · simp [h1, h2, h3]; omega
      · by_cases h4 : b.col < a.col <;> simp [h1, h2, h3, h4]
theorem swoS : SWO (ltOf cmpS) where
  irrefl x := by rw [ltOf_cmpS]; simp [ltS]
  trans x y z h1 h2 := by rw [ltOf_cmpS] at *; simp only [ltS, decide_eq_true_eq] at *; omega
  ntrans x y z h1 h2 := by rw [ltOf_cmpS] at *; simp only [ltS, decide_eq_false_iff_not] at *; omega
theorem cmpLaysS (blk off size : Nat) (w : World) : CmpLays Tryz.prog 114 #[] SSheet.encL 5 cmpS blk off size w := by
  intro m os dk _ x y
  refine (ofScale1_any x.id x.row x.col x.scale x.year y.id y.row y.col y.scale y.year _).mono ?_
  rintro e w' ⟨rfl, rfl⟩
  refine ⟨rfl, 1, (#[.cells #[.int .i64 x.id, .int .i64 x.row, .int .i64 x.col, .int .i64 x.scale, .int .i64 x.year] 50] ++ #[.cells #[.int .i64 y.id, .int .i64 y.row, .int .i64 y.col, .int .i64 y.scale, .int .i64 y.year] 50]) ++ #[.cells #[.int .i64 (cmpI x.row y.row), .int .i64 (cmpI x.col y.col)] 3], ?_⟩
  rw [alloc_eq_grow, alloc_eq_grow, alloc_eq_grow, grow_grow, grow_grow, drew_grow]
  rfl
theorem holdsS {w : World} {g : Nat} {e : TypeId} {cs : Array Value} {xs : List SSheet} (hb : Blk w g e cs) (hf : Filled 5 SSheet.enc cs xs.length xs) : HoldsK SSheet.encL 5 w g 0 xs.toArray := by
  intro j hj
  rw [size_flatK] at hj
  have hj' : j < xs.length * 5 := by simpa using hj
  have hi : j / 5 < xs.length := by omega
  refine ⟨?_, hb.frozen _⟩
  rw [hb.cell, Nat.zero_add, get_flatK _ _ _ _ hj, encL_get _ _ (Nat.mod_lt _ (by omega))]
  have := hf (j / 5) _ hi (List.getElem?_eq_getElem hi) (j % 5) (Nat.mod_lt _ (by omega))
  rw [Nat.div_add_mod'] at this
  rw [this]
  simp [hi]
theorem blkS {w : World} {g n : Nat} {os : Array Obj} {e : TypeId} {cs : Array Value} (d : Array SSheet) (hb : Blk w g e cs) : Blk (sortWorldK SSheet.encL 5 w g 0 n d os) g e (putCells id 0 (flatK SSheet.encL 5 d) cs) := by
  have hg := hb.lt
  unfold Blk at hb ⊢
  unfold sortWorldK putRowK
  rw [heap_grow_old _ _ (by simpa using hg)]
  simp [putRow, mapBlock, Sort.ahead, Array.getElem?_modify, hb, onCells]
theorem filledS (cs : Array Value) (ys : List SSheet) (h : ys.length * 5 ≤ cs.size) : Filled 5 SSheet.enc (putCells id 0 (flatK SSheet.encL 5 ys.toArray) cs) ys.length ys := by
  intro j x hj hx c hc
  obtain ⟨hj', rfl⟩ := List.getElem?_eq_some_iff.1 hx
  have hm : j * 5 + c < ys.toArray.size * 5 := by simp; omega
  have hlt : j * 5 + c < cs.size := by simp at hm; omega
  unfold putCells
  rw [Array.getElem?_mapIdx, Array.getElem?_eq_getElem hlt]
  simp only [Option.map_some, Nat.zero_le, Nat.zero_add, size_flatK, hm, and_self, if_true, Nat.sub_zero, id]
  rw [get_flatK _ _ _ _ hm, show (j * 5 + c) / 5 = j by omega, show (j * 5 + c) % 5 = c by omega, encL_get _ _ hc]
  simp [hj']
theorem grownS {w : World} {g n : Nat} {os : Array Obj} (d : Array SSheet) : w.grownBy (sortWorldK SSheet.encL 5 w g 0 n d os) (some g) := by
  refine ⟨rfl, rfl, rfl, by simp [sortWorldK, putRowK], fun k hk hne => ?_⟩
  unfold sortWorldK putRowK
  rw [heap_grow_old _ _ (by simpa using hk)]
  have : g ≠ k := fun e => hne (by rw [e])
  simp [putRow, mapBlock, Sort.ahead, Array.getElem?_modify, this]
/-- by rows and then by columns -/
def SortedS (ys : List SSheet) : Prop := ∀ i j, i < j → j < ys.length → ltS (SSheet.at ys j) (SSheet.at ys i) = false
/-! ### no element -/
theorem insS_none (p : Option Addr) (cap : Nat) (fv : Value) (w : World) :
    Calls Tryz.prog 139 #[.slice p 0 cap, .int .i64 0, .int .i64 0, fv] w fun e w' => e = .returned (.tuple #[]) ∧ w' = w := by
  go_enter Tryz.func139, Tryz.ntmps139
  go_wp2_with fail
  refine wp_loop_rounds 1 ?_
  rw [rounds_succ]
  go_wp2_with fail
  go_end0
  exact ⟨rfl, rfl⟩
theorem pdqS_none (p : Option Addr) (cap : Nat) (lim : Int) (fv : Value) (w : World) :
    Calls Tryz.prog 129 #[.slice p 0 cap, .int .i64 0, .int .i64 0, .int .i64 lim, fv] w fun e w' => e = .returned (.tuple #[]) ∧ w' = w := by
  have hi := fun W => insS_none p cap fv W
  go_enter Tryz.func129, Tryz.ntmps129
  go_wp2_with fail
  refine wp_loop_rounds 1 ?_
  rw [rounds_succ]
  go_wp2_with (go_at_call 139; refine (hi _).mono ?_; rintro e w' ⟨rfl, rfl⟩)
  (try simp only [Exit.inBlock, Exit.then]); refine bodyPost_ret (results_none rfl _ _ _) rfl ?_
  exact ⟨rfl, rfl⟩
theorem sortS_none (p : Option Addr) (cap : Nat) (fv : Value) (w : World) :
    Calls Tryz.prog 113 #[.slice p 0 cap, fv] w fun e w' => e = .returned (.tuple #[]) ∧ w' = w := by
  have hp := fun lim W => pdqS_none p cap lim fv W
  have hl : ∀ W, Calls Tryz.prog 130 #[.int .u64 0] W fun e w' => e = .returned (.int .i64 (Lib.bitLen 0 : Nat)) ∧ w' = W := fun W => by
    have h := Any.bits_Len (SlLaysF0.n15.bits (P := Tryz.prog) (ρ := layS_ren) { layS with }) 0 W (by omega) (by omega)
    exact h
  go_enter Tryz.func113, Tryz.ntmps113
  go_wp2_with (first | (go_at_call 130; refine (hl _).mono ?_; rintro e w' ⟨rfl, rfl⟩) | (go_at_call 129; refine (hp _ _).mono ?_; rintro e w' ⟨rfl, rfl⟩))
  go_end0
  exact ⟨rfl, rfl⟩
theorem sortS_is {base : Nat} (v : Value) (xs : List SSheet) (w : World) (h : Own 5 SSheet.enc 50 w base v xs) (hl : xs.length < 1000) :
    Calls Tryz.prog 113 #[v, .func (.func 114) #[] #[]] w fun e w' => e = .returned (.tuple #[]) ∧ ∃ ys : List SSheet, ys.Perm xs ∧ SortedS ys ∧ Own 5 SSheet.enc 50 w' base v ys ∧ w.grownBy w' v.ownBlock := by
  rcases h with ⟨rfl, rfl⟩ | ⟨g, cap, cs, rfl, hbase, hblk, hc1, hc2, hcs, hf⟩
  · have key : Calls Tryz.prog 113 #[.slice none 0 0, .func (.func 114) #[] #[]] w fun e w' => e = .returned (.tuple #[]) ∧ w' = w :=
      sortS_none none 0 _ w
    refine key.mono ?_
    rintro e w' ⟨rfl, rfl⟩
    exact ⟨rfl, [], List.Perm.refl _, fun i j _ hj => by simp at hj, .inl ⟨rfl, rfl⟩, World.grownBy.refl _ _⟩
  · have eg : ∀ args w, (callFunc 114 args).run Tryz.prog w = .ok (.enter 114 args) w := fun _ _ => by kernel_rfl
    have key : Calls Tryz.prog 113 #[.slice (some ⟨g, 0, none⟩) xs.length cap, .func (.func 114) #[] #[]] w fun e w' => e = .returned (.tuple #[]) ∧ ∃ d' n os, PermIn 0 xs.toArray.size xs.toArray d' ∧ SortedIn (ltOf cmpS) 0 xs.toArray.size d' ∧ w' = sortWorldK SSheet.encL 5 w g 0 n d' os :=
      AnyQ.slices_SortFunc layS 5 Tryz.isAgg50 Tryz.sizeOf50 SSheet.encL (fun _ => rfl) (fun x v hv => by simp [SSheet.encL] at hv; rcases hv with rfl | rfl | rfl | rfl | rfl <;> rfl) cmpS swoS 114 #[] g 0 cap xs.toArray w eg (cmpLaysS g 0 xs.toArray.size w) (holdsS hblk hf) hblk.lt (by simp; omega)
    refine key.mono ?_
    rintro e w' ⟨rfl, d', n, os, hp, hs, rfl⟩
    obtain ⟨h1, _, h3⟩ := hp
    have hsz : d'.size = xs.length := by simpa using h1
    have hpm : d'.toList.Perm xs := by
      have : (d'.extract 0 xs.toArray.size).toList = d'.toList := by simp [← hsz]
      rw [this] at h3
      simpa using h3
    have hln : d'.toList.length = xs.length := by simpa using hsz
    refine ⟨rfl, d'.toList, hpm, fun i j hij hj => ?_, .inr ⟨g, cap, _, by rw [hln], hbase, blkS d' hblk, by omega, hc2, by simp [putCells, hcs], ?_⟩, grownS d'⟩
    · have := hs i j (Nat.zero_le _) hij (by simp; omega)
      rw [ltOf_cmpS] at this
      have e1 : SSheet.at d'.toList j = d'[j]! := by rw [SSheet.at_lt hj]; simp [show j < d'.size by simpa using hj]
      have hi : i < d'.toList.length := by omega
      have e2 : SSheet.at d'.toList i = d'[i]! := by rw [SSheet.at_lt hi]; simp [show i < d'.size by simpa using hi]
      rw [e1, e2]; exact this
    · have := filledS cs d'.toList (by omega)
      simpa using this
end Go.Proofs.YtplemibckjnbhaaGreatDoor
