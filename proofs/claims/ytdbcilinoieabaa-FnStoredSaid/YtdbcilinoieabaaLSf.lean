/- The library's stable sort of at most twenty flats: it leaves the list stD. Condition: at most twenty elements. (Printed by mkstable.py.) -/
import Derived.Test.YtdbcilinoieabaaStFlat
import Derived.Test.YtdbcilinoieabaaLSt
import Derived.Shelf.SlSortCmp.InsertionK
namespace Go.Proofs.Ytdbcilinoieabaa
open Go.RowKit Go.Shelf Go.Sort
set_option linter.unusedVariables false
def cmpJ (a b : Int) : Int := if a < b then -1 else if b < a then 1 else 0
theorem cmpJ_neg (a b : Int) : cmpJ a b < 0 ↔ a < b := by
  unfold cmpJ
  by_cases h1 : a < b
  · simp [h1]
  · by_cases h2 : b < a <;> simp [h1, h2]
theorem isNaNJ_any (n : Int) (w : World) : Calls Try.prog 208 #[.int .i64 n] w fun e w' => e = .returned (.bool false) ∧ w = w' := by
  have h : (n != n) = false := by simp
  go_enter Try.func208, Try.ntmps208
  go_wp2_with fail
  go_ret
  exact ⟨rfl, rfl⟩
theorem cmpJ_any (a b : Int) (w : World) : Calls Try.prog 156 #[.int .i64 a, .int .i64 b] w fun e w' => e = .returned (.int .i64 (cmpJ a b)) ∧ w = w' := by
  have HD := hide (show cmpJ a b = if a < b then -1 else if b < a then 1 else 0 from rfl)
  by_cases h1 : a < b
  · have HV := hide (HD.out.trans (if_pos h1))
    go_enter Try.func156, Try.ntmps156
    go_wp2_with (go_at_call 208; refine (isNaNJ_any _ _).mono ?_; rintro e w' ⟨rfl, rfl⟩)
    go_ret
    exact ⟨ret_int HV.out.symm, rfl⟩
  · by_cases h2 : b < a
    · have HV := hide ((HD.out.trans (if_neg h1)).trans (if_pos h2))
      go_enter Try.func156, Try.ntmps156
      go_wp2_with (go_at_call 208; refine (isNaNJ_any _ _).mono ?_; rintro e w' ⟨rfl, rfl⟩)
      go_ret
      exact ⟨ret_int HV.out.symm, rfl⟩
    · have HV := hide ((HD.out.trans (if_neg h1)).trans (if_neg h2))
      go_enter Try.func156, Try.ntmps156
      go_wp2_with (go_at_call 208; refine (isNaNJ_any _ _).mono ?_; rintro e w' ⟨rfl, rfl⟩)
      go_ret
      exact ⟨ret_int HV.out.symm, rfl⟩
def layF_ren : Go.Shelf.Ren := ⟨fun | 20 => 222 | n => n, fun | 22 => 57 | 24 => 68 | 25 => 150 | 3 => 3 | 0 => 0 | 4 => 4 | n => n, fun | n => n⟩
theorem layF : SlLaysF0.n20 Try.prog layF_ren :=
  {
    mixed := by kernel_rfl
    f20 := ⟨Try.f222.name, by kernel_rfl, Try.func222.trans (congrArg some (by kernel_rfl))⟩
    t0 := Try.underlying0
    a0 := Try.isAgg0
    z0 := Try.sizeOf0
    v0 := Try.zeroValue0
    t3 := Try.underlying3
    a3 := Try.isAgg3
    z3 := Try.sizeOf3
    v3 := Try.zeroValue3
    t4 := Try.underlying4
    a4 := Try.isAgg4
    z4 := Try.sizeOf4
    v4 := Try.zeroValue4
    t22 := Try.underlying57
    a22 := Try.isAgg57
    z22 := Try.sizeOf57
    v22 := Try.zeroValue57
    t25 := Try.underlying150
    a25 := Try.isAgg150
    z25 := Try.sizeOf150
    v25 := Try.zeroValue150 }
instance : Inhabited SFlat := ⟨SFlat.zero⟩
def SFlat.encL (c : SFlat) : List Value := [.int .i64 c.ident, .int .i64 c.wide, .int .i64 c.high, .int .i64 c.grams]
theorem encLF_get (c : SFlat) (j : Nat) (hj : j < 4) : (SFlat.encL c)[j]! = SFlat.enc c j := by
  rcases (show j = 0 ∨ j = 1 ∨ j = 2 ∨ j = 3 by omega) with rfl | rfl | rfl | rfl <;> rfl
/-- the greater flat stands ahead -/
def areaF (c : SFlat) : Int := wrap64 (c.wide * c.high)
def cfF (a b : SFlat) : Int := cmpJ (areaF b) (areaF a)
theorem ltOf_cfF (a b : SFlat) : ltOf cfF a b = decide (areaF b < areaF a) := by
  unfold ltOf cfF; exact decide_eq_decide.2 (cmpJ_neg _ _)
theorem cloF_any (a0 : Int) (a1 : Int) (a2 : Int) (a3 : Int) (b0 : Int) (b1 : Int) (b2 : Int) (b3 : Int) (w : World) :
    Calls Try.prog 155 #[.agg #[.int .i64 a0, .int .i64 a1, .int .i64 a2, .int .i64 a3], .agg #[.int .i64 b0, .int .i64 b1, .int .i64 b2, .int .i64 b3]] w fun e w' => e = .returned (.int .i64 (cfF ⟨a0, a1, a2, a3⟩ ⟨b0, b1, b2, b3⟩)) ∧ w' = (w.alloc (.cells #[.int .i64 a0, .int .i64 a1, .int .i64 a2, .int .i64 a3] 68)).alloc (.cells #[.int .i64 b0, .int .i64 b1, .int .i64 b2, .int .i64 b3] 68) := by
  go_enter Try.func155, Try.ntmps155
  go_wp2_with (go_at_call 156; refine (cmpJ_any _ _ _).mono ?_; rintro e w' ⟨rfl, rfl⟩)
  go_ret
  exact ⟨ret_int rfl, rfl⟩
theorem cmpLaysF (blk off size : Nat) (w : World) : CmpLays Try.prog 155 #[] SFlat.encL 4 cfF blk off size w := by
  intro m os dk _ x y
  refine (cloF_any x.ident x.wide x.high x.grams y.ident y.wide y.high y.grams _).mono ?_
  rintro e w' ⟨rfl, rfl⟩
  refine ⟨rfl, 0, (#[.cells #[.int .i64 x.ident, .int .i64 x.wide, .int .i64 x.high, .int .i64 x.grams] 68] ++ #[.cells #[.int .i64 y.ident, .int .i64 y.wide, .int .i64 y.high, .int .i64 y.grams] 68]), ?_⟩
  rw [alloc_eq_grow, alloc_eq_grow, grow_grow]
  rfl
theorem holdsF {w : World} {g : Nat} {e : TypeId} {cs : Array Value} {xs : List SFlat} (hb : Blk w g e cs) (hf : Filled 4 SFlat.enc cs xs.length xs) : HoldsK SFlat.encL 4 w g 0 xs.toArray := by
  intro j hj
  rw [size_flatK] at hj
  have hj' : j < xs.length * 4 := by simpa using hj
  have hi : j / 4 < xs.length := by omega
  refine ⟨?_, hb.frozen _⟩
  rw [hb.cell, Nat.zero_add, get_flatK _ _ _ _ hj, encLF_get _ _ (Nat.mod_lt _ (by omega))]
  have := hf (j / 4) _ hi (List.getElem?_eq_getElem hi) (j % 4) (Nat.mod_lt _ (by omega))
  rw [Nat.div_add_mod'] at this
  rw [this]
  simp [hi]
theorem blkF {w : World} {g n : Nat} {os : Array Obj} {e : TypeId} {cs : Array Value} (d : Array SFlat) (hb : Blk w g e cs) : Blk (sortWorldK SFlat.encL 4 w g 0 n d os) g e (putCells id 0 (flatK SFlat.encL 4 d) cs) := by
  have hg := hb.lt
  unfold Blk at hb ⊢
  unfold sortWorldK putRowK
  rw [heap_grow_old _ _ (by simpa using hg)]
  simp [putRow, mapBlock, Sort.ahead, Array.getElem?_modify, hb, onCells]
theorem filledF (cs : Array Value) (ys : List SFlat) (h : ys.length * 4 ≤ cs.size) : Filled 4 SFlat.enc (putCells id 0 (flatK SFlat.encL 4 ys.toArray) cs) ys.length ys := by
  intro j x hj hx c hc
  obtain ⟨hj', rfl⟩ := List.getElem?_eq_some_iff.1 hx
  have hm : j * 4 + c < ys.toArray.size * 4 := by simp; omega
  have hlt : j * 4 + c < cs.size := by simp at hm; omega
  unfold putCells
  rw [Array.getElem?_mapIdx, Array.getElem?_eq_getElem hlt]
  simp only [Option.map_some, Nat.zero_le, Nat.zero_add, size_flatK, hm, and_self, if_true, Nat.sub_zero, id]
  rw [get_flatK _ _ _ _ hm, show (j * 4 + c) / 4 = j by omega, show (j * 4 + c) % 4 = c by omega, encLF_get _ _ hc]
  simp [hj']
theorem grownF {w : World} {g n : Nat} {os : Array Obj} (d : Array SFlat) : w.grownBy (sortWorldK SFlat.encL 4 w g 0 n d os) (some g) := by
  refine ⟨rfl, rfl, rfl, by simp [sortWorldK, putRowK], fun k hk hne => ?_⟩
  unfold sortWorldK putRowK
  rw [heap_grow_old _ _ (by simpa using hk)]
  have : g ≠ k := fun e => hne (by rw [e])
  simp [putRow, mapBlock, Sort.ahead, Array.getElem?_modify, this]
/-- the insertion sort between two places -/
theorem insF_any {base : Nat} (v : Value) (xs : List SFlat) (a b : Nat) (w : World) (h : Own 4 SFlat.enc 68 w base v xs) (hp : 0 < xs.length) (hab : a ≤ b) (hb : b ≤ xs.length) (hl : xs.length ≤ 1000) (ys : List SFlat) (hys : (insertionSort (ltOf cfF) xs.toArray a b).toList = ys) :
    Calls Try.prog 222 #[v, .int .i64 (a : Int), .int .i64 (b : Int), .func (.func 155) #[] #[]] w fun e w' => e = .returned (.tuple #[]) ∧ (ys.length = xs.length → Own 4 SFlat.enc 68 w' base v ys) ∧ w.grownBy w' v.ownBlock := by
  rcases h with ⟨_, rfl⟩ | ⟨g, cap, cs, rfl, hbase, hblk, hc1, hc2, hcs, hf⟩
  · simp at hp
  · have eg : ∀ args w, (callFunc 155 args).run Try.prog w = .ok (.enter 155 args) w := fun _ _ => by kernel_rfl
    have key : Calls Try.prog 222 #[.slice (some ⟨g, 0, none⟩) xs.length cap, .int .i64 (a : Int), .int .i64 (b : Int), .func (.func 155) #[] #[]] w fun e w' => e = .returned (.tuple #[]) ∧ ∃ n os, w' = sortWorldK SFlat.encL 4 w g 0 n (insertionSort (ltOf cfF) xs.toArray a b) os :=
      AnyQ.insertionSortCmpFunc layF 4 Try.isAgg68 Try.sizeOf68 SFlat.encL (fun _ => rfl) (fun x v hv => by simp [SFlat.encL] at hv; rcases hv with rfl | rfl | rfl | rfl <;> rfl) cfF 155 #[] g 0 cap a b xs.toArray w eg (cmpLaysF g 0 xs.toArray.size w) (holdsF hblk hf) hblk.lt hab (by simpa using hb) (by simp; omega)
    refine key.mono ?_
    rintro e w' ⟨rfl, n, os, rfl⟩
    refine ⟨rfl, fun hlen => .inr ⟨g, cap, _, by rw [hlen], hbase, blkF _ hblk, by omega, hc2, by simp [putCells, hcs], ?_⟩, grownF _⟩
    have := filledF cs ys (by omega)
    rw [← hys] at this ⊢
    simpa using this
theorem insF_none (p : Option Addr) (cap : Nat) (fv : Value) (w : World) :
    Calls Try.prog 222 #[.slice p 0 cap, .int .i64 0, .int .i64 0, fv] w fun e w' => e = .returned (.tuple #[]) ∧ w' = w := by
  go_enter Try.func222, Try.ntmps222
  go_wp2_with fail
  refine wp_loop_rounds 1 ?_
  rw [rounds_succ]
  go_wp2_with fail
  go_end0
  exact ⟨rfl, rfl⟩
theorem stableF_is {base : Nat} (v : Value) (xs : List SFlat) (w : World) (h : Own 4 SFlat.enc 68 w base v xs) (hl : xs.length ≤ 20) :
    Calls Try.prog 207 #[v, .int .i64 (xs.length : Int), .func (.func 155) #[] #[]] w fun e w' => e = .returned (.tuple #[]) ∧ Own 4 SFlat.enc 68 w' base v (stD (ltOf cfF) xs) ∧ w.grownBy w' v.ownBlock := by
  by_cases h0 : xs.length = 0
  · obtain rfl := List.eq_nil_of_length_eq_zero h0
    obtain ⟨A, cap, rfl, _, _, _⟩ := h.row
    have HO := hide h
    have hi := fun W => insF_none A cap (.func (.func 155) #[] #[]) W
    have HI := hide hi; clear hi h h0 hl
    have key : Calls Try.prog 207 #[.slice A 0 cap, .int .i64 0, .func (.func 155) #[] #[]] w fun e w' => e = .returned (.tuple #[]) ∧ w' = w := by
      go_enter Try.func207, Try.ntmps207
      go_wp2_with fail
      refine wp_loop_rounds 1 ?_
      rw [rounds_succ]
      go_wp2_with (go_at_call 222; refine (HI.out _).mono ?_; rintro e w' ⟨rfl, rfl⟩)
      refine wp_loop_rounds 1 ?_
      rw [rounds_succ]
      go_wp2_with fail
      go_end0
      exact ⟨rfl, rfl⟩
    refine key.mono ?_
    rintro e w' ⟨rfl, rfl⟩
    exact ⟨rfl, HO.out, World.grownBy.refl _ _⟩
  · have hp : 0 < xs.length := by omega
    have hsl : (stD (ltOf cfF) xs).length = xs.length := stD_len _ _
    have h1 := insF_any v xs 0 xs.length w h hp (Nat.zero_le _) (Nat.le_refl _) (by omega) _ (insertionSort_list _ xs)
    by_cases h20 : xs.length = 20
    · have hl20 : (xs.length : Int) = 20 := by omega
      rw [hl20]
      rw [hl20] at h1
      have h2 := fun W (hO : Own 4 SFlat.enc 68 W base v (stD (ltOf cfF) xs)) => insF_any v (stD (ltOf cfF) xs) 20 20 W hO (by omega) (Nat.le_refl _) (by omega) (by omega) (stD (ltOf cfF) xs) (by rw [insertionSort_none _ _ _ _ (by omega)])
      simp only [show ((20 : Nat) : Int) = 20 from rfl] at h2
      have H1 := hide h1; have H2 := hide h2
      clear h1 h2 h h20 hl20 hl hp
      have hsl2 := hide hsl
      obtain ⟨n20, hn20⟩ : ∃ n : Int, n = 20 := ⟨_, rfl⟩
      go_enter Try.func207, Try.ntmps207
      go_wp2_with fail
      refine wp_loop_rounds 2 ?_
      rw [rounds_succ]
      go_wp2_with (go_at_call 222; refine H1.out.mono ?_; rintro e w1 ⟨rfl, ho1, hg1⟩; have HO1 := hide (ho1 hsl2.out); have HG1 := hide hg1; clear ho1 hg1)
      rw [rounds_succ]
      go_wp2_with fail
      refine (H2.out _ HO1.out).mono ?_; rintro e w2 ⟨rfl, ho2, hg2⟩; have HO2 := hide (ho2 trivial); have HG2 := hide hg2; clear ho2 hg2
      go_wp2_with fail
      refine wp_loop_rounds 1 ?_
      rw [rounds_succ]
      go_wp2_with fail
      go_end0
      exact ⟨rfl, HO2.out, HG1.out.trans HG2.out⟩
    · have hl20 : (xs.length : Int) < 20 := by omega
      have H1 := hide h1
      clear h1 h h20 hl hp
      have hsl2 := hide hsl
      clear hsl
      go_enter Try.func207, Try.ntmps207
      go_wp2_with fail
      refine wp_loop_rounds 1 ?_
      rw [rounds_succ]
      go_wp2_with (go_at_call 222; refine H1.out.mono ?_; rintro e w1 ⟨rfl, ho1, hg1⟩; have HO1 := hide (ho1 hsl2.out); have HG1 := hide hg1; clear ho1 hg1)
      refine wp_loop_rounds 1 ?_
      rw [rounds_succ]
      go_wp2_with fail
      go_end0
      exact ⟨rfl, HO1.out, HG1.out⟩
theorem sortStableF_is {base : Nat} (v : Value) (xs : List SFlat) (w : World) (h : Own 4 SFlat.enc 68 w base v xs) (hl : xs.length ≤ 20) :
    Calls Try.prog 154 #[v, .func (.func 155) #[] #[]] w fun e w' => e = .returned (.tuple #[]) ∧ Own 4 SFlat.enc 68 w' base v (stD (ltOf cfF) xs) ∧ w.grownBy w' v.ownBlock := by
  have HS := hide (stableF_is v xs w h hl)
  obtain ⟨A, cap, rfl, _, _, _⟩ := h.row
  clear h
  go_enter Try.func154, Try.ntmps154
  go_wp2_with (go_at_call 207; refine HS.out.mono ?_; rintro e w1 ⟨rfl, ho1, hg1⟩; have HO1 := hide ho1; have HG1 := hide hg1; clear ho1 hg1)
  go_end0
  exact ⟨rfl, HO1.out, HG1.out⟩
end Go.Proofs.Ytdbcilinoieabaa
