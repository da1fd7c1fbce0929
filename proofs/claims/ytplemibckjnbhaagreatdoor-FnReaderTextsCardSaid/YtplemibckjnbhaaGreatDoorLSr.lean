/- The library's stable sort of at most twenty readers: it leaves the list stD. Condition: at most twenty elements. (Printed by mkstable.py.) -/
import Derived.Test.YtplemibckjnbhaaGreatDoorStReader
import Derived.Test.YtplemibckjnbhaaGreatDoorLSt
import Derived.Shelf.SlSortCmp.InsertionK
namespace Go.Proofs.YtplemibckjnbhaaGreatDoor
open Go.RowKit Go.Shelf Go.Sort
set_option linter.unusedVariables false
def cmpJ (a b : Int) : Int := if a < b then -1 else if b < a then 1 else 0
theorem cmpJ_neg (a b : Int) : cmpJ a b < 0 ↔ a < b := by
  unfold cmpJ
  by_cases h1 : a < b
  · simp [h1]
  · by_cases h2 : b < a <;> simp [h1, h2]
theorem isNaNJ_any (n : Int) (w : World) : Calls Tryz.prog 109 #[.int .i64 n] w fun e w' => e = .returned (.bool false) ∧ w = w' := by
  have h : (n != n) = false := by simp
  go_enter Tryz.func109, Tryz.ntmps109
  go_wp2_with fail
  go_ret
  exact ⟨rfl, rfl⟩
theorem cmpJ_any (a b : Int) (w : World) : Calls Tryz.prog 73 #[.int .i64 a, .int .i64 b] w fun e w' => e = .returned (.int .i64 (cmpJ a b)) ∧ w = w' := by
  have HD := hide (show cmpJ a b = if a < b then -1 else if b < a then 1 else 0 from rfl)
  by_cases h1 : a < b
  · have HV := hide (HD.out.trans (if_pos h1))
    go_enter Tryz.func73, Tryz.ntmps73
    go_wp2_with (go_at_call 109; refine (isNaNJ_any _ _).mono ?_; rintro e w' ⟨rfl, rfl⟩)
    go_ret
    exact ⟨ret_int HV.out.symm, rfl⟩
  · by_cases h2 : b < a
    · have HV := hide ((HD.out.trans (if_neg h1)).trans (if_pos h2))
      go_enter Tryz.func73, Tryz.ntmps73
      go_wp2_with (go_at_call 109; refine (isNaNJ_any _ _).mono ?_; rintro e w' ⟨rfl, rfl⟩)
      go_ret
      exact ⟨ret_int HV.out.symm, rfl⟩
    · have HV := hide ((HD.out.trans (if_neg h1)).trans (if_neg h2))
      go_enter Tryz.func73, Tryz.ntmps73
      go_wp2_with (go_at_call 109; refine (isNaNJ_any _ _).mono ?_; rintro e w' ⟨rfl, rfl⟩)
      go_ret
      exact ⟨ret_int HV.out.symm, rfl⟩
def layR_ren : Go.Shelf.Ren := ⟨fun | 20 => 126 | n => n, fun | 22 => 33 | 24 => 25 | 25 => 96 | 3 => 3 | 0 => 0 | 4 => 4 | n => n, fun | n => n⟩
theorem layR : SlLaysF0.n20 Tryz.prog layR_ren :=
  {
    mixed := by kernel_rfl
    f20 := ⟨Tryz.f126.name, by kernel_rfl, Tryz.func126.trans (congrArg some (by kernel_rfl))⟩
    t0 := Tryz.underlying0
    a0 := Tryz.isAgg0
    z0 := Tryz.sizeOf0
    v0 := Tryz.zeroValue0
    t3 := Tryz.underlying3
    a3 := Tryz.isAgg3
    z3 := Tryz.sizeOf3
    v3 := Tryz.zeroValue3
    t4 := Tryz.underlying4
    a4 := Tryz.isAgg4
    z4 := Tryz.sizeOf4
    v4 := Tryz.zeroValue4
    t22 := Tryz.underlying33
    a22 := Tryz.isAgg33
    z22 := Tryz.sizeOf33
    v22 := Tryz.zeroValue33
    t25 := Tryz.underlying96
    a25 := Tryz.isAgg96
    z25 := Tryz.sizeOf96
    v25 := Tryz.zeroValue96 }
instance : Inhabited SReader := ⟨SReader.zero⟩
def SReader.encL (c : SReader) : List Value := [.int .i64 c.ident, .string c.name, .int .i64 c.joined, .int .i64 c.cls, .int .i64 c.fines]
theorem encLR_get (c : SReader) (j : Nat) (hj : j < 5) : (SReader.encL c)[j]! = SReader.enc c j := by
  rcases (show j = 0 ∨ j = 1 ∨ j = 2 ∨ j = 3 ∨ j = 4 by omega) with rfl | rfl | rfl | rfl | rfl <;> rfl
/-- who owes more stands ahead -/
def cfR (a b : SReader) : Int := cmpJ b.fines a.fines
theorem ltOf_cfR (a b : SReader) : ltOf cfR a b = decide (b.fines < a.fines) := by
  unfold ltOf cfR; exact decide_eq_decide.2 (cmpJ_neg _ _)
theorem cloR_any (a0 : Int) (a1 : ByteArray) (a2 : Int) (a3 : Int) (a4 : Int) (b0 : Int) (b1 : ByteArray) (b2 : Int) (b3 : Int) (b4 : Int) (w : World) :
    Calls Tryz.prog 72 #[.agg #[.int .i64 a0, .string a1, .int .i64 a2, .int .i64 a3, .int .i64 a4], .agg #[.int .i64 b0, .string b1, .int .i64 b2, .int .i64 b3, .int .i64 b4]] w fun e w' => e = .returned (.int .i64 (cfR ⟨a0, a1, a2, a3, a4⟩ ⟨b0, b1, b2, b3, b4⟩)) ∧ w' = (w.alloc (.cells #[.int .i64 a0, .string a1, .int .i64 a2, .int .i64 a3, .int .i64 a4] 25)).alloc (.cells #[.int .i64 b0, .string b1, .int .i64 b2, .int .i64 b3, .int .i64 b4] 25) := by
  go_enter Tryz.func72, Tryz.ntmps72
  go_wp2_with (go_at_call 73; refine (cmpJ_any _ _ _).mono ?_; rintro e w' ⟨rfl, rfl⟩)
  go_ret
  exact ⟨ret_int rfl, rfl⟩
theorem cmpLaysR (blk off size : Nat) (w : World) : CmpLays Tryz.prog 72 #[] SReader.encL 5 cfR blk off size w := by
  intro m os dk _ x y
  refine (cloR_any x.ident x.name x.joined x.cls x.fines y.ident y.name y.joined y.cls y.fines _).mono ?_
  rintro e w' ⟨rfl, rfl⟩
  refine ⟨rfl, 0, (#[.cells #[.int .i64 x.ident, .string x.name, .int .i64 x.joined, .int .i64 x.cls, .int .i64 x.fines] 25] ++ #[.cells #[.int .i64 y.ident, .string y.name, .int .i64 y.joined, .int .i64 y.cls, .int .i64 y.fines] 25]), ?_⟩
  rw [alloc_eq_grow, alloc_eq_grow, grow_grow]
  rfl
theorem holdsR {w : World} {g : Nat} {e : TypeId} {cs : Array Value} {xs : List SReader} (hb : Blk w g e cs) (hf : Filled 5 SReader.enc cs xs.length xs) : HoldsK SReader.encL 5 w g 0 xs.toArray := by
  intro j hj
  rw [size_flatK] at hj
  have hj' : j < xs.length * 5 := by simpa using hj
  have hi : j / 5 < xs.length := by omega
  refine ⟨?_, hb.frozen _⟩
  rw [hb.cell, Nat.zero_add, get_flatK _ _ _ _ hj, encLR_get _ _ (Nat.mod_lt _ (by omega))]
  have := hf (j / 5) _ hi (List.getElem?_eq_getElem hi) (j % 5) (Nat.mod_lt _ (by omega))
  rw [Nat.div_add_mod'] at this
  rw [this]
  simp [hi]
theorem blkR {w : World} {g n : Nat} {os : Array Obj} {e : TypeId} {cs : Array Value} (d : Array SReader) (hb : Blk w g e cs) : Blk (sortWorldK SReader.encL 5 w g 0 n d os) g e (putCells id 0 (flatK SReader.encL 5 d) cs) := by
  have hg := hb.lt
  unfold Blk at hb ⊢
  unfold sortWorldK putRowK
  rw [heap_grow_old _ _ (by simpa using hg)]
  simp [putRow, mapBlock, Sort.ahead, Array.getElem?_modify, hb, onCells]
theorem filledR (cs : Array Value) (ys : List SReader) (h : ys.length * 5 ≤ cs.size) : Filled 5 SReader.enc (putCells id 0 (flatK SReader.encL 5 ys.toArray) cs) ys.length ys := by
  intro j x hj hx c hc
  obtain ⟨hj', rfl⟩ := List.getElem?_eq_some_iff.1 hx
  have hm : j * 5 + c < ys.toArray.size * 5 := by simp; omega
  have hlt : j * 5 + c < cs.size := by simp at hm; omega
  unfold putCells
  rw [Array.getElem?_mapIdx, Array.getElem?_eq_getElem hlt]
  simp only [Option.map_some, Nat.zero_le, Nat.zero_add, size_flatK, hm, and_self, if_true, Nat.sub_zero, id]
  rw [get_flatK _ _ _ _ hm, show (j * 5 + c) / 5 = j by omega, show (j * 5 + c) % 5 = c by omega, encLR_get _ _ hc]
  simp [hj']
theorem grownR {w : World} {g n : Nat} {os : Array Obj} (d : Array SReader) : w.grownBy (sortWorldK SReader.encL 5 w g 0 n d os) (some g) := by
  refine ⟨rfl, rfl, rfl, by simp [sortWorldK, putRowK], fun k hk hne => ?_⟩
  unfold sortWorldK putRowK
  rw [heap_grow_old _ _ (by simpa using hk)]
  have : g ≠ k := fun e => hne (by rw [e])
  simp [putRow, mapBlock, Sort.ahead, Array.getElem?_modify, this]
/-- the insertion sort between two places -/
theorem insR_any {base : Nat} (v : Value) (xs : List SReader) (a b : Nat) (w : World) (h : Own 5 SReader.enc 25 w base v xs) (hp : 0 < xs.length) (hab : a ≤ b) (hb : b ≤ xs.length) (hl : xs.length ≤ 1000) (ys : List SReader) (hys : (insertionSort (ltOf cfR) xs.toArray a b).toList = ys) :
    Calls Tryz.prog 126 #[v, .int .i64 (a : Int), .int .i64 (b : Int), .func (.func 72) #[] #[]] w fun e w' => e = .returned (.tuple #[]) ∧ (ys.length = xs.length → Own 5 SReader.enc 25 w' base v ys) ∧ w.grownBy w' v.ownBlock := by
  rcases h with ⟨_, rfl⟩ | ⟨g, cap, cs, rfl, hbase, hblk, hc1, hc2, hcs, hf⟩
  · simp at hp
  · have eg : ∀ args w, (callFunc 72 args).run Tryz.prog w = .ok (.enter 72 args) w := fun _ _ => by kernel_rfl
    have key : Calls Tryz.prog 126 #[.slice (some ⟨g, 0, none⟩) xs.length cap, .int .i64 (a : Int), .int .i64 (b : Int), .func (.func 72) #[] #[]] w fun e w' => e = .returned (.tuple #[]) ∧ ∃ n os, w' = sortWorldK SReader.encL 5 w g 0 n (insertionSort (ltOf cfR) xs.toArray a b) os :=
      AnyQ.insertionSortCmpFunc layR 5 Tryz.isAgg25 Tryz.sizeOf25 SReader.encL (fun _ => rfl) (fun x v hv => by simp [SReader.encL] at hv; rcases hv with rfl | rfl | rfl | rfl | rfl <;> rfl) cfR 72 #[] g 0 cap a b xs.toArray w eg (cmpLaysR g 0 xs.toArray.size w) (holdsR hblk hf) hblk.lt hab (by simpa using hb) (by simp; omega)
    refine key.mono ?_
    rintro e w' ⟨rfl, n, os, rfl⟩
    refine ⟨rfl, fun hlen => .inr ⟨g, cap, _, by rw [hlen], hbase, blkR _ hblk, by omega, hc2, by simp [putCells, hcs], ?_⟩, grownR _⟩
    have := filledR cs ys (by omega)
    rw [← hys] at this ⊢
    simpa using this
theorem insR_none (p : Option Addr) (cap : Nat) (fv : Value) (w : World) :
    Calls Tryz.prog 126 #[.slice p 0 cap, .int .i64 0, .int .i64 0, fv] w fun e w' => e = .returned (.tuple #[]) ∧ w' = w := by
  go_enter Tryz.func126, Tryz.ntmps126
  go_wp2_with fail
  refine wp_loop_rounds 1 ?_
  rw [rounds_succ]
  go_wp2_with fail
  go_end0
  exact ⟨rfl, rfl⟩
theorem stableR_is {base : Nat} (v : Value) (xs : List SReader) (w : World) (h : Own 5 SReader.enc 25 w base v xs) (hl : xs.length ≤ 20) :
    Calls Tryz.prog 108 #[v, .int .i64 (xs.length : Int), .func (.func 72) #[] #[]] w fun e w' => e = .returned (.tuple #[]) ∧ Own 5 SReader.enc 25 w' base v (stD (ltOf cfR) xs) ∧ w.grownBy w' v.ownBlock := by
  by_cases h0 : xs.length = 0
  · obtain rfl := List.eq_nil_of_length_eq_zero h0
    obtain ⟨A, cap, rfl, _, _, _⟩ := h.row
    have HO := hide h
    have hi := fun W => insR_none A cap (.func (.func 72) #[] #[]) W
    have HI := hide hi; clear hi h h0 hl
    have key : Calls Tryz.prog 108 #[.slice A 0 cap, .int .i64 0, .func (.func 72) #[] #[]] w fun e w' => e = .returned (.tuple #[]) ∧ w' = w := by
      go_enter Tryz.func108, Tryz.ntmps108
      go_wp2_with fail
      refine wp_loop_rounds 1 ?_
      rw [rounds_succ]
      go_wp2_with (go_at_call 126; refine (HI.out _).mono ?_; rintro e w' ⟨rfl, rfl⟩)
      refine wp_loop_rounds 1 ?_
      rw [rounds_succ]
      go_wp2_with fail
      go_end0
      exact ⟨rfl, rfl⟩
    refine key.mono ?_
    rintro e w' ⟨rfl, rfl⟩
    exact ⟨rfl, HO.out, World.grownBy.refl _ _⟩
  · have hp : 0 < xs.length := by omega
    have hsl : (stD (ltOf cfR) xs).length = xs.length := stD_len _ _
    have h1 := insR_any v xs 0 xs.length w h hp (Nat.zero_le _) (Nat.le_refl _) (by omega) _ (insertionSort_list _ xs)
    by_cases h20 : xs.length = 20
    · have hl20 : (xs.length : Int) = 20 := by omega
      rw [hl20]
      rw [hl20] at h1
      have h2 := fun W (hO : Own 5 SReader.enc 25 W base v (stD (ltOf cfR) xs)) => insR_any v (stD (ltOf cfR) xs) 20 20 W hO (by omega) (Nat.le_refl _) (by omega) (by omega) (stD (ltOf cfR) xs) (by rw [insertionSort_none _ _ _ _ (by omega)])
      simp only [show ((20 : Nat) : Int) = 20 from rfl] at h2
      have H1 := hide h1; have H2 := hide h2
      clear h1 h2 h h20 hl20 hl hp
      have hsl2 := hide hsl
      obtain ⟨n20, hn20⟩ : ∃ n : Int, n = 20 := ⟨_, rfl⟩
      go_enter Tryz.func108, Tryz.ntmps108
      go_wp2_with fail
      refine wp_loop_rounds 2 ?_
      rw [rounds_succ]
      go_wp2_with (go_at_call 126; refine H1.out.mono ?_; rintro e w1 ⟨rfl, ho1, hg1⟩; have HO1 := hide (ho1 hsl2.out); have HG1 := hide hg1; clear ho1 hg1)
      rw [rounds_succ]
      go_wp2_with fail
      refine (H2.out _ HO1.out).mono ?_; rintro e w2 ⟨rfl, ho2, hg2⟩; have HO2 := hide (ho2 trivial); have HG2 := hide hg2; clear ho2 hg2
      go_wp2_with fail
      refine wp_loop_rounds 1 ?_
      rw [rounds_succ]
      go_wp2_with fail
      go_end0
      exact ⟨rfl, HO2.out, HG1.out.trans HG2.out⟩
    · have hl20 : (xs.length : Int) < 20 := by omega
      have H1 := hide h1
      clear h1 h h20 hl hp
      have hsl2 := hide hsl
      clear hsl
      go_enter Tryz.func108, Tryz.ntmps108
      go_wp2_with fail
      refine wp_loop_rounds 1 ?_
      rw [rounds_succ]
      go_wp2_with (go_at_call 126; refine H1.out.mono ?_; rintro e w1 ⟨rfl, ho1, hg1⟩; have HO1 := hide (ho1 hsl2.out); have HG1 := hide hg1; clear ho1 hg1)
      refine wp_loop_rounds 1 ?_
      rw [rounds_succ]
      go_wp2_with fail
      go_end0
      exact ⟨rfl, HO1.out, HG1.out⟩
theorem sortStableR_is {base : Nat} (v : Value) (xs : List SReader) (w : World) (h : Own 5 SReader.enc 25 w base v xs) (hl : xs.length ≤ 20) :
    Calls Tryz.prog 71 #[v, .func (.func 72) #[] #[]] w fun e w' => e = .returned (.tuple #[]) ∧ Own 5 SReader.enc 25 w' base v (stD (ltOf cfR) xs) ∧ w.grownBy w' v.ownBlock := by
  have HS := hide (stableR_is v xs w h hl)
  obtain ⟨A, cap, rfl, _, _, _⟩ := h.row
  clear h
  go_enter Tryz.func71, Tryz.ntmps71
  go_wp2_with (go_at_call 108; refine HS.out.mono ?_; rintro e w1 ⟨rfl, ho1, hg1⟩; have HO1 := hide ho1; have HG1 := hide hg1; clear ho1 hg1)
  go_end0
  exact ⟨rfl, HO1.out, HG1.out⟩
end Go.Proofs.YtplemibckjnbhaaGreatDoor
