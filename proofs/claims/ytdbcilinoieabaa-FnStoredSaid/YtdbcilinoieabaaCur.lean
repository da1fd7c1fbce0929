/- The cursor over a code of bytes (spec's l1Cur): next, pick, one, among. What they draw is not told, only in which bounds it lies. Condition: a cursor that has stepped less than 2^61 times. -/
import Derived.Test.YtdbcilinoieabaaStInt
import Derived.Test.YtdbcilinoieabaaL1
namespace Go.Proofs.Ytdbcilinoieabaa
open Go.RowKit Go.ChangeShapes Go.WideShapes Go.Deep
set_option linter.unusedVariables false
def encU (x : Int) : Nat → Value := fun _ => .int .u8 x
theorem Bytes.open {H : Type} {enc' : TypeId × Value → H} {P : Program} {w : World} {sp : Nat → Bool} {held : Bool} {t e : TypeId} (ht : P.underlying t = some (.slice e)) (he : P.underlying e = some (.int .u8)) (hk : P.cellsOf e = 1) {A : Option Addr} {len cap : Nat} {d : DataW H} {p : List MemPlace}
    (h : DataW.Trod enc' P w 0 sp held t (.slice A len cap) d p) : ∃ zs : List Int, zs.length = len ∧ (∀ z ∈ zs, (Lit.int .u8 z).wf = true) ∧ len ≤ cap ∧ cap ≤ maxLen ∧ Row 1 encU w w.heap.size A zs :=
  row_of_slice (by omega) ht hk (fun n cs y hy hl => ok_int he hy) h
theorem wrap_u64_bd (x : Int) : 0 ≤ IntKind.u64.wrap x ∧ IntKind.u64.wrap x ≤ 18446744073709551615 := by rw [IntKind.wrap_u64]; omega
theorem bits_255 (x : Int) : 0 ≤ bits .and .u64 x 255 ∧ bits .and .u64 x 255 ≤ 255 := by
  have h1 : (BitVec.ofInt 64 x &&& BitVec.ofInt 64 255).toNat ≤ 255 := by
    rw [BitVec.toNat_and]
    exact Nat.le_trans Nat.and_le_right (by decide)
  have h2 : bits .and .u64 x 255 = IntKind.u64.wrap ((BitVec.ofInt 64 x &&& BitVec.ofInt 64 255).toNat : Int) := rfl
  rw [h2, IntWalk.u64_in _ (by omega)]
  omega
/-- a cursor in block g: at most k steps have been made -/
structure Cur (w : World) (base g k : Nat) (A : Option Addr) (cap : Nat) (code : List Int) : Prop where
  le : base ≤ g
  blk : ∃ (at_ : Nat) (seed : Int), at_ ≤ k ∧ 0 ≤ seed ∧ seed ≤ 18446744073709551615 ∧ Blk w g 90 #[.slice A code.length cap, .int .i64 (at_ : Int), .int .u64 seed]
  row : Row 1 encU w base A code
  byt : ∀ z ∈ code, 0 ≤ z ∧ z ≤ 255
  len : code.length ≤ cap ∧ cap ≤ maxLen
theorem Cur.step {w : World} {base g k : Nat} {A : Option Addr} {cap : Nat} {code : List Int} {at_ : Nat} {seed : Int} (hle : base ≤ g) (hblk : Blk w g 90 #[.slice A code.length cap, .int .i64 (at_ : Int), .int .u64 seed]) (hrow : Row 1 encU w base A code) (hbyt : ∀ z ∈ code, 0 ≤ z ∧ z ≤ 255) (hlen : code.length ≤ cap ∧ cap ≤ maxLen) (hat : at_ ≤ k) (x : Int) :
    Cur ((w.setCell ⟨g, 1, none⟩ (.int .i64 ((at_ : Int) + 1))).setCell ⟨g, 2, none⟩ (.int .u64 (IntKind.u64.wrap x))).drew.drew base g (k + 1) A cap code ∧ w.grownBy ((w.setCell ⟨g, 1, none⟩ (.int .i64 ((at_ : Int) + 1))).setCell ⟨g, 2, none⟩ (.int .u64 (IntKind.u64.wrap x))).drew.drew (some g) := by
  have hg := grownBy_setCell (grownBy_setCell (World.grownBy.refl w (some g)) 1 (.int .i64 ((at_ : Int) + 1))) 2 (.int .u64 (IntKind.u64.wrap x))
  have hg2 : w.grownBy ((w.setCell ⟨g, 1, none⟩ (.int .i64 ((at_ : Int) + 1))).setCell ⟨g, 2, none⟩ (.int .u64 (IntKind.u64.wrap x))).drew.drew (some g) := ⟨hg.os, hg.tape, hg.output, hg.size, hg.block⟩
  have hb := wrap_u64_bd x
  refine ⟨⟨hle, ⟨at_ + 1, IntKind.u64.wrap x, by omega, hb.1, hb.2, ?_⟩, ?_, hbyt, hlen⟩, hg2⟩
  · have := (hblk.set 1 (.int .i64 ((at_ : Int) + 1))).set 2 (.int .u64 (IntKind.u64.wrap x))
    exact this
  · rcases hrow with rfl | ⟨b, off, hA, hb, hc⟩
    · exact .inl rfl
    · refine .inr ⟨b, off, hA, hb, fun i z hz j hj => ?_⟩
      have h1 := hc i z hz j hj
      have hlt : b < w.heap.size := World.block_lt_of_cell? w _ h1
      exact hg2.cell h1 (by simp; omega)
theorem Cur.drew {w : World} {base g k : Nat} {A : Option Addr} {cap : Nat} {code : List Int} (h : Cur w base g k A cap code) : Cur w.drew base g k A cap code := ⟨h.le, h.blk, h.row, h.byt, h.len⟩
theorem grownDrew {w w' : World} {row : Option Nat} (h : w.grownBy w' row) : w.grownBy w'.drew row := ⟨h.os, h.tape, h.output, h.size, h.block⟩
set_option maxHeartbeats 1000000 in
theorem curNext_is (w : World) (base g k : Nat) (A : Option Addr) (cap : Nat) (code : List Int) (h : Cur w base g k A cap code) (hk : k < 2305843009213693952) (hbw : base ≤ w.heap.size) :
    Calls Try.prog 171 #[.pointer (some ⟨g, 0, none⟩)] w fun e w' => ∃ b : Int, e = .returned (.int .i64 b) ∧ 0 ≤ b ∧ b ≤ 255 ∧ Cur w' base g (k + 1) A cap code ∧ w.grownBy w' (some g) := by
  obtain ⟨hle, ⟨at_, seed, hat, hs0, hs1, hblk⟩, hrow, hbyt, hlen, hcm⟩ := h
  have c0 : w.cell? ⟨g, 0, none⟩ = some (.slice A code.length cap) := hblk.cell 0
  have c1 : w.cell? ⟨g, 1, none⟩ = some (.int .i64 (at_ : Int)) := hblk.cell 1
  have c2 : w.cell? ⟨g, 2, none⟩ = some (.int .u64 seed) := hblk.cell 2
  have hfz := fun o => hblk.frozen o
  have HBLK := hide hblk; have HROW := hide hrow; have HBYT := hide hbyt
  clear hblk hrow hbyt
  by_cases hlt : at_ < code.length
  · have hlt' : (at_ : Int) < code.length := by omega
    obtain ⟨b, off, rfl, hb, hc⟩ := HROW.out.get hlt
    have d0 := hc 0 (by omega)
    rw [Nat.mul_one, Nat.add_zero] at d0
    have hbv := HBYT.out code[at_] (List.getElem_mem hlt)
    generalize code[at_] = bv at *
    change w.cell? ⟨b, off + at_, none⟩ = some (.int .u8 bv) at d0
    go_enter Try.func171, Try.ntmps171
    go_wp2_with fail
    go_region
    go_wp2_with fail
    go_region
    go_wp2_with fail
    have hl1 : (at_ : Int) + 1 ≤ code.length := by omega
    go_region
    go_wp2_with fail
    go_ret
    refine ⟨bv, rfl, hbv.1, hbv.2, ?_⟩
    have hst := Cur.step hle HBLK.out HROW.out HBYT.out ⟨hlen, hcm⟩ hat (IntKind.u64.wrap (IntKind.u64.wrap (seed * 6364136223846793005) + bv) + 604171)
    exact ⟨hst.1.drew, grownDrew hst.2⟩
  · have hlt' : ¬ (at_ : Int) < code.length := by omega
    have hl1 : ¬ (at_ : Int) + 1 ≤ code.length := by omega
    go_enter Try.func171, Try.ntmps171
    go_wp2_with fail
    go_region
    go_wp2_with fail
    go_region
    go_wp2_with fail
    have hb5 := bits_255 (IntKind.u64.wrap (IntKind.u64.wrap (IntKind.u64.wrap (seed * 6364136223846793005)) + 604171) / 1099511627776)
    have hw5 := IntWalk.wrap64_in _ (show -9223372036854775808 ≤ bits .and .u64 (IntKind.u64.wrap (IntKind.u64.wrap (IntKind.u64.wrap (seed * 6364136223846793005)) + 604171) / 1099511627776) 255 ∧ bits .and .u64 (IntKind.u64.wrap (IntKind.u64.wrap (IntKind.u64.wrap (seed * 6364136223846793005)) + 604171) / 1099511627776) 255 ≤ 9223372036854775807 by omega)
    rw [hw5]
    go_ret
    refine ⟨_, rfl, hb5.1, hb5.2, ?_⟩
    exact Cur.step hle HBLK.out HROW.out HBYT.out ⟨hlen, hcm⟩ hat _
theorem Cur.le_k {w : World} {base g k k' : Nat} {A : Option Addr} {cap : Nat} {code : List Int} (h : Cur w base g k A cap code) (hk : k ≤ k') : Cur w base g k' A cap code := by
  obtain ⟨h1, ⟨a, s, h2, h3⟩, h4, h5, h6⟩ := h
  exact ⟨h1, ⟨a, s, by omega, h3⟩, h4, h5, h6⟩
theorem Cur.row_grown {w w' : World} {B g : Nat} {A : Option Addr} {code : List Int} {row : Option Nat} (hr : Row 1 encU w B A code) (hg : w.grownBy w' row) (hrow : ∀ k, row = some k → B ≤ k) : Row 1 encU w' B A code := by
  rcases hr with rfl | ⟨b, off, hA, hb, hc⟩
  · exact .inl rfl
  · exact .inr ⟨b, off, hA, hb, fun i z hz j hj => hg.cell (hc i z hz j hj) (fun e => by have := hrow b e.symm; omega)⟩
/-- a cursor over which others' blocks have grown -/
theorem Cur.grown {w w' : World} {base g k : Nat} {A : Option Addr} {cap : Nat} {code : List Int} {row : Option Nat} (h : Cur w base g k A cap code) (hg : w.grownBy w' row) (hrow : ∀ k, row = some k → base ≤ k ∧ k ≠ g) : Cur w' base g k A cap code := by
  obtain ⟨h1, ⟨a, s, h2, h3, h4, h5⟩, h6, h7, h8⟩ := h
  exact ⟨h1, ⟨a, s, h2, h3, h4, (hg.block g h5.lt (fun e => (hrow g e.symm).2 rfl)).trans h5⟩, Cur.row_grown (g := g) h6 hg fun k e => (hrow k e).1, h7, h8⟩
theorem Cur.below {w w' : World} {base g k : Nat} {A : Option Addr} {cap : Nat} {code : List Int} {B : Nat} (h : Cur w base g k A cap code) (hb : Below B w w') (hg : g < B) : Cur w' base g k A cap code := by
  obtain ⟨h1, ⟨a, s, h2, h3, h4, h5⟩, h6, h7, h8⟩ := h
  exact ⟨h1, ⟨a, s, h2, h3, h4, h5.below hb hg⟩, h6.below hb (by omega) (Nat.le_refl _), h7, h8⟩
theorem Cur.lt {w : World} {base g k : Nat} {A : Option Addr} {cap : Nat} {code : List Int} (h : Cur w base g k A cap code) : g < w.heap.size := by
  obtain ⟨h1, ⟨a, s, h2, h3, h4, h5⟩, h6, h7, h8⟩ := h
  exact h5.lt
theorem grownTrans {a w w' : World} {row : Option Nat} (h : a.grownBy w row) (k : w.grownBy w' row) : a.grownBy w' row :=
  ⟨k.os.trans h.os, k.tape.trans h.tape, k.output.trans h.output, Nat.le_trans h.size k.size, fun i hi hne => (k.block i (Nat.lt_of_lt_of_le hi h.size) hne).trans (h.block i hi hne)⟩
set_option maxHeartbeats 1000000 in
theorem pick_is (n : Int) (w : World) (base g k : Nat) (A : Option Addr) (cap : Nat) (code : List Int) (h : Cur w base g k A cap code) (hk : k + 2 < 2305843009213693952) (hbw : base ≤ w.heap.size) :
    Calls Try.prog 80 #[.pointer (some ⟨g, 0, none⟩), .int .i64 n] w fun e w' => ∃ x : Int, e = .returned (.int .i64 x) ∧ 0 ≤ x ∧ (x < n ∨ x = 0) ∧ Cur w' base g (k + 2) A cap code ∧ w.grownBy w' (some g) := by
  by_cases h1 : n ≤ 1
  · have HC := hide h; clear h
    go_enter Try.func80, Try.ntmps80
    go_wp2_with fail
    go_ret
    exact ⟨0, rfl, Int.le_refl _, .inr rfl, HC.out.le_k (by omega), World.grownBy.refl _ _⟩
  have h1' : ¬ n ≤ 1 := h1
  have hn := curNext_is w base g k A cap code h (by omega) hbw
  have HN := hide hn; clear hn h
  by_cases h2 : 200 < n
  · go_enter Try.func80, Try.ntmps80
    go_wp2_with fail
    refine HN.out.mono ?_; rintro e w1 ⟨b, rfl, hb0, hb1, hC1, hg1⟩
    have hn2 := curNext_is w1 base g (k + 1) A cap code hC1 (by omega) (Nat.le_trans hbw hg1.size)
    have HN2 := hide hn2; clear hn2
    go_wp2_with fail
    refine HN2.out.mono ?_; rintro e w2 ⟨b2, rfl, hb20, hb21, hC2, hg2⟩
    have HC2 := hide hC2
    go_wp2_with fail
    go_ret
    have hm0 := Int.emod_nonneg (b * 256 + b2) (show n ≠ 0 by omega)
    have hm1 := Int.emod_lt_of_pos (b * 256 + b2) (show 0 < n by omega)
    exact ⟨_, rfl, hm0, .inl hm1, HC2.out, grownTrans hg1 hg2⟩
  · have h2' : ¬ 200 < n := h2
    go_enter Try.func80, Try.ntmps80
    go_wp2_with fail
    refine HN.out.mono ?_; rintro e w1 ⟨b, rfl, hb0, hb1, hC1, hg1⟩
    have HC1 := hide hC1
    go_wp2_with fail
    go_ret
    have hm0 := Int.emod_nonneg b (show n ≠ 0 by omega)
    have hm1 := Int.emod_lt_of_pos b (show 0 < n by omega)
    exact ⟨_, rfl, hm0, .inl hm1, HC1.out.le_k (by omega), hg1⟩
theorem one_is (n : Int) (w : World) (base g k : Nat) (A : Option Addr) (cap : Nat) (code : List Int) (h : Cur w base g k A cap code) (hk : k + 2 < 2305843009213693952) (hbw : base ≤ w.heap.size) :
    Calls Try.prog 82 #[.pointer (some ⟨g, 0, none⟩), .int .i64 n] w fun e w' => ∃ x : Bool, e = .returned (.bool x) ∧ Cur w' base g (k + 2) A cap code ∧ w.grownBy w' (some g) := by
  have hn := pick_is n w base g k A cap code h hk hbw
  have HN := hide hn; clear hn h
  go_enter Try.func82, Try.ntmps82
  go_wp2_with fail
  refine HN.out.mono ?_; rintro e w1 ⟨b, rfl, hb0, hb1, hC1, hg1⟩
  have HC1 := hide hC1
  go_wp2_with fail
  go_ret
  exact ⟨_, rfl, HC1.out, hg1⟩
set_option maxHeartbeats 1000000 in
theorem among_is (v : Value) (xs : List Int) (w : World) (base g k : Nat) (A : Option Addr) (cap : Nat) (code : List Int) (hx : Own 1 encI 3 w base v xs) (h1 : 1 ≤ xs.length) (h2 : xs.length ≤ 1000) (h : Cur w base g k A cap code) (hk : k + 2 < 2305843009213693952) (hbw : base ≤ w.heap.size) :
    Calls Try.prog 161 #[.pointer (some ⟨g, 0, none⟩), v] w fun e w' => ∃ x : Int, e = .returned (.int .i64 x) ∧ x ∈ xs ∧ Cur w' base g (k + 2) A cap code ∧ w.grownBy w' (some g) := by
  have hn := pick_is (xs.length : Int) w base g k A cap code h hk hbw
  obtain ⟨at_, seed, _, _, _, hcb⟩ := h.blk
  rcases hx with ⟨_, rfl⟩ | ⟨gx, cx, cs, rfl, hbase, hblk, hc1, hc2, hcs, hf⟩
  · simp at h1
  have hne : gx ≠ g := by
    intro e
    subst e
    have := hblk.symm.trans hcb
    injection this with this
    injection this with _ h2 _
    exact absurd h2 (by decide)
  have HN := hide hn; have HBLK := hide hblk; have HF := hide hf; clear hn h hcb hblk hf
  go_enter Try.func161, Try.ntmps161
  go_wp2_with fail
  refine HN.out.mono ?_; rintro e w1 ⟨b, rfl, hb0, hb1, hC1, hg1⟩
  have hbl : b < xs.length := by omega
  obtain ⟨q, rfl⟩ : ∃ q : Nat, b = (q : Int) := ⟨b.toNat, by omega⟩
  have hq : q < xs.length := by omega
  have hblk1 : Blk w1 gx 3 cs := (hg1.block gx HBLK.out.lt (fun e => hne (by injection e))).trans HBLK.out
  have hcell : w1.cell? ⟨gx, q, none⟩ = some (.int .i64 xs[q]) := by
    rw [hblk1.cell]
    have := HF.out q _ hq (List.getElem?_eq_getElem hq) 0 (by omega)
    rw [Nat.mul_one, Nat.add_zero] at this
    exact this
  have hmem : xs[q] ∈ xs := List.getElem_mem hq
  generalize xs[q] = x at *
  have HC1 := hide hC1; have HM := hide hmem; clear hC1 hmem hblk1
  go_wp2_with fail
  go_ret
  exact ⟨x, rfl, HM.out, HC1.out, hg1⟩
end Go.Proofs.Ytdbcilinoieabaa
