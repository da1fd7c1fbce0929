/- Contracts of impl's line and makerIds. Condition: the list is a list of makers that has the id. -/
import Derived.Test.YtapbnggdclpokaaDoorL7C
import Derived.Maps.AppendAt
namespace Go.Proofs.YtapbnggdclpokaaDoor
open Go.RowKit Go.Lib
set_option linter.unusedVariables false
section
variable {P : Program} {α : Type} {k : Nat} {enc : α → Nat → Value}
theorem wpList_push1s (w : World) {w0 : World} {cs : Array Value} {ops : Array Oper} {rest : List Oper} {o : Oper} {a : Act} {Q : Exit → Act → World → Prop} (hgd : o.guard = none) (s x : Operand) (t : TypeId)
    (ho : o.op = .call { callee := .builtin .append, args := #[s, x], argTypes := #[t, t] })
    (e : TypeId) (z : Value) (bytes : Nat) (ht : P.underlying t = some (.slice e)) (hi : (P.info? e).map (fun i => (i.zero, i.size, i.bytes)) = some (some z, k, bytes))
    (hzs : z.cells.size = k) (hk : 0 < k) (hby : bytes ≤ 4096) (hone : ∀ x j, (enc x j).oneCell' = true)
    (base : Nat) (v : Value) (xs : List α) (hs : a.eval s = v) (hown : Own k enc e w0 base v xs) (y : α) (c m : Nat) (hm : m = w0.heap.size) (hx : a.eval x = .slice (some ⟨m, 0, none⟩) 1 c) (hcs : cs.toList = flat k enc [y])
    (hlen : xs.length ≤ 16777216) (hbase : base ≤ w0.heap.size) {B : Nat} {a0 : World} (hbel : Below B a0 w0) (hB : B ≤ base) (hw : w = w0.alloc (.cells cs e))
    (h : ∀ v' w', Own k enc e w' base v' (xs ++ [y]) → Below B a0 w' → (w0.alloc (.cells cs e)).grownBy w' v.ownBlock → wpList P ops Q rest (a.put o.dst v') w') : wpList P ops Q (o :: rest) a w := by
  subst hm
  exact wpList_push1 w hgd s x t ho e z bytes ht hi hzs hk hby hone base v xs hs hown y c hx hcs hlen hbase hbel hB hw h
/-- the same append: where the row lies behind it -/
theorem wpList_push1_at (w : World) {w0 : World} {cs : Array Value} {ops : Array Oper} {rest : List Oper} {o : Oper} {a : Act} {Q : Exit → Act → World → Prop} (hgd : o.guard = none) (s x : Operand) (t : TypeId)
    (ho : o.op = .call { callee := .builtin .append, args := #[s, x], argTypes := #[t, t] })
    (e : TypeId) (z : Value) (bytes : Nat) (ht : P.underlying t = some (.slice e)) (hi : (P.info? e).map (fun i => (i.zero, i.size, i.bytes)) = some (some z, k, bytes))
    (hzs : z.cells.size = k) (hk : 0 < k) (hby : bytes ≤ 4096) (hone : ∀ x j, (enc x j).oneCell' = true)
    (base : Nat) (v : Value) (xs : List α) (hs : a.eval s = v) (hown : Own k enc e w0 base v xs) (y : α) (c m : Nat) (hm : m = w0.heap.size) (hx : a.eval x = .slice (some ⟨m, 0, none⟩) 1 c) (hcs : cs.toList = flat k enc [y])
    (hlen : xs.length ≤ 16777216) (hbase : base ≤ w0.heap.size) {B : Nat} {a0 : World} (hbel : Below B a0 w0) (hB : B ≤ base) (hw : w = w0.alloc (.cells cs e))
    (h : ∀ v' w', Own k enc e w' base v' (xs ++ [y]) → Below B a0 w' → (w0.alloc (.cells cs e)).grownBy w' v.ownBlock → (v'.ownBlock = v.ownBlock ∨ ∃ g, v'.ownBlock = some g ∧ w0.heap.size ≤ g) → wpList P ops Q rest (a.put o.dst v') w') : wpList P ops Q (o :: rest) a w := by
  subst hm hw
  obtain ⟨i, h1, h2, h3, h4⟩ := info_parts' hi
  have hb1 : (xs.length + 1) * bytes ≤ 16777217 * 4096 := Nat.mul_le_mul (by omega) hby
  refine wpList_append_own_at (w := w0.alloc (.cells cs e)) hgd s x t ho base e i z k bytes ht h1 h2 h3 h4 hzs hk v xs.length (flat k enc xs) hs (hown.alloc _).ownsRow ⟨w0.heap.size, 0, none⟩ 1 c (flat k enc [y]) hx (by rw [flat_length]; rfl) (src_new w0 hcs) (one_cells hone [y]) (by simp only [maxLen]; omega) (by omega) (by simp; omega) ?_
  intro v' w' h2 h3 _ h5
  rw [← flat_append] at h2
  refine h v' w' (Own.of_ownsRow h2 (by simp)) ((hown.alloc _).belowGrown (hbel.alloc (by omega) _) h3 hB (by simp; omega)) h3 ?_
  rcases h5 with h5 | h5
  · exact .inl h5
  · exact .inr ⟨_, h5, by simp⟩
end
def mks (xs : List SMaker) (l : List Nat) : List SMaker := l.map (SMaker.at xs)
def SMaker.boxed (c : SMaker) : Array Value := #[.int .i64 c.ident, .string c.name, .int .i64 c.frm, .int .i64 c.untl, .int .i64 c.heir]
theorem own_oneM (w : World) {B : Nat} (hB : B ≤ w.heap.size) (a0 : Int) (a1 : ByteArray) (a2 a3 a4 : Int) : Own 5 SMaker.enc 27 (w.alloc (.cells #[.int .i64 a0, .string a1, .int .i64 a2, .int .i64 a3, .int .i64 a4] 27)) B (.slice (some ⟨w.heap.size, 0, none⟩) 1 1) [(⟨a0, a1, a2, a3, a4⟩ : SMaker)] :=
  Own.made (cs := #[.int .i64 a0, .string a1, .int .i64 a2, .int .i64 a3, .int .i64 a4]) rfl hB (Blk.new _ _ _) rfl (show (1 : Nat) ≤ maxLen by decide) (by
    intro j x hj hx c hc
    obtain rfl : j = 0 := by simpa using hj
    obtain rfl : (⟨a0, a1, a2, a3, a4⟩ : SMaker) = x := by simpa using hx
    have hc' : c = 0 ∨ c = 1 ∨ c = 2 ∨ c = 3 ∨ c = 4 := by omega
    rcases hc' with rfl | rfl | rfl | rfl | rfl <;> rfl)
set_option maxHeartbeats 1000000 in
theorem line_is (v : Value) (xs : List SMaker) (id : Int) (k0 : Nat) (w : World) (h : Is 5 SMaker.enc w v xs) (hid : findM xs id = (k0 : Int)) (l : List Nat) (hl : LineFrom xs k0 l) (hlen : l.length ≤ 701) :
    Calls Tryd.prog 46 #[v, .int .i64 id] w fun e w' => ∃ r, e = .returned r ∧ Own 5 SMaker.enc 27 w' w.heap.size r (mks xs l) ∧ Below w.heap.size w w' := by
  have hm := h.len
  have HI := hide h
  have hk0 := hl.first
  have hk0' : (k0 : Int) < xs.length := by omega
  obtain ⟨A, cap, rfl, hr, _, _⟩ := h
  have HLEN := hide hlen; clear hlen
  have HL := hide hl; clear hl
  have HID := hide hid; clear hid
  generalize hB : w.heap.size = B at hr ⊢
  have HR := hide hr; clear hr
  go_enter Tryd.func46, Tryd.ntmps46
  go_wp2_with fail
  refine (makerAt_any _ xs id _ HI.out).mono ?_; rintro e w1 ⟨rfl, hb1⟩
  rw [HID.out]
  rw [hB] at hb1
  have hs1 : B ≤ w1.heap.size := by have := hb1.size; rw [hB] at this; exact this
  obtain ⟨b, off, rfl, hb, c0, c1, c2, c3, c4⟩ := SMaker.cells HR.out hk0 hb1
  have hat : SMaker.at xs k0 = ⟨xs[k0].ident, xs[k0].name, xs[k0].frm, xs[k0].untl, xs[k0].heir⟩ := SMaker.at_lt hk0
  generalize xs[k0].ident = y0 at *; generalize xs[k0].name = y1 at *; generalize xs[k0].frm = y2 at *; generalize xs[k0].untl = y3 at *; generalize xs[k0].heir = y4 at *
  have HAT := hide hat; clear hat
  have HB := hide hB; clear hB
  have hI := fun W (hb : Below B w W) => HI.out.below hb (by rw [HB.out]; exact Nat.le_refl _)
  have HII := hide hI; clear hI
  go_wp2_with fail
  obtain ⟨rest0, hrest0⟩ : ∃ rest0, l = k0 :: rest0 := by
    cases HL.out with
    | stop _ _ => exact ⟨_, rfl⟩
    | go _ _ _ _ => exact ⟨_, rfl⟩
  have HREST0 := hide hrest0; clear hrest0
  generalize hgb : w1.heap.size = gb at hs1
  go_loopg [6] rest0.length (fun g s wr => ∃ (k : Nat) (dn rest : List Nat), g = rest.length ∧ dn ++ rest = l ∧ LineFrom xs k (k :: rest) ∧ Own 5 SMaker.enc 27 wr (gb + 1) s (mks xs dn) ∧ Blk wr gb 27 (SMaker.at xs k).boxed ∧ Below B w wr)
  case atStart =>
    subst hgb
    refine ⟨k0, [k0], rest0, rfl, HREST0.out.symm, HREST0.out ▸ HL.out, ?_, ?_, (hb1.alloc hs1 _).alloc (by simp; omega) _⟩
    · simp only [mks, List.map_cons, List.map_nil, HAT.out]
      have := own_oneM (w1.alloc (.cells #[.int .i64 y0, .string y1, .int .i64 y2, .int .i64 y3, .int .i64 y4] 27)) (B := w1.heap.size + 1) (by simp) y0 y1 y2 y3 y4
      simpa using this
    · rw [HAT.out]
      exact (Blk.new _ _ _).alloc _
  case round =>
    obtain ⟨k, dn, rest, rfl, hcat, hfrom, hown, hblk, hbel⟩ := hrel
    have hgl := hblk.lt
    have HOW := hide hown; clear hown
    have hsz : B ≤ wr.heap.size := by have := hbel.size; rw [HB.out] at this; exact this
    have hdl : (mks xs dn).length ≤ 16777216 := by
      have h1 := congrArg List.length hcat
      rw [List.length_append] at h1
      have h2 := HLEN.out
      simp only [mks, List.length_map]; omega
    have HCAT := hide hcat; clear hcat c0 c1 c2 c3 c4
    have e4 : wr.cell? ⟨gb, 4, none⟩ = some (.int .i64 (SMaker.at xs k).heir) := by rw [hblk.cell]; rfl
    have HBLK := hide hblk; clear hblk
    generalize hrr : k :: rest = kr at hfrom
    cases hfrom with
    | stop _ hz =>
      injection hrr with _ hrr
      subst hrr
      rw [hz] at e4
      go_wp2_with fail
      go_ret
      refine ⟨_, rfl, ?_, hbel⟩
      have := HOW.out.mono (show B ≤ gb + 1 by omega)
      rw [← HCAT.out, List.append_nil]
      exact this
    | @go _ j l' _ hz hf hrest =>
      injection hrr with _ hrr
      subst hrr
      generalize hh : (SMaker.at xs k).heir = y at hz hf e4
      have hz2 : (y == 0) = false := by simpa using hz
      have hz3 : (y != 0) = true := by simp [bne, hz2]
      have hj := hrest.first
      have hj' : (j : Int) < xs.length := by omega
      have HF := hide hf; have HREST := hide hrest; have HH := hide hh; clear hf hrest hh hz
      go_wp2_with fail
      refine (makerAt_any _ xs y _ (HII.out _ hbel)).mono ?_; rintro e w2 ⟨rfl, hb2⟩
      rw [HF.out]
      have B2 := bstep hbel hb2 hsz
      have hbk2 := HBLK.out.below hb2 hgl
      have how2 := HOW.out.below hb2
      have hgl2 : gb < w2.heap.size := by have := hb2.size; omega
      obtain ⟨b', off', hA, hb', d0, d1, d2, d3, d4⟩ := SMaker.cells HR.out hj B2
      injection hA with hA; injection hA with hA1 hA2; subst hA1 hA2
      have hat2 : SMaker.at xs j = ⟨xs[j].ident, xs[j].name, xs[j].frm, xs[j].untl, xs[j].heir⟩ := SMaker.at_lt hj
      generalize xs[j].ident = z0 at *; generalize xs[j].name = z1 at *; generalize xs[j].frm = z2 at *; generalize xs[j].untl = z3 at *; generalize xs[j].heir = z4 at *
      have HAT2 := hide hat2; clear hat2
      have g0 := hbk2.some (i := 0) (show 0 < 5 by omega); have g1 := hbk2.some (i := 1) (show 1 < 5 by omega); have g2 := hbk2.some (i := 2) (show 2 < 5 by omega); have g3 := hbk2.some (i := 3) (show 3 < 5 by omega); have g4 := hbk2.some (i := 4) (show 4 < 5 by omega)
      have hf := hbk2.frozen
      have HBK2 := hide hbk2; have HOW2 := hide how2; clear hbk2 how2 e4 hb2
      have hbs : B ≤ gb := hs1
      have hown3 : Own 5 SMaker.enc 27 (((((w2.setCell ⟨gb, 0, none⟩ (.int .i64 z0)).setCell ⟨gb, 1, none⟩ (.string z1)).setCell ⟨gb, 2, none⟩ (.int .i64 z2)).setCell ⟨gb, 3, none⟩ (.int .i64 z3)).setCell ⟨gb, 4, none⟩ (.int .i64 z4)) (gb + 1) u6 (mks xs dn) := by
        have hne : ∀ g, u6.ownBlock = some g → g ≠ gb := fun g hg => by have := (HOW2.out.lt g hg).1; omega
        exact ((((HOW2.out.setCell hne _).setCell hne _).setCell hne _).setCell hne _).setCell hne _
      have hbel3 : Below B w (((((w2.setCell ⟨gb, 0, none⟩ (.int .i64 z0)).setCell ⟨gb, 1, none⟩ (.string z1)).setCell ⟨gb, 2, none⟩ (.int .i64 z2)).setCell ⟨gb, 3, none⟩ (.int .i64 z3)).setCell ⟨gb, 4, none⟩ (.int .i64 z4)) :=
        ((((B2.setCell hbs _).setCell hbs _).setCell hbs _).setCell hbs _).setCell hbs _
      have hblk3 : Blk (((((w2.setCell ⟨gb, 0, none⟩ (.int .i64 z0)).setCell ⟨gb, 1, none⟩ (.string z1)).setCell ⟨gb, 2, none⟩ (.int .i64 z2)).setCell ⟨gb, 3, none⟩ (.int .i64 z3)).setCell ⟨gb, 4, none⟩ (.int .i64 z4)) gb 27 #[.int .i64 z0, .string z1, .int .i64 z2, .int .i64 z3, .int .i64 z4] :=
        ((((HBK2.out.set 0 _).set 1 _).set 2 _).set 3 _).set 4 _
      have HOWN3 := hide hown3; have HBEL3 := hide hbel3; have HBLK3 := hide hblk3; clear hown3 hbel3 hblk3
      go_wp2_with (at_builtin; refine wpList_push1s (k := 5) (enc := SMaker.enc) _ rfl _ _ 32 rfl 27 (.agg #[.int .i64 0, .string ⟨#[]⟩, .int .i64 0, .int .i64 0, .int .i64 0]) 48 Tryd.underlying32 SMaker.info rfl (by omega) (by omega) SMaker.one (gb + 1) _ (mks xs dn) rfl HOWN3.out (⟨z0, z1, z2, z3, z4⟩ : SMaker) _ _ (by simp [World.setCell]) rfl rfl hdl (by simp [World.setCell]; omega) HBEL3.out (by omega) rfl ?_; intro v1 w3 ho3 hb3 hg3)
      have hbk4 := HBLK3.out.alloc (.cells #[.int .i64 z0, .string z1, .int .i64 z2, .int .i64 z3, .int .i64 z4] 27)
      have hbk5 : Blk w3 gb 27 #[.int .i64 z0, .string z1, .int .i64 z2, .int .i64 z3, .int .i64 z4] := by
        have := hg3.block gb (by simp [World.setCell]; omega) (fun e => by have := (HOW2.out.lt gb e.symm).1; omega)
        exact this.trans hbk4
      obtain ⟨l2, hl2⟩ : ∃ l2, rest = j :: l2 := by
        cases HREST.out with
        | stop _ _ => exact ⟨_, rfl⟩
        | go _ _ _ _ => exact ⟨_, rfl⟩
      subst hl2
      have HO3 := hide ho3; have HK5 := hide hbk5; clear ho3 hbk5 hbk4 hg3
      go_roundg l2.length
      case measure => simp
      case rel =>
        refine ⟨j, dn ++ [j], l2, rfl, ?_, HREST.out, ?_, ?_, hb3⟩
        · rw [List.append_assoc]; exact HCAT.out
        · have := HO3.out
          simp only [mks, List.map_append, List.map_cons, List.map_nil, HAT2.out] at this ⊢
          exact this
        · rw [HAT2.out]; exact HK5.out
end Go.Proofs.YtapbnggdclpokaaDoor
