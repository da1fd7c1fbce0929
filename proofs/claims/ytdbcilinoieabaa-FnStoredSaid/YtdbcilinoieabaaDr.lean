/- A walk that draws over a cursor: its state (a cursor in one block of the call's own, all older blocks as they were), and the cursor's functions over it. What is drawn is told only by its bounds. Condition: a cursor that has stepped less than 2^61 times. -/
import Derived.Test.YtdbcilinoieabaaCur
import Derived.IntWalk
namespace Go.Proofs.Ytdbcilinoieabaa
open Go.RowKit
set_option linter.unusedVariables false
theorem cur_ne {α : Type} {kk : Nat} {enc : α → Nat → Value} {e : TypeId} {w : World} {base b g k : Nat} {A : Option Addr} {cap : Nat} {code : List Int} {v : Value} {xs : List α} (hC : Cur w base g k A cap code) (h : Own kk enc e w b v xs) (he : e ≠ 90) : ∀ b', v.ownBlock = some b' → some g ≠ some b' := by
  intro b' hb' hgb
  injection hgb with hgb
  subst hgb
  obtain ⟨at_, seed, _, _, _, hcb⟩ := hC.blk
  rcases h with ⟨rfl, _⟩ | ⟨gx, cx, cs, rfl, hbase, hblk, _⟩
  · simp [Value.ownBlock] at hb'
  · have : gx = g := by simpa [Value.ownBlock] using hb'
    subst this
    have := hblk.symm.trans hcb
    injection this with this
    injection this with _ h2 _
    exact he h2
theorem own_ints (w : World) (l : List Int) (base : Nat) (hb : base ≤ w.heap.size) (hl : l.length ≤ maxLen) : Own 1 encI 3 (w.alloc (.cells (l.map (Value.int .i64)).toArray 3)) base (.slice (some ⟨w.heap.size, 0, none⟩) l.length l.length) l :=
  Own.made (n := l.length) rfl hb (Blk.new w _ _) (by simp) hl (by
    intro j z hj hz k hk
    obtain rfl : k = 0 := by omega
    simp [hz, encI])
theorem grownOwn {a w w' : World} {g : Nat} {row : Option Nat} (h : a.grownBy w (some g)) (k : w.grownBy w' row) (hr : ∀ b, row = some b → a.heap.size ≤ b) : a.grownBy w' (some g) :=
  ⟨k.os.trans h.os, k.tape.trans h.tape, k.output.trans h.output, Nat.le_trans h.size k.size, fun i hi hne => (k.block i (Nat.lt_of_lt_of_le hi h.size) (fun e => by have := hr i e.symm; omega)).trans (h.block i hi hne)⟩
theorem own_push_grown {α : Type} {kk : Nat} {enc : α → Nat → Value} {e : TypeId} {w0 w w' : World} {base b g k : Nat} {A : Option Addr} {cap : Nat} {code : List Int} {v : Value} {xs : List α} {cs : Array Value} {e' : TypeId} (hG : w0.grownBy w (some g)) (hC : Cur w base g k A cap code) (hO : Own kk enc e w b v xs) (hb : w0.heap.size ≤ b) (hg : (w.alloc (.cells cs e')).grownBy w' v.ownBlock) (he : e ≠ 90) (hbb : base ≤ w0.heap.size) : w0.grownBy w' (some g) ∧ Cur w' base g k A cap code := by
  have hlt := hO.lt
  have hne := cur_ne hC hO he
  refine ⟨grownOwn (grownTrans hG (World.grownBy_alloc w _ _)) hg (fun b' hb' => Nat.le_trans hb (hlt b' hb').1), ?_⟩
  refine (hC.below (below_alloc w _) hC.lt).grown hg (fun b' hb' => ⟨Nat.le_trans hbb (Nat.le_trans hb (hlt b' hb').1), fun e => hne b' hb' (by rw [e])⟩)
def lenV : Value → Nat
  | .slice _ n _ => n
  | _ => 0
theorem own_lenV {α : Type} {kk : Nat} {enc : α → Nat → Value} {e : TypeId} {w : World} {b : Nat} {v : Value} {xs : List α} (h : Own kk enc e w b v xs) : lenV v = xs.length := by
  rcases h with ⟨rfl, rfl⟩ | ⟨g, cap, cs, rfl, _⟩ <;> rfl
/-- a code of bytes as an argument gives it -/
structure Code (w : World) (v : Value) (A : Option Addr) (cap : Nat) (code : List Int) : Prop where
  eq : v = .slice A code.length cap
  row : Row 1 encU w w.heap.size A code
  byt : ∀ z ∈ code, 0 ≤ z ∧ z ≤ 255
  len : code.length ≤ cap ∧ cap ≤ maxLen
theorem Code.below {w w' : World} {v : Value} {A : Option Addr} {cap : Nat} {code : List Int} {B : Nat} (h : Code w v A cap code) (hb : Below B w w') (hB : w.heap.size ≤ B) : Code w' v A cap code :=
  ⟨h.eq, h.row.below hb hB hb.size, h.byt, h.len⟩
theorem cur_new {w : World} {v : Value} {A : Option Addr} {cap : Nat} {code : List Int} (h : Code w v A cap code) :
    Cur (w.alloc (.cells #[v, .int .i64 0, .int .u64 0] 90)) w.heap.size w.heap.size 0 A cap code := by
  refine ⟨Nat.le_refl _, ⟨0, 0, Nat.le_refl _, Int.le_refl _, by decide, ?_⟩, h.row.below (below_alloc w _) (Nat.le_refl _) (Nat.le_refl _), h.byt, h.len⟩
  rw [← h.eq]
  exact Blk.new w _ _
theorem below_cur {w w1 w' : World} (hb : Below w.heap.size w w1) (hg : w1.grownBy w' (some w.heap.size)) : Below w.heap.size w w' :=
  hb.grown hg hb.size (fun k e => by injection e with e; omega)
theorem ownLow {α : Type} {k : Nat} {enc : α → Nat → Value} {e : TypeId} {w : World} {b b' : Nat} {v : Value} {xs : List α} (h : Own k enc e w b v xs) (hb : b' ≤ b) : Own k enc e w b' v xs := by
  rcases h with h | ⟨g, cap, cs, h1, h2, h3⟩
  · exact .inl h
  · exact .inr ⟨g, cap, cs, h1, Nat.le_trans hb h2, h3⟩
theorem wf8 {z : Int} (h : (Lit.int .u8 z).wf = true) : 0 ≤ z ∧ z ≤ 255 := by
  simpa [Lit.wf, IntKind.min, IntKind.max, IntKind.signed, IntKind.bits] using h

/-- the state of a walk that draws: the cursor, after at most k steps; older blocks as they were -/
structure DS (w0 : World) (base g : Nat) (A : Option Addr) (cap : Nat) (code : List Int) (k : Nat) (w : World) : Prop where
  cur : Cur w base g k A cap code
  gr : w0.grownBy w (some g)
  hb : base ≤ w0.heap.size
section
variable {w0 w w' : World} {base g : Nat} {A : Option Addr} {cap : Nat} {code : List Int} {k k' : Nat}
theorem DS.start (h : Cur w base g k A cap code) (hb : base ≤ w.heap.size) : DS w base g A cap code k w := ⟨h, World.grownBy.refl _ _, hb⟩
theorem DS.sz (h : DS w0 base g A cap code k w) : base ≤ w.heap.size := Nat.le_trans h.hb h.gr.size
theorem DS.le (h : DS w0 base g A cap code k w) (hk : k ≤ k') : DS w0 base g A cap code k' w := ⟨h.cur.le_k hk, h.gr, h.hb⟩
theorem DS.next (h : DS w0 base g A cap code k w) (hC : Cur w' base g k' A cap code) (hg : w.grownBy w' (some g)) : DS w0 base g A cap code k' w' := ⟨hC, grownTrans h.gr hg, h.hb⟩
theorem DS.below (h : DS w0 base g A cap code k w) (hb : Below w.heap.size w w') : DS w0 base g A cap code k w' :=
  ⟨h.cur.below hb h.cur.lt, ⟨hb.os.trans h.gr.os, hb.tape.trans h.gr.tape, hb.output.trans h.gr.output, Nat.le_trans h.gr.size hb.size, fun i hi hne => (hb.block i (Nat.lt_of_lt_of_le hi h.gr.size)).trans (h.gr.block i hi hne)⟩, h.hb⟩
theorem DS.alloc (h : DS w0 base g A cap code k w) (o : Obj) : DS w0 base g A cap code k (w.alloc o) := h.below (below_alloc w o)
theorem DS.drew (h : DS w0 base g A cap code k w) : DS w0 base g A cap code k w.drew := h.below (Below.refl _ _).drew
/-- a block of the walk's own is written or grown -/
theorem DS.grown {row : Option Nat} (h : DS w0 base g A cap code k w) (hg : w.grownBy w' row) (hr : ∀ b, row = some b → w0.heap.size ≤ b ∧ b ≠ g) : DS w0 base g A cap code k w' :=
  ⟨h.cur.grown hg fun b hb => ⟨Nat.le_trans h.hb (hr b hb).1, (hr b hb).2⟩, grownOwn h.gr hg fun b hb => (hr b hb).1, h.hb⟩
theorem DS.own {α : Type} {kk : Nat} {enc : α → Nat → Value} {e : TypeId} {b : Nat} {v : Value} {xs : List α} (h : DS w0 base g A cap code k w) (hO : Own kk enc e w b v xs) (hg : w.grownBy w' (some g)) (he : e ≠ 90) : Own kk enc e w' b v xs :=
  hO.grown hg (cur_ne h.cur hO he)
theorem DS.push {α : Type} {kk : Nat} {enc : α → Nat → Value} {e : TypeId} {b : Nat} {v : Value} {xs : List α} {cs : Array Value} {e' : TypeId} (h : DS w0 base g A cap code k w) (hO : Own kk enc e w b v xs) (hb : w0.heap.size ≤ b) (hg : (w.alloc (.cells cs e')).grownBy w' v.ownBlock) (he : e ≠ 90) : DS w0 base g A cap code k w' :=
  have hx := own_push_grown h.gr h.cur hO hb hg he h.hb
  ⟨hx.2, hx.1, h.hb⟩
end
theorem DS.blk {w0 w w' : World} {base g : Nat} {A : Option Addr} {cap : Nat} {code : List Int} {k : Nat} {b : Nat} {t : TypeId} {cs : Array Value} (h : DS w0 base g A cap code k w) (hB : Blk w b t cs) (hg : w.grownBy w' (some g)) (ht : t ≠ 90) : Blk w' b t cs := by
  refine (hg.block b hB.lt fun e => ?_).trans hB
  injection e with e
  subst e
  obtain ⟨at_, seed, _, _, _, hcb⟩ := h.cur.blk
  have := hB.symm.trans hcb
  injection this with this
  injection this with _ h2 _
  exact ht h2
/-- a cell of a new block of the walk's own is written -/
theorem DS.set {w0 w : World} {base g : Nat} {A : Option Addr} {cap : Nat} {code : List Int} {k : Nat} {b : Nat} (h : DS w0 base g A cap code k w) (hb : w0.heap.size ≤ b) (hg : g < w0.heap.size) (i : Nat) (u : Value) : DS w0 base g A cap code k (w.setCell ⟨b, i, none⟩ u) :=
  h.grown (grownBy_setCell (World.grownBy.refl w (some b)) i u) fun b' hb' => by injection hb' with hb'; omega
theorem DS.lt {w0 w : World} {base g : Nat} {A : Option Addr} {cap : Nat} {code : List Int} {k : Nat} (h : DS w0 base g A cap code k w) : g < w.heap.size := h.cur.lt
/-- what an append of one element leaves, in a walk that draws -/
theorem DS.pushed {α : Type} {kk : Nat} {enc : α → Nat → Value} {e : TypeId} {w0 w w' : World} {base g : Nat} {A : Option Addr} {cap : Nat} {code : List Int} {k : Nat} {b : Nat} {v : Value} {xs : List α} {cs : Array Value} {e' : TypeId} (h : DS w0 base g A cap code k w) (hO : Own kk enc e w b v xs) (hb : w0.heap.size ≤ b) (hg : (w.alloc (.cells cs e')).grownBy w' v.ownBlock) (he : e ≠ 90) : DS w0 base g A cap code k w' := h.push hO hb hg he
/-- the walk's own end: from the cursor's making on, only its block has turned -/
theorem DS.end {w w' : World} {v : Value} {A : Option Addr} {cap : Nat} {code : List Int} {k : Nat} (h : DS (w.alloc (.cells #[v, .int .i64 0, .int .u64 0] 90)) w.heap.size w.heap.size A cap code k w') : Below w.heap.size w w' :=
  below_cur (below_alloc w _) h.gr
theorem DS.new {w : World} {v : Value} {A : Option Addr} {cap : Nat} {code : List Int} (h : Code w v A cap code) :
    DS (w.alloc (.cells #[v, .int .i64 0, .int .u64 0] 90)) w.heap.size w.heap.size A cap code 0 (w.alloc (.cells #[v, .int .i64 0, .int .u64 0] 90)) :=
  DS.start (cur_new h) (by simp)
section
variable {w0 w : World} {base g : Nat} {A : Option Addr} {cap : Nat} {code : List Int} {k : Nat}
theorem pickD (n : Int) (h : DS w0 base g A cap code k w) (hk : k + 2 < 2305843009213693952) :
    Calls Try.prog 80 #[.pointer (some ⟨g, 0, none⟩), .int .i64 n] w fun e w' => ∃ x : Int, e = .returned (.int .i64 x) ∧ 0 ≤ x ∧ (x < n ∨ x = 0) ∧ DS w0 base g A cap code (k + 2) w' ∧ w.grownBy w' (some g) :=
  (pick_is n w base g k A cap code h.cur hk h.sz).mono fun e w' ⟨x, he, h0, h1, hC, hg⟩ => ⟨x, he, h0, h1, h.next hC hg, hg⟩
theorem oneD (n : Int) (h : DS w0 base g A cap code k w) (hk : k + 2 < 2305843009213693952) :
    Calls Try.prog 82 #[.pointer (some ⟨g, 0, none⟩), .int .i64 n] w fun e w' => ∃ x : Bool, e = .returned (.bool x) ∧ DS w0 base g A cap code (k + 2) w' ∧ w.grownBy w' (some g) :=
  (one_is n w base g k A cap code h.cur hk h.sz).mono fun e w' ⟨x, he, hC, hg⟩ => ⟨x, he, h.next hC hg, hg⟩
/-- one of the numbers of a list that the text lays there -/
theorem amongD (l : List Int) {n m : Nat} {cs : Array Value} (h : DS w0 base g A cap code k w) (hcs : cs = (l.map (Value.int .i64)).toArray) (hn : n = l.length) (hm : m = l.length) (h1 : 1 ≤ l.length) (h2 : l.length ≤ 1000) (hk : k + 2 < 2305843009213693952) :
    Calls Try.prog 161 #[.pointer (some ⟨g, 0, none⟩), .slice (some ⟨w.heap.size, 0, none⟩) n m] (w.alloc (.cells cs 3)) fun e w' => ∃ x : Int, e = .returned (.int .i64 x) ∧ x ∈ l ∧ DS w0 base g A cap code (k + 2) w' ∧ w.grownBy w' (some g) := by
  subst hcs hn hm
  have ha := h.alloc (.cells (l.map (Value.int .i64)).toArray 3)
  refine (among_is _ l _ base g k A cap code (own_ints w l base h.sz (by simp only [maxLen]; omega)) h1 h2 ha.cur hk ha.sz).mono fun e w' ⟨x, he, hm, hC, hg⟩ => ⟨x, he, hm, ha.next hC hg, grownTrans (World.grownBy_alloc w _ _) hg⟩
end
theorem results_tmp4_d {fn : Func} {t u v x : Tmp} (h : fn.results = #[.tmp t, .tmp u, .tmp v, .tmp x]) (tmps : Array Value) (P : Program) (w : World) :
    (results fn tmps).run P w = .ok (.tuple #[tmps.getD t undef, tmps.getD u undef, tmps.getD v undef, tmps.getD x undef]) w := by
  simp [results, h]
end Go.Proofs.Ytdbcilinoieabaa
