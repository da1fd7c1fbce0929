/- Drawers (structs of four numbers and a slice of numbers): lists of them as they lie in memory, the library's search over them with a predicate, and own lists of them, each with flats in a block of its own. No condition beyond lengths below 2^63. -/
import Derived.Test.YtdbcilinoieabaaStInt
import Derived.Shelf.GgClosure.Gives
namespace Go.Proofs.Ytdbcilinoieabaa
open Go.RowKit Go.ChangeShapes Go.WideShapes Go.Deep
set_option linter.unusedVariables false
/-- a drawer, its flats as a list -/
structure DrV where
  (ident wide high holds : Int) (fl : List Int)
/-- a drawer as it lies in memory -/
structure SDr where
  (ident wide high holds : Int) (A : Option Addr) (xs : List Int) (cap : Nat)
def SDr.pl (r : SDr) : DrV := ⟨r.ident, r.wide, r.high, r.holds, r.xs⟩
def SDr.fv (r : SDr) : Value := .slice r.A r.xs.length r.cap
def SDr.enc (c : SDr) : Nat → Value := fun j => match j with | 0 => .int .i64 c.ident | 1 => .int .i64 c.wide | 2 => .int .i64 c.high | 3 => .int .i64 c.holds | _ => .slice c.A c.xs.length c.cap
theorem SDr.one : ∀ (c : SDr) (j : Nat), (SDr.enc c j).oneCell' = true := fun c j => by unfold SDr.enc; split <;> rfl
theorem SDr.info : (Try.prog.info? 70).map (fun i => (i.zero, i.size, i.bytes)) = some (some (.agg #[.int .i64 0, .int .i64 0, .int .i64 0, .int .i64 0, .slice none 0 0]), 5, 56) := by kernel_rfl
def SDr.ok (w : World) (B : Nat) (r : SDr) : Prop := Row 1 encI w B r.A r.xs ∧ r.xs.length ≤ r.cap ∧ r.cap ≤ maxLen
theorem SDr.ok.below2 {w w' : World} {B B0 B' : Nat} {r : SDr} (h : r.ok w B) (hb : Below B0 w w') (h0 : B ≤ B0) (hB : B ≤ B') : r.ok w' B' := ⟨h.1.below hb h0 hB, h.2⟩
theorem SDr.ok.is {w : World} {r : SDr} (h : r.ok w w.heap.size) : Is 1 encI w r.fv r.xs := ⟨_, _, rfl, h.1, h.2.1, h.2.2⟩
/-- the value v is the list of drawers ds -/
def IsD (w : World) (v : Value) (ds : List DrV) : Prop := ∃ rs : List SDr, rs.map SDr.pl = ds ∧ Is 5 SDr.enc w v rs ∧ ∀ r ∈ rs, r.ok w w.heap.size
theorem IsD.below {w w' : World} {v : Value} {ds : List DrV} (h : IsD w v ds) {B : Nat} (hb : Below B w w') (hB : w.heap.size ≤ B) : IsD w' v ds := by
  obtain ⟨rs, h1, h2, h3⟩ := h
  exact ⟨rs, h1, h2.below hb hB, fun r hr => (h3 r hr).below2 hb hB hb.size⟩
theorem IsD.nil {w : World} : IsD w (.slice none 0 0) [] := ⟨[], rfl, Is.nil, by simp⟩
theorem SDr.cells {w : World} {B : Nat} {A : Option Addr} {xs : List SDr} (h : Row 5 SDr.enc w B A xs) {i : Nat} (hi : i < xs.length) {wr : World} (hb : Below B w wr) :
    ∃ b off, A = some ⟨b, off, none⟩ ∧ b < B ∧ wr.cell? ⟨b, off + i * 5, none⟩ = some (.int .i64 xs[i].ident) ∧ wr.cell? ⟨b, off + i * 5 + 1, none⟩ = some (.int .i64 xs[i].wide) ∧ wr.cell? ⟨b, off + i * 5 + 2, none⟩ = some (.int .i64 xs[i].high) ∧ wr.cell? ⟨b, off + i * 5 + 3, none⟩ = some (.int .i64 xs[i].holds) ∧ wr.cell? ⟨b, off + i * 5 + 4, none⟩ = some (.slice xs[i].A xs[i].xs.length xs[i].cap) := by
  obtain ⟨b, off, rfl, hl, hc⟩ := h.get hi
  have hcell := fun j hj => (hb.cell (p := ⟨b, off + i * 5 + j, none⟩) hl).trans (hc j hj)
  exact ⟨b, off, rfl, hl, hcell 0 (by omega), hcell 1 (by omega), hcell 2 (by omega), hcell 3 (by omega), hcell 4 (by omega)⟩
/-- the predicate g with the captured values cp answers p, in whatever world in which what lay below B stays -/
def SDr.Pred (g : FuncId) (cp : Array Value) (p : DrV → Bool) (B : Nat) (w : World) : Prop :=
  ∀ (W : World) (c : SDr), Below B w W → c.ok w B → Calls Try.prog g (#[.agg #[.int .i64 c.ident, .int .i64 c.wide, .int .i64 c.high, .int .i64 c.holds, .slice c.A c.xs.length c.cap]] ++ cp) W fun e w' => e = .returned (.bool (p c.pl)) ∧ Below B w w'
theorem idxF_map {α β : Type} (f : α → β) (p : β → Bool) (xs : List α) : idxF (fun r => p (f r)) xs = idxF p (xs.map f) := by
  unfold idxF; rw [List.findIdx?_map]; rfl
theorem IndexFuncDr_any (g : FuncId) (cp : Array Value) (p : DrV → Bool) (A : Option Addr) (cap : Nat) (xs : List SDr) (w : World) (hr : Row 5 SDr.enc w w.heap.size A xs) (hok : ∀ r ∈ xs, r.ok w w.heap.size) (hm : xs.length ≤ 9223372036854775807)
    (eg : ∀ args w, (callFunc g args).run Try.prog w = .ok (.enter g args) w) (hp : SDr.Pred g cp p w.heap.size w) :
    Calls Try.prog 180 #[.slice A xs.length cap, .func (.func g) #[] cp] w fun e w' => e = .returned (.int .i64 (idxF p (xs.map SDr.pl))) ∧ Below w.heap.size w w' := by
  rw [← idxF_map]
  generalize hB : w.heap.size = B at hr hp hok ⊢
  have HB := hide hB; clear hB
  have HR := hide hr; clear hr
  have HP := hide hp; clear hp
  have HOK := hide hok; clear hok
  go_enter Try.func180, Try.ntmps180
  go_wp2_with fail
  go_loopw [8] (fun i wr => ∃ (k : Nat), k ≤ xs.length ∧ i = .int .i64 k ∧ (∀ c ∈ xs.take k, p c.pl = false) ∧ Below B w wr) (fun i _ => xs.length - (intOf i).toNat)
  case atStart => exact ⟨0, Nat.zero_le _, rfl, by simp, Below.refl _ _⟩
  case round =>
    obtain ⟨i, hi, rfl, hno, hbel⟩ := hrel
    have HN := hide hno; clear hno
    by_cases hlt : i < xs.length
    · obtain ⟨b, off, rfl, hb, c0, c1, c2, c3, c4⟩ := SDr.cells HR.out hlt hbel
      have hcall := HP.out wr xs[i] hbel (HOK.out _ (List.getElem_mem hlt))
      have hhit := fun h => idxF_hit (p := fun r : SDr => p r.pl) hlt h HN.out
      have htk := take_snoc' hlt
      have HH := hide hhit; have HTK := hide htk; clear hhit htk
      generalize hy : xs[i] = y at *
      clear hy
      cases hq : p y.pl with
      | true =>
        rw [hq] at hcall
        have HQ := hide hq; clear hq
        go_wp2_with (go_at_fn g; refine hcall.mono ?_; rintro e w' ⟨rfl, hb'⟩)
        go_ret
        refine ⟨ret_int ?_, hb'⟩
        exact (HH.out HQ.out).symm
      | false =>
        rw [hq] at hcall
        have HQ := hide hq; clear hq
        go_wp2_with (go_at_fn g; refine hcall.mono ?_; rintro e w' ⟨rfl, hb'⟩)
        refine ⟨⟨i + 1, by omega, by go_num, ?_, hb'⟩, by simp [intOf]; omega⟩
        rw [HTK.out]
        intro c hc
        rcases List.mem_append.1 hc with h | h
        · exact HN.out c h
        · rw [List.mem_singleton.1 h]; exact HQ.out
    · have hk : i = xs.length := by omega
      have HK := hide hk; clear hk
      go_wp2_with fail
      go_ret
      refine ⟨ret_int (idxF_miss ?_).symm, hbel⟩
      have := HN.out; rw [HK.out, List.take_length] at this; exact this
/-- an own list of drawers: the list from lo on, the flats of each in a block of its own (or nowhere) -/
structure OwnDs (w : World) (lo : Nat) (v : Value) (rs : List SDr) : Prop where
  spine : Own 5 SDr.enc 70 w lo v rs
  rows : ∀ (i : Nat) (r : SDr), rs[i]? = some r → Own 1 encI 3 w lo r.fv r.xs
  rowSpine : ∀ (i : Nat) (r : SDr), rs[i]? = some r → ∀ g, r.fv.ownBlock = some g → v.ownBlock ≠ some g
  sep : ∀ (i j : Nat) (r s : SDr), rs[i]? = some r → rs[j]? = some s → i ≠ j → ∀ g, r.fv.ownBlock = some g → s.fv.ownBlock ≠ some g
theorem OwnDs.below {w w' : World} {lo : Nat} {v : Value} {rs : List SDr} (h : OwnDs w lo v rs) (hb : Below w.heap.size w w') : OwnDs w' lo v rs :=
  ⟨h.spine.below hb, fun i r hr => (h.rows i r hr).below hb, h.rowSpine, h.sep⟩
theorem OwnDs.mono {w : World} {lo lo' : Nat} {v : Value} {rs : List SDr} (h : OwnDs w lo v rs) (h1 : lo' ≤ lo) : OwnDs w lo' v rs :=
  ⟨h.spine.mono h1, fun i r hr => (h.rows i r hr).mono h1, h.rowSpine, h.sep⟩
theorem OwnDs.isD {w : World} {lo : Nat} {v : Value} {rs : List SDr} (h : OwnDs w lo v rs) : IsD w v (rs.map SDr.pl) :=
  ⟨rs, rfl, h.spine.is, fun r hr => by
    obtain ⟨i, hi, rfl⟩ := List.mem_iff_getElem.1 hr
    obtain ⟨A, cap, he, h1, h2, h3⟩ := (h.rows i _ (List.getElem?_eq_getElem hi)).row
    unfold SDr.fv at he
    injection he with e1 e2 e3
    subst e1 e3
    exact ⟨h1, h3, h2⟩⟩
end Go.Proofs.Ytdbcilinoieabaa
