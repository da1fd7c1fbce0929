/- Contracts of the helpers of the laws on slices of slices of ints: conversion, equality, sizes, and the library's search with a predicate. Conditions: lengths up to 1048576 where slices are made. -/
import Derived.Test.YtapbnggdclpokaaStInt
namespace Go.Proofs.Ytapbnggdclpokaa
open Go.RowKit Go.ChangeShapes Go.WideShapes Go.Deep
set_option linter.unusedVariables false
/-- a row as it lies in memory -/
structure SRow where
  (xs : List Int) (A : Option Addr) (cap : Nat)
def SRow.enc (r : SRow) : Nat → Value := fun _ => .slice r.A r.xs.length r.cap
theorem SRow.one : ∀ (r : SRow) (j : Nat), (SRow.enc r j).oneCell' = true := fun _ _ => rfl
def SRow.ok (w : World) (B : Nat) (r : SRow) : Prop := Row 1 encI w B r.A r.xs ∧ r.xs.length ≤ r.cap ∧ r.cap ≤ maxLen
theorem SRow.info : (Try.prog.info? 39).map (fun i => (i.zero, i.size, i.bytes)) = some (some (.slice none 0 0), 1, 24) := by kernel_rfl
theorem SRow.ok.below {w w' : World} {B B' : Nat} {r : SRow} (h : r.ok w B) (hb : Below B w w') (hB : B ≤ B') : r.ok w' B' := ⟨h.1.below hb (Nat.le_refl _) hB, h.2⟩
theorem SRow.ok.below2 {w w' : World} {B B0 B' : Nat} {r : SRow} (h : r.ok w B) (hb : Below B0 w w') (h0 : B ≤ B0) (hB : B ≤ B') : r.ok w' B' := ⟨h.1.below hb h0 hB, h.2⟩
theorem SRow.ok.is {w : World} {r : SRow} (h : r.ok w w.heap.size) : Is 1 encI w (.slice r.A r.xs.length r.cap) r.xs := ⟨_, _, rfl, h.1, h.2.1, h.2.2⟩
def IsG (w : World) (v : Value) (xss : List (List Int)) : Prop := ∃ rs : List SRow, rs.map (·.xs) = xss ∧ Is 1 SRow.enc w v rs ∧ ∀ r ∈ rs, r.ok w w.heap.size
theorem IsG.below {w w' : World} {v : Value} {xss : List (List Int)} (h : IsG w v xss) {B : Nat} (hb : Below B w w') (hB : w.heap.size ≤ B) : IsG w' v xss := by
  obtain ⟨rs, h1, h2, h3⟩ := h
  exact ⟨rs, h1, h2.below hb hB, fun r hr => (h3 r hr).below2 hb hB hb.size⟩
theorem Grid.open {H : Type} {enc' : TypeId × Value → H} {w : World} {sp : Nat → Bool} {held : Bool} {t e : TypeId} (ht : Try.prog.underlying t = some (.slice e)) (he : Try.prog.underlying e = some (.slice 3)) (hk : Try.prog.cellsOf e = 1) {A : Option Addr} {len cap : Nat} {d : DataW H} {p : List MemPlace}
    (h : DataW.Trod enc' Try.prog w 0 sp held t (.slice A len cap) d p) : ∃ zs : List SRow, zs.length = len ∧ (∀ z ∈ zs, z.ok w w.heap.size) ∧ len ≤ cap ∧ cap ≤ maxLen ∧ Row 1 SRow.enc w w.heap.size A zs := by
  refine row_of_slice (by omega) ht hk (fun n cs y hy hl => ?_) h
  rcases open_slice he hy with ⟨hcs, _⟩ | ⟨a, l, c, m, n', D, Pl, hcs, _⟩
  · subst hcs
    exact ⟨⟨[], none, 0⟩, ⟨Row.nil, Nat.le_refl _, Nat.zero_le _⟩, fun j hj => by
      obtain rfl : j = 0 := by omega
      rfl⟩
  · subst hcs
    have htr : DataW.Trod enc' Try.prog w 0 sp held e (.slice (some a) l c) y.1 y.2 := ⟨n, by simpa [Value.cells] using hy⟩
    obtain ⟨zs, rfl, _, h1, h2, h3⟩ := Ints.open he Try.underlying3 (by kernel_rfl) htr
    exact ⟨⟨zs, some a, c⟩, ⟨h3, h1, h2⟩, fun j hj => by
      obtain rfl : j = 0 := by omega
      rfl⟩
theorem SRow.cell {w : World} {B : Nat} {A : Option Addr} {rs : List SRow} (h : Row 1 SRow.enc w B A rs) {i : Nat} (hi : i < rs.length) {wr : World} (hb : Below B w wr) :
    ∃ b off, A = some ⟨b, off, none⟩ ∧ b < B ∧ wr.cell? ⟨b, off + i, none⟩ = some (.slice rs[i].A rs[i].xs.length rs[i].cap) := by
  obtain ⟨b, off, rfl, hl, hc⟩ := h.get hi
  have h0 := (hb.cell (p := ⟨b, off + i * 1 + 0, none⟩) hl).trans (hc 0 (by omega))
  rw [Nat.mul_one, Nat.add_zero] at h0
  exact ⟨b, off, rfl, hl, h0⟩
def szG (xss : List (List Int)) : Nat := xss.length + (xss.map List.length).sum
def szGTo (xss : List (List Int)) (i : Nat) : Nat := xss.length + ((xss.take i).map List.length).sum
theorem sumG_take_le (l : List Nat) : ∀ i, (l.take i).sum ≤ l.sum := by
  induction l with
  | nil => simp
  | cons a l ih =>
    intro i
    cases i with
    | zero => simp
    | succ i => have := ih i; simp; omega
theorem szGTo_le (xss : List (List Int)) (i : Nat) : szGTo xss i ≤ szG xss := by
  unfold szGTo szG
  rw [List.map_take]
  have := sumG_take_le (xss.map List.length) i
  omega
theorem szGTo_succ {xss : List (List Int)} {i : Nat} (h : i < xss.length) : szGTo xss (i + 1) = szGTo xss i + xss[i].length := by
  unfold szGTo; rw [take_snoc' h, List.map_append, List.sum_append]; simp; omega
theorem szG_row {xss : List (List Int)} {i : Nat} (h : i < xss.length) : xss[i].length ≤ szG xss := by
  have h1 := szGTo_succ h; have h2 := szGTo_le xss (i + 1); omega
theorem eqIntSS_is (v v' : Value) (xss : List (List Int)) (w : World) (h : IsG w v xss) (h' : IsG w v' xss) :
    Calls Try.prog 39 #[v, v'] w fun e w' => e = .returned (.bool true) ∧ Below w.heap.size w w' := by
  obtain ⟨rs, hmap, his, hrs⟩ := h
  obtain ⟨qs, hmap', his', hqs⟩ := h'
  have hlen := his.len
  obtain ⟨A, cap, rfl, hr, _, _⟩ := his
  obtain ⟨A', cap', rfl, hr', _, _⟩ := his'
  have hql : qs.length = rs.length := by have := congrArg List.length (hmap.trans hmap'.symm); simpa using this.symm
  rw [hql]
  generalize hB : w.heap.size = B at hr hr'
  have HB := hide hB; have HR := hide hr; have HR' := hide hr'; have HRS := hide hrs; have HQS := hide hqs; have HM := hide (hmap.trans hmap'.symm); have HQL := hide hql
  clear hr hr' hrs hqs hmap hmap' hql
  go_enter Try.func39, Try.ntmps39
  go_wp2_with fail
  go_loopw [5] (fun i wr => ∃ (k : Nat), k ≤ rs.length ∧ i = .int .i64 k ∧ Below B w wr) (fun i _ => rs.length - (intOf i).toNat)
  case atStart => exact ⟨0, Nat.zero_le _, rfl, Below.refl _ _⟩
  case round =>
    obtain ⟨i, hi, rfl, hbel⟩ := hrel
    have hsz : B ≤ wr.heap.size := by have := hbel.size; rw [hB] at this; exact this
    by_cases hlt : i < rs.length
    · have hlt' : i < qs.length := by rw [HQL.out]; exact hlt
      obtain ⟨b, off, rfl, hb, c0⟩ := SRow.cell HR.out hlt hbel
      obtain ⟨b', off', rfl, hb', d0⟩ := SRow.cell HR'.out hlt' hbel
      have hok := HRS.out rs[i] (List.getElem_mem hlt)
      have hok' := HQS.out qs[i] (List.getElem_mem hlt')
      have hxe : rs[i].xs = qs[i].xs := by
        have h1 := congrArg (fun l => l[i]?) HM.out
        simp only [List.getElem?_map, List.getElem?_eq_getElem hlt, List.getElem?_eq_getElem hlt', Option.map_some] at h1
        exact Option.some.inj h1
      have hcall := fun W (hW : Below B w W) => eqIntS_is (.slice rs[i].A rs[i].xs.length rs[i].cap) (.slice qs[i].A qs[i].xs.length qs[i].cap) rs[i].xs W ((hok.below2 hW (by rw [hB]; exact Nat.le_refl _) hW.size).is) (by rw [hxe]; exact (hok'.below2 hW (by rw [hB]; exact Nat.le_refl _) hW.size).is)
      have n0 := fun n => later_cell c0 n; have m0 := fun n => later_cell d0 n
      rw [hxe] at n0 c0 hcall
      have HC := hide hcall; clear hcall hok hok' hxe
      go_wp2_with fail
      (refine wp_region_later (by kernel_rfl) (by kernel_rfl) ?_; (repeat (go_big_quiet_step ((go_at_call 30; exact later_call (HC.out _ (bstep hbel (Later.h _) hsz)))))); refine wpQuiet_nil ?_; intro _ hw'; obtain ⟨nq, hw''⟩ := hw'; subst hw'')
      have B3 := bstep hbel nq.h hsz
      go_wp2_with fail
      refine ⟨⟨i + 1, by omega, by go_num, B3⟩, by simp [intOf]; omega⟩
    · have hk : i = rs.length := by omega
      have HK := hide hk; clear hk
      go_wp2
      go_ret
      exact ⟨rfl, hbel⟩
/-- the predicate g with the captured values cp answers p of a row, in whatever world in which what lay below B stays -/
def PredG (g : FuncId) (cp : Array Value) (p : List Int → Bool) (B : Nat) (w : World) : Prop :=
  ∀ (W : World) (r : SRow), Below B w W → r.ok w B → Calls Try.prog g (#[.slice r.A r.xs.length r.cap] ++ cp) W fun e w' => e = .returned (.bool (p r.xs)) ∧ Below B w w'
theorem IndexFuncG_any (g : FuncId) (cp : Array Value) (p : List Int → Bool) (A : Option Addr) (cap : Nat) (rs : List SRow) (w : World) (hr : Row 1 SRow.enc w w.heap.size A rs) (hok : ∀ r ∈ rs, r.ok w w.heap.size) (hm : rs.length ≤ 9223372036854775807)
    (eg : ∀ args w, (callFunc g args).run Try.prog w = .ok (.enter g args) w) (hp : PredG g cp p w.heap.size w) :
    Calls Try.prog 76 #[.slice A rs.length cap, .func (.func g) #[] cp] w fun e w' => e = .returned (.int .i64 (idxF (fun r : SRow => p r.xs) rs)) ∧ Below w.heap.size w w' := by
  generalize hB : w.heap.size = B at hr hp hok ⊢
  have HB := hide hB; clear hB
  have HR := hide hr; clear hr
  have HP := hide hp; clear hp
  have HOK := hide hok; clear hok
  go_enter Try.func76, Try.ntmps76
  go_wp2_with fail
  go_loopw [8] (fun i wr => ∃ (k : Nat), k ≤ rs.length ∧ i = .int .i64 k ∧ (∀ c ∈ rs.take k, p c.xs = false) ∧ Below B w wr) (fun i _ => rs.length - (intOf i).toNat)
  case atStart => exact ⟨0, Nat.zero_le _, rfl, by simp, Below.refl _ _⟩
  case round =>
    obtain ⟨i, hi, rfl, hno, hbel⟩ := hrel
    have HN := hide hno; clear hno
    by_cases hlt : i < rs.length
    · obtain ⟨b, off, rfl, hb, c0⟩ := SRow.cell HR.out hlt hbel
      have hcall := HP.out wr rs[i] hbel (HOK.out rs[i] (List.getElem_mem hlt))
      have hhit := fun h => idxF_hit (p := fun r : SRow => p r.xs) hlt h HN.out
      have htk := take_snoc' hlt
      have HH := hide hhit; have HTK := hide htk; clear hhit htk
      generalize rs[i] = y at *
      cases hq : p y.xs with
      | true =>
        rw [hq] at hcall
        have HQ := hide hq; clear hq
        go_wp2_with (go_at_fn g; refine hcall.mono ?_; rintro e w' ⟨rfl, hb'⟩)
        go_ret
        refine ⟨ret_int ?_, hb'⟩
        exact (HH.out HQ.out).symm
      | false =>
        rw [hq] at hcall
        have HQ := hide hq; clear hq
        go_wp2_with (go_at_fn g; refine hcall.mono ?_; rintro e w' ⟨rfl, hb'⟩)
        refine ⟨⟨i + 1, by omega, by go_num, ?_, hb'⟩, by simp [intOf]; omega⟩
        rw [HTK.out]
        intro c hc
        rcases List.mem_append.1 hc with h | h
        · exact HN.out c h
        · rw [List.mem_singleton.1 h]; exact HQ.out
    · have hk : i = rs.length := by omega
      have HK := hide hk; clear hk
      go_wp2_with fail
      go_ret
      refine ⟨ret_int (idxF_miss ?_).symm, hbel⟩
      have := HN.out; rw [HK.out, List.take_length] at this; exact this
end Go.Proofs.Ytapbnggdclpokaa
