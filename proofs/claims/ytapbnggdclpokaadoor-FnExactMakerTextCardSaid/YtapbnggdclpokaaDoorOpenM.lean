/- How one maker among a law's arguments reads, and the table of powers of ten out of the row's list. No condition. -/
import Derived.Test.YtapbnggdclpokaaDoorStMaker
import Derived.Test.YtapbnggdclpokaaDoorLsT
import Derived.LaidMore
namespace Go.Proofs.YtapbnggdclpokaaDoor
open Go.RowKit Go.ChangeShapes Go.WideShapes Go.Deep
set_option linter.unusedVariables false
theorem SMaker.open1 {H : Type} {enc' : TypeId × Value → H} {w : World} {sp : Nat → Bool} {held : Bool} {cs : Array Value} {d : DataW H} {p : List MemPlace}
    (h : DataW.Trod enc' Tryd.prog w 0 sp held 23 (.agg cs) d p) (hs : cs.size = 5) : ∃ z : SMaker, z.wf ∧ cs = #[.int .i64 z.ident, .string z.name, .int .i64 z.frm, .int .i64 z.untl, .int .i64 z.heir] := by
  obtain ⟨n, ht⟩ := h
  obtain ⟨q, hf⟩ := fields_of_struct Tryd.underlying23 (by kernel_rfl) ht (by show cs.toList.length = _; rw [Array.length_toList, hs]; rfl)
  obtain ⟨v0, z0, h0, t0⟩ := hf 0 _ rfl
  obtain ⟨x0, e0, _, w0⟩ := DataW.trod_int Tryd.underlying3 t0
  simp only [List.cons.injEq, and_true] at e0; subst e0
  obtain ⟨v1, z1, h1, t1⟩ := hf 1 _ rfl
  obtain ⟨x1, e1, _, w1⟩ := DataW.trod_string Tryd.underlying9 t1
  simp only [List.cons.injEq, and_true] at e1; subst e1
  obtain ⟨v2, z2, h2, t2⟩ := hf 2 _ rfl
  obtain ⟨x2, e2, _, w2⟩ := DataW.trod_int Tryd.underlying3 t2
  simp only [List.cons.injEq, and_true] at e2; subst e2
  obtain ⟨v3, z3, h3, t3⟩ := hf 3 _ rfl
  obtain ⟨x3, e3, _, w3⟩ := DataW.trod_int Tryd.underlying3 t3
  simp only [List.cons.injEq, and_true] at e3; subst e3
  obtain ⟨v4, z4, h4, t4⟩ := hf 4 _ rfl
  obtain ⟨x4, e4, _, w4⟩ := DataW.trod_int Tryd.underlying3 t4
  simp only [List.cons.injEq, and_true] at e4; subst e4
  refine ⟨⟨x0, x1, x2, x3, x4⟩, ⟨w0, w1, w2, w3, w4⟩, ?_⟩
  replace h0 : cs.toList[0]? = some (Value.int .i64 x0) := h0
  replace h1 : cs.toList[1]? = some (Value.string x1) := h1
  replace h2 : cs.toList[2]? = some (Value.int .i64 x2) := h2
  replace h3 : cs.toList[3]? = some (Value.int .i64 x3) := h3
  replace h4 : cs.toList[4]? = some (Value.int .i64 x4) := h4
  apply Array.ext'
  apply List.ext_getElem?
  intro i
  match i with
  | 0 => exact h0
  | 1 => exact h1
  | 2 => exact h2
  | 3 => exact h3
  | 4 => exact h4
  | i + 5 => rw [List.getElem?_eq_none (by rw [Array.length_toList, hs]; omega)]; rfl
end Go.Proofs.YtapbnggdclpokaaDoor
