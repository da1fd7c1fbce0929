/- A row of bytes out of a text, one byte of it changed, and back to a text. Nothing here speaks of the program. No condition. -/
import Derived.Test.YtplemibckjnbhaaDoorLsG
import Derived.Laws.BitsLemmas
namespace Go.Proofs.YtplemibckjnbhaaDoor
open Go.RowKit Go.Lib
set_option linter.unusedVariables false
theorem xor_byte (b : UInt8) (m : Nat) (h1 : 1 ≤ m) (h2 : m ≤ 255) : ∃ c : UInt8, bits .xor .u8 (b.toNat : Int) (m : Int) = (c.toNat : Int) ∧ c ≠ b := by
  have hb : b.toNat < 256 := UInt8.toNat_lt b
  have hx : b.toNat ^^^ m < 256 := Nat.xor_lt_two_pow (n := 8) hb (by omega)
  have hc : (UInt8.ofNat (b.toNat ^^^ m)).toNat = b.toNat ^^^ m := by rw [UInt8.toNat_ofNat']; omega
  refine ⟨UInt8.ofNat (b.toNat ^^^ m), ?_, fun h => ?_⟩
  · rw [hc]
    have h8 : IntKind.u8.bits = 8 := rfl
    simp only [bits, h8, BitVec.ofInt_natCast, BitVec.toNat_xor, BitVec.toNat_ofNat]
    rw [Nat.mod_eq_of_lt (show b.toNat < 2 ^ 8 from hb), Nat.mod_eq_of_lt (show m < 2 ^ 8 by omega), IntKind.wrap_u8]
    omega
  · have h3 := congrArg UInt8.toNat h
    rw [hc] at h3
    have h4 : b.toNat ^^^ (b.toNat ^^^ m) = b.toNat ^^^ b.toNat := by rw [h3]
    rw [← Nat.xor_assoc, Nat.xor_self, Nat.zero_xor] at h4
    omega
/-- block g is the cells cs of element type t, frozen from fz.1 on -/
def BlkF (w : World) (g : Nat) (t : TypeId) (cs : Array Value) (fz : Nat × Nat) : Prop := w.heap[g]? = some (.cells cs t fz)
section
variable {w w' : World} {g : Nat} {t : TypeId} {cs : Array Value} {fz : Nat × Nat}
theorem BlkF.lt (h : BlkF w g t cs fz) : g < w.heap.size := (Array.getElem?_eq_some_iff.1 h).1
theorem BlkF.cell (h : BlkF w g t cs fz) (i : Nat) : w.cell? ⟨g, i, none⟩ = cs[i]? := cell_of_row w g i cs t fz h
theorem BlkF.frozen (h : BlkF w g t cs fz) {i : Nat} (hi : i < fz.1) : w.frozen? ⟨g, i, none⟩ = false := by
  unfold BlkF at h
  obtain ⟨lo, hi'⟩ := fz
  simp only [World.frozen?, h]
  simp only at hi
  rw [decide_eq_false (by omega), Bool.false_and]
theorem BlkF.drewN (h : BlkF w g t cs fz) (n : Nat) : BlkF (w.drewN n) g t cs fz := h
theorem BlkF.set (h : BlkF w g t cs fz) (i : Nat) (u : Value) : BlkF (w.setCell ⟨g, i, none⟩ u) g t (cs.setIfInBounds i u) fz := by
  unfold BlkF at h ⊢
  simp [World.setCell, Array.getElem?_modify, h]
theorem BlkF.below {B : Nat} (h : BlkF w g t cs fz) (hb : Below B w w') (hg : g < B) : BlkF w' g t cs fz := (hb.block g hg).trans h
/-- cells that are a text's bytes, the byte at k changed -/
theorem rowF {y : ByteArray} {k : Nat} {c : UInt8} (hk : k < y.size) (hcs : ∀ j, (hj : j < y.size) → cs[j]? = some (.int .u8 (y[j].toNat : Int))) (hsz : y.size ≤ cs.size) (h : BlkF w g t (cs.setIfInBounds k (.int .u8 (c.toNat : Int))) fz) :
    Row 1 encB w w.heap.size (some ⟨g, 0, none⟩) (y.data.toList.set k c) := by
  refine .inr ⟨g, 0, rfl, h.lt, fun i x hx j hj => ?_⟩
  obtain rfl : j = 0 := by omega
  simp only [Nat.zero_add, Nat.mul_one, Nat.add_zero]
  rw [h.cell, Array.getElem?_setIfInBounds]
  rw [List.getElem?_set] at hx
  have hl : y.data.toList.length = y.size := rfl
  by_cases hik : k = i
  · subst hik
    rw [if_pos rfl, if_pos (by omega)] at hx
    rw [if_pos rfl, if_pos (by omega)]
    obtain rfl := Option.some.inj hx
    rfl
  · rw [if_neg hik] at hx
    rw [if_neg hik]
    obtain ⟨hi, rfl⟩ := List.getElem?_eq_some_iff.1 hx
    exact hcs i hi
end
theorem bytes_blk (w : World) (e : TypeId) (s : ByteArray) : ∃ cs fz, BlkF (bytesWorld w e s) w.heap.size e cs fz ∧ (∀ j, (hj : j < s.size) → cs[j]? = some (.int .u8 (s[j].toNat : Int))) ∧ s.size ≤ cs.size ∧ s.size ≤ fz.1 := by
  have hle : s.size ≤ (bytesCells w e s).size := by
    unfold bytesCells
    rw [Array.size_append, Array.size_map]
    exact Nat.le_add_right _ _
  refine ⟨_, _, bytesWorld_at_new w e s, fun j hj => ?_, hle, hle⟩
  have h1 := bytesWorld_cell w e s j hj
  have h2 : BlkF (bytesWorld w e s) w.heap.size e (bytesCells w e s) _ := bytesWorld_at_new w e s
  rw [h2.cell, List.getD_eq_getElem?_getD, List.getElem?_eq_getElem (show j < s.data.toList.length from hj)] at h1
  exact h1
/-- a row of bytes as a text -/
theorem run_convert_row {P : Program} {w : World} {A : Option Addr} {cap : Nat} {xs : List UInt8} {src e dst : TypeId} (hs : P.underlying src = some (.slice e)) (he : P.underlying e = some (.int .u8)) (hd : P.underlying dst = some .string) (hr : Row 1 encB w w.heap.size A xs) (h0 : xs ≠ []) :
    (convert src dst (.slice A xs.length cap)).run P w = .ok (.string ⟨xs.toArray⟩) w := by
  have hp : 0 < xs.length := List.length_pos_iff.2 h0
  obtain ⟨b, off, rfl, _, _⟩ := Bytes.cells hr hp (Below.refl _ _)
  rw [run_convert_bytes_arg w src e hs he b off xs.length cap (xs.map fun x => (x.toNat : Int)) (by simp) (fun i hi => by
    obtain ⟨b', off', hA, _, hc⟩ := Bytes.cells hr hi (Below.refl _ _)
    injection hA with hA; injection hA with h1 h2; subst h1 h2
    rw [hc]; simp [List.getD_eq_getElem?_getD, List.getElem?_eq_getElem hi]) dst hd]
  simp only [strOfNums, List.map_map]
  congr 4
  have : ((fun n : Int => UInt8.ofNat n.toNat) ∘ fun x : UInt8 => (x.toNat : Int)) = id := by
    funext x; simp
  rw [this, List.map_id]
end Go.Proofs.YtplemibckjnbhaaDoor
