/- Contracts of the small functions on texts: numerals within bounds (FormatInt), checksums (l1Sum, checksum, l1Seal), whether a byte stands in a text, the code's bytes. Condition: the table of powers of ten is laid, for impl's. -/
import Derived.Test.YtplemibckjnbhaaGreatDoorLsA
import Derived.Test.YtplemibckjnbhaaGreatDoorLsT
import Derived.Test.YtplemibckjnbhaaGreatDoorL1
import Derived.Test.YtplemibckjnbhaaGreatDoorStInt
import Derived.Lib.ConvBytes
namespace Go.Proofs.YtplemibckjnbhaaGreatDoor
open Go.RowKit Go.Lib
set_option linter.unusedVariables false
/-- the numeral of a number within bounds -/
def fmtV (n : Int) : ByteArray × Bool := if inB n (-999999) 999999 then (numS n, true) else (⟨#[]⟩, false)
def sumTo (s : ByteArray) (k : Nat) : Nat := sumB (s.data.toList.take k)
theorem sumTo_lt (s : ByteArray) (k : Nat) : sumTo s k < 999979 := sumB_lt _
theorem sumTo_succ (s : ByteArray) {k : Nat} (h : k < s.size) : ((sumTo s (k + 1) : Nat) : Int) = (41 * (sumTo s k : Int) + (s[k].toNat : Int) + 1) % 999979 := by
  have hl : k < s.data.toList.length := h
  have : s.data.toList.take (k + 1) = s.data.toList.take k ++ [s[k]] := by rw [take_snoc' hl]; rfl
  unfold sumTo sumB
  rw [this, List.foldl_append]
  show ((sumStep _ _ : Nat) : Int) = _
  unfold sumStep
  omega
theorem sumTo_all (s : ByteArray) : sumTo s s.size = sumB s.data.toList := by
  unfold sumTo
  have : s.data.toList.length = s.size := rfl
  rw [← this, List.take_length]
theorem below_bytesS (w : World) (e : TypeId) (s : ByteArray) : Below w.heap.size w (bytesWorld w e s) :=
  below_freeze ((Below.drew (Below.refl _ w)).alloc (Nat.le_refl _) _) (p := ⟨w.heap.size, _, none⟩) (Nat.le_refl _) 1
theorem row_bytesS (w : World) (e : TypeId) (s : ByteArray) : Row 1 encB (bytesWorld w e s) (bytesWorld w e s).heap.size (some ⟨w.heap.size, 0, none⟩) s.data.toList := by
  refine .inr ⟨w.heap.size, 0, rfl, by rw [bytesWorld_size]; omega, fun i x hx j hj => ?_⟩
  obtain rfl : j = 0 := by omega
  obtain ⟨hi, rfl⟩ := List.getElem?_eq_some_iff.1 hx
  have hs : i < s.size := hi
  simp only [Nat.zero_add, Nat.mul_one, Nat.add_zero]
  rw [bytesWorld_cell w e s i hs, List.getD_eq_getElem?_getD, List.getElem?_eq_getElem hi]
  rfl
/-- whether a byte stands in a text -/
def hasB (c : UInt8) (s : ByteArray) : Bool := decide (c ∈ s.data.toList)
/-- a text and its checksum -/
def sealS (s : ByteArray) : ByteArray := s ++ ⟨#[35]⟩ ++ numS (sumB s.data.toList : Nat)
theorem sealS_eq (s : ByteArray) : (sealS s).data.toList = sealB s.data.toList := by
  unfold sealS sealB numS
  simp [ByteArray.data_append]
theorem sealS_size (s : ByteArray) : (sealS s).size = (sealB s.data.toList).length := by
  rw [← sealS_eq]; rfl
end Go.Proofs.YtplemibckjnbhaaGreatDoor
