/- Contracts of AppendChecksum in spec and of VerifyChecksum in impl. Condition: the table of powers of ten is laid, for impl's; texts of at most a million bytes. -/
import Derived.Test.YtplemibckjnbhaaGreatDoorLsC
namespace Go.Proofs.YtplemibckjnbhaaGreatDoor
open Go.RowKit Go.Lib
set_option linter.unusedVariables false
theorem ne_toList {a b : ByteArray} (h : a ≠ b) : (a.toList == b.toList) = false := by
  rw [ByteArray.toList_eq, ByteArray.toList_eq]
  simp only [beq_eq_false_iff_ne, ne_eq]
  intro h2
  exact h (by cases a; cases b; simp_all)
/-- the text ahead of its checksum, and whether that is what the text says -/
def verW (s : ByteArray) : ByteArray × Bool := if sealW (headS s) = (s, true) then (headS s, true) else (⟨#[]⟩, false)
end Go.Proofs.YtplemibckjnbhaaGreatDoor
