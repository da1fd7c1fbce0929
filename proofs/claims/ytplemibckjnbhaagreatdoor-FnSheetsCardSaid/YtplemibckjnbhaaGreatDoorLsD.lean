import Derived.Test.YtplemibckjnbhaaGreatDoorProg
import Derived.Shelf.Strings.OnBuilder
import Derived.Shelf.Vars
import Derived.Shelf.Strings.Split
import Derived.Test.YtplemibckjnbhaaGreatDoorLsK
import Derived.Lib.SplitLaws
import Derived.Test.YtplemibckjnbhaaGreatDoorLsC
/- The table of the functions, types and variables of Derived.Shelf.Strings.OnBuilder's function, at this seat (laid in plain words by mklayn.py). No condition. -/
namespace Go.Proofs.YtplemibckjnbhaaGreatDoor
open Go.Shelf
end Go.Proofs.YtplemibckjnbhaaGreatDoor

/- The table of the functions, types and variables of Derived.Shelf.Strings.Split's function, at this seat (laid in plain words by mklayn.py). No condition. -/
namespace Go.Proofs.YtplemibckjnbhaaGreatDoor
open Go.Shelf
def layP_ren : Go.Shelf.Ren := ⟨fun | 146 => 52 | 221 => 102 | 268 => 121 | 138 => 122 | 143 => 123 | 195 => 132 | 197 => 133 | 218 => 134 | 219 => 135 | 260 => 153 | 217 => 154 | 225 => 155 | 224 => 156 | 267 => 157 | 266 => 173 | 314 => 174 | n => n, fun | 9 => 9 | 31 => 76 | 3 => 3 | 4 => 4 | 0 => 0 | 105 => 131 | 21 => 21 | 5 => 5 | 46 => 125 | 119 => 164 | 139 => 167 | 138 => 166 | 146 => 168 | 51 => 143 | n => n, fun | 1 => 0 | 3 => 2 | 4 => 3 | n => n⟩
theorem layP : Lays.n146 Tryz.prog layP_ren :=
  {
    mixed := by kernel_rfl
    f138 := Tryz.func122.trans (congrArg some (by kernel_rfl))
    f143 := Tryz.func123.trans (congrArg some (by kernel_rfl))
    f146 := Tryz.func52.trans (congrArg some (by kernel_rfl))
    f195 := Tryz.func132.trans (congrArg some (by kernel_rfl))
    f197 := Tryz.func133.trans (congrArg some (by kernel_rfl))
    f217 := Tryz.func154.trans (congrArg some (by kernel_rfl))
    f218 := Tryz.func134.trans (congrArg some (by kernel_rfl))
    f219 := Tryz.func135.trans (congrArg some (by kernel_rfl))
    f221 := Tryz.func102.trans (congrArg some (by kernel_rfl))
    f224 := Tryz.func156.trans (congrArg some (by kernel_rfl))
    f225 := Tryz.func155.trans (congrArg some (by kernel_rfl))
    f260 := Tryz.func153.trans (congrArg some (by kernel_rfl))
    f266 := Tryz.func173.trans (congrArg some (by kernel_rfl))
    f267 := Tryz.func157.trans (congrArg some (by kernel_rfl))
    f268 := Tryz.func121.trans (congrArg some (by kernel_rfl))
    f314 := Tryz.func174.trans (congrArg some (by kernel_rfl))
    t0 := Tryz.underlying0
    a0 := Tryz.isAgg0
    z0 := Tryz.sizeOf0
    v0 := Tryz.zeroValue0
    t3 := Tryz.underlying3
    a3 := Tryz.isAgg3
    z3 := Tryz.sizeOf3
    v3 := Tryz.zeroValue3
    t4 := Tryz.underlying4
    a4 := Tryz.isAgg4
    z4 := Tryz.sizeOf4
    v4 := Tryz.zeroValue4
    t5 := Tryz.underlying5
    a5 := Tryz.isAgg5
    z5 := Tryz.sizeOf5
    v5 := Tryz.zeroValue5
    t9 := Tryz.underlying9
    a9 := Tryz.isAgg9
    z9 := Tryz.sizeOf9
    v9 := Tryz.zeroValue9
    t21 := Tryz.underlying21
    a21 := Tryz.isAgg21
    z21 := Tryz.sizeOf21
    v21 := Tryz.zeroValue21
    t31 := Tryz.underlying76
    a31 := Tryz.isAgg76
    z31 := Tryz.sizeOf76
    v31 := Tryz.zeroValue76
    t46 := Tryz.underlying125
    a46 := Tryz.isAgg125
    z46 := Tryz.sizeOf125
    v46 := Tryz.zeroValue125
    t51 := Tryz.underlying143
    a51 := Tryz.isAgg143
    z51 := Tryz.sizeOf143
    v51 := Tryz.zeroValue143
    t105 := Tryz.underlying131
    a105 := Tryz.isAgg131
    z105 := Tryz.sizeOf131
    v105 := Tryz.zeroValue131
    t119 := Tryz.underlying164
    a119 := Tryz.isAgg164
    z119 := Tryz.sizeOf164
    t138 := Tryz.underlying166
    a138 := Tryz.isAgg166
    z138 := Tryz.sizeOf166
    v138 := Tryz.zeroValue166
    t139 := Tryz.underlying167
    a139 := Tryz.isAgg167
    z139 := Tryz.sizeOf167
    v139 := Tryz.zeroValue167
    t146 := Tryz.underlying168
    a146 := Tryz.isAgg168
    z146 := Tryz.sizeOf168
    v146 := Tryz.zeroValue168
    g1 := by kernel_rfl
    g3 := by kernel_rfl
    g4 := by kernel_rfl }
end Go.Proofs.YtplemibckjnbhaaGreatDoor

/- Contracts of strings.Join and strings.Split at one byte, of impl's SplitString, JoinStrings, and of LessString. Conditions: texts of at most 5000 bytes; for Split, that internal/bytealg.MaxLen holds some int. -/
namespace Go.Proofs.YtplemibckjnbhaaGreatDoor
open Go.RowKit Go.Lib Go.Shelf
set_option linter.unusedVariables false
/-- internal/bytealg.MaxLen holds some int -/
def MaxL (w : World) : Prop := ∃ m, w.cell? ⟨0, 0, none⟩ = some (.int .i64 m)
theorem MaxL.below {w w' : World} {B : Nat} (h : MaxL w) (hb : Below B w w') (hB : w.heap.size ≤ B) : MaxL w' := by
  obtain ⟨m, hm⟩ := h
  exact ⟨m, (hb.cell (p := ⟨0, 0, none⟩) (Nat.lt_of_lt_of_le (World.block_lt_of_cell? w _ hm) hB)).trans hm⟩
theorem split_is (s : ByteArray) (c : UInt8) (w : World) (hm : MaxL w) (hs : s.size ≤ 5000) :
    Calls Tryz.prog 52 #[.string s, .string ⟨#[c]⟩] w fun e w' => ∃ v, e = .returned v ∧ Own 1 encS 9 w' w.heap.size v (splitS c s) ∧ (splitS c s).length ≤ 5001 ∧ Below w.heap.size w w' := by
  obtain ⟨m, hm⟩ := hm
  have hlen : (splitS c s).length = countB s ⟨#[c]⟩ + 1 := splitB_all ⟨#[c]⟩ (Nat.le_refl 1) 0 _ s rfl
  have hcl := countB_le ⟨#[c]⟩ (Nat.le_refl 1) s.size s (Nat.le_refl _)
  have key : Calls Tryz.prog 52 #[.string s, .string ⟨#[c]⟩] w fun e w' =>
      e = .returned (.slice (some ⟨w.heap.size, 0, none⟩) (countB s ⟨#[c]⟩ + 1) (countB s ⟨#[c]⟩ + 1)) ∧ w' = w.alloc (.cells ((splitS c s).map Value.string).toArray 9) :=
    Any.strings_Split layP (by kernel_rfl) s ⟨#[c]⟩ m w (by omega) hm (Nat.le_refl 1)
  refine key.mono ?_
  rintro e w' ⟨rfl, rfl⟩
  refine ⟨_, rfl, ?_, by omega, below_alloc _ _⟩
  rw [← hlen]
  refine Own.made rfl (Nat.le_refl _) (Blk.new w _ _) (by simp) (by simp only [maxLen]; omega) ?_
  intro j x hj hx k hk
  obtain rfl : k = 0 := by omega
  simp [hx, encS]
end Go.Proofs.YtplemibckjnbhaaGreatDoor

/- Contracts of AppendChecksum in spec and of VerifyChecksum in impl. Condition: the table of powers of ten is laid, for impl's; texts of at most a million bytes. -/
namespace Go.Proofs.YtplemibckjnbhaaGreatDoor
open Go.RowKit Go.Lib
set_option linter.unusedVariables false
theorem ne_toList {a b : ByteArray} (h : a ≠ b) : (a.toList == b.toList) = false := by
  rw [ByteArray.toList_eq, ByteArray.toList_eq]
  simp only [beq_eq_false_iff_ne, ne_eq]
  intro h2
  exact h (by cases a; cases b; simp_all)
/-- the text ahead of its checksum, and whether that is what the text says -/
def verW (s : ByteArray) : ByteArray × Bool := if sealW (headS s) = (s, true) then (headS s, true) else (⟨#[]⟩, false)
end Go.Proofs.YtplemibckjnbhaaGreatDoor
