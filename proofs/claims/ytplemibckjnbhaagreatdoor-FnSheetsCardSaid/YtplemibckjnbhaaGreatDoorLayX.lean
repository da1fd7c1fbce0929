import Derived.Test.YtplemibckjnbhaaGreatDoorProg
import Derived.Test.YtplemibckjnbhaaGreatDoorBase
import Derived.ProofKit
import Derived.OpenShut
import Derived.Deep.Slices
import Derived.Deep.Fields
import Derived.ChangeOld
import Derived.Test.YtplemibckjnbhaaGreatDoorOwn
import Derived.Shelf.GgClosure.Gives
import Derived.Test.YtplemibckjnbhaaGreatDoorLsA
import Derived.Test.YtplemibckjnbhaaGreatDoorLsT
import Derived.Lib.ConvBytes
import Derived.Shelf.Strings.Search3
/- Contracts of the small functions on ranges, in impl and spec: each returns what its Lean function says and leaves the world as it was. No condition. -/
namespace Go.Proofs.YtplemibckjnbhaaGreatDoor
open Go.RowKit
theorem within_any (n lo hi : Int) (w : World) :
    Calls Tryz.prog 51 #[.int .i64 n, .int .i64 lo, .int .i64 hi] w fun e w' => e = .returned (.bool (inB n lo hi)) ∧ w = w' := by
  go_enter Tryz.func51, Tryz.ntmps51
  go_wp2
  all_goals go_ret
  all_goals (refine ⟨ret_bool (bool_of_iff ?_), rfl⟩; simp [inB_iff, *]; try omega)
theorem l1In_any (n lo hi : Int) (w : World) :
    Calls Tryz.prog 75 #[.int .i64 n, .int .i64 lo, .int .i64 hi] w fun e w' => e = .returned (.bool (inB n lo hi)) ∧ w = w' := by
  go_enter Tryz.func75, Tryz.ntmps75
  go_wp2
  all_goals go_ret
  all_goals (refine ⟨ret_bool (bool_of_iff ?_), rfl⟩; simp [inB_iff, *]; try omega)
theorem l1Most_any (a b : Int) (w : World) :
    Calls Tryz.prog 92 #[.int .i64 a, .int .i64 b] w fun e w' => e = .returned (.int .i64 (max a b)) ∧ w = w' := by
  go_enter Tryz.func92, Tryz.ntmps92
  go_wp2
  all_goals go_ret
  all_goals (refine ⟨ret_int ?_, rfl⟩; omega)
theorem l1Least_any (a b : Int) (w : World) :
    Calls Tryz.prog 91 #[.int .i64 a, .int .i64 b] w fun e w' => e = .returned (.int .i64 (min a b)) ∧ w = w' := by
  go_enter Tryz.func91, Tryz.ntmps91
  go_wp2
  all_goals go_ret
  all_goals (refine ⟨ret_int ?_, rfl⟩; omega)
end Go.Proofs.YtplemibckjnbhaaGreatDoor

/- How the slices among a law's arguments read as lists of elements (from the row's own reading of the arguments). No condition; nothing here speaks of the program. -/
namespace Go.Proofs.YtplemibckjnbhaaGreatDoor
open Go.RowKit Go.ChangeShapes Go.WideShapes Go.Deep

section
variable {H : Type} {enc' : TypeId × Value → H} {P : Program} {w : World} {sp : Nat → Bool} {held : Bool}

theorem row_of_slice {α : Type} {k : Nat} {enc : α → Nat → Value} {ok : α → Prop} {t e : TypeId} (hk0 : 0 < k) (ht : P.underlying t = some (.slice e)) (hk : P.cellsOf e = k)
    (hel : ∀ n cs' y, DataW.trod enc' P w 0 sp held n e cs' = some y → cs'.length = k → ∃ x, ok x ∧ ∀ j, j < k → cs'[j]? = some (enc x j))
    {A : Option Addr} {len cap : Nat} {d : DataW H} {p : List MemPlace} (h : DataW.Trod enc' P w 0 sp held t (.slice A len cap) d p) :
    ∃ zs : List α, zs.length = len ∧ (∀ z ∈ zs, ok z) ∧ len ≤ cap ∧ cap ≤ maxLen ∧ Row k enc w w.heap.size A zs := by
  obtain ⟨fuel, hf⟩ := h
  rcases open_slice ht hf with ⟨hcs, _⟩ | ⟨a, l, c, m, n, D, Pl, hcs, _, hl, hm, hmm, _, hi⟩
  · simp [Value.cells] at hcs
    obtain ⟨rfl, rfl, rfl⟩ := hcs
    exact ⟨[], rfl, by simp, Nat.le_refl _, Nat.zero_le _, .inl rfl⟩
  · simp [Value.cells] at hcs
    obtain ⟨rfl, rfl, rfl⟩ := hcs
    have hlm : len ≤ m := by rw [hmm]; split <;> omega
    have hch : ∀ i : Fin len, ∃ x, ok x ∧ ∀ j, j < k → w.cell? (a.add (i.1 * k + j)) = some (enc x j) := by
      intro i
      obtain ⟨cs', hc, htr⟩ := hi i.1 (by have := i.2; omega)
      obtain ⟨_, hcl, hat⟩ := World.cells?_some hc
      obtain ⟨x, hox, hx⟩ := hel _ _ _ htr (by rw [hcl, hk])
      refine ⟨x, hox, fun j hj => ?_⟩
      have := hat j (by rw [hk]; exact hj)
      rw [hx j hj, Go.Deep.add_add, hk] at this
      exact this
    let f : Fin len → α := fun i => (hch i).choose
    have hf1 : ∀ i, ok (f i) := fun i => (hch i).choose_spec.1
    have hf2 : ∀ i j, j < k → w.cell? (a.add (i.1 * k + j)) = some (enc (f i) j) := fun i => (hch i).choose_spec.2
    refine ⟨List.ofFn f, by simp, fun z hz => by obtain ⟨i, rfl⟩ := List.mem_ofFn.1 hz; exact hf1 i, hl, hm, ?_⟩
    by_cases h0 : len = 0
    · subst h0
      exact .inl (by simp)
    · have hc0 := hf2 ⟨0, by omega⟩ 0 hk0
      obtain ⟨b, off, spot⟩ := a
      have hspot : spot = none := by simpa [Addr.add] using World.cell?_spot (by simpa [Addr.add] using hc0)
      subst hspot
      refine .inr ⟨b, off, rfl, by simpa [Addr.add] using World.block_lt_of_cell? w _ hc0, fun i x hx j hj => ?_⟩
      obtain ⟨hil, rfl⟩ := List.getElem?_eq_some_iff.1 hx
      have hil' : i < len := by simpa using hil
      have := hf2 ⟨i, hil'⟩ j hj
      rw [List.getElem_ofFn]
      rw [Addr.add_lit, ← Nat.add_assoc] at this
      exact this

/-- the cells of a struct of one-cell fields, field by field -/
theorem fields_of_struct {e : TypeId} {fs : Array Field} {n : Nat} {cs : List Value} {y : DataW H × List MemPlace} (he : P.underlying e = some (.struct fs)) (hone : oneCellFields P fs = true)
    (h : DataW.trod enc' P w 0 sp held n e cs = some y) (hl : cs.length = fs.size) :
    ∃ m, ∀ (j : Nat) (f : Field), fs[j]? = some f → ∃ v z, cs[j]? = some v ∧ DataW.trod enc' P w 0 sp held m f.type [v] = some z := by
  obtain ⟨xs, m, _, _, _, hxl, hf⟩ := DataW.trod_struct he h
  refine ⟨m, fun j f hj => ?_⟩
  obtain ⟨ho, hk⟩ := hone_of hone j f hj
  have hjl : j < fs.size := (Array.getElem?_eq_some_iff.1 hj).1
  have hjc : j < cs.length := by omega
  have h1 := hf j f hj
  rw [ho, hk] at h1
  have hone' : (cs.drop j).take 1 = [cs[j]] := by
    rw [List.drop_eq_getElem_cons hjc]
    rfl
  rw [hone'] at h1
  exact ⟨cs[j], xs[j]'(by omega), List.getElem?_eq_getElem hjc, h1.trans (List.getElem?_eq_getElem (by omega))⟩
end

theorem ok_int {H : Type} {enc' : TypeId × Value → H} {P : Program} {w : World} {sp : Nat → Bool} {held : Bool} {t : TypeId} {k : IntKind} {n : Nat} {cs : List Value} {y : DataW H × List MemPlace} (ht : P.underlying t = some (.int k))
    (h : DataW.trod enc' P w 0 sp held n t cs = some y) : ∃ x : Int, (Lit.int k x).wf = true ∧ ∀ j, j < 1 → cs[j]? = some (.int k x) := by
  obtain ⟨x, rfl, _, hw⟩ := DataW.trod_int ht h
  exact ⟨x, hw, fun j hj => by
    have h0 : j = 0 := by omega
    subst h0; rfl⟩
end Go.Proofs.YtplemibckjnbhaaGreatDoor

/- Contracts of the helpers of the laws on lists of ints (conversion, equality, marks), and of the library's searches in them. Conditions: lengths up to 1048576 where a slice is made or marked. -/
namespace Go.Proofs.YtplemibckjnbhaaGreatDoor
open Go.RowKit Go.ChangeShapes Go.WideShapes Go.Deep
set_option linter.unusedVariables false
def encI (x : Int) : Nat → Value := fun _ => .int .i64 x
theorem encI_one : ∀ (c : Int) (j : Nat), (encI c j).oneCell' = true := fun c j => rfl
theorem infoI : (Tryz.prog.info? 3).map (fun i => (i.zero, i.size, i.bytes)) = some (some (.int .i64 0), 1, 8) := by kernel_rfl
theorem Ints.cells {w : World} {B : Nat} {A : Option Addr} {xs : List Int} (h : Row 1 encI w B A xs) {i : Nat} (hi : i < xs.length) {wr : World} (hb : Below B w wr) :
    ∃ b off, A = some ⟨b, off, none⟩ ∧ b < B ∧ wr.cell? ⟨b, off + i, none⟩ = some (.int .i64 xs[i]) := by
  obtain ⟨b, off, rfl, hl, hc⟩ := h.get hi
  have h0 := (hb.cell (p := ⟨b, off + i * 1 + 0, none⟩) hl).trans (hc 0 (by omega))
  rw [Nat.mul_one, Nat.add_zero] at h0
  exact ⟨b, off, rfl, hl, h0⟩
theorem Ints.open {H : Type} {enc' : TypeId × Value → H} {P : Program} {w : World} {sp : Nat → Bool} {held : Bool} {t e : TypeId} (ht : P.underlying t = some (.slice e)) (he : P.underlying e = some (.int .i64)) (hk : P.cellsOf e = 1) {A : Option Addr} {len cap : Nat} {d : DataW H} {p : List MemPlace}
    (h : DataW.Trod enc' P w 0 sp held t (.slice A len cap) d p) : ∃ zs : List Int, zs.length = len ∧ (∀ z ∈ zs, (Lit.int .i64 z).wf = true) ∧ len ≤ cap ∧ cap ≤ maxLen ∧ Row 1 encI w w.heap.size A zs :=
  row_of_slice (by omega) ht hk (fun n cs y hy hl => ok_int he hy) h
/-- the numbers from k0 on -/
def marksI (k0 : Int) (n : Nat) : List Int := (List.range n).map fun (i : Nat) => k0 + (i : Int)
theorem marksI_length (k0 : Int) (n : Nat) : (marksI k0 n).length = n := by simp [marksI]
theorem marksI_get (k0 : Int) (n i : Nat) (h : i < (marksI k0 n).length) : (marksI k0 n)[i] = k0 + (i : Int) := by simp [marksI]
/-- the predicate g with the captured values cp answers p, in whatever world in which what lay below B stays -/
def PredI (g : FuncId) (cp : Array Value) (p : Int → Bool) (B : Nat) (w : World) : Prop :=
  ∀ (W : World) (c : Int), Below B w W → Calls Tryz.prog g (#[.int .i64 c] ++ cp) W fun e w' => e = .returned (.bool (p c)) ∧ Below B w w'
end Go.Proofs.YtplemibckjnbhaaGreatDoor

/- Contracts of the small functions on texts: numerals within bounds (FormatInt), checksums (l1Sum, checksum, l1Seal), whether a byte stands in a text, the code's bytes. Condition: the table of powers of ten is laid, for impl's. -/
namespace Go.Proofs.YtplemibckjnbhaaGreatDoor
open Go.RowKit Go.Lib
set_option linter.unusedVariables false
/-- the numeral of a number within bounds -/
def fmtV (n : Int) : ByteArray × Bool := if inB n (-999999) 999999 then (numS n, true) else (⟨#[]⟩, false)
def sumTo (s : ByteArray) (k : Nat) : Nat := sumB (s.data.toList.take k)
theorem sumTo_lt (s : ByteArray) (k : Nat) : sumTo s k < 999979 := sumB_lt _
theorem sumTo_succ (s : ByteArray) {k : Nat} (h : k < s.size) : ((sumTo s (k + 1) : Nat) : Int) = (41 * (sumTo s k : Int) + (s[k].toNat : Int) + 1) % 999979 := by
  have hl : k < s.data.toList.length := h
  have : s.data.toList.take (k + 1) = s.data.toList.take k ++ [s[k]] := by rw [take_snoc' hl]; rfl
  unfold sumTo sumB
  rw [this, List.foldl_append]
  show ((sumStep _ _ : Nat) : Int) = _
  unfold sumStep
  omega
theorem sumTo_all (s : ByteArray) : sumTo s s.size = sumB s.data.toList := by
  unfold sumTo
  have : s.data.toList.length = s.size := rfl
  rw [← this, List.take_length]
theorem below_bytesS (w : World) (e : TypeId) (s : ByteArray) : Below w.heap.size w (bytesWorld w e s) :=
  below_freeze ((Below.drew (Below.refl _ w)).alloc (Nat.le_refl _) _) (p := ⟨w.heap.size, _, none⟩) (Nat.le_refl _) 1
theorem row_bytesS (w : World) (e : TypeId) (s : ByteArray) : Row 1 encB (bytesWorld w e s) (bytesWorld w e s).heap.size (some ⟨w.heap.size, 0, none⟩) s.data.toList := by
  refine .inr ⟨w.heap.size, 0, rfl, by rw [bytesWorld_size]; omega, fun i x hx j hj => ?_⟩
  obtain rfl : j = 0 := by omega
  obtain ⟨hi, rfl⟩ := List.getElem?_eq_some_iff.1 hx
  have hs : i < s.size := hi
  simp only [Nat.zero_add, Nat.mul_one, Nat.add_zero]
  rw [bytesWorld_cell w e s i hs, List.getD_eq_getElem?_getD, List.getElem?_eq_getElem hi]
  rfl
/-- whether a byte stands in a text -/
def hasB (c : UInt8) (s : ByteArray) : Bool := decide (c ∈ s.data.toList)
/-- a text and its checksum -/
def sealS (s : ByteArray) : ByteArray := s ++ ⟨#[35]⟩ ++ numS (sumB s.data.toList : Nat)
theorem sealS_eq (s : ByteArray) : (sealS s).data.toList = sealB s.data.toList := by
  unfold sealS sealB numS
  simp [ByteArray.data_append]
theorem sealS_size (s : ByteArray) : (sealS s).size = (sealB s.data.toList).length := by
  rw [← sealS_eq]; rfl
end Go.Proofs.YtplemibckjnbhaaGreatDoor

/- The table of the functions, types and variables of strings.Contains, at this seat (laid in plain words by mklayn.py). No condition. -/
namespace Go.Proofs.YtplemibckjnbhaaGreatDoor
open Go.Shelf
end Go.Proofs.YtplemibckjnbhaaGreatDoor

/- The table of the functions, types and variables of stringslite.Index, at this seat (laid in plain words by mklayn.py). No condition. -/
namespace Go.Proofs.YtplemibckjnbhaaGreatDoor
open Go.Shelf
def layX_ren : Go.Shelf.Ren := ⟨fun | 219 => 135 | 217 => 154 | 225 => 155 | 224 => 156 | 267 => 157 | 266 => 173 | 314 => 174 | n => n, fun | 9 => 9 | 3 => 3 | 4 => 4 | 5 => 5 | 46 => 125 | 146 => 168 | 51 => 143 | n => n, fun | 1 => 0 | n => n⟩
theorem layX : Lays.n219 Tryz.prog layX_ren :=
  {
    mixed := by kernel_rfl
    f217 := Tryz.func154.trans (congrArg some (by kernel_rfl))
    f219 := Tryz.func135.trans (congrArg some (by kernel_rfl))
    f224 := Tryz.func156.trans (congrArg some (by kernel_rfl))
    f225 := Tryz.func155.trans (congrArg some (by kernel_rfl))
    f266 := Tryz.func173.trans (congrArg some (by kernel_rfl))
    f267 := Tryz.func157.trans (congrArg some (by kernel_rfl))
    f314 := Tryz.func174.trans (congrArg some (by kernel_rfl))
    t3 := Tryz.underlying3
    a3 := Tryz.isAgg3
    z3 := Tryz.sizeOf3
    v3 := Tryz.zeroValue3
    t4 := Tryz.underlying4
    a4 := Tryz.isAgg4
    z4 := Tryz.sizeOf4
    v4 := Tryz.zeroValue4
    t5 := Tryz.underlying5
    a5 := Tryz.isAgg5
    z5 := Tryz.sizeOf5
    v5 := Tryz.zeroValue5
    t9 := Tryz.underlying9
    a9 := Tryz.isAgg9
    z9 := Tryz.sizeOf9
    v9 := Tryz.zeroValue9
    t46 := Tryz.underlying125
    a46 := Tryz.isAgg125
    z46 := Tryz.sizeOf125
    v46 := Tryz.zeroValue125
    t51 := Tryz.underlying143
    a51 := Tryz.isAgg143
    z51 := Tryz.sizeOf143
    v51 := Tryz.zeroValue143
    t146 := Tryz.underlying168
    a146 := Tryz.isAgg168
    z146 := Tryz.sizeOf168
    v146 := Tryz.zeroValue168
    g1 := by kernel_rfl }
end Go.Proofs.YtplemibckjnbhaaGreatDoor
