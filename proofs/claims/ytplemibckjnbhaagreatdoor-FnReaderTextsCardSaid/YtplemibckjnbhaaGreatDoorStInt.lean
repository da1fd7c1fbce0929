/- Contracts of the helpers of the laws on lists of ints (conversion, equality, marks), and of the library's searches in them. Conditions: lengths up to 1048576 where a slice is made or marked. -/
import Derived.Test.YtplemibckjnbhaaGreatDoorProg
import Derived.Test.YtplemibckjnbhaaGreatDoorOwn
import Derived.Test.YtplemibckjnbhaaGreatDoorOpen
import Derived.Shelf.GgClosure.Gives
namespace Go.Proofs.YtplemibckjnbhaaGreatDoor
open Go.RowKit Go.ChangeShapes Go.WideShapes Go.Deep
set_option linter.unusedVariables false
def encI (x : Int) : Nat → Value := fun _ => .int .i64 x
theorem encI_one : ∀ (c : Int) (j : Nat), (encI c j).oneCell' = true := fun c j => rfl
theorem infoI : (Tryz.prog.info? 3).map (fun i => (i.zero, i.size, i.bytes)) = some (some (.int .i64 0), 1, 8) := by kernel_rfl
theorem Ints.cells {w : World} {B : Nat} {A : Option Addr} {xs : List Int} (h : Row 1 encI w B A xs) {i : Nat} (hi : i < xs.length) {wr : World} (hb : Below B w wr) :
    ∃ b off, A = some ⟨b, off, none⟩ ∧ b < B ∧ wr.cell? ⟨b, off + i, none⟩ = some (.int .i64 xs[i]) := by
  obtain ⟨b, off, rfl, hl, hc⟩ := h.get hi
  have h0 := (hb.cell (p := ⟨b, off + i * 1 + 0, none⟩) hl).trans (hc 0 (by omega))
  rw [Nat.mul_one, Nat.add_zero] at h0
  exact ⟨b, off, rfl, hl, h0⟩
theorem Ints.open {H : Type} {enc' : TypeId × Value → H} {P : Program} {w : World} {sp : Nat → Bool} {held : Bool} {t e : TypeId} (ht : P.underlying t = some (.slice e)) (he : P.underlying e = some (.int .i64)) (hk : P.cellsOf e = 1) {A : Option Addr} {len cap : Nat} {d : DataW H} {p : List MemPlace}
    (h : DataW.Trod enc' P w 0 sp held t (.slice A len cap) d p) : ∃ zs : List Int, zs.length = len ∧ (∀ z ∈ zs, (Lit.int .i64 z).wf = true) ∧ len ≤ cap ∧ cap ≤ maxLen ∧ Row 1 encI w w.heap.size A zs :=
  row_of_slice (by omega) ht hk (fun n cs y hy hl => ok_int he hy) h
/-- the numbers from k0 on -/
def marksI (k0 : Int) (n : Nat) : List Int := (List.range n).map fun (i : Nat) => k0 + (i : Int)
theorem marksI_length (k0 : Int) (n : Nat) : (marksI k0 n).length = n := by simp [marksI]
theorem marksI_get (k0 : Int) (n i : Nat) (h : i < (marksI k0 n).length) : (marksI k0 n)[i] = k0 + (i : Int) := by simp [marksI]
/-- the predicate g with the captured values cp answers p, in whatever world in which what lay below B stays -/
def PredI (g : FuncId) (cp : Array Value) (p : Int → Bool) (B : Nat) (w : World) : Prop :=
  ∀ (W : World) (c : Int), Below B w W → Calls Tryz.prog g (#[.int .i64 c] ++ cp) W fun e w' => e = .returned (.bool (p c)) ∧ Below B w w'
end Go.Proofs.YtplemibckjnbhaaGreatDoor
