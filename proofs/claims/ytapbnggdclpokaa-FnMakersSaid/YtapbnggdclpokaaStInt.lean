/- Contracts of the helpers of the laws on lists of ints (conversion, equality, marks), and of the library's searches in them. Conditions: lengths up to 1048576 where a slice is made or marked. -/
import Derived.Test.YtapbnggdclpokaaProg
import Derived.Test.YtapbnggdclpokaaOwn
import Derived.Test.YtapbnggdclpokaaOpen
import Derived.Shelf.GgClosure.Gives
namespace Go.Proofs.Ytapbnggdclpokaa
open Go.RowKit Go.ChangeShapes Go.WideShapes Go.Deep
set_option linter.unusedVariables false
def encI (x : Int) : Nat → Value := fun _ => .int .i64 x
theorem encI_one : ∀ (c : Int) (j : Nat), (encI c j).oneCell' = true := fun c j => rfl
theorem infoI : (Try.prog.info? 3).map (fun i => (i.zero, i.size, i.bytes)) = some (some (.int .i64 0), 1, 8) := by kernel_rfl
theorem Ints.cells {w : World} {B : Nat} {A : Option Addr} {xs : List Int} (h : Row 1 encI w B A xs) {i : Nat} (hi : i < xs.length) {wr : World} (hb : Below B w wr) :
    ∃ b off, A = some ⟨b, off, none⟩ ∧ b < B ∧ wr.cell? ⟨b, off + i, none⟩ = some (.int .i64 xs[i]) := by
  obtain ⟨b, off, rfl, hl, hc⟩ := h.get hi
  have h0 := (hb.cell (p := ⟨b, off + i * 1 + 0, none⟩) hl).trans (hc 0 (by omega))
  rw [Nat.mul_one, Nat.add_zero] at h0
  exact ⟨b, off, rfl, hl, h0⟩
theorem Ints.open {H : Type} {enc' : TypeId × Value → H} {P : Program} {w : World} {sp : Nat → Bool} {held : Bool} {t e : TypeId} (ht : P.underlying t = some (.slice e)) (he : P.underlying e = some (.int .i64)) (hk : P.cellsOf e = 1) {A : Option Addr} {len cap : Nat} {d : DataW H} {p : List MemPlace}
    (h : DataW.Trod enc' P w 0 sp held t (.slice A len cap) d p) : ∃ zs : List Int, zs.length = len ∧ (∀ z ∈ zs, (Lit.int .i64 z).wf = true) ∧ len ≤ cap ∧ cap ≤ maxLen ∧ Row 1 encI w w.heap.size A zs :=
  row_of_slice (by omega) ht hk (fun n cs y hy hl => ok_int he hy) h
theorem eqIntS_same (A A' : Option Addr) (cap cap' : Nat) (xs : List Int) (w : World) (hr : Row 1 encI w w.heap.size A xs) (hr' : Row 1 encI w w.heap.size A' xs) (hm : xs.length ≤ 9223372036854775807) :
    Calls Try.prog 30 #[.slice A xs.length cap, .slice A' xs.length cap'] w fun e w' => e = .returned (.bool true) ∧ Below w.heap.size w w' := by
  generalize hB : w.heap.size = B at hr hr' ⊢
  have HB := hide hB; clear hB
  have HR := hide hr; clear hr
  have HR' := hide hr'; clear hr'
  go_enter Try.func30, Try.ntmps30
  go_wp2_with fail
  go_loopw [5] (fun i wr => ∃ (k : Nat), k ≤ xs.length ∧ i = .int .i64 k ∧ Below B w wr) (fun i _ => xs.length - (intOf i).toNat)
  case atStart => exact ⟨0, Nat.zero_le _, rfl, Below.refl _ _⟩
  case round =>
    obtain ⟨i, hi, rfl, hbel⟩ := hrel
    by_cases hlt : i < xs.length
    · obtain ⟨b, off, rfl, hb, c0⟩ := Ints.cells HR.out hlt hbel
      obtain ⟨b', off', rfl, hb', c0'⟩ := Ints.cells HR'.out hlt hbel
      have t0 : (xs[i] != xs[i]) = false := by simp
      go_wp2_with fail
      go_quiet (fail)
      all_goals
        go_wp2_with fail
        refine ⟨⟨i + 1, by omega, by go_num, ?_⟩, by simp [intOf]; omega⟩
        exact below_drewN hbel _
    · have hk : i = xs.length := by omega
      have HK := hide hk; clear hk
      go_wp2
      go_ret
      exact ⟨rfl, hbel⟩
/-- the numbers from k0 on -/
def marksI (k0 : Int) (n : Nat) : List Int := (List.range n).map fun (i : Nat) => k0 + (i : Int)
theorem marksI_length (k0 : Int) (n : Nat) : (marksI k0 n).length = n := by simp [marksI]
theorem marksI_get (k0 : Int) (n i : Nat) (h : i < (marksI k0 n).length) : (marksI k0 n)[i] = k0 + (i : Int) := by simp [marksI]
theorem markIntS_any (v : Value) (xs : List Int) (k0 : Int) (base : Nat) (w : World) (ho : Own 1 encI 3 w base v xs) (hm : xs.length ≤ 1048576) (h0 : 0 ≤ k0) (h1 : k0 ≤ 16777216) :
    Calls Try.prog 31 #[v, .int .i64 k0] w fun e w' => e = .returned (.int .i64 (k0 + (xs.length : Int))) ∧ Own 1 encI 3 w' base v (marksI k0 xs.length) ∧ w.grownBy w' v.ownBlock := by
  rcases ho with ⟨rfl, rfl⟩ | ⟨g, cap, cs0, rfl, hg, hblk0, hle, hcm, hs0, hf0⟩
  · go_enter Try.func31, Try.ntmps31
    go_wp2_with fail
    go_loop [1, 5] (fun q i => q = .int .i64 k0 ∧ i = .int .i64 0) (fun _ _ => 0)
    case atStart => exact ⟨rfl, rfl⟩
    case round =>
      obtain ⟨rfl, rfl⟩ := hrel
      go_wp2
      go_ret
      exact ⟨ret_int (by show k0 = _; simp), .inl ⟨rfl, rfl⟩, World.grownBy.refl _ _⟩
  · generalize hn : xs.length = n at hle hm ⊢
    have HN := hide hn; clear hn hf0
    have H0 := hide hblk0; clear hblk0
    have HS0 := hide hs0; clear hs0
    have hcap : n ≤ cs0.size := by rw [HS0.out]; omega
    go_enter Try.func31, Try.ntmps31
    go_wp2_with fail
    go_loopw [1, 5] (fun q i wr => ∃ (k : Nat) (cs : Array Value), k ≤ n ∧ i = .int .i64 k ∧ q = .int .i64 (k0 + (k : Int)) ∧ Blk wr g 3 cs ∧ cs.size = cs0.size ∧ Filled 1 encI cs k (marksI k0 n) ∧ w.grownBy wr (some g)) (fun _ i _ => n - (intOf i).toNat)
    case atStart => exact ⟨0, cs0, Nat.zero_le _, rfl, by simp, H0.out, rfl, Filled.zero, World.grownBy.refl _ _⟩
    case round =>
      obtain ⟨i, cs, hi, rfl, rfl, hblk, hsz, hfill, hgr⟩ := hrel
      have HS := hide hsz; clear hsz
      have HF := hide hfill; clear hfill
      have HG := hide hgr; clear hgr
      by_cases hlt : i < n
      · have h0 := hblk.some (i := i) (by rw [HS.out]; omega)
        have hf := hblk.frozen
        have HB := hide hblk; clear hblk
        go_wp2_with fail
        refine ⟨⟨i + 1, _, by omega, by go_num, ?_, HB.out.set _ _, by simp [HS.out], ?_, ?_⟩, by simp [intOf]; omega⟩
        · congr 1; simp only [Int.natCast_add]; omega
        · refine HF.out.step1' (by rw [marksI_length]; exact hlt) (by rw [HS.out]; omega) ?_
          rw [marksI_get]; rfl
        · exact grownBy_setCell HG.out _ _
      · have hk : i = n := by omega
        have HK := hide hk; clear hk
        have HB := hide hblk; clear hblk
        go_wp2
        go_ret
        rw [HK.out] at HF
        refine ⟨ret_int (by rw [HK.out]), .inr ⟨g, cap, cs, ?_, hg, HB.out, ?_, hcm, by rw [HS.out, HS0.out], ?_⟩, HG.out⟩
        · rw [marksI_length]
        · rw [marksI_length]; exact hle
        · rw [marksI_length]; exact HF.out
theorem heldIntS_any (A : Option Addr) (cap n : Nat) (k0 : Int) (w : World) (hr : Row 1 encI w w.heap.size A (marksI k0 n)) (hm : n ≤ 1048576) (h0 : 0 ≤ k0) (h1 : k0 ≤ 16777216) :
    Calls Try.prog 32 #[.slice A n cap, .int .i64 k0] w fun e w' => e = .returned (.int .i64 (k0 + (n : Int))) ∧ w = w' := by
  have HR := hide hr; clear hr
  go_enter Try.func32, Try.ntmps32
  go_wp2_with fail
  go_loop [1, 5] (fun q i => ∃ k : Nat, k ≤ n ∧ i = .int .i64 k ∧ q = .int .i64 (k0 + (k : Int))) (fun _ i => n - (intOf i).toNat)
  case atStart => exact ⟨0, Nat.zero_le _, rfl, by simp⟩
  case round =>
    obtain ⟨i, hi, rfl, rfl⟩ := hrel
    by_cases hlt : i < n
    · obtain ⟨b, off, rfl, hb, c0⟩ := Ints.cells HR.out (i := i) (by rw [marksI_length]; exact hlt) (Below.refl _ _)
      simp only [marksI_get] at c0
      have t0 : (k0 + (i : Int) != k0 + (i : Int)) = false := by simp
      go_wp2_with fail
      go_round
      case rel => exact ⟨i + 1, by omega, by go_num, by congr 1; simp only [Int.natCast_add]; omega⟩
      case measure => simp [intOf]; omega
    · have hk : i = n := by omega
      have HK := hide hk; clear hk
      go_wp2
      go_ret
      exact ⟨ret_int (by rw [HK.out]), rfl⟩
/-- the predicate g with the captured values cp answers p, in whatever world in which what lay below B stays -/
def PredI (g : FuncId) (cp : Array Value) (p : Int → Bool) (B : Nat) (w : World) : Prop :=
  ∀ (W : World) (c : Int), Below B w W → Calls Try.prog g (#[.int .i64 c] ++ cp) W fun e w' => e = .returned (.bool (p c)) ∧ Below B w w'
theorem eqIntS_is (v v' : Value) (xs : List Int) (w : World) (h : Is 1 encI w v xs) (h' : Is 1 encI w v' xs) :
    Calls Try.prog 30 #[v, v'] w fun e w' => e = .returned (.bool true) ∧ Below w.heap.size w w' := by
  have hm := h.len
  obtain ⟨A, cap, rfl, hr, _, _⟩ := h
  obtain ⟨A', cap', rfl, hr', _, _⟩ := h'
  exact eqIntS_same A A' cap cap' xs w hr hr' hm
theorem heldIntS_is (v : Value) (k0 : Int) (n : Nat) (w : World) (h : Is 1 encI w v (marksI k0 n)) (hm : n ≤ 1048576) (h0 : 0 ≤ k0) (h1 : k0 ≤ 16777216) :
    Calls Try.prog 32 #[v, .int .i64 k0] w fun e w' => e = .returned (.int .i64 (k0 + (n : Int))) ∧ w = w' := by
  obtain ⟨A, cap, rfl, hr, _, _⟩ := h
  rw [marksI_length]
  exact heldIntS_any A cap n k0 w hr hm h0 h1
end Go.Proofs.Ytapbnggdclpokaa
