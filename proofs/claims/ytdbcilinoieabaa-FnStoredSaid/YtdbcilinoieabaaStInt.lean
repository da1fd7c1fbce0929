/- Contracts of the helpers of the laws on lists of ints (conversion, equality, marks), and of the library's searches in them. Conditions: lengths up to 1048576 where a slice is made or marked. -/
import Derived.Test.YtdbcilinoieabaaProg
import Derived.Test.YtdbcilinoieabaaOwn
import Derived.Test.YtdbcilinoieabaaOpen
import Derived.Shelf.GgClosure.Gives
namespace Go.Proofs.Ytdbcilinoieabaa
open Go.RowKit Go.ChangeShapes Go.WideShapes Go.Deep
set_option linter.unusedVariables false
def encI (x : Int) : Nat → Value := fun _ => .int .i64 x
theorem encI_one : ∀ (c : Int) (j : Nat), (encI c j).oneCell' = true := fun c j => rfl
theorem infoI : (Try.prog.info? 3).map (fun i => (i.zero, i.size, i.bytes)) = some (some (.int .i64 0), 1, 8) := by kernel_rfl
theorem Ints.cells {w : World} {B : Nat} {A : Option Addr} {xs : List Int} (h : Row 1 encI w B A xs) {i : Nat} (hi : i < xs.length) {wr : World} (hb : Below B w wr) :
    ∃ b off, A = some ⟨b, off, none⟩ ∧ b < B ∧ wr.cell? ⟨b, off + i, none⟩ = some (.int .i64 xs[i]) := by
  obtain ⟨b, off, rfl, hl, hc⟩ := h.get hi
  have h0 := (hb.cell (p := ⟨b, off + i * 1 + 0, none⟩) hl).trans (hc 0 (by omega))
  rw [Nat.mul_one, Nat.add_zero] at h0
  exact ⟨b, off, rfl, hl, h0⟩
theorem Ints.open {H : Type} {enc' : TypeId × Value → H} {P : Program} {w : World} {sp : Nat → Bool} {held : Bool} {t e : TypeId} (ht : P.underlying t = some (.slice e)) (he : P.underlying e = some (.int .i64)) (hk : P.cellsOf e = 1) {A : Option Addr} {len cap : Nat} {d : DataW H} {p : List MemPlace}
    (h : DataW.Trod enc' P w 0 sp held t (.slice A len cap) d p) : ∃ zs : List Int, zs.length = len ∧ (∀ z ∈ zs, (Lit.int .i64 z).wf = true) ∧ len ≤ cap ∧ cap ≤ maxLen ∧ Row 1 encI w w.heap.size A zs :=
  row_of_slice (by omega) ht hk (fun n cs y hy hl => ok_int he hy) h
theorem vInts_same (A A' : Option Addr) (cap cap' : Nat) (xs : List Int) (w : World) (hr : Row 1 encI w w.heap.size A xs) (hr' : Row 1 encI w w.heap.size A' xs) (hm : xs.length ≤ 9223372036854775807) :
    Calls Try.prog 53 #[.slice A xs.length cap, .slice A' xs.length cap'] w fun e w' => e = .returned (.bool true) ∧ Below w.heap.size w w' := by
  generalize hB : w.heap.size = B at hr hr' ⊢
  have HB := hide hB; clear hB
  have HR := hide hr; clear hr
  have HR' := hide hr'; clear hr'
  go_enter Try.func53, Try.ntmps53
  go_wp2_with fail
  go_loopw [5] (fun i wr => ∃ (k : Nat), k ≤ xs.length ∧ i = .int .i64 k ∧ Below B w wr) (fun i _ => xs.length - (intOf i).toNat)
  case atStart => exact ⟨0, Nat.zero_le _, rfl, Below.refl _ _⟩
  case round =>
    obtain ⟨i, hi, rfl, hbel⟩ := hrel
    by_cases hlt : i < xs.length
    · obtain ⟨b, off, rfl, hb, c0⟩ := Ints.cells HR.out hlt hbel
      obtain ⟨b', off', rfl, hb', c0'⟩ := Ints.cells HR'.out hlt hbel
      have t0 : (xs[i] != xs[i]) = false := by simp
      go_wp2_with fail
      go_quiet (fail)
      all_goals
        go_wp2_with fail
        refine ⟨⟨i + 1, by omega, by go_num, ?_⟩, by simp [intOf]; omega⟩
        exact below_drewN hbel _
    · have hk : i = xs.length := by omega
      have HK := hide hk; clear hk
      go_wp2
      go_ret
      exact ⟨rfl, hbel⟩
/-- the numbers from k0 on -/
def marksI (k0 : Int) (n : Nat) : List Int := (List.range n).map fun (i : Nat) => k0 + (i : Int)
theorem marksI_length (k0 : Int) (n : Nat) : (marksI k0 n).length = n := by simp [marksI]
theorem marksI_get (k0 : Int) (n i : Nat) (h : i < (marksI k0 n).length) : (marksI k0 n)[i] = k0 + (i : Int) := by simp [marksI]
/-- the predicate g with the captured values cp answers p, in whatever world in which what lay below B stays -/
def PredI (g : FuncId) (cp : Array Value) (p : Int → Bool) (B : Nat) (w : World) : Prop :=
  ∀ (W : World) (c : Int), Below B w W → Calls Try.prog g (#[.int .i64 c] ++ cp) W fun e w' => e = .returned (.bool (p c)) ∧ Below B w w'
theorem IndexFuncI_any (g : FuncId) (cp : Array Value) (p : Int → Bool) (A : Option Addr) (cap : Nat) (xs : List Int) (w : World) (hr : Row 1 encI w w.heap.size A xs) (hm : xs.length ≤ 9223372036854775807)
    (eg : ∀ args w, (callFunc g args).run Try.prog w = .ok (.enter g args) w) (hp : PredI g cp p w.heap.size w) :
    Calls Try.prog 191 #[.slice A xs.length cap, .func (.func g) #[] cp] w fun e w' => e = .returned (.int .i64 (idxF p xs)) ∧ Below w.heap.size w w' := by
  generalize hB : w.heap.size = B at hr hp ⊢
  have HB := hide hB; clear hB
  have HR := hide hr; clear hr
  have HP := hide hp; clear hp
  go_enter Try.func191, Try.ntmps191
  go_wp2_with fail
  go_loopw [8] (fun i wr => ∃ (k : Nat), k ≤ xs.length ∧ i = .int .i64 k ∧ (∀ c ∈ xs.take k, p c = false) ∧ Below B w wr) (fun i _ => xs.length - (intOf i).toNat)
  case atStart => exact ⟨0, Nat.zero_le _, rfl, by simp, Below.refl _ _⟩
  case round =>
    obtain ⟨i, hi, rfl, hno, hbel⟩ := hrel
    have HN := hide hno; clear hno
    by_cases hlt : i < xs.length
    · obtain ⟨b, off, rfl, hb, c0⟩ := Ints.cells HR.out hlt hbel
      have hcall := HP.out wr xs[i] hbel
      generalize hy : xs[i] = y at hcall c0
      have HY := hide hy; clear hy
      cases hq : p y with
      | true =>
        rw [hq] at hcall
        have HQ := hide hq; clear hq
        go_wp2_with (go_at_fn g; refine hcall.mono ?_; rintro e w' ⟨rfl, hb'⟩)
        go_ret
        refine ⟨ret_int ?_, hb'⟩
        exact (idxF_hit hlt (by rw [HY.out]; exact HQ.out) HN.out).symm
      | false =>
        rw [hq] at hcall
        have HQ := hide hq; clear hq
        go_wp2_with (go_at_fn g; refine hcall.mono ?_; rintro e w' ⟨rfl, hb'⟩)
        refine ⟨⟨i + 1, by omega, by go_num, ?_, hb'⟩, by simp [intOf]; omega⟩
        rw [take_snoc' hlt, HY.out]
        intro c hc
        rcases List.mem_append.1 hc with h | h
        · exact HN.out c h
        · rw [List.mem_singleton.1 h]; exact HQ.out
    · have hk : i = xs.length := by omega
      have HK := hide hk; clear hk
      go_wp2_with fail
      go_ret
      refine ⟨ret_int (idxF_miss ?_).symm, hbel⟩
      have := HN.out; rw [HK.out, List.take_length] at this; exact this
theorem ContainsFuncI_any (g : FuncId) (cp : Array Value) (p : Int → Bool) (A : Option Addr) (cap : Nat) (xs : List Int) (w : World) (hr : Row 1 encI w w.heap.size A xs) (hm : xs.length ≤ 9223372036854775807)
    (eg : ∀ args w, (callFunc g args).run Try.prog w = .ok (.enter g args) w) (hp : PredI g cp p w.heap.size w) :
    Calls Try.prog 134 #[.slice A xs.length cap, .func (.func g) #[] cp] w fun e w' => e = .returned (.bool (xs.any p)) ∧ Below w.heap.size w w' := by
  have HR := hide hr; clear hr
  have HP := hide hp; clear hp
  go_enter Try.func134, Try.ntmps134
  go_wp2_with (go_at_call 191; refine (IndexFuncI_any _ _ _ _ _ _ _ HR.out hm eg HP.out).mono ?_; rintro e w' ⟨rfl, hb'⟩)
  go_ret
  exact ⟨ret_bool (idxF_any p xs), hb'⟩
theorem IndexI_any (A : Option Addr) (cap : Nat) (xs : List Int) (v : Int) (w : World) (hr : Row 1 encI w w.heap.size A xs) (hm : xs.length ≤ 9223372036854775807) :
    Calls Try.prog 216 #[.slice A xs.length cap, .int .i64 v] w fun e w' => e = .returned (.int .i64 (idxF (fun c => v == c) xs)) ∧ w = w' := by
  have HR := hide hr; clear hr
  go_enter Try.func216, Try.ntmps216
  go_wp2_with fail
  go_loop [8] (fun i => ∃ (k : Nat), k ≤ xs.length ∧ i = .int .i64 k ∧ (∀ c ∈ xs.take k, (v == c) = false)) (fun i => xs.length - (intOf i).toNat)
  case atStart => exact ⟨0, Nat.zero_le _, rfl, by simp⟩
  case round =>
    obtain ⟨i, hi, rfl, hno⟩ := hrel
    have HN := hide hno; clear hno
    by_cases hlt : i < xs.length
    · obtain ⟨b, off, rfl, hb, c0⟩ := Ints.cells HR.out hlt (Below.refl _ _)
      generalize hy : xs[i] = y at c0
      have HY := hide hy; clear hy
      cases hq : (v == y) with
      | true =>
        have HQ := hide hq
        go_wp2_with fail
        go_ret
        refine ⟨ret_int ?_, rfl⟩
        exact (idxF_hit hlt (by rw [HY.out]; exact HQ.out) HN.out).symm
      | false =>
        have HQ := hide hq
        go_wp2_with fail
        go_round
        case measure => simp [intOf]; omega
        case rel =>
          refine ⟨i + 1, by omega, by go_num, ?_⟩
          rw [take_snoc' hlt, HY.out]
          intro c hc
          rcases List.mem_append.1 hc with h | h
          · exact HN.out c h
          · rw [List.mem_singleton.1 h]; exact HQ.out
    · have hk : i = xs.length := by omega
      have HK := hide hk; clear hk
      go_wp2_with fail
      go_ret
      refine ⟨ret_int (idxF_miss ?_).symm, rfl⟩
      have := HN.out; rw [HK.out, List.take_length] at this; exact this
theorem ContainsI_any (A : Option Addr) (cap : Nat) (xs : List Int) (v : Int) (w : World) (hr : Row 1 encI w w.heap.size A xs) (hm : xs.length ≤ 9223372036854775807) :
    Calls Try.prog 190 #[.slice A xs.length cap, .int .i64 v] w fun e w' => e = .returned (.bool (xs.any fun c => v == c)) ∧ w = w' := by
  have HR := hide hr; clear hr
  go_enter Try.func190, Try.ntmps190
  go_wp2_with (go_at_call 216; refine (IndexI_any _ _ _ _ _ HR.out hm).mono ?_; rintro e w' ⟨rfl, rfl⟩)
  go_ret
  exact ⟨ret_bool (idxF_any _ xs), rfl⟩
theorem vInts_is (v v' : Value) (xs : List Int) (w : World) (h : Is 1 encI w v xs) (h' : Is 1 encI w v' xs) :
    Calls Try.prog 53 #[v, v'] w fun e w' => e = .returned (.bool true) ∧ Below w.heap.size w w' := by
  have hm := h.len
  obtain ⟨A, cap, rfl, hr, _, _⟩ := h
  obtain ⟨A', cap', rfl, hr', _, _⟩ := h'
  exact vInts_same A A' cap cap' xs w hr hr' hm
end Go.Proofs.Ytdbcilinoieabaa
