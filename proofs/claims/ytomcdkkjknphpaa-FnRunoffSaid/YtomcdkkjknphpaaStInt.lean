/- Contracts of the helpers of the laws on lists of ints (conversion, equality, marks), and of the library's searches in them. Conditions: lengths up to 1048576 where a slice is made or marked. -/
import Derived.Test.YtomcdkkjknphpaaProg
import Derived.Test.YtomcdkkjknphpaaOwn
import Derived.Test.YtomcdkkjknphpaaOpen
import Derived.Shelf.GgClosure.Gives
namespace Go.Proofs.Ytomcdkkjknphpaa
open Go.RowKit Go.ChangeShapes Go.WideShapes Go.Deep
set_option linter.unusedVariables false
def encI (x : Int) : Nat → Value := fun _ => .int .i64 x
theorem encI_one : ∀ (c : Int) (j : Nat), (encI c j).oneCell' = true := fun c j => rfl
theorem infoI : (Try.prog.info? 3).map (fun i => (i.zero, i.size, i.bytes)) = some (some (.int .i64 0), 1, 8) := by kernel_rfl
theorem Ints.cells {w : World} {B : Nat} {A : Option Addr} {xs : List Int} (h : Row 1 encI w B A xs) {i : Nat} (hi : i < xs.length) {wr : World} (hb : Below B w wr) :
    ∃ b off, A = some ⟨b, off, none⟩ ∧ b < B ∧ wr.cell? ⟨b, off + i, none⟩ = some (.int .i64 xs[i]) := by
  obtain ⟨b, off, rfl, hl, hc⟩ := h.get hi
  have h0 := (hb.cell (p := ⟨b, off + i * 1 + 0, none⟩) hl).trans (hc 0 (by omega))
  rw [Nat.mul_one, Nat.add_zero] at h0
  exact ⟨b, off, rfl, hl, h0⟩
theorem Ints.open {H : Type} {enc' : TypeId × Value → H} {P : Program} {w : World} {sp : Nat → Bool} {held : Bool} {t e : TypeId} (ht : P.underlying t = some (.slice e)) (he : P.underlying e = some (.int .i64)) (hk : P.cellsOf e = 1) {A : Option Addr} {len cap : Nat} {d : DataW H} {p : List MemPlace}
    (h : DataW.Trod enc' P w 0 sp held t (.slice A len cap) d p) : ∃ zs : List Int, zs.length = len ∧ (∀ z ∈ zs, (Lit.int .i64 z).wf = true) ∧ len ≤ cap ∧ cap ≤ maxLen ∧ Row 1 encI w w.heap.size A zs :=
  row_of_slice (by omega) ht hk (fun n cs y hy hl => ok_int he hy) h
theorem toIntS_any (A : Option Addr) (cap : Nat) (xs : List Int) (w : World) (hr : Row 1 encI w w.heap.size A xs) (hm : xs.length ≤ 1048576) :
    Calls Try.prog 56 #[.slice A xs.length cap] w fun e w' => ∃ g, e = .returned (.slice (some ⟨g, 0, none⟩) xs.length xs.length) ∧ Own 1 encI 3 w' w.heap.size (.slice (some ⟨g, 0, none⟩) xs.length xs.length) xs ∧ Row 1 encI w' w'.heap.size (some ⟨g, 0, none⟩) xs ∧ Below w.heap.size w w' := by
  generalize hB : w.heap.size = B at hr ⊢
  have HB := hide hB; clear hB
  have HR := hide hr; clear hr
  have hmk := run_make_n (P := Try.prog) 35 3 _ 1 8 Try.underlying35 infoI xs.length (by omega) (by omega)
  go_enter Try.func56, Try.ntmps56
  go_wp2_with fail
  go_loopw [4] (fun i wr => ∃ (k : Nat) (cs : Array Value), k ≤ xs.length ∧ i = .int .i64 k ∧ Blk wr w.heap.size 3 cs ∧ cs.size = xs.length * 1 ∧ Filled 1 encI cs k xs ∧ Below B w wr) (fun i _ => xs.length - (intOf i).toNat)
  case atStart => exact ⟨0, _, Nat.zero_le _, rfl, Blk.new _ _ _, by rw [size_madeCells, Nat.mul_one], Filled.zero, (Below.refl _ _).alloc (by rw [HB.out]; exact Nat.le_refl _) _⟩
  case round =>
    obtain ⟨i, cs, hi, rfl, hblk, hsz, hfill, hbel⟩ := hrel
    have hlt0 := hblk.lt
    have HBL := hide hblk; clear hblk
    have HS := hide hsz; clear hsz
    have HF := hide hfill; clear hfill
    by_cases hlt : i < xs.length
    · obtain ⟨b, off, rfl, hb, c0⟩ := Ints.cells HR.out hlt hbel
      have h0 := HBL.out.some (i := i) (by rw [HS.out]; omega)
      have hf := HBL.out.frozen
      go_wp2_with fail
      refine ⟨⟨i + 1, _, by omega, by go_num, HBL.out.set _ _, by simp [HS.out], HF.out.step1 hlt HS.out rfl, ?_⟩, by simp [intOf]; omega⟩
      have hB' : B ≤ w.heap.size := by rw [HB.out]; exact Nat.le_refl _
      exact hbel.setCell hB' _
    · have hk : i = xs.length := by omega
      have HK := hide hk; clear hk
      go_wp2
      go_ret
      rw [HK.out] at HF
      exact ⟨_, rfl, Own.made rfl (by rw [HB.out]; exact Nat.le_refl _) HBL.out HS.out (by simp only [maxLen]; omega) HF.out, HF.out.row HBL.out hlt0, hbel⟩
theorem szIntS_any (A : Option Addr) (n cap : Nat) (left : Int) (w : World) (h0 : 0 ≤ left) (h1 : left ≤ 1048576) (hm : n ≤ 9223372036854775807) :
    Calls Try.prog 54 #[.slice A n cap, .int .i64 left] w fun e w' => e = .returned (.int .i64 (szR left n)) ∧ w = w' := by
  by_cases h : left < n
  · have h' : left - n < 0 := by omega
    have hr : szR left n = -1 := if_pos h
    have HR := hide hr; clear hr h'
    go_enter Try.func54, Try.ntmps54
    go_wp2
    go_ret
    exact ⟨ret_int HR.out.symm, rfl⟩
  · have h' : ¬ left - n < 0 := by omega
    have hr : szR left n = left - n := if_neg h
    have HR := hide hr; clear hr h'
    go_enter Try.func54, Try.ntmps54
    go_wp2
    go_ret
    exact ⟨ret_int HR.out.symm, rfl⟩
theorem eqIntS_same (A A' : Option Addr) (cap cap' : Nat) (xs : List Int) (w : World) (hr : Row 1 encI w w.heap.size A xs) (hr' : Row 1 encI w w.heap.size A' xs) (hm : xs.length ≤ 9223372036854775807) :
    Calls Try.prog 62 #[.slice A xs.length cap, .slice A' xs.length cap'] w fun e w' => e = .returned (.bool true) ∧ Below w.heap.size w w' := by
  generalize hB : w.heap.size = B at hr hr' ⊢
  have HB := hide hB; clear hB
  have HR := hide hr; clear hr
  have HR' := hide hr'; clear hr'
  go_enter Try.func62, Try.ntmps62
  go_wp2_with fail
  go_loopw [5] (fun i wr => ∃ (k : Nat), k ≤ xs.length ∧ i = .int .i64 k ∧ Below B w wr) (fun i _ => xs.length - (intOf i).toNat)
  case atStart => exact ⟨0, Nat.zero_le _, rfl, Below.refl _ _⟩
  case round =>
    obtain ⟨i, hi, rfl, hbel⟩ := hrel
    by_cases hlt : i < xs.length
    · obtain ⟨b, off, rfl, hb, c0⟩ := Ints.cells HR.out hlt hbel
      obtain ⟨b', off', rfl, hb', c0'⟩ := Ints.cells HR'.out hlt hbel
      have t0 : (xs[i] != xs[i]) = false := by simp
      go_wp2_with fail
      go_quiet (fail)
      all_goals
        go_wp2_with fail
        refine ⟨⟨i + 1, by omega, by go_num, ?_⟩, by simp [intOf]; omega⟩
        exact below_drewN hbel _
    · have hk : i = xs.length := by omega
      have HK := hide hk; clear hk
      go_wp2
      go_ret
      exact ⟨rfl, hbel⟩
theorem vInts_same (A A' : Option Addr) (cap cap' : Nat) (xs : List Int) (w : World) (hr : Row 1 encI w w.heap.size A xs) (hr' : Row 1 encI w w.heap.size A' xs) (hm : xs.length ≤ 9223372036854775807) :
    Calls Try.prog 66 #[.slice A xs.length cap, .slice A' xs.length cap'] w fun e w' => e = .returned (.bool true) ∧ Below w.heap.size w w' := by
  generalize hB : w.heap.size = B at hr hr' ⊢
  have HB := hide hB; clear hB
  have HR := hide hr; clear hr
  have HR' := hide hr'; clear hr'
  go_enter Try.func66, Try.ntmps66
  go_wp2_with fail
  go_loopw [5] (fun i wr => ∃ (k : Nat), k ≤ xs.length ∧ i = .int .i64 k ∧ Below B w wr) (fun i _ => xs.length - (intOf i).toNat)
  case atStart => exact ⟨0, Nat.zero_le _, rfl, Below.refl _ _⟩
  case round =>
    obtain ⟨i, hi, rfl, hbel⟩ := hrel
    by_cases hlt : i < xs.length
    · obtain ⟨b, off, rfl, hb, c0⟩ := Ints.cells HR.out hlt hbel
      obtain ⟨b', off', rfl, hb', c0'⟩ := Ints.cells HR'.out hlt hbel
      have t0 : (xs[i] != xs[i]) = false := by simp
      go_wp2_with fail
      go_quiet (fail)
      all_goals
        go_wp2_with fail
        refine ⟨⟨i + 1, by omega, by go_num, ?_⟩, by simp [intOf]; omega⟩
        exact below_drewN hbel _
    · have hk : i = xs.length := by omega
      have HK := hide hk; clear hk
      go_wp2
      go_ret
      exact ⟨rfl, hbel⟩
/-- the numbers from k0 on -/
def marksI (k0 : Int) (n : Nat) : List Int := (List.range n).map fun (i : Nat) => k0 + (i : Int)
theorem marksI_length (k0 : Int) (n : Nat) : (marksI k0 n).length = n := by simp [marksI]
theorem marksI_get (k0 : Int) (n i : Nat) (h : i < (marksI k0 n).length) : (marksI k0 n)[i] = k0 + (i : Int) := by simp [marksI]
theorem markIntS_any (v : Value) (xs : List Int) (k0 : Int) (base : Nat) (w : World) (ho : Own 1 encI 3 w base v xs) (hm : xs.length ≤ 1048576) (h0 : 0 ≤ k0) (h1 : k0 ≤ 16777216) :
    Calls Try.prog 77 #[v, .int .i64 k0] w fun e w' => e = .returned (.int .i64 (k0 + (xs.length : Int))) ∧ Own 1 encI 3 w' base v (marksI k0 xs.length) ∧ w.grownBy w' v.ownBlock := by
  rcases ho with ⟨rfl, rfl⟩ | ⟨g, cap, cs0, rfl, hg, hblk0, hle, hcm, hs0, hf0⟩
  · go_enter Try.func77, Try.ntmps77
    go_wp2_with fail
    go_loop [1, 5] (fun q i => q = .int .i64 k0 ∧ i = .int .i64 0) (fun _ _ => 0)
    case atStart => exact ⟨rfl, rfl⟩
    case round =>
      obtain ⟨rfl, rfl⟩ := hrel
      go_wp2
      go_ret
      exact ⟨ret_int (by show k0 = _; simp), .inl ⟨rfl, rfl⟩, World.grownBy.refl _ _⟩
  · generalize hn : xs.length = n at hle hm ⊢
    have HN := hide hn; clear hn hf0
    have H0 := hide hblk0; clear hblk0
    have HS0 := hide hs0; clear hs0
    have hcap : n ≤ cs0.size := by rw [HS0.out]; omega
    go_enter Try.func77, Try.ntmps77
    go_wp2_with fail
    go_loopw [1, 5] (fun q i wr => ∃ (k : Nat) (cs : Array Value), k ≤ n ∧ i = .int .i64 k ∧ q = .int .i64 (k0 + (k : Int)) ∧ Blk wr g 3 cs ∧ cs.size = cs0.size ∧ Filled 1 encI cs k (marksI k0 n) ∧ w.grownBy wr (some g)) (fun _ i _ => n - (intOf i).toNat)
    case atStart => exact ⟨0, cs0, Nat.zero_le _, rfl, by simp, H0.out, rfl, Filled.zero, World.grownBy.refl _ _⟩
    case round =>
      obtain ⟨i, cs, hi, rfl, rfl, hblk, hsz, hfill, hgr⟩ := hrel
      have HS := hide hsz; clear hsz
      have HF := hide hfill; clear hfill
      have HG := hide hgr; clear hgr
      by_cases hlt : i < n
      · have h0 := hblk.some (i := i) (by rw [HS.out]; omega)
        have hf := hblk.frozen
        have HB := hide hblk; clear hblk
        go_wp2_with fail
        refine ⟨⟨i + 1, _, by omega, by go_num, ?_, HB.out.set _ _, by simp [HS.out], ?_, ?_⟩, by simp [intOf]; omega⟩
        · congr 1; simp only [Int.natCast_add]; omega
        · refine HF.out.step1' (by rw [marksI_length]; exact hlt) (by rw [HS.out]; omega) ?_
          rw [marksI_get]; rfl
        · exact grownBy_setCell HG.out _ _
      · have hk : i = n := by omega
        have HK := hide hk; clear hk
        have HB := hide hblk; clear hblk
        go_wp2
        go_ret
        rw [HK.out] at HF
        refine ⟨ret_int (by rw [HK.out]), .inr ⟨g, cap, cs, ?_, hg, HB.out, ?_, hcm, by rw [HS.out, HS0.out], ?_⟩, HG.out⟩
        · rw [marksI_length]
        · rw [marksI_length]; exact hle
        · rw [marksI_length]; exact HF.out
theorem heldIntS_any (A : Option Addr) (cap n : Nat) (k0 : Int) (w : World) (hr : Row 1 encI w w.heap.size A (marksI k0 n)) (hm : n ≤ 1048576) (h0 : 0 ≤ k0) (h1 : k0 ≤ 16777216) :
    Calls Try.prog 80 #[.slice A n cap, .int .i64 k0] w fun e w' => e = .returned (.int .i64 (k0 + (n : Int))) ∧ w = w' := by
  have HR := hide hr; clear hr
  go_enter Try.func80, Try.ntmps80
  go_wp2_with fail
  go_loop [1, 5] (fun q i => ∃ k : Nat, k ≤ n ∧ i = .int .i64 k ∧ q = .int .i64 (k0 + (k : Int))) (fun _ i => n - (intOf i).toNat)
  case atStart => exact ⟨0, Nat.zero_le _, rfl, by simp⟩
  case round =>
    obtain ⟨i, hi, rfl, rfl⟩ := hrel
    by_cases hlt : i < n
    · obtain ⟨b, off, rfl, hb, c0⟩ := Ints.cells HR.out (i := i) (by rw [marksI_length]; exact hlt) (Below.refl _ _)
      simp only [marksI_get] at c0
      have t0 : (k0 + (i : Int) != k0 + (i : Int)) = false := by simp
      go_wp2_with fail
      go_round
      case rel => exact ⟨i + 1, by omega, by go_num, by congr 1; simp only [Int.natCast_add]; omega⟩
      case measure => simp [intOf]; omega
    · have hk : i = n := by omega
      have HK := hide hk; clear hk
      go_wp2
      go_ret
      exact ⟨ret_int (by rw [HK.out]), rfl⟩
/-- the predicate g with the captured values cp answers p, in whatever world in which what lay below B stays -/
def PredI (g : FuncId) (cp : Array Value) (p : Int → Bool) (B : Nat) (w : World) : Prop :=
  ∀ (W : World) (c : Int), Below B w W → Calls Try.prog g (#[.int .i64 c] ++ cp) W fun e w' => e = .returned (.bool (p c)) ∧ Below B w w'
theorem IndexFuncI_any (g : FuncId) (cp : Array Value) (p : Int → Bool) (A : Option Addr) (cap : Nat) (xs : List Int) (w : World) (hr : Row 1 encI w w.heap.size A xs) (hm : xs.length ≤ 9223372036854775807)
    (eg : ∀ args w, (callFunc g args).run Try.prog w = .ok (.enter g args) w) (hp : PredI g cp p w.heap.size w) :
    Calls Try.prog 85 #[.slice A xs.length cap, .func (.func g) #[] cp] w fun e w' => e = .returned (.int .i64 (idxF p xs)) ∧ Below w.heap.size w w' := by
  generalize hB : w.heap.size = B at hr hp ⊢
  have HB := hide hB; clear hB
  have HR := hide hr; clear hr
  have HP := hide hp; clear hp
  go_enter Try.func85, Try.ntmps85
  go_wp2_with fail
  go_loopw [8] (fun i wr => ∃ (k : Nat), k ≤ xs.length ∧ i = .int .i64 k ∧ (∀ c ∈ xs.take k, p c = false) ∧ Below B w wr) (fun i _ => xs.length - (intOf i).toNat)
  case atStart => exact ⟨0, Nat.zero_le _, rfl, by simp, Below.refl _ _⟩
  case round =>
    obtain ⟨i, hi, rfl, hno, hbel⟩ := hrel
    have HN := hide hno; clear hno
    by_cases hlt : i < xs.length
    · obtain ⟨b, off, rfl, hb, c0⟩ := Ints.cells HR.out hlt hbel
      have hcall := HP.out wr xs[i] hbel
      generalize hy : xs[i] = y at hcall c0
      have HY := hide hy; clear hy
      cases hq : p y with
      | true =>
        rw [hq] at hcall
        have HQ := hide hq; clear hq
        go_wp2_with (go_at_fn g; refine hcall.mono ?_; rintro e w' ⟨rfl, hb'⟩)
        go_ret
        refine ⟨ret_int ?_, hb'⟩
        exact (idxF_hit hlt (by rw [HY.out]; exact HQ.out) HN.out).symm
      | false =>
        rw [hq] at hcall
        have HQ := hide hq; clear hq
        go_wp2_with (go_at_fn g; refine hcall.mono ?_; rintro e w' ⟨rfl, hb'⟩)
        refine ⟨⟨i + 1, by omega, by go_num, ?_, hb'⟩, by simp [intOf]; omega⟩
        rw [take_snoc' hlt, HY.out]
        intro c hc
        rcases List.mem_append.1 hc with h | h
        · exact HN.out c h
        · rw [List.mem_singleton.1 h]; exact HQ.out
    · have hk : i = xs.length := by omega
      have HK := hide hk; clear hk
      go_wp2_with fail
      go_ret
      refine ⟨ret_int (idxF_miss ?_).symm, hbel⟩
      have := HN.out; rw [HK.out, List.take_length] at this; exact this
theorem ContainsFuncI_any (g : FuncId) (cp : Array Value) (p : Int → Bool) (A : Option Addr) (cap : Nat) (xs : List Int) (w : World) (hr : Row 1 encI w w.heap.size A xs) (hm : xs.length ≤ 9223372036854775807)
    (eg : ∀ args w, (callFunc g args).run Try.prog w = .ok (.enter g args) w) (hp : PredI g cp p w.heap.size w) :
    Calls Try.prog 60 #[.slice A xs.length cap, .func (.func g) #[] cp] w fun e w' => e = .returned (.bool (xs.any p)) ∧ Below w.heap.size w w' := by
  have HR := hide hr; clear hr
  have HP := hide hp; clear hp
  go_enter Try.func60, Try.ntmps60
  go_wp2_with (go_at_call 85; refine (IndexFuncI_any _ _ _ _ _ _ _ HR.out hm eg HP.out).mono ?_; rintro e w' ⟨rfl, hb'⟩)
  go_ret
  exact ⟨ret_bool (idxF_any p xs), hb'⟩
theorem toIntS_is (v : Value) (xs : List Int) (w : World) (h : Is 1 encI w v xs) (hm : xs.length ≤ 1048576) :
    Calls Try.prog 56 #[v] w fun e w' => ∃ v', e = .returned v' ∧ Own 1 encI 3 w' w.heap.size v' xs ∧ Below w.heap.size w w' := by
  obtain ⟨A, cap, rfl, hr, _, _⟩ := h
  exact (toIntS_any A cap xs w hr hm).mono fun e w' ⟨g, he, ho, _, hb⟩ => ⟨_, he, ho, hb⟩
theorem eqIntS_is (v v' : Value) (xs : List Int) (w : World) (h : Is 1 encI w v xs) (h' : Is 1 encI w v' xs) :
    Calls Try.prog 62 #[v, v'] w fun e w' => e = .returned (.bool true) ∧ Below w.heap.size w w' := by
  have hm := h.len
  obtain ⟨A, cap, rfl, hr, _, _⟩ := h
  obtain ⟨A', cap', rfl, hr', _, _⟩ := h'
  exact eqIntS_same A A' cap cap' xs w hr hr' hm
theorem vInts_is (v v' : Value) (xs : List Int) (w : World) (h : Is 1 encI w v xs) (h' : Is 1 encI w v' xs) :
    Calls Try.prog 66 #[v, v'] w fun e w' => e = .returned (.bool true) ∧ Below w.heap.size w w' := by
  have hm := h.len
  obtain ⟨A, cap, rfl, hr, _, _⟩ := h
  obtain ⟨A', cap', rfl, hr', _, _⟩ := h'
  exact vInts_same A A' cap cap' xs w hr hr' hm
theorem heldIntS_is (v : Value) (k0 : Int) (n : Nat) (w : World) (h : Is 1 encI w v (marksI k0 n)) (hm : n ≤ 1048576) (h0 : 0 ≤ k0) (h1 : k0 ≤ 16777216) :
    Calls Try.prog 80 #[v, .int .i64 k0] w fun e w' => e = .returned (.int .i64 (k0 + (n : Int))) ∧ w = w' := by
  obtain ⟨A, cap, rfl, hr, _, _⟩ := h
  rw [marksI_length]
  exact heldIntS_any A cap n k0 w hr hm h0 h1
end Go.Proofs.Ytomcdkkjknphpaa
