/- Contracts of the helpers of the laws on lists of Claim: conversion, equality, marks, and the library's search with a predicate. Conditions: lengths up to 1048576 where a slice is made or marked. -/
import Derived.Test.YtijjecckfcbaoaaProg
import Derived.Test.YtijjecckfcbaoaaOwn
import Derived.Test.YtijjecckfcbaoaaOpen
import Derived.Shelf.GgClosure.Gives
namespace Go.Proofs.Ytijjecckfcbaoaa
open Go.RowKit Go.ChangeShapes Go.WideShapes Go.Deep
set_option linter.unusedVariables false
structure SClaim where
  (low high least most : Int)
def SClaim.zero : SClaim := ⟨0, 0, 0, 0⟩
def SClaim.enc (c : SClaim) : Nat → Value := fun j => match j with | 0 => .int .i64 c.low | 1 => .int .i64 c.high | 2 => .int .i64 c.least | _ => .int .i64 c.most
theorem SClaim.one : ∀ (c : SClaim) (j : Nat), (SClaim.enc c j).oneCell' = true := fun c j => by unfold SClaim.enc; split <;> rfl
theorem SClaim.info : (Try.prog.info? 23).map (fun i => (i.zero, i.size, i.bytes)) = some (some (.agg #[.int .i64 0, .int .i64 0, .int .i64 0, .int .i64 0]), 4, 32) := by kernel_rfl
def SClaim.wf (c : SClaim) : Prop := (Lit.int .i64 c.low).wf = true ∧ (Lit.int .i64 c.high).wf = true ∧ (Lit.int .i64 c.least).wf = true ∧ (Lit.int .i64 c.most).wf = true
theorem SClaim.cells {w : World} {B : Nat} {A : Option Addr} {xs : List SClaim} (h : Row 4 SClaim.enc w B A xs) {i : Nat} (hi : i < xs.length) {wr : World} (hb : Below B w wr) :
    ∃ b off, A = some ⟨b, off, none⟩ ∧ b < B ∧ wr.cell? ⟨b, off + i * 4, none⟩ = some (.int .i64 xs[i].low) ∧ wr.cell? ⟨b, off + i * 4 + 1, none⟩ = some (.int .i64 xs[i].high) ∧ wr.cell? ⟨b, off + i * 4 + 2, none⟩ = some (.int .i64 xs[i].least) ∧ wr.cell? ⟨b, off + i * 4 + 3, none⟩ = some (.int .i64 xs[i].most) := by
  obtain ⟨b, off, rfl, hl, hc⟩ := h.get hi
  have hcell := fun j hj => (hb.cell (p := ⟨b, off + i * 4 + j, none⟩) hl).trans (hc j hj)
  exact ⟨b, off, rfl, hl, hcell 0 (by omega), hcell 1 (by omega), hcell 2 (by omega), hcell 3 (by omega)⟩
theorem SClaim.open {H : Type} {enc' : TypeId × Value → H} {w : World} {sp : Nat → Bool} {held : Bool} {A : Option Addr} {len cap : Nat} {d : DataW H} {p : List MemPlace}
    (h : DataW.Trod enc' Try.prog w 0 sp held 31 (.slice A len cap) d p) : ∃ zs : List SClaim, zs.length = len ∧ (∀ z ∈ zs, z.wf) ∧ len ≤ cap ∧ cap ≤ maxLen ∧ Row 4 SClaim.enc w w.heap.size A zs := by
  refine row_of_slice (by omega) Try.underlying31 (by kernel_rfl) (fun n cs y ht hl => ?_) h
  obtain ⟨q, hf⟩ := fields_of_struct Try.underlying70 (by kernel_rfl) ht (by rw [hl]; rfl)
  obtain ⟨v0, z0, h0, t0⟩ := hf 0 _ rfl
  obtain ⟨x0, e0, _, w0⟩ := DataW.trod_int Try.underlying3 t0
  simp only [List.cons.injEq, and_true] at e0; subst e0
  obtain ⟨v1, z1, h1, t1⟩ := hf 1 _ rfl
  obtain ⟨x1, e1, _, w1⟩ := DataW.trod_int Try.underlying3 t1
  simp only [List.cons.injEq, and_true] at e1; subst e1
  obtain ⟨v2, z2, h2, t2⟩ := hf 2 _ rfl
  obtain ⟨x2, e2, _, w2⟩ := DataW.trod_int Try.underlying3 t2
  simp only [List.cons.injEq, and_true] at e2; subst e2
  obtain ⟨v3, z3, h3, t3⟩ := hf 3 _ rfl
  obtain ⟨x3, e3, _, w3⟩ := DataW.trod_int Try.underlying3 t3
  simp only [List.cons.injEq, and_true] at e3; subst e3
  refine ⟨⟨x0, x1, x2, x3⟩, ⟨w0, w1, w2, w3⟩, fun j hj => ?_⟩
  have hj' : j = 0 ∨ j = 1 ∨ j = 2 ∨ j = 3 := by omega
  rcases hj' with rfl | rfl | rfl | rfl
  · exact h0
  · exact h1
  · exact h2
  · exact h3
theorem toClaim_any (a0 a1 a2 a3 : Int) (w : World) :
    Calls Try.prog 63 #[.agg #[.int .i64 a0, .int .i64 a1, .int .i64 a2, .int .i64 a3]] w fun e w' => e = .returned (.agg #[.int .i64 a0, .int .i64 a1, .int .i64 a2, .int .i64 a3]) ∧ Below w.heap.size w w' := by
  go_enter Try.func63, Try.ntmps63
  go_wp2
  exact bodyPost_ret (v := .agg #[.int .i64 a0, .int .i64 a1, .int .i64 a2, .int .i64 a3]) (by simp [results, Try.results63, go_sem]) rfl ⟨rfl, (((Below.refl _ _).alloc (Nat.le_refl _) _).alloc (by simp) _).alloc (by simp; omega) _⟩
theorem toClaimS_any (A : Option Addr) (cap : Nat) (xs : List SClaim) (w : World) (hr : Row 4 SClaim.enc w w.heap.size A xs) (hm : xs.length ≤ 1048576) :
    Calls Try.prog 22 #[.slice A xs.length cap] w fun e w' => ∃ g, e = .returned (.slice (some ⟨g, 0, none⟩) xs.length xs.length) ∧ Own 4 SClaim.enc 23 w' w.heap.size (.slice (some ⟨g, 0, none⟩) xs.length xs.length) xs ∧ Row 4 SClaim.enc w' w'.heap.size (some ⟨g, 0, none⟩) xs ∧ Below w.heap.size w w' := by
  generalize hB : w.heap.size = B at hr ⊢
  have HB := hide hB; clear hB
  have HR := hide hr; clear hr
  have hmk := run_make_n (P := Try.prog) 34 23 _ 4 32 Try.underlying34 SClaim.info xs.length (by omega) (by omega)
  go_enter Try.func22, Try.ntmps22
  go_wp2_with fail
  go_loopw [4] (fun i wr => ∃ (k : Nat) (cs : Array Value), k ≤ xs.length ∧ i = .int .i64 k ∧ Blk wr w.heap.size 23 cs ∧ cs.size = xs.length * 4 ∧ Filled 4 SClaim.enc cs k xs ∧ Below B w wr) (fun i _ => xs.length - (intOf i).toNat)
  case atStart => exact ⟨0, _, Nat.zero_le _, rfl, Blk.new _ _ _, by rw [size_madeCells], Filled.zero, (Below.refl _ _).alloc (by rw [HB.out]; exact Nat.le_refl _) _⟩
  case round =>
    obtain ⟨i, cs, hi, rfl, hblk, hsz, hfill, hbel⟩ := hrel
    have hlt0 := hblk.lt
    have HBL := hide hblk; clear hblk
    have HS := hide hsz; clear hsz
    have HF := hide hfill; clear hfill
    by_cases hlt : i < xs.length
    · obtain ⟨b, off, rfl, hb, c0, c1, c2, c3⟩ := SClaim.cells HR.out hlt hbel
      go_wp2_with fail
      refine (toClaim_any _ _ _ _ _).mono ?_; rintro e w1 ⟨rfl, hb1⟩
      have hbl1 := HBL.out.below hb1 hlt0
      have h0 := hbl1.some (i := i * 4) (by rw [HS.out]; omega)
      have h1 := hbl1.some (i := i * 4 + 1) (by rw [HS.out]; omega)
      have h2 := hbl1.some (i := i * 4 + 2) (by rw [HS.out]; omega)
      have h3 := hbl1.some (i := i * 4 + 3) (by rw [HS.out]; omega)
      have hf := hbl1.frozen
      have HB1 := hide hbl1; clear hbl1
      go_wp2_with fail
      refine ⟨⟨i + 1, _, by omega, by go_num, ((((HB1.out.set _ _).set _ _).set _ _).set _ _), by simp [HS.out], HF.out.step4 hlt HS.out rfl rfl rfl rfl, ?_⟩, by simp [intOf]; omega⟩
      have hB' : B ≤ w.heap.size := by rw [HB.out]; exact Nat.le_refl _
      exact (((((bstep hbel hb1 (by omega)).setCell hB' _).setCell hB' _).setCell hB' _).setCell hB' _)
    · have hk : i = xs.length := by omega
      have HK := hide hk; clear hk
      go_wp2
      go_ret
      rw [HK.out] at HF
      exact ⟨_, rfl, Own.made rfl (by rw [HB.out]; exact Nat.le_refl _) HBL.out HS.out (by simp only [maxLen]; omega) HF.out, HF.out.row HBL.out hlt0, hbel⟩
theorem toClaimS_is (v : Value) (xs : List SClaim) (w : World) (h : Is 4 SClaim.enc w v xs) (hm : xs.length ≤ 1048576) :
    Calls Try.prog 22 #[v] w fun e w' => ∃ v', e = .returned v' ∧ Own 4 SClaim.enc 23 w' w.heap.size v' xs ∧ Below w.heap.size w w' := by
  obtain ⟨A, cap, rfl, hr, _, _⟩ := h
  exact (toClaimS_any A cap xs w hr hm).mono fun e w' ⟨g, he, ho, _, hb⟩ => ⟨_, he, ho, hb⟩
theorem szClaimS_any (A : Option Addr) (n cap : Nat) (left : Int) (w : World) (h0 : 0 ≤ left) (h1 : left ≤ 1048576) (hm : n ≤ 9223372036854775807) :
    Calls Try.prog 20 #[.slice A n cap, .int .i64 left] w fun e w' => e = .returned (.int .i64 (szR left n)) ∧ w = w' := by
  by_cases h : left < n
  · have h' : left - n < 0 := by omega
    have hr : szR left n = -1 := if_pos h
    have HR := hide hr; clear hr h
    go_enter Try.func20, Try.ntmps20
    go_wp2
    go_ret
    exact ⟨ret_int HR.out.symm, rfl⟩
  · have h' : ¬ left - n < 0 := by omega
    have hr : szR left n = left - n := if_neg h
    have HR := hide hr; clear hr h
    go_enter Try.func20, Try.ntmps20
    go_wp2
    go_ret
    exact ⟨ret_int HR.out.symm, rfl⟩
theorem eqClaim_same (a0 a1 a2 a3 : Int) (w : World) :
    Calls Try.prog 17 #[.agg #[.int .i64 a0, .int .i64 a1, .int .i64 a2, .int .i64 a3], .agg #[.int .i64 a0, .int .i64 a1, .int .i64 a2, .int .i64 a3]] w fun e w' => e = .returned (.bool true) ∧ (w.alloc (.cells #[.int .i64 a0, .int .i64 a1, .int .i64 a2, .int .i64 a3] 23)).alloc (.cells #[.int .i64 a0, .int .i64 a1, .int .i64 a2, .int .i64 a3] 23) = w' := by
  go_enter Try.func17, Try.ntmps17
  go_wp2
  go_ret
  exact ⟨rfl, rfl⟩
theorem eqClaimS_same (A A' : Option Addr) (cap cap' : Nat) (xs : List SClaim) (w : World) (hr : Row 4 SClaim.enc w w.heap.size A xs) (hr' : Row 4 SClaim.enc w w.heap.size A' xs) (hm : xs.length ≤ 9223372036854775807) :
    Calls Try.prog 24 #[.slice A xs.length cap, .slice A' xs.length cap'] w fun e w' => e = .returned (.bool true) ∧ Below w.heap.size w w' := by
  generalize hB : w.heap.size = B at hr hr' ⊢
  have HB := hide hB; clear hB
  have HR := hide hr; clear hr
  have HR' := hide hr'; clear hr'
  go_enter Try.func24, Try.ntmps24
  go_wp2_with fail
  go_loopw [5] (fun i wr => ∃ (k : Nat), k ≤ xs.length ∧ i = .int .i64 k ∧ Below B w wr) (fun i _ => xs.length - (intOf i).toNat)
  case atStart => exact ⟨0, Nat.zero_le _, rfl, Below.refl _ _⟩
  case round =>
    obtain ⟨i, hi, rfl, hbel⟩ := hrel
    have hsz : B ≤ wr.heap.size := by have := hbel.size; rw [HB.out] at this; exact this
    by_cases hlt : i < xs.length
    · obtain ⟨b, off, rfl, hb, c0, c1, c2, c3⟩ := SClaim.cells HR.out hlt hbel
      obtain ⟨b', off', rfl, hb', c0', c1', c2', c3'⟩ := SClaim.cells HR'.out hlt hbel
      go_wp2_with fail
      go_region_held3 (fun w' => w'.cell? ⟨b, off + i * 4, none⟩ = some (.int .i64 xs[i].low) ∧ w'.cell? ⟨b, off + i * 4 + 1, none⟩ = some (.int .i64 xs[i].high) ∧ w'.cell? ⟨b, off + i * 4 + 2, none⟩ = some (.int .i64 xs[i].least) ∧ w'.cell? ⟨b, off + i * 4 + 3, none⟩ = some (.int .i64 xs[i].most) ∧ w'.cell? ⟨b', off' + i * 4, none⟩ = some (.int .i64 xs[i].low) ∧ w'.cell? ⟨b', off' + i * 4 + 1, none⟩ = some (.int .i64 xs[i].high) ∧ w'.cell? ⟨b', off' + i * 4 + 2, none⟩ = some (.int .i64 xs[i].least) ∧ w'.cell? ⟨b', off' + i * 4 + 3, none⟩ = some (.int .i64 xs[i].most)) (go_keep) ((go_at_call 17; refine (eqClaim_same _ _ _ _ _).mono ?_; rintro e w' ⟨rfl, rfl⟩))
      all_goals
        go_wp2_with fail
        refine ⟨⟨i + 1, by omega, by go_num, ?_⟩, by simp [intOf]; omega⟩
        exact Below.drew ((hbel.alloc hsz _).alloc (by simp; omega) _)
    · have hk : i = xs.length := by omega
      have HK := hide hk; clear hk
      go_wp2
      go_ret
      exact ⟨rfl, hbel⟩
theorem eqClaimS_is (v v' : Value) (xs : List SClaim) (w : World) (h : Is 4 SClaim.enc w v xs) (h' : Is 4 SClaim.enc w v' xs) :
    Calls Try.prog 24 #[v, v'] w fun e w' => e = .returned (.bool true) ∧ Below w.heap.size w w' := by
  have hm := h.len
  obtain ⟨A, cap, rfl, hr, _, _⟩ := h
  obtain ⟨A', cap', rfl, hr', _, _⟩ := h'
  exact eqClaimS_same A A' cap cap' xs w hr hr' hm
/-- the numbers from k0 on, 4 an element -/
def SClaim.marks (k0 : Int) (n : Nat) : List SClaim := (List.range n).map fun (i : Nat) => (⟨k0 + (i : Int) * 4 + 0, k0 + (i : Int) * 4 + 1, k0 + (i : Int) * 4 + 2, k0 + (i : Int) * 4 + 3⟩ : SClaim)
theorem SClaim.marks_length (k0 : Int) (n : Nat) : (SClaim.marks k0 n).length = n := by simp [SClaim.marks]
theorem SClaim.marks_get (k0 : Int) (n i : Nat) (h : i < (SClaim.marks k0 n).length) : (SClaim.marks k0 n)[i] = ⟨k0 + (i : Int) * 4 + 0, k0 + (i : Int) * 4 + 1, k0 + (i : Int) * 4 + 2, k0 + (i : Int) * 4 + 3⟩ := by simp [SClaim.marks]
theorem markClaimS_any (v : Value) (xs : List SClaim) (k0 : Int) (base : Nat) (w : World) (ho : Own 4 SClaim.enc 23 w base v xs) (hm : xs.length ≤ 1048576) (h0 : 0 ≤ k0) (h1 : k0 ≤ 16777216) :
    Calls Try.prog 42 #[v, .int .i64 k0] w fun e w' => e = .returned (.int .i64 (k0 + (xs.length : Int) * 4)) ∧ Own 4 SClaim.enc 23 w' base v (SClaim.marks k0 xs.length) ∧ w.grownBy w' v.ownBlock := by
  rcases ho with ⟨rfl, rfl⟩ | ⟨g, cap, cs0, rfl, hg, hblk0, hle, hcm, hs0, hf0⟩
  · go_enter Try.func42, Try.ntmps42
    go_wp2_with fail
    go_loop [1, 5] (fun q i => q = .int .i64 k0 ∧ i = .int .i64 0) (fun _ _ => 0)
    case atStart => exact ⟨rfl, rfl⟩
    case round =>
      obtain ⟨rfl, rfl⟩ := hrel
      go_wp2
      go_ret
      exact ⟨ret_int (by show k0 = _; simp), .inl ⟨rfl, rfl⟩, World.grownBy.refl _ _⟩
  · generalize hn : xs.length = n at hle hm ⊢
    have HN := hide hn; clear hn hf0
    have H0 := hide hblk0; clear hblk0
    have HS0 := hide hs0; clear hs0
    have hcap : n * 4 ≤ cs0.size := by rw [HS0.out]; exact Nat.mul_le_mul_right _ hle
    go_enter Try.func42, Try.ntmps42
    go_wp2_with fail
    go_loopw [1, 5] (fun q i wr => ∃ (k : Nat) (cs : Array Value), k ≤ n ∧ i = .int .i64 k ∧ q = .int .i64 (k0 + (k : Int) * 4) ∧ Blk wr g 23 cs ∧ cs.size = cs0.size ∧ Filled 4 SClaim.enc cs k (SClaim.marks k0 n) ∧ w.grownBy wr (some g)) (fun _ i _ => n - (intOf i).toNat)
    case atStart => exact ⟨0, cs0, Nat.zero_le _, rfl, by simp, H0.out, rfl, Filled.zero, World.grownBy.refl _ _⟩
    case round =>
      obtain ⟨i, cs, hi, rfl, rfl, hblk, hsz, hfill, hgr⟩ := hrel
      have HS := hide hsz; clear hsz
      have HF := hide hfill; clear hfill
      have HG := hide hgr; clear hgr
      by_cases hlt : i < n
      · have q0 : 0 ≤ k0 + (i : Int) * 4 := by omega
        have q1 : k0 + (i : Int) * 4 ≤ 33554432 := by omega
        have h0 := hblk.some (i := i * 4) (by rw [HS.out]; omega)
        have h1 := hblk.some (i := i * 4 + 1) (by rw [HS.out]; omega)
        have h2 := hblk.some (i := i * 4 + 2) (by rw [HS.out]; omega)
        have h3 := hblk.some (i := i * 4 + 3) (by rw [HS.out]; omega)
        have hf := hblk.frozen
        have HB := hide hblk; clear hblk
        go_wp2_with fail
        refine ⟨⟨i + 1, _, by omega, by go_num, ?_, ((((HB.out.set _ _).set _ _).set _ _).set _ _), by simp [HS.out], ?_, ?_⟩, by simp [intOf]; omega⟩
        · congr 1; simp only [Int.natCast_add]; omega
        · refine HF.out.step4' (by rw [SClaim.marks_length]; exact hlt) (by rw [HS.out]; omega) ?_ ?_ ?_ ?_
          all_goals (rw [SClaim.marks_get]; simp only [SClaim.enc] <;> congr 1 <;> omega)
        · exact (grownBy_setCell (grownBy_setCell (grownBy_setCell (grownBy_setCell HG.out _ _) _ _) _ _) _ _)
      · have hk : i = n := by omega
        have HK := hide hk; clear hk
        have HB := hide hblk; clear hblk
        go_wp2
        go_ret
        rw [HK.out] at HF
        refine ⟨ret_int (by rw [HK.out]), .inr ⟨g, cap, cs, ?_, hg, HB.out, ?_, hcm, by rw [HS.out, HS0.out], ?_⟩, HG.out⟩
        · rw [SClaim.marks_length]
        · rw [SClaim.marks_length]; exact hle
        · rw [SClaim.marks_length]; exact HF.out
/-- the predicate g with the captured values cp answers p, in whatever world in which what lay below B stays -/
def SClaim.Pred (g : FuncId) (cp : Array Value) (p : SClaim → Bool) (B : Nat) (w : World) : Prop :=
  ∀ (W : World) (c : SClaim), Below B w W → Calls Try.prog g (#[.agg #[.int .i64 c.low, .int .i64 c.high, .int .i64 c.least, .int .i64 c.most]] ++ cp) W fun e w' => e = .returned (.bool (p c)) ∧ Below B w w'
theorem IndexFuncClaim_any (g : FuncId) (cp : Array Value) (p : SClaim → Bool) (A : Option Addr) (cap : Nat) (xs : List SClaim) (w : World) (hr : Row 4 SClaim.enc w w.heap.size A xs) (hm : xs.length ≤ 9223372036854775807)
    (eg : ∀ args w, (callFunc g args).run Try.prog w = .ok (.enter g args) w) (hp : SClaim.Pred g cp p w.heap.size w) :
    Calls Try.prog 85 #[.slice A xs.length cap, .func (.func g) #[] cp] w fun e w' => e = .returned (.int .i64 (idxF p xs)) ∧ Below w.heap.size w w' := by
  generalize hB : w.heap.size = B at hr hp ⊢
  have HB := hide hB; clear hB
  have HR := hide hr; clear hr
  have HP := hide hp; clear hp
  go_enter Try.func85, Try.ntmps85
  go_wp2_with fail
  go_loopw [8] (fun i wr => ∃ (k : Nat), k ≤ xs.length ∧ i = .int .i64 k ∧ (∀ c ∈ xs.take k, p c = false) ∧ Below B w wr) (fun i _ => xs.length - (intOf i).toNat)
  case atStart => exact ⟨0, Nat.zero_le _, rfl, by simp, Below.refl _ _⟩
  case round =>
    obtain ⟨i, hi, rfl, hno, hbel⟩ := hrel
    have HN := hide hno; clear hno
    by_cases hlt : i < xs.length
    · obtain ⟨b, off, rfl, hb, c0, c1, c2, c3⟩ := SClaim.cells HR.out hlt hbel
      have hcall := HP.out wr xs[i] hbel
      generalize hy : xs[i] = y at hcall c0 c1 c2 c3
      have HY := hide hy; clear hy
      cases hq : p y with
      | true =>
        rw [hq] at hcall
        have HQ := hide hq; clear hq
        go_wp2_with (go_at_fn g; refine hcall.mono ?_; rintro e w' ⟨rfl, hb'⟩)
        go_ret
        refine ⟨ret_int ?_, hb'⟩
        exact (idxF_hit hlt (by rw [HY.out]; exact HQ.out) HN.out).symm
      | false =>
        rw [hq] at hcall
        have HQ := hide hq; clear hq
        go_wp2_with (go_at_fn g; refine hcall.mono ?_; rintro e w' ⟨rfl, hb'⟩)
        refine ⟨⟨i + 1, by omega, by go_num, ?_, hb'⟩, by simp [intOf]; omega⟩
        rw [take_snoc' hlt, HY.out]
        intro c hc
        rcases List.mem_append.1 hc with h | h
        · exact HN.out c h
        · rw [List.mem_singleton.1 h]; exact HQ.out
    · have hk : i = xs.length := by omega
      have HK := hide hk; clear hk
      go_wp2_with fail
      go_ret
      refine ⟨ret_int (idxF_miss ?_).symm, hbel⟩
      have := HN.out; rw [HK.out, List.take_length] at this; exact this
theorem ContainsFuncClaim_any (g : FuncId) (cp : Array Value) (p : SClaim → Bool) (A : Option Addr) (cap : Nat) (xs : List SClaim) (w : World) (hr : Row 4 SClaim.enc w w.heap.size A xs) (hm : xs.length ≤ 9223372036854775807)
    (eg : ∀ args w, (callFunc g args).run Try.prog w = .ok (.enter g args) w) (hp : SClaim.Pred g cp p w.heap.size w) :
    Calls Try.prog 64 #[.slice A xs.length cap, .func (.func g) #[] cp] w fun e w' => e = .returned (.bool (xs.any p)) ∧ Below w.heap.size w w' := by
  have HR := hide hr; clear hr
  have HP := hide hp; clear hp
  go_enter Try.func64, Try.ntmps64
  go_wp2_with (go_at_call 85; refine (IndexFuncClaim_any _ _ _ _ _ _ _ HR.out hm eg HP.out).mono ?_; rintro e w' ⟨rfl, hb'⟩)
  go_ret
  exact ⟨ret_bool (idxF_any p xs), hb'⟩
end Go.Proofs.Ytijjecckfcbaoaa
