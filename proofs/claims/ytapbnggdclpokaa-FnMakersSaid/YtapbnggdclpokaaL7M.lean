/- Contracts of the search for a maker in a line, of l1Has, and of FirstCommon, in impl and spec. Condition: the names' sizes are those of memory. -/
import Derived.Test.YtapbnggdclpokaaL7L
namespace Go.Proofs.Ytapbnggdclpokaa
open Go.RowKit Go.Lib
set_option linter.unusedVariables false
theorem SMaker.eql_same (a0 : Int) (a1 : ByteArray) (a2 a3 a4 : Int) (w : World) : (binOp .eql 60 (.agg #[.int .i64 a0, .string a1, .int .i64 a2, .int .i64 a3, .int .i64 a4]) (.agg #[.int .i64 a0, .string a1, .int .i64 a2, .int .i64 a3, .int .i64 a4])).run Try.prog w = .ok (.bool true) w := by
  have u3 := Try.underlying3
  have u9 := Try.underlying9
  have hS : Try.prog.underlying 60 = some (.struct (Try.prog.fieldsOf 60)) := by kernel_rfl
  have hp : Try.prog.stoodInHeld 60 = false := by kernel_rfl
  rw [run_eql_struct, show (10000 : Nat) = 9999 + 1 from rfl, run_equalIn_agg w 9999 60 _ _ hS hp]
  simp only [Program.fieldsOf, Try.underlying60]
  go_simp
theorem SMaker.eql_other (a0 : Int) (a1 : ByteArray) (a2 a3 a4 b0 : Int) (b1 : ByteArray) (b2 b3 b4 : Int) (h : a0 ≠ b0) (w : World) : (binOp .eql 60 (.agg #[.int .i64 a0, .string a1, .int .i64 a2, .int .i64 a3, .int .i64 a4]) (.agg #[.int .i64 b0, .string b1, .int .i64 b2, .int .i64 b3, .int .i64 b4])).run Try.prog w = .ok (.bool false) w := by
  have u3 := Try.underlying3
  have u9 := Try.underlying9
  have hS : Try.prog.underlying 60 = some (.struct (Try.prog.fieldsOf 60)) := by kernel_rfl
  have hp : Try.prog.stoodInHeld 60 = false := by kernel_rfl
  rw [run_eql_struct, show (10000 : Nat) = 9999 + 1 from rfl, run_equalIn_agg w 9999 60 _ _ hS hp]
  simp only [Program.fieldsOf, Try.underlying60]
  go_simp
theorem good_mono {xs : List SMaker} (hg : goodB xs = true) {i : Nat} : ∀ {j : Nat}, i < j → j < xs.length → (SMaker.at xs i).ident < (SMaker.at xs j).ident
  | 0, h, _ => absurd h (by omega)
  | j + 1, h, hj => by
    have h1 := good_at hg hj
    unfold okAt at h1
    rw [Bool.and_eq_true, Bool.and_eq_true, Bool.or_eq_true] at h1
    have h2 : (SMaker.at xs j).ident < (SMaker.at xs (j + 1)).ident := by
      rcases h1.1.2 with h3 | h3
      · simp at h3
      · simpa using h3
    by_cases hij : i = j
    · subst hij; exact h2
    · have := good_mono hg (i := i) (j := j) (by omega) (by omega)
      omega
theorem good_inj {xs : List SMaker} (hg : goodB xs = true) {i j : Nat} (hi : i < xs.length) (hj : j < xs.length) (hne : i ≠ j) : (SMaker.at xs i).ident ≠ (SMaker.at xs j).ident := by
  rcases Nat.lt_or_gt_of_ne hne with h | h
  · have := good_mono hg h hj; omega
  · have := good_mono hg h hi; omega
theorem Mks.cells {w : World} {B : Nat} {A : Option Addr} {xs : List SMaker} {l : List Nat} (h : Row 5 SMaker.enc w B A (mks xs l)) {i : Nat} (hi : i < l.length) {wr : World} (hb : Below B w wr) :
    ∃ b off, A = some ⟨b, off, none⟩ ∧ b < B ∧ wr.cell? ⟨b, off + i * 5, none⟩ = some (.int .i64 (SMaker.at xs l[i]).ident) ∧ wr.cell? ⟨b, off + i * 5 + 1, none⟩ = some (.string (SMaker.at xs l[i]).name) ∧ wr.cell? ⟨b, off + i * 5 + 2, none⟩ = some (.int .i64 (SMaker.at xs l[i]).frm) ∧ wr.cell? ⟨b, off + i * 5 + 3, none⟩ = some (.int .i64 (SMaker.at xs l[i]).untl) ∧ wr.cell? ⟨b, off + i * 5 + 4, none⟩ = some (.int .i64 (SMaker.at xs l[i]).heir) := by
  obtain ⟨b, off, hA, hb2, c⟩ := SMaker.cells h (i := i) (by simpa [mks] using hi) hb
  rw [show (mks xs l)[i]'(by simpa [mks] using hi) = SMaker.at xs l[i] by simp [mks]] at c
  exact ⟨b, off, hA, hb2, c⟩
set_option maxHeartbeats 1000000 in
theorem IndexM_is (v : Value) (xs : List SMaker) (l : List Nat) (k : Nat) (w : World) (h : Is 5 SMaker.enc w v (mks xs l)) (hg : goodB xs = true) (hl : ∀ i ∈ l, i < xs.length) (hk : k < xs.length) :
    Calls Try.prog 86 #[v, .agg #[.int .i64 (SMaker.at xs k).ident, .string (SMaker.at xs k).name, .int .i64 (SMaker.at xs k).frm, .int .i64 (SMaker.at xs k).untl, .int .i64 (SMaker.at xs k).heir]] w fun e w' => e = .returned (.int .i64 (idxF (fun i => i == k) l)) ∧ Below w.heap.size w w' := by
  have hm := h.len
  obtain ⟨A, cap, rfl, hr, _, _⟩ := h
  have hlen : (mks xs l).length = l.length := by simp [mks]
  rw [hlen] at hm ⊢
  have HL := hide hl; have HG := hide hg; clear hl hg hlen
  have hbx : ∀ W, Below (w.heap.size + 1) (w.alloc (.cells (SMaker.at xs k).boxed 60)) W → Blk W w.heap.size 60 (SMaker.at xs k).boxed := fun W hb => (Blk.new w _ _).below hb (by omega)
  have HBX := hide hbx; clear hbx
  have B1 := below_alloc w (.cells (SMaker.at xs k).boxed 60)
  have hr1 := hr.below B1 (Nat.le_refl _) B1.size
  rw [show (w.alloc (.cells (SMaker.at xs k).boxed 60)).heap.size = w.heap.size + 1 by simp] at hr1
  have HR := hide hr1; have HB1 := hide B1; clear hr hr1 B1
  generalize hB : w.heap.size = B at HBX HR HB1
  have HB := hide hB
  have HOTH := hide (fun (i : Nat) (hi : i < xs.length) (hne : i ≠ k) => good_inj HG.out hi hk hne)
  go_enter Try.func86, Try.ntmps86
  go_wp2_with fail
  go_loopw [8] (fun i wr => ∃ (n : Nat), n ≤ l.length ∧ i = .int .i64 n ∧ (∀ c ∈ l.take n, (c == k) = false) ∧ Below (B + 1) (w.alloc (.cells (SMaker.at xs k).boxed 60)) wr) (fun i _ => l.length - (intOf i).toNat)
  case atStart => exact ⟨0, Nat.zero_le _, rfl, by simp, Below.refl _ _⟩
  case round =>
    obtain ⟨n, hn, rfl, hno, hbel⟩ := hrel
    have HN := hide hno; clear hno
    have hsz : B + 1 ≤ wr.heap.size := by have := hbel.size; simp at this; omega
    by_cases hlt : n < l.length
    · obtain ⟨b, off, rfl, hb, c0, c1, c2, c3, c4⟩ := Mks.cells HR.out hlt hbel
      obtain ⟨e0, e1, e2, e3, e4⟩ := boxed_cell (HBX.out _ hbel)
      have hin := HL.out _ (List.getElem_mem hlt)
      by_cases hq : l[n] = k
      · have hidx : idxF (fun i => i == k) l = (n : Int) := idxF_hit hlt (by simp [hq]) HN.out
        rw [hq] at c0 c1 c2 c3 c4
        have hrun := fun W => SMaker.eql_same (SMaker.at xs k).ident (SMaker.at xs k).name (SMaker.at xs k).frm (SMaker.at xs k).untl (SMaker.at xs k).heir W
        have m0 := fun n => later_cell c0 n; have m1 := fun n => later_cell c1 n; have m2 := fun n => later_cell c2 n; have m3 := fun n => later_cell c3 n; have m4 := fun n => later_cell c4 n
        have l0 := fun n => later_cell e0 n; have l1 := fun n => later_cell e1 n; have l2 := fun n => later_cell e2 n; have l3 := fun n => later_cell e3 n; have l4 := fun n => later_cell e4 n
        generalize (SMaker.at xs k).ident = z0 at *; generalize (SMaker.at xs k).name = z1 at *; generalize (SMaker.at xs k).frm = z2 at *; generalize (SMaker.at xs k).untl = z3 at *; generalize (SMaker.at xs k).heir = z4 at *
        have HIX := hide hidx; clear hidx hq
        go_wp2_with fail
        (refine wp_region_later (by kernel_rfl) (by kernel_rfl) ?_; (repeat (go_big_quiet_step (fail))); refine wpQuiet_nil ?_; intro _ hw'; obtain ⟨nq, hw''⟩ := hw'; subst hw'')
        have B3 := hbel.trans (nq.h.mono hsz)
        go_wp2_with fail
        go_ret
        exact ⟨ret_int HIX.out.symm, HB1.out.trans (B3.mono (Nat.le_succ _))⟩
      · have hq2 : (l[n] == k) = false := by simpa using hq
        have hne := HOTH.out _ hin hq
        have hrun := fun W => SMaker.eql_other (SMaker.at xs k).ident (SMaker.at xs k).name (SMaker.at xs k).frm (SMaker.at xs k).untl (SMaker.at xs k).heir (SMaker.at xs l[n]).ident (SMaker.at xs l[n]).name (SMaker.at xs l[n]).frm (SMaker.at xs l[n]).untl (SMaker.at xs l[n]).heir (Ne.symm hne) W
        have HQ := hide hq2; clear hq hq2 hne hin
        have m0 := fun n => later_cell c0 n; have m1 := fun n => later_cell c1 n; have m2 := fun n => later_cell c2 n; have m3 := fun n => later_cell c3 n; have m4 := fun n => later_cell c4 n
        have l0 := fun n => later_cell e0 n; have l1 := fun n => later_cell e1 n; have l2 := fun n => later_cell e2 n; have l3 := fun n => later_cell e3 n; have l4 := fun n => later_cell e4 n
        generalize (SMaker.at xs k).ident = z0 at *; generalize (SMaker.at xs k).name = z1 at *; generalize (SMaker.at xs k).frm = z2 at *; generalize (SMaker.at xs k).untl = z3 at *; generalize (SMaker.at xs k).heir = z4 at *
        generalize (SMaker.at xs l[n]).ident = y0 at *; generalize (SMaker.at xs l[n]).name = y1 at *; generalize (SMaker.at xs l[n]).frm = y2 at *; generalize (SMaker.at xs l[n]).untl = y3 at *; generalize (SMaker.at xs l[n]).heir = y4 at *
        go_wp2_with fail
        (refine wp_region_later (by kernel_rfl) (by kernel_rfl) ?_; (repeat (go_big_quiet_step (fail))); refine wpQuiet_nil ?_; intro _ hw'; obtain ⟨nq, hw''⟩ := hw'; subst hw'')
        have B3 := hbel.trans (nq.h.mono hsz)
        generalize nq.W = W5 at B3
        clear nq m0 m1 m2 m3 m4 l0 l1 l2 l3 l4
        go_wp2_with fail
        go_round
        case measure => (simp [intOf] <;> omega)
        case rel =>
          refine ⟨n + 1, by omega, by go_num, ?_, B3⟩
          rw [take_snoc' hlt]
          intro c hc
          rcases List.mem_append.1 hc with h | h
          · exact HN.out c h
          · rw [List.mem_singleton.1 h]; exact HQ.out
    · have hk2 : n = l.length := by omega
      have hidx : idxF (fun i => i == k) l = -1 := idxF_miss (by have := HN.out; rw [hk2, List.take_length] at this; exact this)
      have HIX := hide hidx; have HK := hide hk2; clear hidx hk2
      go_wp2_with fail
      go_ret
      exact ⟨ret_int HIX.out.symm, HB1.out.trans (hbel.mono (Nat.le_succ _))⟩
theorem ContainsM_is (v : Value) (xs : List SMaker) (l : List Nat) (k : Nat) (w : World) (h : Is 5 SMaker.enc w v (mks xs l)) (hg : goodB xs = true) (hl : ∀ i ∈ l, i < xs.length) (hk : k < xs.length) :
    Calls Try.prog 64 #[v, .agg #[.int .i64 (SMaker.at xs k).ident, .string (SMaker.at xs k).name, .int .i64 (SMaker.at xs k).frm, .int .i64 (SMaker.at xs k).untl, .int .i64 (SMaker.at xs k).heir]] w fun e w' => e = .returned (.bool (l.any fun i => i == k)) ∧ Below w.heap.size w w' := by
  have B1 := below_alloc w (.cells (SMaker.at xs k).boxed 60)
  have hcall := IndexM_is v xs l k _ (h.below B1 (Nat.le_refl _)) hg hl hk
  obtain ⟨e0, e1, e2, e3, e4⟩ := boxed_cell (Blk.new w 60 (SMaker.at xs k).boxed)
  have HC := hide hcall; have HB1 := hide B1; clear hcall h B1
  go_enter Try.func64, Try.ntmps64
  go_wp2_with (go_at_call 86; refine HC.out.mono ?_; rintro e w1 ⟨rfl, hb1⟩)
  go_ret
  exact ⟨ret_bool (idxF_any _ l), bstep HB1.out hb1 HB1.out.size⟩
theorem l1Has_is (v : Value) (l : List Nat) (k : Nat) (w : World) (h : Is 1 encI w v (ints l)) :
    Calls Try.prog 63 #[v, .int .i64 (k : Int)] w fun e w' => e = .returned (.bool (l.any fun i => i == k)) ∧ w = w' := by
  have hm := h.len
  obtain ⟨A, cap, rfl, hr, _, _⟩ := h
  rw [show (ints l).length = l.length by simp [ints]] at hm ⊢
  have HR := hide hr; clear hr
  go_enter Try.func63, Try.ntmps63
  go_wp2_with fail
  go_loop [5] (fun i => ∃ (n : Nat), n ≤ l.length ∧ i = .int .i64 n ∧ ((l.take n).any fun i => i == k) = false) (fun i => l.length - (intOf i).toNat)
  case atStart => exact ⟨0, Nat.zero_le _, rfl, rfl⟩
  case round =>
    obtain ⟨n, hn, rfl, hno⟩ := hrel
    have HN := hide hno; clear hno
    by_cases hlt : n < l.length
    · obtain ⟨b, off, rfl, hb, hc0⟩ := Ints.cellsAt HR.out hlt
      have c0 := hc0 _ (Below.refl _ _)
      clear hc0
      have hst : ((l.take (n + 1)).any fun i => i == k) = (((l.take n).any fun i => i == k) || l[n] == k) := by rw [take_snoc' hlt, List.any_append]; simp
      have hmem := List.getElem_mem hlt
      generalize l[n] = y at c0 hst hmem
      by_cases hq : y = k
      · subst hq
        have hany : (l.any fun i => i == y) = true := List.any_eq_true.2 ⟨y, hmem, by simp⟩
        have HA := hide hany; clear hany hst
        go_wp2_with fail
        go_ret
        exact ⟨ret_bool HA.out.symm, rfl⟩
      · have hq2 : (y == k) = false := by simpa using hq
        have hq3 : ((y : Int) == (k : Int)) = false := beq_false_of_ne (by omega)
        rw [hq2, Bool.or_false] at hst
        have HST := hide hst; clear hst hq hq2
        go_wp2_with fail
        go_round
        case measure => (simp [intOf] <;> omega)
        case rel => exact ⟨n + 1, by omega, by go_num, by rw [HST.out, HN.out]⟩
    · have hk2 : n = l.length := by omega
      have HK := hide hk2; clear hk2
      go_wp2_with fail
      go_ret
      refine ⟨ret_bool ?_, rfl⟩
      have := HN.out
      rw [HK.out, List.take_length] at this
      exact this.symm
end Go.Proofs.Ytapbnggdclpokaa
