/- Contracts of the weight of a drawer's flats, of whether they fit, and of the place of the drawer with a flat, in impl and spec. Conditions: small grams, at most a thousand flats in a drawer; lengths below 2^63. -/
import Derived.Test.YtdbcilinoieabaaL5B
namespace Go.Proofs.Ytdbcilinoieabaa
open Go.RowKit
set_option linter.unusedVariables false
theorem idxF_place {α : Type} (p : α → Bool) (xs : List α) : (idxF p xs = -1 ∧ ∀ c ∈ xs, p c = false) ∨ ∃ k, ∃ h : k < xs.length, idxF p xs = (k : Int) ∧ p xs[k] = true ∧ ∀ c ∈ xs.take k, p c = false := by
  unfold idxF
  cases hq : xs.findIdx? p with
  | none => exact .inl ⟨rfl, fun c hc => by have := (List.findIdx?_eq_none_iff.1 hq) c hc; simpa using this⟩
  | some k =>
    obtain ⟨h1, h2, h3⟩ := List.findIdx?_eq_some_iff_getElem.1 hq
    refine .inr ⟨k, h1, rfl, h2, fun c hc => ?_⟩
    obtain ⟨j, hj, rfl⟩ := List.getElem_of_mem hc
    have hj' : j < k := by simp at hj; omega
    rw [List.getElem_take]
    simpa using h3 j hj'
theorem findF_place (fs : List SFlat) (id : Int) : findF fs id = -1 ∨ ∃ k, ∃ h : k < fs.length, findF fs id = (k : Int) ∧ fs[k].ident = id := by
  rcases idxF_place (fun c : SFlat => c.ident == id) fs with ⟨h, _⟩ | ⟨k, h, h1, h2, _⟩
  · exact .inl h
  · exact .inr ⟨k, h, h1, by simpa using h2⟩
theorem findF_of {fs : List SFlat} {id : Int} (h : 0 ≤ findF fs id) : ∃ k, ∃ h : k < fs.length, findF fs id = (k : Int) ∧ fs[k].ident = id := by
  rcases findF_place fs id with h1 | h1
  · omega
  · exact h1
theorem findF_not {fs : List SFlat} {id : Int} (h : ¬ 0 ≤ findF fs id) : findF fs id = -1 := by
  rcases findF_place fs id with h1 | ⟨k, _, h1, _⟩
  · exact h1
  · omega
/-- the flat of an id -/
def gOf (fs : List SFlat) (id : Int) : SFlat := SFlat.at fs (findF fs id).toNat
theorem gOf_at {fs : List SFlat} {id : Int} {k : Nat} (h : k < fs.length) (hk : findF fs id = (k : Int)) : gOf fs id = ⟨fs[k].ident, fs[k].wide, fs[k].high, fs[k].grams⟩ := by
  unfold gOf; rw [hk]; exact SFlat.at_lt h
/-- grams are small -/
def fitG (fs : List SFlat) : Prop := ∀ z ∈ fs, -100000 ≤ z.grams ∧ z.grams ≤ 100000
def sumW (fs : List SFlat) (l : List Int) : Int := (l.map fun id => (gOf fs id).grams).sum
theorem sumW_succ {fs : List SFlat} {l : List Int} {k : Nat} (h : k < l.length) : sumW fs (l.take (k + 1)) = sumW fs (l.take k) + (gOf fs l[k]).grams := by
  unfold sumW; rw [take_snoc' h, List.map_append, List.sum_append]; simp
theorem gOf_small {fs : List SFlat} (hf : fitG fs) (id : Int) : -100000 ≤ (gOf fs id).grams ∧ (gOf fs id).grams ≤ 100000 := by
  unfold gOf SFlat.at
  rw [List.getD_eq_getElem?_getD]
  cases hq : fs[(findF fs id).toNat]? with
  | none => exact ⟨by decide, by decide⟩
  | some z => exact hf z (List.mem_of_getElem? hq)
theorem sumW_small {fs : List SFlat} (hf : fitG fs) (l : List Int) : -100000 * (l.length : Int) ≤ sumW fs l ∧ sumW fs l ≤ 100000 * (l.length : Int) := by
  unfold sumW
  induction l with
  | nil => simp
  | cons a l ih =>
    have := gOf_small hf a
    simp only [List.map_cons, List.sum_cons, List.length_cons, Int.natCast_add]
    omega
def fitOk (fs : List SFlat) (wide high id : Int) : Bool := decide (0 ≤ findF fs id) && fitB (gOf fs id).wide (gOf fs id).high wide high
/-- all flats are there and fit -/
def fitsV (fs : List SFlat) (wide high : Int) (l : List Int) : Bool := l.all (fitOk fs wide high)
theorem fitsV_no {fs : List SFlat} {wide high : Int} {l : List Int} {k : Nat} (hk : k < l.length) (h : fitOk fs wide high l[k] = false) : fitsV fs wide high l = false := by
  unfold fitsV; rw [List.all_eq_false]; exact ⟨_, List.getElem_mem hk, by rw [h]; simp⟩
theorem fitsV_found {fs : List SFlat} {wide high : Int} {l : List Int} (h : fitsV fs wide high l = true) : ∀ id ∈ l, 0 ≤ findF fs id := fun id hid => by
  have := List.all_eq_true.1 h id hid
  unfold fitOk at this
  rw [Bool.and_eq_true] at this
  exact of_decide_eq_true this.1
set_option maxHeartbeats 1000000 in
theorem gramsIn_any (v : Value) (fs : List SFlat) (b0 b1 b2 b3 : Int) (A : Option Addr) (cap : Nat) (xs : List Int) (w : World) (h : Is 4 SFlat.enc w v fs) (hr : Row 1 encI w w.heap.size A xs) (hf : fitG fs) (hx : xs.length ≤ 1000) (hall : ∀ id ∈ xs, 0 ≤ findF fs id) :
    Calls Try.prog 120 #[v, .agg #[.int .i64 b0, .int .i64 b1, .int .i64 b2, .int .i64 b3, .slice A xs.length cap]] w fun e w' => e = .returned (.int .i64 (sumW fs xs)) ∧ Below w.heap.size w w' := by
  have hm := h.len
  have B1 := below_alloc w (.cells #[.int .i64 b0, .int .i64 b1, .int .i64 b2, .int .i64 b3, .slice A xs.length cap] 70)
  have HB1 := hide B1
  have HR := hide (hr.below B1 (Nat.le_refl _) B1.size)
  have HI := hide (h.below B1 (Nat.le_refl _))
  have hbk := Blk.new w 70 #[.int .i64 b0, .int .i64 b1, .int .i64 b2, .int .i64 b3, .slice A xs.length cap]
  obtain ⟨t0, t1, t2, t3, t4⟩ := dr5 hbk
  have HF := hide hf; have HALL := hide hall
  clear B1 hbk hr hf hall h
  go_enter Try.func120, Try.ntmps120
  go_upto_region 1 with fail
  generalize w.alloc (.cells #[.int .i64 b0, .int .i64 b1, .int .i64 b2, .int .i64 b3, .slice A xs.length cap] 70) = w1 at *
  go_wp2_with fail
  go_loopw [5, 11] (fun s i wr => ∃ (k : Nat), k ≤ xs.length ∧ i = .int .i64 k ∧ s = .int .i64 (sumW fs (xs.take k)) ∧ Below w1.heap.size w1 wr) (fun _ i _ => xs.length - (intOf i).toNat)
  case atStart => exact ⟨0, Nat.zero_le _, rfl, rfl, Below.refl _ _⟩
  case round =>
    obtain ⟨i, hi, rfl, rfl, hbel⟩ := hrel
    clear t0 t1 t2 t3 t4
    by_cases hlt : i < xs.length
    · have hlt' : (i : Int) < xs.length := by omega
      obtain ⟨b, off, rfl, hb, c0⟩ := Ints.cells HR.out hlt hbel
      have hI := HI.out.below hbel (Nat.le_refl _)
      obtain ⟨k, hk, hfk, hid⟩ := findF_of (HALL.out _ (List.getElem_mem hlt))
      have hg := gOf_at hk hfk
      have hsu := sumW_succ (fs := fs) hlt
      rw [hg] at hsu
      have hs1 := sumW_small HF.out (xs.take i)
      have hs2 := HF.out _ (List.getElem_mem hk)
      rw [List.length_take, Nat.min_eq_left (by omega)] at hs1
      generalize xs[i] = y at *
      simp only at hsu
      have hk' : (k : Int) < fs.length := by omega
      have hfl := flatAt_any v fs y wr hI
      rw [hfk] at hfl
      obtain ⟨A2, cap2, rfl, hr2, _, _⟩ := hI
      have hB0 := Below.refl wr.heap.size wr
      have hcf := fun W (hbW : Below wr.heap.size wr W) => SFlat.cells hr2 hk hbW
      generalize hgr : fs[k].grams = gr at *
      generalize hss : sumW fs (xs.take i) = s0 at *
      have HC := hide hfl; have HCF := hide hcf; have HSU := hide hsu
      clear hfl hcf hsu hr2 hg hid hgr hss
      go_wp2_with fail
      refine HC.out.mono ?_; rintro e w2 ⟨rfl, hb2⟩
      obtain ⟨b2, off2, rfl, hbb, _, _, _, q3⟩ := HCF.out w2 hb2
      have B3 := hide (bstep hbel hb2 hbel.size); clear hb2
      go_wp2_with fail
      go_round
      case measure => (simp [intOf] <;> omega)
      case rel => exact ⟨i + 1, by omega, by go_num, by rw [HSU.out], B3.out⟩
    · have hk : i = xs.length := by omega
      subst hk
      go_wp2_with fail
      go_ret
      exact ⟨ret_int (by rw [List.take_length]), HB1.out.trans (hbel.mono HB1.out.size)⟩
/-- the flats of a drawer are there, fit, and are not too heavy -/
def rightB (fs : List SFlat) (d : DrV) : Bool := fitsV fs d.wide d.high d.fl && decide (sumW fs d.fl ≤ d.holds)
set_option maxHeartbeats 1000000 in
theorem isRight_any (v : Value) (fs : List SFlat) (b0 b1 b2 b3 : Int) (A : Option Addr) (cap : Nat) (xs : List Int) (w : World) (h : Is 4 SFlat.enc w v fs) (hr : Row 1 encI w w.heap.size A xs) (hf : fitG fs) (hx : xs.length ≤ 1000) :
    Calls Try.prog 133 #[v, .agg #[.int .i64 b0, .int .i64 b1, .int .i64 b2, .int .i64 b3, .slice A xs.length cap]] w fun e w' => e = .returned (.bool (rightB fs ⟨b0, b1, b2, b3, xs⟩)) ∧ Below w.heap.size w w' := by
  have hm := h.len
  have hrb : rightB fs ⟨b0, b1, b2, b3, xs⟩ = (fitsV fs b1 b2 xs && decide (sumW fs xs ≤ b3)) := rfl
  generalize rightB fs ⟨b0, b1, b2, b3, xs⟩ = rb at *
  have HRB := hide hrb; clear hrb
  have B1 := below_alloc w (.cells #[.int .i64 b0, .int .i64 b1, .int .i64 b2, .int .i64 b3, .slice A xs.length cap] 70)
  have HB1 := hide B1
  have HR := hide (hr.below B1 (Nat.le_refl _) B1.size)
  have HI := hide (h.below B1 (Nat.le_refl _))
  have hbk := Blk.new w 70 #[.int .i64 b0, .int .i64 b1, .int .i64 b2, .int .i64 b3, .slice A xs.length cap]
  have hlt0 := hbk.lt
  have HBK := hide hbk
  obtain ⟨t0, t1, t2, t3, t4⟩ := dr5 hbk
  have HF := hide hf
  clear B1 hbk hr hf h
  go_enter Try.func133, Try.ntmps133
  go_upto_region 1 with fail
  generalize w.alloc (.cells #[.int .i64 b0, .int .i64 b1, .int .i64 b2, .int .i64 b3, .slice A xs.length cap] 70) = w1 at *
  generalize hgg : w.heap.size = gg at *
  have HGG := hide hgg; clear hgg
  go_wp2_with fail
  clear t0 t1 t2 t3 t4
  go_loopw [11] (fun i wr => ∃ (k : Nat), k ≤ xs.length ∧ i = .int .i64 k ∧ (∀ id ∈ xs.take k, fitOk fs b1 b2 id = true) ∧ Below w1.heap.size w1 wr) (fun i _ => xs.length - (intOf i).toNat)
  case atStart => exact ⟨0, Nat.zero_le _, rfl, by simp, Below.refl _ _⟩
  case round =>
    obtain ⟨i, hi, rfl, hno, hbel⟩ := hrel
    have HN := hide hno; clear hno
    have hI := HI.out.below hbel (Nat.le_refl _)
    have hsw := hbel.size
    by_cases hlt : i < xs.length
    · have hlt' : (i : Int) < xs.length := by omega
      obtain ⟨b, off, rfl, hb, c0⟩ := Ints.cells HR.out hlt hbel
      have htk := take_snoc' hlt
      have hmis := fun h => fitsV_no (fs := fs) (wide := b1) (high := b2) hlt h
      generalize xs[i] = y at *
      have HTK := hide htk; have HMIS := hide hmis; clear htk hmis
      have hfl := flatAt_any v fs y wr hI
      have HC := hide hfl; clear hfl
      by_cases hq : 0 ≤ findF fs y
      · obtain ⟨k, hk, hfk, hid⟩ := findF_of hq
        have hfo : fitOk fs b1 b2 y = fitB fs[k].wide fs[k].high b1 b2 := by
          unfold fitOk; rw [gOf_at hk hfk, decide_eq_true hq]; rfl
        rw [hfk] at HC
        have hk' : (k : Int) < fs.length := by omega
        have hk0 : ¬ (k : Int) < 0 := by omega
        have hk1 : decide ((k : Int) < 0) = false := decide_eq_false hk0
        obtain ⟨A2, cap2, rfl, hr2, _, _⟩ := hI
        have hcf := fun W (hbW : Below wr.heap.size wr W) => SFlat.cells hr2 hk hbW
        generalize fs[k].ident = z0 at *; generalize fs[k].wide = z1 at *; generalize fs[k].high = z2 at *; generalize fs[k].grams = z3 at *
        have HCF := hide hcf; have HFO := hide hfo
        clear hcf hr2 hid hfo hq hfk
        go_wp2_with fail
        refine HC.out.mono ?_; rintro e w2 ⟨rfl, hb2⟩
        obtain ⟨b2', off2, rfl, hbb, q0, q1, q2, q3⟩ := HCF.out w2 hb2
        have hB2 := bstep hbel hb2 hbel.size
        have hbk2 := HBK.out.below hB2 hlt0
        obtain ⟨t0, t1, t2, t3, t4⟩ := dr5 hbk2
        have B3 := hide hB2; have hs2 := hB2.size; clear hb2 hB2 hbk2
        have hone := fun W => fitsInto_any z0 z1 z2 z3 b0 b1 b2 b3 (some ⟨b, off, none⟩) xs.length cap W
        have m0 := fun n => later_cell q0 n; have m1 := fun n => later_cell q1 n; have m2 := fun n => later_cell q2 n; have m3 := fun n => later_cell q3 n
        have n0 := fun n => later_cell t0 n; have n1 := fun n => later_cell t1 n; have n2 := fun n => later_cell t2 n; have n3 := fun n => later_cell t3 n; have n4 := fun n => later_cell t4 n
        cases hok : fitB z1 z2 b1 b2 with
        | false =>
          rw [hok] at hone HFO
          have HO := hide hone; clear hone hok
          go_wp2_with fail
          (refine wp_region_later (by kernel_rfl) (by kernel_rfl) ?_; (repeat (go_big_quiet_step ((go_at_call 128; exact later_call (HO.out _))))); refine wpQuiet_nil ?_; intro _ hw'; obtain ⟨nq, hw''⟩ := hw'; subst hw'')
          have B4 := hide (bstep B3.out nq.h hs2)
          go_wp2_with fail
          go_ret
          exact ⟨ret_bool (by rw [HRB.out, HMIS.out HFO.out]; rfl), by rw [HGG.out]; exact HB1.out.trans (B4.out.mono (Nat.le_of_lt hlt0))⟩
        | true =>
          rw [hok] at hone HFO
          have HO := hide hone; clear hone hok
          go_wp2_with fail
          (refine wp_region_later (by kernel_rfl) (by kernel_rfl) ?_; (repeat (go_big_quiet_step ((go_at_call 128; exact later_call (HO.out _))))); refine wpQuiet_nil ?_; intro _ hw'; obtain ⟨nq, hw''⟩ := hw'; subst hw'')
          have B4 := hide (bstep B3.out nq.h hs2)
          generalize nq.W = W5 at B4
          go_wp2_with fail
          go_round
          case measure => (simp [intOf] <;> omega)
          case rel =>
            refine ⟨i + 1, by omega, by go_num, ?_, B4.out⟩
            rw [HTK.out]
            intro c hc
            rcases List.mem_append.1 hc with h | h
            · exact HN.out c h
            · rw [List.mem_singleton.1 h]; exact HFO.out
      · have hfn := findF_not hq
        have hfo : fitOk fs b1 b2 y = false := by unfold fitOk; rw [decide_eq_false hq]; rfl
        have HFO := hide hfo; clear hfo hq
        rw [hfn] at HC; clear hfn
        go_wp2_with fail
        refine HC.out.mono ?_; rintro e w2 ⟨rfl, hb2⟩
        have B3 := hide (bstep hbel hb2 hbel.size); clear hb2
        have hs2 := B3.out.size
        go_wp2_with fail
        (refine wp_region_later (by kernel_rfl) (by kernel_rfl) ?_; (repeat (go_big_quiet_step (fail))); refine wpQuiet_nil ?_; intro _ hw'; obtain ⟨nq, hw''⟩ := hw'; subst hw'')
        have B4 := hide (bstep B3.out nq.h hs2)
        go_wp2_with fail
        go_ret
        exact ⟨ret_bool (by rw [HRB.out, HMIS.out HFO.out]; rfl), by rw [HGG.out]; exact HB1.out.trans (B4.out.mono (Nat.le_of_lt hlt0))⟩
    · have hk : i = xs.length := by omega
      subst hk
      have hfv : fitsV fs b1 b2 xs = true := by
        have := HN.out; rw [List.take_length] at this
        exact List.all_eq_true.2 this
      have HRB2 := hide (show rb = decide (sumW fs xs ≤ b3) by rw [HRB.out, hfv, Bool.true_and])
      have hgr := fun n : Later wr => gramsIn_any v fs b0 b1 b2 b3 A cap xs n.W (hI.below n.h (Nat.le_refl _)) (HR.out.below (bstep hbel n.h hsw) (Nat.le_refl _) (bstep hbel n.h hsw).size) HF.out hx (fitsV_found hfv)
      have hbk2 := HBK.out.below hbel hlt0
      obtain ⟨t0, t1, t2, t3, t4⟩ := dr5 hbk2
      have n0 := fun n => later_cell t0 n; have n1 := fun n => later_cell t1 n; have n2 := fun n => later_cell t2 n; have n3 := fun n => later_cell t3 n; have n4 := fun n => later_cell t4 n
      have HG := hide hgr
      clear hgr hfv hbk2
      generalize sumW fs xs = sw at *
      go_wp2_with fail
      (refine wp_region_later (by kernel_rfl) (by kernel_rfl) ?_; (repeat (go_big_quiet_step ((go_at_call 120; exact later_call (HG.out _))))); refine wpQuiet_nil ?_; intro _ hw'; obtain ⟨nq, hw''⟩ := hw'; subst hw'')
      have B4 := hide (bstep hbel nq.h hsw)
      go_wp2_with fail
      go_ret
      exact ⟨ret_bool HRB2.out.symm, by rw [HGG.out]; exact HB1.out.trans (B4.out.mono (Nat.le_of_lt hlt0))⟩
end Go.Proofs.Ytdbcilinoieabaa
