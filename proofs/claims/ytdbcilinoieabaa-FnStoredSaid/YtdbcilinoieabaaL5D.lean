/- Contracts of the place of the drawer with a flat, of the place of a drawer's id, of a membership test and of the weight in spec. Conditions: small grams, at most a thousand flats in a drawer; lengths below 2^63. -/
import Derived.Test.YtdbcilinoieabaaL5C
namespace Go.Proofs.Ytdbcilinoieabaa
open Go.RowKit
set_option linter.unusedVariables false
theorem any_mem (xs : List Int) (x : Int) : (xs.any fun c => x == c) = decide (x ∈ xs) := by
  apply bool_of_iff
  rw [List.any_eq_true, decide_eq_true_iff]
  constructor
  · rintro ⟨c, hc, h⟩; rw [beq_iff_eq.1 h]; exact hc
  · intro h; exact ⟨x, h, beq_self_eq_true x⟩
theorem l1HasF_is (v : Value) (xs : List Int) (x : Int) (w : World) (h : Is 1 encI w v xs) :
    Calls Try.prog 185 #[v, .int .i64 x] w fun e w' => e = .returned (.bool (decide (x ∈ xs))) ∧ w = w' := by
  have hm := h.len
  obtain ⟨A, cap, rfl, hr, _, _⟩ := h
  have HR := hide hr; clear hr
  go_enter Try.func185, Try.ntmps185
  go_wp2_with fail
  go_loop [5] (fun i => ∃ k : Nat, k ≤ xs.length ∧ i = .int .i64 (k : Int) ∧ x ∉ xs.take k) (fun i => xs.length - (intOf i).toNat)
  case atStart => exact ⟨0, Nat.zero_le _, rfl, by simp⟩
  case round =>
    obtain ⟨k, hk, rfl, hno⟩ := hrel
    have HN := hide hno; clear hno
    by_cases hlt : k < xs.length
    · have hlt' : (k : Int) < xs.length := by omega
      obtain ⟨b, off, rfl, hb, c0⟩ := Ints.cells HR.out hlt (Below.refl _ _)
      have hmem := List.getElem_mem hlt
      have htk := take_snoc' hlt
      have HT := hide htk; have HMM := hide hmem; clear htk hmem
      generalize xs[k] = y at *
      by_cases hq : y = x
      · have hb1 : (y == x) = true := beq_iff_eq.2 hq
        have HQ := hide hq; clear hq
        go_wp2_with fail
        go_ret
        refine ⟨ret_bool ?_, rfl⟩
        rw [decide_eq_true]
        rw [← HQ.out]; exact HMM.out
      · have hb1 : (y == x) = false := beq_false_of_ne hq
        have HQ := hide hq; clear hq
        go_wp2_with fail
        go_round
        case measure => (simp [intOf] <;> omega)
        case rel =>
          refine ⟨k + 1, by omega, by go_num, ?_⟩
          rw [HT.out]
          intro hx
          rcases List.mem_append.1 hx with h | h
          · exact HN.out h
          · exact HQ.out (List.mem_singleton.1 h).symm
    · have hkx : k = xs.length := by omega
      have HK := hide hkx; clear hkx
      go_wp2_with fail
      go_ret
      refine ⟨ret_bool ?_, rfl⟩
      have h1 := HN.out
      rw [HK.out, List.take_length] at h1
      exact (decide_eq_false h1).symm
/-- the place of the drawer with a flat -/
def whereD (ds : List DrV) (flat : Int) : Int := idxF (fun d => decide (flat ∈ d.fl)) ds
/-- the place of a drawer's id -/
def idxD (ds : List DrV) (id : Int) : Int := idxF (fun d => d.ident == id) ds
theorem drawerWith1_any (b0 b1 b2 b3 : Int) (A : Option Addr) (cap : Nat) (xs : List Int) (flat : Int) (b : Nat) (w : World) (hr : Row 1 encI w w.heap.size A xs) (hm : xs.length ≤ 9223372036854775807) (hc : w.cell? ⟨b, 0, none⟩ = some (.int .i64 flat)) :
    Calls Try.prog 189 #[.agg #[.int .i64 b0, .int .i64 b1, .int .i64 b2, .int .i64 b3, .slice A xs.length cap], .pointer (some ⟨b, 0, none⟩)] w fun e w' => e = .returned (.bool (decide (flat ∈ xs))) ∧ Below w.heap.size w w' := by
  have hbl := World.block_lt_of_cell? w _ hc
  have B1 := below_alloc w (.cells #[.int .i64 b0, .int .i64 b1, .int .i64 b2, .int .i64 b3, .slice A xs.length cap] 70)
  have hc2 : (w.alloc (.cells #[.int .i64 b0, .int .i64 b1, .int .i64 b2, .int .i64 b3, .slice A xs.length cap] 70)).cell? ⟨b, 0, none⟩ = some (.int .i64 flat) := ((bcell B1).1 b 0 hbl).trans hc
  have HC := hide (ContainsI_any A cap xs flat _ (hr.below B1 (Nat.le_refl _) B1.size) hm)
  have HB1 := hide B1
  clear hr B1
  go_enter Try.func189, Try.ntmps189
  go_wp2_with (go_at_call 190; refine HC.out.mono ?_; rintro e w' ⟨rfl, rfl⟩)
  go_ret
  exact ⟨ret_bool (any_mem xs flat), HB1.out⟩
theorem drawerWith_any (v : Value) (ds : List DrV) (flat : Int) (w : World) (h : IsD w v ds) :
    Calls Try.prog 119 #[v, .int .i64 flat] w fun e w' => e = .returned (.int .i64 (whereD ds flat)) ∧ Below w.heap.size w w' := by
  obtain ⟨rs, rfl, his, hok⟩ := h
  have hm := his.len
  obtain ⟨A, cap, rfl, hr, _, _⟩ := his
  have B1 := below_alloc w (.cells #[.int .i64 flat] 3)
  have hr1 := hr.below B1 (Nat.le_refl _) B1.size
  have hok1 : ∀ r ∈ rs, r.ok (w.alloc (.cells #[.int .i64 flat] 3)) (w.alloc (.cells #[.int .i64 flat] 3)).heap.size := fun r hr => (hok r hr).below2 B1 (Nat.le_refl _) B1.size
  have hcell : (w.alloc (.cells #[.int .i64 flat] 3)).cell? ⟨w.heap.size, 0, none⟩ = some (.int .i64 flat) := by rw [(Blk.new w _ _).cell]; rfl
  have hp : SDr.Pred 189 #[.pointer (some ⟨w.heap.size, 0, none⟩)] (fun d => decide (flat ∈ d.fl)) (w.alloc (.cells #[.int .i64 flat] 3)).heap.size (w.alloc (.cells #[.int .i64 flat] 3)) := fun W c hb hco => by
    have hl : c.xs.length ≤ 9223372036854775807 := by have := hco.2.1; have := hco.2.2; simp only [maxLen] at this; omega
    exact (drawerWith1_any _ _ _ _ _ _ _ flat w.heap.size W (hco.1.below hb (Nat.le_refl _) hb.size) hl (((bcell hb).1 _ _ (by simp)).trans hcell)).mono fun e w' ⟨he, hw⟩ => ⟨he, hb.trans (hw.mono hb.size)⟩
  have HR := hide hr1; have HP := hide hp; have HOK := hide hok1; clear hr hr1 hp hcell hok hok1
  go_enter Try.func119, Try.ntmps119
  go_wp2_with (go_at_call 180; refine (IndexFuncDr_any _ _ _ _ _ _ _ HR.out HOK.out hm (fun _ _ => by kernel_rfl) HP.out).mono ?_; rintro e w' ⟨rfl, hb'⟩)
  go_ret
  exact ⟨rfl, bstep B1 hb' B1.size⟩
theorem drawerAt1_any (b0 b1 b2 b3 : Int) (A : Option Addr) (n cap : Nat) (id : Int) (b : Nat) (w : World) (hc : w.cell? ⟨b, 0, none⟩ = some (.int .i64 id)) :
    Calls Try.prog 181 #[.agg #[.int .i64 b0, .int .i64 b1, .int .i64 b2, .int .i64 b3, .slice A n cap], .pointer (some ⟨b, 0, none⟩)] w fun e w' => e = .returned (.bool (b0 == id)) ∧ Below w.heap.size w w' := by
  have hbl := World.block_lt_of_cell? w _ hc
  have hc2 : (w.alloc (.cells #[.int .i64 b0, .int .i64 b1, .int .i64 b2, .int .i64 b3, .slice A n cap] 70)).cell? ⟨b, 0, none⟩ = some (.int .i64 id) := ((bcell (below_alloc w _)).1 b 0 hbl).trans hc
  go_enter Try.func181, Try.ntmps181
  go_wp2_with fail
  go_ret
  exact ⟨rfl, below_alloc _ _⟩
theorem drawerAt_any (v : Value) (ds : List DrV) (id : Int) (w : World) (h : IsD w v ds) :
    Calls Try.prog 108 #[v, .int .i64 id] w fun e w' => e = .returned (.int .i64 (idxD ds id)) ∧ Below w.heap.size w w' := by
  obtain ⟨rs, rfl, his, hok⟩ := h
  have hm := his.len
  obtain ⟨A, cap, rfl, hr, _, _⟩ := his
  have B1 := below_alloc w (.cells #[.int .i64 id] 3)
  have hr1 := hr.below B1 (Nat.le_refl _) B1.size
  have hok1 : ∀ r ∈ rs, r.ok (w.alloc (.cells #[.int .i64 id] 3)) (w.alloc (.cells #[.int .i64 id] 3)).heap.size := fun r hr => (hok r hr).below2 B1 (Nat.le_refl _) B1.size
  have hcell : (w.alloc (.cells #[.int .i64 id] 3)).cell? ⟨w.heap.size, 0, none⟩ = some (.int .i64 id) := by rw [(Blk.new w _ _).cell]; rfl
  have hp : SDr.Pred 181 #[.pointer (some ⟨w.heap.size, 0, none⟩)] (fun d => d.ident == id) (w.alloc (.cells #[.int .i64 id] 3)).heap.size (w.alloc (.cells #[.int .i64 id] 3)) := fun W c hb hco =>
    (drawerAt1_any _ _ _ _ _ _ _ id w.heap.size W (((bcell hb).1 _ _ (by simp)).trans hcell)).mono fun e w' ⟨he, hw⟩ => ⟨he, hb.trans (hw.mono hb.size)⟩
  have HR := hide hr1; have HP := hide hp; have HOK := hide hok1; clear hr hr1 hp hcell hok hok1
  go_enter Try.func108, Try.ntmps108
  go_wp2_with (go_at_call 180; refine (IndexFuncDr_any _ _ _ _ _ _ _ HR.out HOK.out hm (fun _ _ => by kernel_rfl) HP.out).mono ?_; rintro e w' ⟨rfl, hb'⟩)
  go_ret
  exact ⟨rfl, bstep B1 hb' B1.size⟩
theorem l5Where_any (A : Option Addr) (cap : Nat) (rs : List SDr) (flat : Int) (w : World) (hr : Row 5 SDr.enc w w.heap.size A rs) (hok : ∀ r ∈ rs, r.ok w w.heap.size) (hm : rs.length ≤ 9223372036854775807) :
    Calls Try.prog 114 #[.slice A rs.length cap, .int .i64 flat] w fun e w' => e = .returned (.int .i64 (whereD (rs.map SDr.pl) flat)) ∧ w = w' := by
  unfold whereD
  rw [← idxF_map]
  have HR := hide hr; have HOK := hide hok; clear hr hok
  go_enter Try.func114, Try.ntmps114
  go_wp2_with fail
  go_loop [5] (fun i => ∃ (k : Nat), k ≤ rs.length ∧ i = .int .i64 k ∧ (∀ c ∈ rs.take k, decide (flat ∈ c.pl.fl) = false)) (fun i => rs.length - (intOf i).toNat)
  case atStart => exact ⟨0, Nat.zero_le _, rfl, by simp⟩
  case round =>
    obtain ⟨i, hi, rfl, hno⟩ := hrel
    have HN := hide hno; clear hno
    by_cases hlt : i < rs.length
    · have hlt' : (i : Int) < rs.length := by omega
      obtain ⟨b, off, rfl, hb, _, _, _, _, c4⟩ := SDr.cells HR.out hlt (Below.refl _ _)
      have hhit := fun h => idxF_hit (p := fun r : SDr => decide (flat ∈ r.pl.fl)) hlt h HN.out
      have htk := take_snoc' hlt
      have hco := HOK.out _ (List.getElem_mem hlt)
      have hca := l1HasF_is _ _ flat w hco.is
      have HH := hide hhit; have HTK := hide htk; clear hhit htk
      generalize hy : rs[i] = y at *
      clear hy
      unfold SDr.fv at hca
      have HC := hide hca; clear hca hco
      cases hq : decide (flat ∈ y.xs) with
      | true =>
        rw [hq] at HC
        have HQ := hide hq; clear hq
        go_wp2_with (go_at_call 185; refine HC.out.mono ?_; rintro e w' ⟨rfl, rfl⟩)
        go_ret
        exact ⟨ret_int (HH.out HQ.out).symm, rfl⟩
      | false =>
        rw [hq] at HC
        have HQ := hide hq; clear hq
        go_wp2_with (go_at_call 185; refine HC.out.mono ?_; rintro e w' ⟨rfl, rfl⟩)
        go_round
        case measure => (simp [intOf] <;> omega)
        case rel =>
          refine ⟨i + 1, by omega, by go_num, ?_⟩
          rw [HTK.out]
          intro c hc
          rcases List.mem_append.1 hc with h | h
          · exact HN.out c h
          · rw [List.mem_singleton.1 h]; exact HQ.out
    · have hk : i = rs.length := by omega
      have HK := hide hk; clear hk
      go_wp2_with fail
      go_ret
      refine ⟨ret_int (idxF_miss ?_).symm, rfl⟩
      have := HN.out; rw [HK.out, List.take_length] at this; exact this
theorem l5Index_any (A : Option Addr) (cap : Nat) (rs : List SDr) (id : Int) (w : World) (hr : Row 5 SDr.enc w w.heap.size A rs) (hm : rs.length ≤ 9223372036854775807) :
    Calls Try.prog 111 #[.slice A rs.length cap, .int .i64 id] w fun e w' => e = .returned (.int .i64 (idxD (rs.map SDr.pl) id)) ∧ w = w' := by
  unfold idxD
  rw [← idxF_map]
  have HR := hide hr; clear hr
  go_enter Try.func111, Try.ntmps111
  go_wp2_with fail
  go_loop [5] (fun i => ∃ (k : Nat), k ≤ rs.length ∧ i = .int .i64 k ∧ (∀ c ∈ rs.take k, (c.pl.ident == id) = false)) (fun i => rs.length - (intOf i).toNat)
  case atStart => exact ⟨0, Nat.zero_le _, rfl, by simp⟩
  case round =>
    obtain ⟨i, hi, rfl, hno⟩ := hrel
    have HN := hide hno; clear hno
    by_cases hlt : i < rs.length
    · have hlt' : (i : Int) < rs.length := by omega
      obtain ⟨b, off, rfl, hb, c0, _, _, _, _⟩ := SDr.cells HR.out hlt (Below.refl _ _)
      have hhit := fun h => idxF_hit (p := fun r : SDr => r.pl.ident == id) hlt h HN.out
      have htk := take_snoc' hlt
      have HH := hide hhit; have HTK := hide htk; clear hhit htk
      generalize hy : rs[i] = y at *
      clear hy
      cases hq : y.ident == id with
      | true =>
        have HQ := hide hq
        go_wp2_with fail
        go_ret
        exact ⟨ret_int (HH.out HQ.out).symm, rfl⟩
      | false =>
        have HQ := hide hq
        go_wp2_with fail
        go_round
        case measure => (simp [intOf] <;> omega)
        case rel =>
          refine ⟨i + 1, by omega, by go_num, ?_⟩
          rw [HTK.out]
          intro c hc
          rcases List.mem_append.1 hc with h | h
          · exact HN.out c h
          · rw [List.mem_singleton.1 h]; exact HQ.out
    · have hk : i = rs.length := by omega
      have HK := hide hk; clear hk
      go_wp2_with fail
      go_ret
      refine ⟨ret_int (idxF_miss ?_).symm, rfl⟩
      have := HN.out; rw [HK.out, List.take_length] at this; exact this
/-- the weight as spec tells it: -1 where a flat is not there or does not fit -/
def gramsV (fs : List SFlat) (wide high : Int) (l : List Int) : Int := if fitsV fs wide high l = true then sumW fs l else -1
set_option maxHeartbeats 1000000 in
theorem l5Grams_any (v : Value) (fs : List SFlat) (b0 b1 b2 b3 : Int) (A : Option Addr) (cap : Nat) (xs : List Int) (w : World) (h : Is 4 SFlat.enc w v fs) (hr : Row 1 encI w w.heap.size A xs) (hf : fitG fs) (hx : xs.length ≤ 1000) :
    Calls Try.prog 184 #[v, .agg #[.int .i64 b0, .int .i64 b1, .int .i64 b2, .int .i64 b3, .slice A xs.length cap]] w fun e w' => e = .returned (.int .i64 (gramsV fs b1 b2 xs)) ∧ Below w.heap.size w w' := by
  have hm := h.len
  have hno2 : fitsV fs b1 b2 xs = false → gramsV fs b1 b2 xs = -1 := fun h => by unfold gramsV; rw [h]; rfl
  have hyes2 : fitsV fs b1 b2 xs = true → gramsV fs b1 b2 xs = sumW fs xs := fun h => by unfold gramsV; rw [h]; rfl
  generalize gramsV fs b1 b2 xs = gv at *
  have HNO := hide hno2; have HYES := hide hyes2; clear hno2 hyes2
  have B1 := below_alloc w (.cells #[.int .i64 b0, .int .i64 b1, .int .i64 b2, .int .i64 b3, .slice A xs.length cap] 70)
  have HB1 := hide B1
  have HR := hide (hr.below B1 (Nat.le_refl _) B1.size)
  have HI := hide (h.below B1 (Nat.le_refl _))
  have hbk := Blk.new w 70 #[.int .i64 b0, .int .i64 b1, .int .i64 b2, .int .i64 b3, .slice A xs.length cap]
  have hlt0 := hbk.lt
  have HBK := hide hbk
  have HF := hide hf
  clear B1 hbk hr hf h
  go_enter Try.func184, Try.ntmps184
  go_upto_region 1 with fail
  generalize w.alloc (.cells #[.int .i64 b0, .int .i64 b1, .int .i64 b2, .int .i64 b3, .slice A xs.length cap] 70) = w1 at *
  generalize hgg : w.heap.size = gg at *
  have HGG := hide hgg; clear hgg
  go_wp2_with fail
  go_loopw [5, 6] (fun s i wr => ∃ (k : Nat), k ≤ xs.length ∧ i = .int .i64 k ∧ s = .int .i64 (sumW fs (xs.take k)) ∧ (∀ id ∈ xs.take k, fitOk fs b1 b2 id = true) ∧ Below w1.heap.size w1 wr) (fun _ i _ => xs.length - (intOf i).toNat)
  case atStart => exact ⟨0, Nat.zero_le _, rfl, rfl, by simp, Below.refl _ _⟩
  case round =>
    obtain ⟨i, hi, rfl, rfl, hno, hbel⟩ := hrel
    have HN := hide hno; clear hno
    have hI := HI.out.below hbel (Nat.le_refl _)
    have hsw := hbel.size
    have hbk2 := HBK.out.below hbel hlt0
    obtain ⟨t0, t1, t2, t3, t4⟩ := dr5 hbk2
    clear hbk2
    by_cases hlt : i < xs.length
    · have hlt' : (i : Int) < xs.length := by omega
      obtain ⟨b, off, rfl, hb, c0⟩ := Ints.cells HR.out hlt hbel
      have htk := take_snoc' hlt
      have hmis := fun h => fitsV_no (fs := fs) (wide := b1) (high := b2) hlt h
      have hsu := sumW_succ (fs := fs) hlt
      have hs1 := sumW_small HF.out (xs.take i)
      rw [List.length_take, Nat.min_eq_left (by omega)] at hs1
      generalize xs[i] = y at *
      have HTK := hide htk; have HMIS := hide hmis; clear htk hmis
      have hfl := l5Find_any v fs y wr hI
      have HC := hide hfl; clear hfl
      by_cases hq : 0 ≤ findF fs y
      · obtain ⟨k, hk, hfk, hid⟩ := findF_of hq
        have hfo : fitOk fs b1 b2 y = fitB fs[k].wide fs[k].high b1 b2 := by
          unfold fitOk; rw [gOf_at hk hfk, decide_eq_true hq]; rfl
        rw [gOf_at hk hfk] at hsu
        have hs2 := HF.out _ (List.getElem_mem hk)
        rw [hfk] at HC
        simp only at hsu
        have hk' : (k : Int) < fs.length := by omega
        have hk0 : ¬ (k : Int) < 0 := by omega
        have hk1 : decide ((k : Int) < 0) = false := decide_eq_false hk0
        obtain ⟨A2, cap2, rfl, hr2, _, _⟩ := hI
        have hcf := fun W (hbW : Below wr.heap.size wr W) => SFlat.cells hr2 hk hbW
        generalize fs[k].ident = z0 at *; generalize fs[k].wide = z1 at *; generalize fs[k].high = z2 at *; generalize fs[k].grams = z3 at *
        generalize hss : sumW fs (xs.take i) = s0 at *
        have HCF := hide hcf; have HFO := hide hfo; have HSU := hide hsu
        clear hcf hr2 hid hfo hq hfk hss hsu
        obtain ⟨b2', off2, rfl, hbb, q0, q1, q2, q3⟩ := HCF.out wr (Below.refl _ _)
        have hone := fun W => l5Fits_any z0 z1 z2 z3 b0 b1 b2 b3 (some ⟨b, off, none⟩) xs.length cap W
        have m0 := fun n => later_cell q0 n; have m1 := fun n => later_cell q1 n; have m2 := fun n => later_cell q2 n; have m3 := fun n => later_cell q3 n
        have n0 := fun n => later_cell t0 n; have n1 := fun n => later_cell t1 n; have n2 := fun n => later_cell t2 n; have n3 := fun n => later_cell t3 n; have n4 := fun n => later_cell t4 n
        cases hok : fitB z1 z2 b1 b2 with
        | false =>
          rw [hok] at hone HFO
          have HO := hide hone; clear hone hok
          go_wp2_with (go_at_call 113; refine HC.out.mono ?_; rintro e w2 ⟨rfl, rfl⟩)
          (refine wp_region_later (by kernel_rfl) (by kernel_rfl) ?_; (repeat (go_big_quiet_step ((go_at_call 131; exact later_call (HO.out _))))); refine wpQuiet_nil ?_; intro _ hw'; obtain ⟨nq, hw''⟩ := hw'; subst hw'')
          have B4 := hide (bstep hbel nq.h hsw)
          go_wp2_with fail
          go_ret
          exact ⟨ret_int (HNO.out (HMIS.out HFO.out)).symm, by rw [HGG.out]; exact HB1.out.trans (B4.out.mono (Nat.le_of_lt hlt0))⟩
        | true =>
          rw [hok] at hone HFO
          have HO := hide hone; clear hone hok
          go_wp2_with (go_at_call 113; refine HC.out.mono ?_; rintro e w2 ⟨rfl, rfl⟩)
          (refine wp_region_later (by kernel_rfl) (by kernel_rfl) ?_; (repeat (go_big_quiet_step ((go_at_call 131; exact later_call (HO.out _))))); refine wpQuiet_nil ?_; intro _ hw'; obtain ⟨nq, hw''⟩ := hw'; subst hw'')
          have B4 := hide (bstep hbel nq.h hsw)
          have p3 := m3 nq
          clear m0 m1 m2 m3 n0 n1 n2 n3 n4 q0 q1 q2 q3 t0 t1 t2 t3 t4 c0
          generalize nq.W = W5 at B4 p3
          go_wp2_with fail
          go_round
          case measure => (simp [intOf] <;> omega)
          case rel =>
            refine ⟨i + 1, by omega, by go_num, by rw [HSU.out], ?_, B4.out⟩
            rw [HTK.out]
            intro c hc
            rcases List.mem_append.1 hc with h | h
            · exact HN.out c h
            · rw [List.mem_singleton.1 h]; exact HFO.out
      · have hfn := findF_not hq
        have hfo : fitOk fs b1 b2 y = false := by unfold fitOk; rw [decide_eq_false hq]; rfl
        have HFO := hide hfo; clear hfo hq hsu
        rw [hfn] at HC; clear hfn
        go_wp2_with (go_at_call 113; refine HC.out.mono ?_; rintro e w2 ⟨rfl, rfl⟩)
        (refine wp_region_later (by kernel_rfl) (by kernel_rfl) ?_; (repeat (go_big_quiet_step (fail))); refine wpQuiet_nil ?_; intro _ hw'; obtain ⟨nq, hw''⟩ := hw'; subst hw'')
        have B4 := hide (bstep hbel nq.h hsw)
        go_wp2_with fail
        go_ret
        exact ⟨ret_int (HNO.out (HMIS.out HFO.out)).symm, by rw [HGG.out]; exact HB1.out.trans (B4.out.mono (Nat.le_of_lt hlt0))⟩
    · have hk : i = xs.length := by omega
      subst hk
      have hfv : fitsV fs b1 b2 xs = true := by
        have := HN.out; rw [List.take_length] at this
        exact List.all_eq_true.2 this
      have HG := hide (HYES.out hfv)
      have HBB := hide hbel
      clear hbel
      go_wp2_with fail
      go_ret
      exact ⟨ret_int (by rw [List.take_length]; exact HG.out.symm), by rw [HGG.out]; exact HB1.out.trans (HBB.out.mono (Nat.le_of_lt hlt0))⟩
end Go.Proofs.Ytdbcilinoieabaa
