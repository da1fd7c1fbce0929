/- Contracts of the small functions on flats and drawers, in impl and spec: one flat, one drawer, whether a flat fits into a drawer, the place of a flat's id. Condition: lengths below 2^63. -/
import Derived.Test.YtdbcilinoieabaaStFlat
import Derived.Test.YtdbcilinoieabaaStDr
import Derived.Test.YtdbcilinoieabaaL1
namespace Go.Proofs.Ytdbcilinoieabaa
open Go.RowKit
set_option linter.unusedVariables false
theorem isIdF_any (n : Int) (w : World) : Calls Try.prog 192 #[.int .i64 n] w fun e w' => e = .returned (.bool (inB n 1 999)) ∧ w = w' := by
  go_enter Try.func192, Try.ntmps192
  go_wp2_with (first | (go_at_call 91; refine (within_any _ _ _ _).mono ?_; rintro e w' ⟨rfl, rfl⟩))
  go_ret
  exact ⟨rfl, rfl⟩
/-- whether one flat is valid -/
def SFlat.okB (c : SFlat) : Bool := decide (1 ≤ c.ident ∧ c.ident ≤ 999 ∧ 10 ≤ c.wide ∧ c.wide ≤ 2000 ∧ 10 ≤ c.high ∧ c.high ≤ 2000 ∧ 1 ≤ c.grams ∧ c.grams ≤ 5000)
theorem SFlat.okB_iff {a0 a1 a2 a3 : Int} : SFlat.okB ⟨a0, a1, a2, a3⟩ = true ↔ (1 ≤ a0 ∧ a0 ≤ 999 ∧ 10 ≤ a1 ∧ a1 ≤ 2000 ∧ 10 ≤ a2 ∧ a2 ≤ 2000 ∧ 1 ≤ a3 ∧ a3 ≤ 5000) := decide_eq_true_iff
theorem l5Flat_any (a0 a1 a2 a3 : Int) (w : World) :
    Calls Try.prog 129 #[.agg #[.int .i64 a0, .int .i64 a1, .int .i64 a2, .int .i64 a3]] w fun e w' => e = .returned (.bool (SFlat.okB ⟨a0, a1, a2, a3⟩)) ∧ Below w.heap.size w w' := by
  have HI := hide (@SFlat.okB_iff a0 a1 a2 a3)
  have HB1 := hide (below_alloc w (.cells #[.int .i64 a0, .int .i64 a1, .int .i64 a2, .int .i64 a3] 68))
  go_enter Try.func129, Try.ntmps129
  go_wp2_with (first | (go_at_call 81; refine (l1In_any _ _ _ _).mono ?_; rintro e w' ⟨rfl, rfl⟩))
  all_goals go_ret
  all_goals refine ⟨ret_bool (bool_of_iff ?_), HB1.out⟩
  all_goals (rw [HI.out]; simp [inB_iff, inB_no] at *; try omega)
theorem isFlat_any (a0 a1 a2 a3 : Int) (w : World) :
    Calls Try.prog 126 #[.agg #[.int .i64 a0, .int .i64 a1, .int .i64 a2, .int .i64 a3]] w fun e w' => e = .returned (.bool (SFlat.okB ⟨a0, a1, a2, a3⟩)) ∧ Below w.heap.size w w' := by
  have HI := hide (@SFlat.okB_iff a0 a1 a2 a3)
  have HB1 := hide (below_alloc w (.cells #[.int .i64 a0, .int .i64 a1, .int .i64 a2, .int .i64 a3] 68))
  go_enter Try.func126, Try.ntmps126
  go_wp2_with (first | (go_at_call 91; refine (within_any _ _ _ _).mono ?_; rintro e w' ⟨rfl, rfl⟩) | (go_at_call 192; refine (isIdF_any _ _).mono ?_; rintro e w' ⟨rfl, rfl⟩))
  all_goals go_ret
  all_goals refine ⟨ret_bool (bool_of_iff ?_), HB1.out⟩
  all_goals (rw [HI.out]; simp [inB_iff, inB_no] at *; try omega)
/-- whether a flat fits into a drawer -/
def fitB (fw fh dw dh : Int) : Bool := decide ((fw ≤ dw ∧ fh ≤ dh) ∨ (fh ≤ dw ∧ fw ≤ dh))
theorem fitB_iff {fw fh dw dh : Int} : fitB fw fh dw dh = true ↔ ((fw ≤ dw ∧ fh ≤ dh) ∨ (fh ≤ dw ∧ fw ≤ dh)) := decide_eq_true_iff
theorem l5Fits_any (a0 a1 a2 a3 b0 b1 b2 b3 : Int) (A : Option Addr) (n cap : Nat) (w : World) :
    Calls Try.prog 131 #[.agg #[.int .i64 a0, .int .i64 a1, .int .i64 a2, .int .i64 a3], .agg #[.int .i64 b0, .int .i64 b1, .int .i64 b2, .int .i64 b3, .slice A n cap]] w fun e w' => e = .returned (.bool (fitB a1 a2 b1 b2)) ∧ Below w.heap.size w w' := by
  have HI := hide (@fitB_iff a1 a2 b1 b2)
  have HB1 := hide ((below_alloc w (.cells #[.int .i64 a0, .int .i64 a1, .int .i64 a2, .int .i64 a3] 68)).alloc (by simp) (.cells #[.int .i64 b0, .int .i64 b1, .int .i64 b2, .int .i64 b3, .slice A n cap] 70))
  go_enter Try.func131, Try.ntmps131
  go_wp2_with fail
  all_goals go_ret
  all_goals refine ⟨ret_bool (bool_of_iff ?_), HB1.out⟩
  all_goals (rw [HI.out]; simp at *; try omega)
theorem fitsInto_any (a0 a1 a2 a3 b0 b1 b2 b3 : Int) (A : Option Addr) (n cap : Nat) (w : World) :
    Calls Try.prog 128 #[.agg #[.int .i64 a0, .int .i64 a1, .int .i64 a2, .int .i64 a3], .agg #[.int .i64 b0, .int .i64 b1, .int .i64 b2, .int .i64 b3, .slice A n cap]] w fun e w' => e = .returned (.bool (fitB a1 a2 b1 b2)) ∧ Below w.heap.size w w' := by
  have HI := hide (@fitB_iff a1 a2 b1 b2)
  have HB1 := hide ((below_alloc w (.cells #[.int .i64 a0, .int .i64 a1, .int .i64 a2, .int .i64 a3] 68)).alloc (by simp) (.cells #[.int .i64 b0, .int .i64 b1, .int .i64 b2, .int .i64 b3, .slice A n cap] 70))
  go_enter Try.func128, Try.ntmps128
  go_wp2_with fail
  all_goals go_ret
  all_goals refine ⟨ret_bool (bool_of_iff ?_), HB1.out⟩
  all_goals (rw [HI.out]; simp at *; try omega)
/-- the place of a flat's id -/
def findF (fs : List SFlat) (id : Int) : Int := idxF (fun c => c.ident == id) fs
theorem flatAt1_any (a0 a1 a2 a3 id : Int) (b : Nat) (w : World) (hc : w.cell? ⟨b, 0, none⟩ = some (.int .i64 id)) :
    Calls Try.prog 188 #[.agg #[.int .i64 a0, .int .i64 a1, .int .i64 a2, .int .i64 a3], .pointer (some ⟨b, 0, none⟩)] w fun e w' => e = .returned (.bool (a0 == id)) ∧ Below w.heap.size w w' := by
  have hbl := World.block_lt_of_cell? w _ hc
  have hc2 : (w.alloc (.cells #[.int .i64 a0, .int .i64 a1, .int .i64 a2, .int .i64 a3] 68)).cell? ⟨b, 0, none⟩ = some (.int .i64 id) := ((bcell (below_alloc w _)).1 b 0 hbl).trans hc
  go_enter Try.func188, Try.ntmps188
  go_wp2_with fail
  go_ret
  exact ⟨rfl, below_alloc _ _⟩
theorem flatAt_any (v : Value) (xs : List SFlat) (id : Int) (w : World) (h : Is 4 SFlat.enc w v xs) :
    Calls Try.prog 118 #[v, .int .i64 id] w fun e w' => e = .returned (.int .i64 (findF xs id)) ∧ Below w.heap.size w w' := by
  have hm := h.len
  obtain ⟨A, cap, rfl, hr, _, _⟩ := h
  have B1 := below_alloc w (.cells #[.int .i64 id] 3)
  have hr1 := hr.below B1 (Nat.le_refl _) B1.size
  have hcell : (w.alloc (.cells #[.int .i64 id] 3)).cell? ⟨w.heap.size, 0, none⟩ = some (.int .i64 id) := by rw [(Blk.new w _ _).cell]; rfl
  have hp : SFlat.Pred 188 #[.pointer (some ⟨w.heap.size, 0, none⟩)] (fun c => c.ident == id) (w.alloc (.cells #[.int .i64 id] 3)).heap.size (w.alloc (.cells #[.int .i64 id] 3)) := fun W c hb =>
    (flatAt1_any _ _ _ _ id w.heap.size W (((bcell hb).1 _ _ (by simp)).trans hcell)).mono fun e w' ⟨he, hw⟩ => ⟨he, hb.trans (hw.mono hb.size)⟩
  have HR := hide hr1; have HP := hide hp; clear hr hr1 hp hcell
  go_enter Try.func118, Try.ntmps118
  go_wp2_with (go_at_call 187; refine (IndexFuncFlat_any _ _ _ _ _ _ _ HR.out hm (fun _ _ => by kernel_rfl) HP.out).mono ?_; rintro e w' ⟨rfl, hb'⟩)
  go_ret
  exact ⟨rfl, bstep B1 hb' B1.size⟩
theorem l5Find_any (v : Value) (xs : List SFlat) (id : Int) (w : World) (h : Is 4 SFlat.enc w v xs) :
    Calls Try.prog 113 #[v, .int .i64 id] w fun e w' => e = .returned (.int .i64 (findF xs id)) ∧ w = w' := by
  have hm := h.len
  obtain ⟨A, cap, rfl, hr, _, _⟩ := h
  have HR := hide hr; clear hr
  go_enter Try.func113, Try.ntmps113
  go_wp2_with fail
  go_loop [5] (fun i => ∃ (k : Nat), k ≤ xs.length ∧ i = .int .i64 k ∧ (∀ c ∈ xs.take k, (c.ident == id) = false)) (fun i => xs.length - (intOf i).toNat)
  case atStart => exact ⟨0, Nat.zero_le _, rfl, by simp⟩
  case round =>
    obtain ⟨i, hi, rfl, hno⟩ := hrel
    have HN := hide hno; clear hno
    by_cases hlt : i < xs.length
    · have hlt' : (i : Int) < xs.length := by omega
      obtain ⟨b, off, rfl, hb, c0, _, _, _⟩ := SFlat.cells HR.out hlt (Below.refl _ _)
      have hhit := fun h => idxF_hit (p := fun c : SFlat => c.ident == id) hlt h HN.out
      have htk := take_snoc' hlt
      have HH := hide hhit; have HTK := hide htk; clear hhit htk
      generalize hy : xs[i] = y at *
      clear hy
      cases hq : y.ident == id with
      | true =>
        have HQ := hide hq
        go_wp2_with fail
        go_ret
        exact ⟨ret_int (HH.out HQ.out).symm, rfl⟩
      | false =>
        have HQ := hide hq
        go_wp2_with fail
        go_round
        case measure => (simp [intOf] <;> omega)
        case rel =>
          refine ⟨i + 1, by omega, by go_num, ?_⟩
          rw [HTK.out]
          intro c hc
          rcases List.mem_append.1 hc with h | h
          · exact HN.out c h
          · rw [List.mem_singleton.1 h]; exact HQ.out
    · have hk : i = xs.length := by omega
      have HK := hide hk; clear hk
      go_wp2_with fail
      go_ret
      refine ⟨ret_int (idxF_miss ?_).symm, rfl⟩
      have := HN.out; rw [HK.out, List.take_length] at this; exact this
/-! ### one drawer -/
def riseAt (xs : List Int) (i : Nat) : Bool := inB (xs.getD i 0) 1 999 && (decide (i = 0) || decide (xs.getD (i - 1) 0 < xs.getD i 0))
/-- whether numbers are ids in rising order -/
def riseB (xs : List Int) : Bool := (List.range xs.length).all (riseAt xs)
theorem riseB_no {xs : List Int} {i : Nat} (hi : i < xs.length) (h : riseAt xs i = false) : riseB xs = false := by
  unfold riseB
  rw [List.all_eq_false]
  exact ⟨i, List.mem_range.2 hi, by rw [h]; simp⟩
theorem getD_int {xs : List Int} {i : Nat} (h : i < xs.length) : xs.getD i 0 = xs[i] := by simp [List.getD_eq_getElem?_getD, h]
def DrV.okB (d : DrV) : Bool := decide (1 ≤ d.ident ∧ d.ident ≤ 99 ∧ 100 ≤ d.wide ∧ d.wide ≤ 2000 ∧ 100 ≤ d.high ∧ d.high ≤ 2000 ∧ 100 ≤ d.holds ∧ d.holds ≤ 50000 ∧ d.fl.length ≤ 12 ∧ riseB d.fl = true)
theorem DrV.okB_iff {a0 a1 a2 a3 : Int} {l : List Int} : DrV.okB ⟨a0, a1, a2, a3, l⟩ = true ↔ (1 ≤ a0 ∧ a0 ≤ 99 ∧ 100 ≤ a1 ∧ a1 ≤ 2000 ∧ 100 ≤ a2 ∧ a2 ≤ 2000 ∧ 100 ≤ a3 ∧ a3 ≤ 50000 ∧ l.length ≤ 12 ∧ riseB l = true) := decide_eq_true_iff
theorem l1Rising_any (A : Option Addr) (cap : Nat) (xs : List Int) (w : World) (hr : Row 1 encI w w.heap.size A xs) (hm : xs.length ≤ 9223372036854775807) :
    Calls Try.prog 193 #[.slice A xs.length cap, .int .i64 1, .int .i64 999] w fun e w' => e = .returned (.bool (riseB xs)) ∧ Below w.heap.size w w' := by
  generalize hB : w.heap.size = B at hr ⊢
  have HB := hide hB; clear hB
  have HR := hide hr; clear hr
  go_enter Try.func193, Try.ntmps193
  go_wp2_with fail
  go_loopw [7] (fun i wr => ∃ (k : Nat), k ≤ xs.length ∧ i = .int .i64 k ∧ (List.range k).all (riseAt xs) = true ∧ Below B w wr) (fun i _ => xs.length - (intOf i).toNat)
  case atStart => exact ⟨0, Nat.zero_le _, rfl, rfl, Below.refl _ _⟩
  case round =>
    obtain ⟨i, hi, rfl, hall, hbel⟩ := hrel
    have HALL := hide hall; clear hall
    have hsz : B ≤ wr.heap.size := by have := hbel.size; rw [HB.out] at this; exact this
    by_cases hlt : i < xs.length
    · have hlt' : (i : Int) < xs.length := by omega
      obtain ⟨b, off, rfl, hb, c0⟩ := Ints.cells HR.out hlt hbel
      have hat : xs.getD i 0 = xs[i] := getD_int hlt
      generalize xs[i] = y at *
      have hone := fun W => l1In_any y 1 999 W
      have hne : riseAt xs i = (inB y 1 999 && (decide (i = 0) || decide (xs.getD (i - 1) 0 < y))) := by unfold riseAt; rw [hat]
      clear hat
      have m0 := fun n => later_cell c0 n
      cases hok : inB y 1 999 with
      | false =>
        rw [hok] at hone hne
        have HN := hide (riseB_no hlt hne); have HC := hide hone
        clear hone hne hok
        go_wp2_with fail
        (refine wp_region_later (by kernel_rfl) (by kernel_rfl) ?_; (repeat (go_big_quiet_step ((go_at_call 81; exact later_same (HC.out _))))); refine wpQuiet_nil ?_; intro _ hw'; obtain ⟨nq, hw''⟩ := hw'; subst hw'')
        have B3 := bstep hbel nq.h hsz
        go_wp2_with fail
        go_ret
        exact ⟨ret_bool HN.out.symm, B3⟩
      | true =>
        rw [hok, Bool.true_and] at hne
        rw [hok] at hone
        have HC := hide hone; clear hone hok
        have hcont : riseAt xs i = true → (List.range (i + 1)).all (riseAt xs) = true := fun h => by rw [List.range_succ, List.all_append, HALL.out]; simp [h]
        have HCONT := hide hcont; clear hcont
        rcases Nat.eq_zero_or_pos i with hz | hpos
        · have hz3 : ¬ 0 < i := by omega
          have hz4 : decide (0 < i) = false := decide_eq_false hz3
          have hz5 : (i == 0) = true := by simpa using hz
          have HNE := hide (show riseAt xs i = true from hne.trans (by rw [decide_eq_true hz]; rfl)); clear hne hz
          go_wp2_with fail
          (refine wp_region_later (by kernel_rfl) (by kernel_rfl) ?_; (repeat (go_big_quiet_step ((go_at_call 81; exact later_same (HC.out _))))); refine wpQuiet_nil ?_; intro _ hw'; obtain ⟨nq, hw''⟩ := hw'; subst hw'')
          have B3 := bstep hbel nq.h hsz
          generalize nq.W = W5 at B3
          go_wp2_with fail
          go_round
          case measure => (first | (simp [intOf]; done) | (simp [intOf] <;> omega))
          case rel => exact ⟨i + 1, by omega, by go_num, HCONT.out HNE.out, B3⟩
        · obtain ⟨q, rfl⟩ : ∃ q, i = q + 1 := ⟨i - 1, by omega⟩
          obtain ⟨b', off', hA, hb', p0⟩ := Ints.cells HR.out (i := q) (by omega) hbel
          injection hA with hA; injection hA with hA1 hA2; subst hA1 hA2
          rw [show q + 1 - 1 = q by omega, getD_int (show q < xs.length by omega)] at hne
          generalize xs[q] = pid at p0 hne
          have n1 := fun n => later_cell p0 n
          by_cases hp : pid < y
          · have hp' : ¬ y ≤ pid := by omega
            have HNE := hide (show riseAt xs (q + 1) = true from hne.trans (by rw [decide_eq_true hp, Bool.or_true])); clear hne
            go_wp2_with fail
            (refine wp_region_later (by kernel_rfl) (by kernel_rfl) ?_; (repeat (go_big_quiet_step ((go_at_call 81; exact later_same (HC.out _))))); refine wpQuiet_nil ?_; intro _ hw'; obtain ⟨nq, hw''⟩ := hw'; subst hw'')
            have B3 := bstep hbel nq.h hsz
            generalize nq.W = W5 at B3
            go_wp2_with fail
            go_round
            case measure => (first | (simp [intOf]; done) | (simp [intOf] <;> omega))
            case rel => exact ⟨q + 1 + 1, by omega, by go_num, HCONT.out HNE.out, B3⟩
          · have hge : y ≤ pid := by omega
            have hne2 : riseAt xs (q + 1) = false := by rw [hne, decide_eq_false hp, decide_eq_false (show ¬ q + 1 = 0 by omega)]; rfl
            have HN := hide (riseB_no hlt hne2)
            clear hne hne2
            go_wp2_with fail
            (refine wp_region_later (by kernel_rfl) (by kernel_rfl) ?_; (repeat (go_big_quiet_step ((go_at_call 81; exact later_same (HC.out _))))); refine wpQuiet_nil ?_; intro _ hw'; obtain ⟨nq, hw''⟩ := hw'; subst hw'')
            have B3 := bstep hbel nq.h hsz
            go_wp2_with fail
            go_ret
            exact ⟨ret_bool HN.out.symm, B3⟩
    · have hk : i = xs.length := by omega
      have hall := HALL.out
      rw [hk] at hall
      have HA := hide hall; clear hall hk
      go_wp2_with fail
      go_ret
      exact ⟨ret_bool HA.out.symm, hbel⟩
theorem dr5 {w : World} {g : Nat} {t : TypeId} {a b c d e : Value} (h : Blk w g t #[a, b, c, d, e]) : w.cell? ⟨g, 0, none⟩ = some a ∧ w.cell? ⟨g, 1, none⟩ = some b ∧ w.cell? ⟨g, 2, none⟩ = some c ∧ w.cell? ⟨g, 3, none⟩ = some d ∧ w.cell? ⟨g, 4, none⟩ = some e := by
  refine ⟨?_, ?_, ?_, ?_, ?_⟩ <;> (rw [h.cell]; rfl)
theorem l5Drawer_any (b0 b1 b2 b3 : Int) (A : Option Addr) (cap : Nat) (xs : List Int) (w : World) (hr : Row 1 encI w w.heap.size A xs) (hm : xs.length ≤ 9223372036854775807) :
    Calls Try.prog 130 #[.agg #[.int .i64 b0, .int .i64 b1, .int .i64 b2, .int .i64 b3, .slice A xs.length cap]] w fun e w' => e = .returned (.bool (DrV.okB ⟨b0, b1, b2, b3, xs⟩)) ∧ Below w.heap.size w w' := by
  have hiff := @DrV.okB_iff b0 b1 b2 b3 xs
  have B1 := below_alloc w (.cells #[.int .i64 b0, .int .i64 b1, .int .i64 b2, .int .i64 b3, .slice A xs.length cap] 70)
  have hcr := l1Rising_any A cap xs _ (hr.below B1 (Nat.le_refl _) B1.size) hm
  generalize riseB xs = rb at hiff hcr
  have HC := hide hcr; have HI := hide hiff; clear hcr hiff
  have HB1 := hide B1; clear B1
  cases rb
  all_goals
    go_enter Try.func130, Try.ntmps130
    go_wp2_with (first | (go_at_call 81; refine (l1In_any _ _ _ _).mono ?_; rintro e w' ⟨rfl, rfl⟩) | (go_at_call 193; refine HC.out.mono ?_; rintro e w2 ⟨rfl, hb2⟩; have HB3 := hide (bstep HB1.out hb2 HB1.out.size); clear hb2))
    all_goals go_ret
    all_goals (first | refine ⟨ret_bool (bool_of_iff ?_), HB3.out⟩ | refine ⟨ret_bool (bool_of_iff ?_), HB1.out⟩)
    all_goals (rw [HI.out]; simp [inB_iff, inB_no] at *; try omega)
theorem isDrawer_any (b0 b1 b2 b3 : Int) (A : Option Addr) (cap : Nat) (xs : List Int) (w : World) (hr : Row 1 encI w w.heap.size A xs) (hm : xs.length ≤ 9223372036854775807) :
    Calls Try.prog 127 #[.agg #[.int .i64 b0, .int .i64 b1, .int .i64 b2, .int .i64 b3, .slice A xs.length cap]] w fun e w' => e = .returned (.bool (DrV.okB ⟨b0, b1, b2, b3, xs⟩)) ∧ Below w.heap.size w w' := by
  have hiff := @DrV.okB_iff b0 b1 b2 b3 xs
  have hno : riseB xs = false → DrV.okB ⟨b0, b1, b2, b3, xs⟩ = false := fun h => by
    cases hq : DrV.okB ⟨b0, b1, b2, b3, xs⟩ with
    | false => rfl
    | true => have := (hiff.1 hq).2.2.2.2.2.2.2.2.2; rw [h] at this; cases this
  have hyes : riseB xs = true → (DrV.okB ⟨b0, b1, b2, b3, xs⟩ = true ↔ (1 ≤ b0 ∧ b0 ≤ 99 ∧ 100 ≤ b1 ∧ b1 ≤ 2000 ∧ 100 ≤ b2 ∧ b2 ≤ 2000 ∧ 100 ≤ b3 ∧ b3 ≤ 50000 ∧ xs.length ≤ 12)) := fun h => by rw [hiff, h]; simp
  generalize DrV.okB ⟨b0, b1, b2, b3, xs⟩ = ob at *
  have HNO := hide hno; have HYES := hide hyes; clear hno hyes hiff
  have B1 := below_alloc w (.cells #[.int .i64 b0, .int .i64 b1, .int .i64 b2, .int .i64 b3, .slice A xs.length cap] 70)
  have hbk := Blk.new w 70 #[.int .i64 b0, .int .i64 b1, .int .i64 b2, .int .i64 b3, .slice A xs.length cap]
  obtain ⟨t0, t1, t2, t3, t4⟩ := dr5 hbk
  clear hbk
  have HR := hide (hr.below B1 (Nat.le_refl _) B1.size); clear hr
  go_enter Try.func127, Try.ntmps127
  go_upto_region 1 with fail
  have HB1 := hide B1; clear B1
  generalize w.alloc (.cells #[.int .i64 b0, .int .i64 b1, .int .i64 b2, .int .i64 b3, .slice A xs.length cap] 70) = w1 at *
  generalize hgg : w.heap.size = gg at *
  have HGG := hide hgg; clear hgg
  go_wp2_with fail
  go_loop [8] (fun i => ∃ (k : Nat), k ≤ xs.length ∧ i = .int .i64 k ∧ (List.range k).all (riseAt xs) = true) (fun i => xs.length - (intOf i).toNat)
  case atStart => exact ⟨0, Nat.zero_le _, rfl, rfl⟩
  case round =>
    obtain ⟨i, hi, rfl, hall⟩ := hrel
    have HALL := hide hall; clear hall
    by_cases hlt : i < xs.length
    · have hlt' : (i : Int) < xs.length := by omega
      obtain ⟨b, off, rfl, hb, c0⟩ := Ints.cells HR.out hlt (Below.refl _ _)
      have hat : xs.getD i 0 = xs[i] := getD_int hlt
      generalize xs[i] = y at *
      have hne : riseAt xs i = (inB y 1 999 && (decide (i = 0) || decide (xs.getD (i - 1) 0 < y))) := by unfold riseAt; rw [hat]
      have hone := fun W => isIdF_any y W
      clear hat
      cases hok : inB y 1 999 with
      | false =>
        rw [hok] at hone hne
        have HN := hide (HNO.out (riseB_no hlt hne)); have HC := hide hone
        clear hone hne hok
        go_wp2_with (go_at_call 192; refine (HC.out _).mono ?_; rintro e w' ⟨rfl, rfl⟩)
        go_ret
        exact ⟨ret_bool HN.out.symm, (by rw [HGG.out]; exact HB1.out)⟩
      | true =>
        rw [hok, Bool.true_and] at hne
        rw [hok] at hone
        have HC := hide hone; clear hone hok
        have hcont : riseAt xs i = true → (List.range (i + 1)).all (riseAt xs) = true := fun h => by rw [List.range_succ, List.all_append, HALL.out]; simp [h]
        have HCONT := hide hcont; clear hcont
        rcases Nat.eq_zero_or_pos i with hz | hpos
        · have hz3 : ¬ 0 < i := by omega
          have hz4 : decide (0 < i) = false := decide_eq_false hz3
          have hz5 : (i == 0) = true := by simpa using hz
          have HNE := hide (show riseAt xs i = true from hne.trans (by rw [decide_eq_true hz]; rfl)); clear hne hz
          go_wp2_with (go_at_call 192; refine (HC.out _).mono ?_; rintro e w' ⟨rfl, rfl⟩)
          go_round
          case measure => (first | (simp [intOf]; done) | (simp [intOf] <;> omega))
          case rel => exact ⟨i + 1, by omega, by go_num, HCONT.out HNE.out⟩
        · obtain ⟨q, rfl⟩ : ∃ q, i = q + 1 := ⟨i - 1, by omega⟩
          obtain ⟨b', off', hA, hb', p0⟩ := Ints.cells HR.out (i := q) (by omega) (Below.refl _ _)
          injection hA with hA; injection hA with hA1 hA2; subst hA1 hA2
          rw [show q + 1 - 1 = q by omega, getD_int (show q < xs.length by omega)] at hne
          generalize xs[q] = pid at p0 hne
          by_cases hp : pid < y
          · have hp' : ¬ y ≤ pid := by omega
            have HNE := hide (show riseAt xs (q + 1) = true from hne.trans (by rw [decide_eq_true hp, Bool.or_true])); clear hne
            go_wp2_with (go_at_call 192; refine (HC.out _).mono ?_; rintro e w' ⟨rfl, rfl⟩)
            go_round
            case measure => (first | (simp [intOf]; done) | (simp [intOf] <;> omega))
            case rel => exact ⟨q + 1 + 1, by omega, by go_num, HCONT.out HNE.out⟩
          · have hge : y ≤ pid := by omega
            have hne2 : riseAt xs (q + 1) = false := by rw [hne, decide_eq_false hp, decide_eq_false (show ¬ q + 1 = 0 by omega)]; rfl
            have HN := hide (HNO.out (riseB_no hlt hne2))
            clear hne hne2
            go_wp2_with (go_at_call 192; refine (HC.out _).mono ?_; rintro e w' ⟨rfl, rfl⟩)
            go_ret
            exact ⟨ret_bool HN.out.symm, (by rw [HGG.out]; exact HB1.out)⟩
    · have hk : i = xs.length := by omega
      have hall := HALL.out
      rw [hk] at hall
      have HA := hide (HYES.out hall); clear hall hk
      have hm2 : (xs.length : Int) ≤ 12 ↔ xs.length ≤ 12 := by omega
      go_wp2_with (go_at_call 91; refine (within_any _ _ _ _).mono ?_; rintro e w' ⟨rfl, rfl⟩)
      all_goals go_ret
      all_goals refine ⟨ret_bool (bool_of_iff ?_), (by rw [HGG.out]; exact HB1.out)⟩
      all_goals (rw [HA.out]; simp [inB_iff, inB_no] at *; try omega)
end Go.Proofs.Ytdbcilinoieabaa
