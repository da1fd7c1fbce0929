/- Contracts of the small functions on makers, in impl and spec: words, years, one maker, the place of an id. No condition. -/
import Derived.Test.YtapbnggdclpokaaDoorStMaker
import Derived.Test.YtapbnggdclpokaaDoorStInt
import Derived.Test.YtapbnggdclpokaaDoorL1
import Derived.Lib.ConvBytes
namespace Go.Proofs.YtapbnggdclpokaaDoor
open Go.RowKit Go.Lib
set_option linter.unusedVariables false
def letB (c : UInt8) : Bool := decide (97 ≤ (c.toNat : Int) ∧ (c.toNat : Int) ≤ 122)
def wordB (s : ByteArray) : Bool := s.data.toList.all letB && inB s.size 1 10
theorem l2Word_any (s : ByteArray) (w : World) (hm : s.size ≤ 9223372036854775807) :
    Calls Tryd.prog 63 #[.string s] w fun e w' => e = .returned (.bool (wordB s)) ∧ w = w' := by
  have hlen : s.data.toList.length = s.size := rfl
  go_enter Tryd.func63, Tryd.ntmps63
  go_wp2_with fail
  go_loop [3] (fun i => ∃ (k : Nat), k ≤ s.size ∧ i = .int .i64 k ∧ (s.data.toList.take k).all letB = true) (fun i => s.size - (intOf i).toNat)
  case atStart => exact ⟨0, Nat.zero_le _, rfl, by simp⟩
  case round =>
    obtain ⟨i, hi, rfl, hall⟩ := hrel
    have HA := hide hall; clear hall
    by_cases hlt : i < s.size
    · have hlt2 : i < s.data.toList.length := by omega
      have hg : s.data.toList[i] = s[i] := rfl
      have hstep : (s.data.toList.take (i + 1)).all letB = ((s.data.toList.take i).all letB && letB s.data.toList[i]) := all_take_succ hlt2
      rw [hg] at hstep
      have HST := hide hstep; clear hstep
      by_cases hc : 97 ≤ (s[i].toNat : Int) ∧ (s[i].toNat : Int) ≤ 122
      · obtain ⟨hc1, hc2⟩ := hc
        have hl : letB s[i] = true := decide_eq_true ⟨hc1, hc2⟩
        have HL := hide hl; clear hl
        clear hg
        go_wp2_with fail
        go_round
        case measure => simp [intOf]; omega
        case rel => exact ⟨i + 1, by omega, by go_num, by rw [HST.out, HA.out, HL.out]; rfl⟩
      · have hl : letB s[i] = false := decide_eq_false hc
        have hno : wordB s = false := by
          unfold wordB
          rw [Bool.and_eq_false_iff]
          left
          rw [List.all_eq_false]
          exact ⟨s[i], hg ▸ List.getElem_mem hlt2, by simp [hl]⟩
        have HNO := hide hno; clear hno hl hg
        by_cases hc1 : (s[i].toNat : Int) < 97
        · go_wp2_with fail
          go_ret
          exact ⟨ret_bool HNO.out.symm, rfl⟩
        · have hc2 : (122 : Int) < s[i].toNat := by omega
          go_wp2_with fail
          go_ret
          exact ⟨ret_bool HNO.out.symm, rfl⟩
    · have hk : i = s.size := by omega
      have hw : wordB s = inB s.size 1 10 := by
        unfold wordB
        have := HA.out
        rw [hk, ← hlen, List.take_length] at this
        rw [this, Bool.true_and]
      have HW := hide hw; clear hw
      have HK := hide hk; clear hk
      go_wp2_with (first | (go_at_call 59; refine (l1In_any _ _ _ _).mono ?_; rintro e w' ⟨rfl, rfl⟩))
      go_ret
      exact ⟨ret_bool HW.out.symm, rfl⟩
/-- the predicate g with the captured values cp answers p -/
def PredB (g : FuncId) (cp : Array Value) (p : UInt8 → Bool) (B : Nat) (w : World) : Prop :=
  ∀ (W : World) (c : UInt8), Below B w W → Calls Tryd.prog g (#[.int .u8 (c.toNat : Int)] ++ cp) W fun e w' => e = .returned (.bool (p c)) ∧ Below B w w'
theorem IndexFuncB_any (g : FuncId) (cp : Array Value) (p : UInt8 → Bool) (A : Option Addr) (cap : Nat) (xs : List UInt8) (w : World) (hr : Row 1 encB w w.heap.size A xs) (hm : xs.length ≤ 9223372036854775807)
    (eg : ∀ args w, (callFunc g args).run Tryd.prog w = .ok (.enter g args) w) (hp : PredB g cp p w.heap.size w) :
    Calls Tryd.prog 77 #[.slice A xs.length cap, .func (.func g) #[] cp] w fun e w' => e = .returned (.int .i64 (idxF p xs)) ∧ Below w.heap.size w w' := by
  generalize hB : w.heap.size = B at hr hp ⊢
  have HB := hide hB; clear hB
  have HR := hide hr; clear hr
  have HP := hide hp; clear hp
  go_enter Tryd.func77, Tryd.ntmps77
  go_wp2_with fail
  go_loopw [8] (fun i wr => ∃ (k : Nat), k ≤ xs.length ∧ i = .int .i64 k ∧ (∀ c ∈ xs.take k, p c = false) ∧ Below B w wr) (fun i _ => xs.length - (intOf i).toNat)
  case atStart => exact ⟨0, Nat.zero_le _, rfl, by simp, Below.refl _ _⟩
  case round =>
    obtain ⟨i, hi, rfl, hno, hbel⟩ := hrel
    have HN := hide hno; clear hno
    by_cases hlt : i < xs.length
    · obtain ⟨b, off, rfl, hb, c0⟩ := Bytes.cells HR.out hlt hbel
      have hcall := HP.out wr xs[i] hbel
      generalize hy : xs[i] = y at hcall c0
      have HY := hide hy; clear hy
      cases hq : p y with
      | true =>
        rw [hq] at hcall
        have HQ := hide hq; clear hq
        go_wp2_with (go_at_fn g; refine hcall.mono ?_; rintro e w' ⟨rfl, hb'⟩)
        go_ret
        refine ⟨ret_int ?_, hb'⟩
        exact (idxF_hit hlt (by rw [HY.out]; exact HQ.out) HN.out).symm
      | false =>
        rw [hq] at hcall
        have HQ := hide hq; clear hq
        go_wp2_with (go_at_fn g; refine hcall.mono ?_; rintro e w' ⟨rfl, hb'⟩)
        refine ⟨⟨i + 1, by omega, by go_num, ?_, hb'⟩, by simp [intOf]; omega⟩
        rw [take_snoc' hlt, HY.out]
        intro c hc
        rcases List.mem_append.1 hc with h | h
        · exact HN.out c h
        · rw [List.mem_singleton.1 h]; exact HQ.out
    · have hk : i = xs.length := by omega
      have HK := hide hk; clear hk
      go_wp2_with fail
      go_ret
      refine ⟨ret_int (idxF_miss ?_).symm, hbel⟩
      have := HN.out; rw [HK.out, List.take_length] at this; exact this
theorem ContainsFuncB_any (g : FuncId) (cp : Array Value) (p : UInt8 → Bool) (A : Option Addr) (cap : Nat) (xs : List UInt8) (w : World) (hr : Row 1 encB w w.heap.size A xs) (hm : xs.length ≤ 9223372036854775807)
    (eg : ∀ args w, (callFunc g args).run Tryd.prog w = .ok (.enter g args) w) (hp : PredB g cp p w.heap.size w) :
    Calls Tryd.prog 71 #[.slice A xs.length cap, .func (.func g) #[] cp] w fun e w' => e = .returned (.bool (xs.any p)) ∧ Below w.heap.size w w' := by
  have HR := hide hr; clear hr
  have HP := hide hp; clear hp
  go_enter Tryd.func71, Tryd.ntmps71
  go_wp2_with (go_at_call 77; refine (IndexFuncB_any _ _ _ _ _ _ _ HR.out hm eg HP.out).mono ?_; rintro e w' ⟨rfl, hb'⟩)
  go_ret
  exact ⟨ret_bool (idxF_any p xs), hb'⟩
theorem notLet_any (c : UInt8) (w : World) :
    Calls Tryd.prog 72 #[.int .u8 (c.toNat : Int)] w fun e w' => e = .returned (.bool (!letB c)) ∧ w = w' := by
  go_enter Tryd.func72, Tryd.ntmps72
  go_wp2
  all_goals go_ret
  all_goals refine ⟨ret_bool (bool_of_iff ?_), rfl⟩
  all_goals (simp [letB, *]; try omega)
theorem below_bytes (w : World) (e : TypeId) (s : ByteArray) : Below w.heap.size w (bytesWorld w e s) :=
  below_freeze ((Below.drew (Below.refl _ w)).alloc (Nat.le_refl _) _) (p := ⟨w.heap.size, _, none⟩) (Nat.le_refl _) 1
theorem row_bytes (w : World) (e : TypeId) (s : ByteArray) : Row 1 encB (bytesWorld w e s) (bytesWorld w e s).heap.size (some ⟨w.heap.size, 0, none⟩) s.data.toList := by
  refine .inr ⟨w.heap.size, 0, rfl, by rw [bytesWorld_size]; omega, fun i x hx j hj => ?_⟩
  obtain rfl : j = 0 := by omega
  obtain ⟨hi, rfl⟩ := List.getElem?_eq_some_iff.1 hx
  have hs : i < s.size := hi
  simp only [Nat.zero_add, Nat.mul_one, Nat.add_zero]
  rw [bytesWorld_cell w e s i hs, List.getD_eq_getElem?_getD, List.getElem?_eq_getElem hi]
  rfl
theorem isWord_any (s : ByteArray) (w : World) (hm : s.size ≤ 9223372036854775807) :
    Calls Tryd.prog 62 #[.string s] w fun e w' => e = .returned (.bool (wordB s)) ∧ Below w.heap.size w w' := by
  have hlen : s.data.toList.length = s.size := rfl
  by_cases h1 : 1 ≤ s.size ∧ s.size ≤ 10
  · obtain ⟨h1, h2⟩ := h1
    have h1' : (1 : Int) ≤ s.size := by omega
    have h2' : (s.size : Int) ≤ 10 := by omega
    have hcv := Go.Lib.run_convert_string_bytes (P := Tryd.prog) w 9 30 5 s Tryd.underlying9 Tryd.underlying30 Tryd.underlying5
    have hw : wordB s = !(s.data.toList.any fun c => !letB c) := by
      unfold wordB
      rw [show inB s.size 1 10 = true from inB_iff.2 ⟨h1', h2'⟩, Bool.and_true]
      rw [List.all_eq_not_any_not]
    have hp : PredB 72 #[] (fun c => !letB c) (bytesWorld w 5 s).heap.size (bytesWorld w 5 s) := fun W c hb => (notLet_any c W).mono fun e w' ⟨he, hw⟩ => ⟨he, hw ▸ hb⟩
    have hcall := ContainsFuncB_any 72 #[] (fun c => !letB c) (some ⟨w.heap.size, 0, none⟩) (grownCap w s.size 0 5) s.data.toList (bytesWorld w 5 s) (row_bytes w _ s) (by omega) (fun _ _ => by kernel_rfl) hp
    rw [hlen] at hcall
    have HC := hide hcall; have HW := hide hw; clear hcall hp hw hlen
    have B1 := below_bytes w 5 s
    generalize bytesWorld w 5 s = w1 at hcv HC B1
    generalize grownCap w s.size 0 5 = gc at hcv HC
    go_enter Tryd.func62, Tryd.ntmps62
    go_wp2_with fail
    refine HC.out.mono ?_; rintro e w2 ⟨rfl, hb1⟩
    go_wp2_with fail
    go_ret
    exact ⟨ret_bool (by first | exact HW.out.symm | (rw [HW.out]; simp)), bstep B1 hb1 B1.size⟩
  · have hw : wordB s = false := by
      unfold wordB
      rw [Bool.and_eq_false_iff]
      right
      exact inB_no.2 (by omega)
    have HW := hide hw; clear hw
    by_cases h2 : 1 ≤ s.size
    · have h1' : (1 : Int) ≤ s.size := by omega
      have h2' : ¬ (s.size : Int) ≤ 10 := by omega
      go_enter Tryd.func62, Tryd.ntmps62
      go_wp2_with fail
      go_ret
      exact ⟨ret_bool HW.out.symm, Below.refl _ _⟩
    · have h1' : ¬ (1 : Int) ≤ s.size := by omega
      go_enter Tryd.func62, Tryd.ntmps62
      go_wp2_with fail
      go_ret
      exact ⟨ret_bool HW.out.symm, Below.refl _ _⟩
theorem l7Year_any (n : Int) (w : World) : Calls Tryd.prog 43 #[.int .i64 n] w fun e w' => e = .returned (.bool (inB n 1500 2100)) ∧ w = w' := by
  go_enter Tryd.func43, Tryd.ntmps43
  go_wp2_with (first | (go_at_call 59; refine (l1In_any _ _ _ _).mono ?_; rintro e w' ⟨rfl, rfl⟩))
  go_ret
  exact ⟨rfl, rfl⟩
theorem isYear_any (n : Int) (w : World) : Calls Tryd.prog 39 #[.int .i64 n] w fun e w' => e = .returned (.bool (inB n 1500 2100)) ∧ w = w' := by
  go_enter Tryd.func39, Tryd.ntmps39
  go_wp2_with (first | (go_at_call 61; refine (within_any _ _ _ _).mono ?_; rintro e w' ⟨rfl, rfl⟩))
  go_ret
  exact ⟨rfl, rfl⟩
/-- whether one maker is valid -/
def SMaker.okB (c : SMaker) : Bool := decide (1 ≤ c.ident ∧ c.ident ≤ 99 ∧ wordB c.name = true ∧ 1500 ≤ c.frm ∧ c.frm ≤ c.untl ∧ c.untl ≤ 2100 ∧ 0 ≤ c.heir ∧ c.heir ≤ 99 ∧ c.heir ≠ c.ident)
theorem SMaker.okB_iff {a0 : Int} {a1 : ByteArray} {a2 a3 a4 : Int} : SMaker.okB ⟨a0, a1, a2, a3, a4⟩ = true ↔ (1 ≤ a0 ∧ a0 ≤ 99 ∧ wordB a1 = true ∧ 1500 ≤ a2 ∧ a2 ≤ a3 ∧ a3 ≤ 2100 ∧ 0 ≤ a4 ∧ a4 ≤ 99 ∧ a4 ≠ a0) := decide_eq_true_iff
theorem l7One_any (a0 : Int) (a1 : ByteArray) (a2 a3 a4 : Int) (w : World) (hm : a1.size ≤ 9223372036854775807) :
    Calls Tryd.prog 30 #[.agg #[.int .i64 a0, .string a1, .int .i64 a2, .int .i64 a3, .int .i64 a4]] w fun e w' => e = .returned (.bool (SMaker.okB ⟨a0, a1, a2, a3, a4⟩)) ∧ Below w.heap.size w w' := by
  have hcw := fun W => l2Word_any a1 W hm
  have hiff := @SMaker.okB_iff a0 a1 a2 a3 a4
  generalize wordB a1 = wd at hcw hiff
  have HC := hide hcw; have HI := hide hiff; clear hcw hiff
  have B1 := below_alloc w (.cells #[.int .i64 a0, .string a1, .int .i64 a2, .int .i64 a3, .int .i64 a4] 27)
  have HB1 := hide B1; clear B1
  cases wd
  all_goals
    go_enter Tryd.func30, Tryd.ntmps30
    go_wp2_with (first | (go_at_call 59; refine (l1In_any _ _ _ _).mono ?_; rintro e w' ⟨rfl, rfl⟩) | (go_at_call 43; refine (l7Year_any _ _).mono ?_; rintro e w' ⟨rfl, rfl⟩) | (go_at_call 63; refine (HC.out _).mono ?_; rintro e w' ⟨rfl, rfl⟩))
    all_goals go_ret
    all_goals refine ⟨ret_bool (bool_of_iff ?_), HB1.out⟩
    all_goals (rw [HI.out]; simp [inB_iff, inB_no] at *; try omega)
theorem IsMaker_any (a0 : Int) (a1 : ByteArray) (a2 a3 a4 : Int) (w : World) (hm : a1.size ≤ 9223372036854775807) :
    Calls Tryd.prog 28 #[.agg #[.int .i64 a0, .string a1, .int .i64 a2, .int .i64 a3, .int .i64 a4]] w fun e w' => e = .returned (.bool (SMaker.okB ⟨a0, a1, a2, a3, a4⟩)) ∧ Below w.heap.size w w' := by
  have hcw := fun W => isWord_any a1 W hm
  have hiff := @SMaker.okB_iff a0 a1 a2 a3 a4
  generalize wordB a1 = wd at hcw hiff
  have HC := hide hcw; have HI := hide hiff; clear hcw hiff
  have B1 := below_alloc w (.cells #[.int .i64 a0, .string a1, .int .i64 a2, .int .i64 a3, .int .i64 a4] 27)
  have hce : ∀ W, Below (w.heap.size + 1) (w.alloc (.cells #[.int .i64 a0, .string a1, .int .i64 a2, .int .i64 a3, .int .i64 a4] 27)) W → W.cell? ⟨w.heap.size, 0, none⟩ = some (.int .i64 a0) ∧ W.cell? ⟨w.heap.size, 2, none⟩ = some (.int .i64 a2) ∧ W.cell? ⟨w.heap.size, 3, none⟩ = some (.int .i64 a3) ∧ W.cell? ⟨w.heap.size, 4, none⟩ = some (.int .i64 a4) := by
    intro W hb
    have hc := fun o => hb.cell (p := ⟨w.heap.size, o, none⟩) (by simp)
    refine ⟨?_, ?_, ?_, ?_⟩ <;> rw [hc, (Blk.new w _ _).cell] <;> rfl
  have HCE := hide hce; clear hce
  have HB1 := hide B1; clear B1
  cases wd
  all_goals
    go_enter Tryd.func28, Tryd.ntmps28
    go_wp2_with (first | (go_at_call 61; refine (within_any _ _ _ _).mono ?_; rintro e w' ⟨rfl, rfl⟩) | (go_at_call 62; refine (HC.out _).mono ?_; rintro e w2 ⟨rfl, hb2⟩; have hb4 := hb2.mono (show w.heap.size + 1 ≤ _ by simp); obtain ⟨c0, c1, c2, c3⟩ := HCE.out _ hb4; have hb3 := HB1.out.trans (hb4.mono (Nat.le_succ _)); have HB3 := hide hb3; clear hb2 hb3 hb4))
    all_goals go_ret
    all_goals (first | refine ⟨ret_bool (bool_of_iff ?_), HB3.out⟩ | refine ⟨ret_bool (bool_of_iff ?_), HB1.out⟩)
    all_goals (rw [HI.out]; simp [inB_iff, inB_no] at *; try omega)
/-- the place of an id -/
def findM (xs : List SMaker) (id : Int) : Int := idxF (fun c => c.ident == id) xs
theorem l7Find_any (v : Value) (xs : List SMaker) (id : Int) (w : World) (h : Is 5 SMaker.enc w v xs) :
    Calls Tryd.prog 41 #[v, .int .i64 id] w fun e w' => e = .returned (.int .i64 (findM xs id)) ∧ w = w' := by
  have hm := h.len
  obtain ⟨A, cap, rfl, hr, _, _⟩ := h
  have HR := hide hr; clear hr
  go_enter Tryd.func41, Tryd.ntmps41
  go_wp2_with fail
  go_loop [5] (fun i => ∃ (k : Nat), k ≤ xs.length ∧ i = .int .i64 k ∧ (∀ c ∈ xs.take k, (c.ident == id) = false)) (fun i => xs.length - (intOf i).toNat)
  case atStart => exact ⟨0, Nat.zero_le _, rfl, by simp⟩
  case round =>
    obtain ⟨i, hi, rfl, hno⟩ := hrel
    have HN := hide hno; clear hno
    by_cases hlt : i < xs.length
    · obtain ⟨b, off, rfl, hb, c0, _, _, _, _⟩ := SMaker.cells HR.out hlt (Below.refl _ _)
      generalize hy : xs[i].ident = y at c0
      have HY := hide hy; clear hy
      cases hq : (y == id) with
      | true =>
        have HQ := hide hq
        go_wp2_with fail
        go_ret
        refine ⟨ret_int ?_, rfl⟩
        exact (idxF_hit hlt (by rw [HY.out]; exact HQ.out) HN.out).symm
      | false =>
        have HQ := hide hq
        go_wp2_with fail
        go_round
        case measure => simp [intOf]; omega
        case rel =>
          refine ⟨i + 1, by omega, by go_num, ?_⟩
          rw [take_snoc' hlt]
          intro c hc
          rcases List.mem_append.1 hc with h | h
          · exact HN.out c h
          · rw [List.mem_singleton.1 h, HY.out]; exact HQ.out
    · have hk : i = xs.length := by omega
      have HK := hide hk; clear hk
      go_wp2_with fail
      go_ret
      refine ⟨ret_int (idxF_miss ?_).symm, rfl⟩
      have := HN.out; rw [HK.out, List.take_length] at this; exact this
theorem makerAt1_any (a0 : Int) (a1 : ByteArray) (a2 a3 a4 id : Int) (b : Nat) (w : World) (hc : w.cell? ⟨b, 0, none⟩ = some (.int .i64 id)) :
    Calls Tryd.prog 69 #[.agg #[.int .i64 a0, .string a1, .int .i64 a2, .int .i64 a3, .int .i64 a4], .pointer (some ⟨b, 0, none⟩)] w fun e w' => e = .returned (.bool (a0 == id)) ∧ Below w.heap.size w w' := by
  have hbl := World.block_lt_of_cell? w _ hc
  have hc2 : (w.alloc (.cells #[.int .i64 a0, .string a1, .int .i64 a2, .int .i64 a3, .int .i64 a4] 27)).cell? ⟨b, 0, none⟩ = some (.int .i64 id) := ((bcell (below_alloc w _)).1 b 0 hbl).trans hc
  go_enter Tryd.func69, Tryd.ntmps69
  go_wp2_with fail
  go_ret
  exact ⟨rfl, below_alloc _ _⟩
theorem makerAt_any (v : Value) (xs : List SMaker) (id : Int) (w : World) (h : Is 5 SMaker.enc w v xs) :
    Calls Tryd.prog 37 #[v, .int .i64 id] w fun e w' => e = .returned (.int .i64 (findM xs id)) ∧ Below w.heap.size w w' := by
  have hm := h.len
  obtain ⟨A, cap, rfl, hr, _, _⟩ := h
  have B1 := below_alloc w (.cells #[.int .i64 id] 3)
  have hr1 := hr.below B1 (Nat.le_refl _) B1.size
  have hcell : (w.alloc (.cells #[.int .i64 id] 3)).cell? ⟨w.heap.size, 0, none⟩ = some (.int .i64 id) := by rw [(Blk.new w _ _).cell]; rfl
  have hp : SMaker.Pred 69 #[.pointer (some ⟨w.heap.size, 0, none⟩)] (fun c => c.ident == id) (w.alloc (.cells #[.int .i64 id] 3)).heap.size (w.alloc (.cells #[.int .i64 id] 3)) := fun W c hb =>
    (makerAt1_any _ _ _ _ _ id w.heap.size W (((bcell hb).1 _ _ (by simp)).trans hcell)).mono fun e w' ⟨he, hw⟩ => ⟨he, hb.trans (hw.mono hb.size)⟩
  have HR := hide hr1; have HP := hide hp; clear hr hr1 hp hcell
  go_enter Tryd.func37, Tryd.ntmps37
  go_wp2_with (go_at_call 68; refine (IndexFuncMaker_any _ _ _ _ _ _ _ HR.out hm (fun _ _ => by kernel_rfl) HP.out).mono ?_; rintro e w' ⟨rfl, hb'⟩)
  go_ret
  exact ⟨rfl, bstep B1 hb' B1.size⟩
end Go.Proofs.YtapbnggdclpokaaDoor
