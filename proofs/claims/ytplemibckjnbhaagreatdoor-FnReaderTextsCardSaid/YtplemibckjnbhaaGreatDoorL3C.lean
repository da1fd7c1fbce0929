import Derived.Test.YtplemibckjnbhaaGreatDoorStReader
import Derived.Test.YtplemibckjnbhaaGreatDoorStInt
import Derived.Test.YtplemibckjnbhaaGreatDoorL1
import Derived.Lib.ConvBytes
/- Contracts of words, in impl and spec. Condition: lengths below 2^63. (Taken out of L7A by mkwords.py.) -/
namespace Go.Proofs.YtplemibckjnbhaaGreatDoor
open Go.RowKit Go.Lib
set_option linter.unusedVariables false
def letB (c : UInt8) : Bool := decide (97 ≤ (c.toNat : Int) ∧ (c.toNat : Int) ≤ 122)
def wordB (s : ByteArray) : Bool := s.data.toList.all letB && inB s.size 1 10
theorem l2Word_any (s : ByteArray) (w : World) (hm : s.size ≤ 9223372036854775807) :
    Calls Tryz.prog 97 #[.string s] w fun e w' => e = .returned (.bool (wordB s)) ∧ w = w' := by
  have hlen : s.data.toList.length = s.size := rfl
  go_enter Tryz.func97, Tryz.ntmps97
  go_wp2_with fail
  go_loop [3] (fun i => ∃ (k : Nat), k ≤ s.size ∧ i = .int .i64 k ∧ (s.data.toList.take k).all letB = true) (fun i => s.size - (intOf i).toNat)
  case atStart => exact ⟨0, Nat.zero_le _, rfl, by simp⟩
  case round =>
    obtain ⟨i, hi, rfl, hall⟩ := hrel
    have HA := hide hall; clear hall
    by_cases hlt : i < s.size
    · have hlt2 : i < s.data.toList.length := by omega
      have hg : s.data.toList[i] = s[i] := rfl
      have hstep : (s.data.toList.take (i + 1)).all letB = ((s.data.toList.take i).all letB && letB s.data.toList[i]) := all_take_succ hlt2
      rw [hg] at hstep
      have HST := hide hstep; clear hstep
      by_cases hc : 97 ≤ (s[i].toNat : Int) ∧ (s[i].toNat : Int) ≤ 122
      · obtain ⟨hc1, hc2⟩ := hc
        have hl : letB s[i] = true := decide_eq_true ⟨hc1, hc2⟩
        have HL := hide hl; clear hl
        clear hg
        go_wp2_with fail
        go_round
        case measure => simp [intOf]; omega
        case rel => exact ⟨i + 1, by omega, by go_num, by rw [HST.out, HA.out, HL.out]; rfl⟩
      · have hl : letB s[i] = false := decide_eq_false hc
        have hno : wordB s = false := by
          unfold wordB
          rw [Bool.and_eq_false_iff]
          left
          rw [List.all_eq_false]
          exact ⟨s[i], hg ▸ List.getElem_mem hlt2, by simp [hl]⟩
        have HNO := hide hno; clear hno hl hg
        by_cases hc1 : (s[i].toNat : Int) < 97
        · go_wp2_with fail
          go_ret
          exact ⟨ret_bool HNO.out.symm, rfl⟩
        · have hc2 : (122 : Int) < s[i].toNat := by omega
          go_wp2_with fail
          go_ret
          exact ⟨ret_bool HNO.out.symm, rfl⟩
    · have hk : i = s.size := by omega
      have hw : wordB s = inB s.size 1 10 := by
        unfold wordB
        have := HA.out
        rw [hk, ← hlen, List.take_length] at this
        rw [this, Bool.true_and]
      have HW := hide hw; clear hw
      have HK := hide hk; clear hk
      go_wp2_with (first | (go_at_call 75; refine (l1In_any _ _ _ _).mono ?_; rintro e w' ⟨rfl, rfl⟩))
      go_ret
      exact ⟨ret_bool HW.out.symm, rfl⟩
/-- the predicate g with the captured values cp answers p -/
def PredB (g : FuncId) (cp : Array Value) (p : UInt8 → Bool) (B : Nat) (w : World) : Prop :=
  ∀ (W : World) (c : UInt8), Below B w W → Calls Tryz.prog g (#[.int .u8 (c.toNat : Int)] ++ cp) W fun e w' => e = .returned (.bool (p c)) ∧ Below B w w'
theorem IndexFuncB_any (g : FuncId) (cp : Array Value) (p : UInt8 → Bool) (A : Option Addr) (cap : Nat) (xs : List UInt8) (w : World) (hr : Row 1 encB w w.heap.size A xs) (hm : xs.length ≤ 9223372036854775807)
    (eg : ∀ args w, (callFunc g args).run Tryz.prog w = .ok (.enter g args) w) (hp : PredB g cp p w.heap.size w) :
    Calls Tryz.prog 120 #[.slice A xs.length cap, .func (.func g) #[] cp] w fun e w' => e = .returned (.int .i64 (idxF p xs)) ∧ Below w.heap.size w w' := by
  generalize hB : w.heap.size = B at hr hp ⊢
  have HB := hide hB; clear hB
  have HR := hide hr; clear hr
  have HP := hide hp; clear hp
  go_enter Tryz.func120, Tryz.ntmps120
  go_wp2_with fail
  go_loopw [8] (fun i wr => ∃ (k : Nat), k ≤ xs.length ∧ i = .int .i64 k ∧ (∀ c ∈ xs.take k, p c = false) ∧ Below B w wr) (fun i _ => xs.length - (intOf i).toNat)
  case atStart => exact ⟨0, Nat.zero_le _, rfl, by simp, Below.refl _ _⟩
  case round =>
    obtain ⟨i, hi, rfl, hno, hbel⟩ := hrel
    have HN := hide hno; clear hno
    by_cases hlt : i < xs.length
    · obtain ⟨b, off, rfl, hb, c0⟩ := Bytes.cells HR.out hlt hbel
      have hcall := HP.out wr xs[i] hbel
      generalize hy : xs[i] = y at hcall c0
      have HY := hide hy; clear hy
      cases hq : p y with
      | true =>
        rw [hq] at hcall
        have HQ := hide hq; clear hq
        go_wp2_with (go_at_fn g; refine hcall.mono ?_; rintro e w' ⟨rfl, hb'⟩)
        go_ret
        refine ⟨ret_int ?_, hb'⟩
        exact (idxF_hit hlt (by rw [HY.out]; exact HQ.out) HN.out).symm
      | false =>
        rw [hq] at hcall
        have HQ := hide hq; clear hq
        go_wp2_with (go_at_fn g; refine hcall.mono ?_; rintro e w' ⟨rfl, hb'⟩)
        refine ⟨⟨i + 1, by omega, by go_num, ?_, hb'⟩, by simp [intOf]; omega⟩
        rw [take_snoc' hlt, HY.out]
        intro c hc
        rcases List.mem_append.1 hc with h | h
        · exact HN.out c h
        · rw [List.mem_singleton.1 h]; exact HQ.out
    · have hk : i = xs.length := by omega
      have HK := hide hk; clear hk
      go_wp2_with fail
      go_ret
      refine ⟨ret_int (idxF_miss ?_).symm, hbel⟩
      have := HN.out; rw [HK.out, List.take_length] at this; exact this
theorem ContainsFuncB_any (g : FuncId) (cp : Array Value) (p : UInt8 → Bool) (A : Option Addr) (cap : Nat) (xs : List UInt8) (w : World) (hr : Row 1 encB w w.heap.size A xs) (hm : xs.length ≤ 9223372036854775807)
    (eg : ∀ args w, (callFunc g args).run Tryz.prog w = .ok (.enter g args) w) (hp : PredB g cp p w.heap.size w) :
    Calls Tryz.prog 100 #[.slice A xs.length cap, .func (.func g) #[] cp] w fun e w' => e = .returned (.bool (xs.any p)) ∧ Below w.heap.size w w' := by
  have HR := hide hr; clear hr
  have HP := hide hp; clear hp
  go_enter Tryz.func100, Tryz.ntmps100
  go_wp2_with (go_at_call 120; refine (IndexFuncB_any _ _ _ _ _ _ _ HR.out hm eg HP.out).mono ?_; rintro e w' ⟨rfl, hb'⟩)
  go_ret
  exact ⟨ret_bool (idxF_any p xs), hb'⟩
theorem notLet_any (c : UInt8) (w : World) :
    Calls Tryz.prog 101 #[.int .u8 (c.toNat : Int)] w fun e w' => e = .returned (.bool (!letB c)) ∧ w = w' := by
  go_enter Tryz.func101, Tryz.ntmps101
  go_wp2
  all_goals go_ret
  all_goals refine ⟨ret_bool (bool_of_iff ?_), rfl⟩
  all_goals (simp [letB, *]; try omega)
theorem below_bytes (w : World) (e : TypeId) (s : ByteArray) : Below w.heap.size w (bytesWorld w e s) :=
  below_freeze ((Below.drew (Below.refl _ w)).alloc (Nat.le_refl _) _) (p := ⟨w.heap.size, _, none⟩) (Nat.le_refl _) 1
theorem row_bytes (w : World) (e : TypeId) (s : ByteArray) : Row 1 encB (bytesWorld w e s) (bytesWorld w e s).heap.size (some ⟨w.heap.size, 0, none⟩) s.data.toList := by
  refine .inr ⟨w.heap.size, 0, rfl, by rw [bytesWorld_size]; omega, fun i x hx j hj => ?_⟩
  obtain rfl : j = 0 := by omega
  obtain ⟨hi, rfl⟩ := List.getElem?_eq_some_iff.1 hx
  have hs : i < s.size := hi
  simp only [Nat.zero_add, Nat.mul_one, Nat.add_zero]
  rw [bytesWorld_cell w e s i hs, List.getD_eq_getElem?_getD, List.getElem?_eq_getElem hi]
  rfl
theorem isWord_any (s : ByteArray) (w : World) (hm : s.size ≤ 9223372036854775807) :
    Calls Tryz.prog 49 #[.string s] w fun e w' => e = .returned (.bool (wordB s)) ∧ Below w.heap.size w w' := by
  have hlen : s.data.toList.length = s.size := rfl
  by_cases h1 : 1 ≤ s.size ∧ s.size ≤ 10
  · obtain ⟨h1, h2⟩ := h1
    have h1' : (1 : Int) ≤ s.size := by omega
    have h2' : (s.size : Int) ≤ 10 := by omega
    have hcv := Go.Lib.run_convert_string_bytes (P := Tryz.prog) w 9 22 5 s Tryz.underlying9 Tryz.underlying22 Tryz.underlying5
    have hw : wordB s = !(s.data.toList.any fun c => !letB c) := by
      unfold wordB
      rw [show inB s.size 1 10 = true from inB_iff.2 ⟨h1', h2'⟩, Bool.and_true]
      rw [List.all_eq_not_any_not]
    have hp : PredB 101 #[] (fun c => !letB c) (bytesWorld w 5 s).heap.size (bytesWorld w 5 s) := fun W c hb => (notLet_any c W).mono fun e w' ⟨he, hw⟩ => ⟨he, hw ▸ hb⟩
    have hcall := ContainsFuncB_any 101 #[] (fun c => !letB c) (some ⟨w.heap.size, 0, none⟩) (grownCap w s.size 0 5) s.data.toList (bytesWorld w 5 s) (row_bytes w _ s) (by omega) (fun _ _ => by kernel_rfl) hp
    rw [hlen] at hcall
    have HC := hide hcall; have HW := hide hw; clear hcall hp hw hlen
    have B1 := below_bytes w 5 s
    generalize bytesWorld w 5 s = w1 at hcv HC B1
    generalize grownCap w s.size 0 5 = gc at hcv HC
    go_enter Tryz.func49, Tryz.ntmps49
    go_wp2_with fail
    refine HC.out.mono ?_; rintro e w2 ⟨rfl, hb1⟩
    go_wp2_with fail
    go_ret
    exact ⟨ret_bool (by first | exact HW.out.symm | (rw [HW.out]; simp)), bstep B1 hb1 B1.size⟩
  · have hw : wordB s = false := by
      unfold wordB
      rw [Bool.and_eq_false_iff]
      right
      exact inB_no.2 (by omega)
    have HW := hide hw; clear hw
    by_cases h2 : 1 ≤ s.size
    · have h1' : (1 : Int) ≤ s.size := by omega
      have h2' : ¬ (s.size : Int) ≤ 10 := by omega
      go_enter Tryz.func49, Tryz.ntmps49
      go_wp2_with fail
      go_ret
      exact ⟨ret_bool HW.out.symm, Below.refl _ _⟩
    · have h1' : ¬ (1 : Int) ≤ s.size := by omega
      go_enter Tryz.func49, Tryz.ntmps49
      go_wp2_with fail
      go_ret
      exact ⟨ret_bool HW.out.symm, Below.refl _ _⟩
end Go.Proofs.YtplemibckjnbhaaGreatDoor

/- Contracts of the small functions on readers, in impl and spec: days, ids, one reader, the place of an id. Condition: lengths below 2^63. -/
namespace Go.Proofs.YtplemibckjnbhaaGreatDoor
open Go.RowKit Go.Lib
set_option linter.unusedVariables false
theorem l2Day_any (n : Int) (w : World) : Calls Tryz.prog 98 #[.int .i64 n] w fun e w' => e = .returned (.bool (inB n 0 4000)) ∧ w = w' := by
  go_enter Tryz.func98, Tryz.ntmps98
  go_wp2_with (first | (go_at_call 75; refine (l1In_any _ _ _ _).mono ?_; rintro e w' ⟨rfl, rfl⟩))
  go_ret
  exact ⟨rfl, rfl⟩
theorem isDay_any (n : Int) (w : World) : Calls Tryz.prog 50 #[.int .i64 n] w fun e w' => e = .returned (.bool (inB n 0 4000)) ∧ w = w' := by
  go_enter Tryz.func50, Tryz.ntmps50
  go_wp2_with (first | (go_at_call 51; refine (within_any _ _ _ _).mono ?_; rintro e w' ⟨rfl, rfl⟩))
  go_ret
  exact ⟨rfl, rfl⟩
theorem isId_any (n : Int) (w : World) : Calls Tryz.prog 48 #[.int .i64 n] w fun e w' => e = .returned (.bool (inB n 1 999)) ∧ w = w' := by
  go_enter Tryz.func48, Tryz.ntmps48
  go_wp2_with (first | (go_at_call 51; refine (within_any _ _ _ _).mono ?_; rintro e w' ⟨rfl, rfl⟩))
  go_ret
  exact ⟨rfl, rfl⟩
theorem l3Cents_any (n : Int) (w : World) : Calls Tryz.prog 67 #[.int .i64 n] w fun e w' => e = .returned (.bool (inB n 1 10000)) ∧ w = w' := by
  go_enter Tryz.func67, Tryz.ntmps67
  go_wp2_with (first | (go_at_call 75; refine (l1In_any _ _ _ _).mono ?_; rintro e w' ⟨rfl, rfl⟩))
  go_ret
  exact ⟨rfl, rfl⟩
/-- whether one reader is valid -/
def SReader.okB (c : SReader) : Bool := decide (1 ≤ c.ident ∧ c.ident ≤ 999 ∧ wordB c.name = true ∧ 0 ≤ c.joined ∧ c.joined ≤ 4000 ∧ 1 ≤ c.cls ∧ c.cls ≤ 3 ∧ 0 ≤ c.fines ∧ c.fines ≤ 10000)
theorem SReader.okB_iff {a0 : Int} {a1 : ByteArray} {a2 a3 a4 : Int} : SReader.okB ⟨a0, a1, a2, a3, a4⟩ = true ↔ (1 ≤ a0 ∧ a0 ≤ 999 ∧ wordB a1 = true ∧ 0 ≤ a2 ∧ a2 ≤ 4000 ∧ 1 ≤ a3 ∧ a3 ≤ 3 ∧ 0 ≤ a4 ∧ a4 ≤ 10000) := decide_eq_true_iff
theorem l3One_any (a0 : Int) (a1 : ByteArray) (a2 a3 a4 : Int) (w : World) (hm : a1.size ≤ 9223372036854775807) :
    Calls Tryz.prog 46 #[.agg #[.int .i64 a0, .string a1, .int .i64 a2, .int .i64 a3, .int .i64 a4]] w fun e w' => e = .returned (.bool (SReader.okB ⟨a0, a1, a2, a3, a4⟩)) ∧ Below w.heap.size w w' := by
  have hcw := fun W => l2Word_any a1 W hm
  have hiff := @SReader.okB_iff a0 a1 a2 a3 a4
  generalize wordB a1 = wd at hcw hiff
  have HC := hide hcw; have HI := hide hiff; clear hcw hiff
  have B1 := below_alloc w (.cells #[.int .i64 a0, .string a1, .int .i64 a2, .int .i64 a3, .int .i64 a4] 25)
  have HB1 := hide B1; clear B1
  cases wd
  all_goals
    go_enter Tryz.func46, Tryz.ntmps46
    go_wp2_with (first | (go_at_call 75; refine (l1In_any _ _ _ _).mono ?_; rintro e w' ⟨rfl, rfl⟩) | (go_at_call 98; refine (l2Day_any _ _).mono ?_; rintro e w' ⟨rfl, rfl⟩) | (go_at_call 97; refine (HC.out _).mono ?_; rintro e w' ⟨rfl, rfl⟩))
    all_goals go_ret
    all_goals refine ⟨ret_bool (bool_of_iff ?_), HB1.out⟩
    all_goals (rw [HI.out]; simp [inB_iff, inB_no] at *; try omega)
theorem IsReader_any (a0 : Int) (a1 : ByteArray) (a2 a3 a4 : Int) (w : World) (hm : a1.size ≤ 9223372036854775807) :
    Calls Tryz.prog 9 #[.agg #[.int .i64 a0, .string a1, .int .i64 a2, .int .i64 a3, .int .i64 a4]] w fun e w' => e = .returned (.bool (SReader.okB ⟨a0, a1, a2, a3, a4⟩)) ∧ Below w.heap.size w w' := by
  have hcw := fun W => isWord_any a1 W hm
  have hiff := @SReader.okB_iff a0 a1 a2 a3 a4
  generalize wordB a1 = wd at hcw hiff
  have HC := hide hcw; have HI := hide hiff; clear hcw hiff
  have B1 := below_alloc w (.cells #[.int .i64 a0, .string a1, .int .i64 a2, .int .i64 a3, .int .i64 a4] 25)
  have hce : ∀ W, Below (w.heap.size + 1) (w.alloc (.cells #[.int .i64 a0, .string a1, .int .i64 a2, .int .i64 a3, .int .i64 a4] 25)) W → W.cell? ⟨w.heap.size, 0, none⟩ = some (.int .i64 a0) ∧ W.cell? ⟨w.heap.size, 2, none⟩ = some (.int .i64 a2) ∧ W.cell? ⟨w.heap.size, 3, none⟩ = some (.int .i64 a3) ∧ W.cell? ⟨w.heap.size, 4, none⟩ = some (.int .i64 a4) := by
    intro W hb
    have hc := fun o => hb.cell (p := ⟨w.heap.size, o, none⟩) (by simp)
    refine ⟨?_, ?_, ?_, ?_⟩ <;> rw [hc, (Blk.new w _ _).cell] <;> rfl
  have HCE := hide hce; clear hce
  have HB1 := hide B1; clear B1
  cases wd
  all_goals
    go_enter Tryz.func9, Tryz.ntmps9
    go_wp2_with (first | (go_at_call 50; refine (isDay_any _ _).mono ?_; rintro e w' ⟨rfl, rfl⟩) | (go_at_call 48; refine (isId_any _ _).mono ?_; rintro e w' ⟨rfl, rfl⟩) | (go_at_call 51; refine (within_any _ _ _ _).mono ?_; rintro e w' ⟨rfl, rfl⟩) | (go_at_call 49; refine (HC.out _).mono ?_; rintro e w2 ⟨rfl, hb2⟩; have hb4 := hb2.mono (show w.heap.size + 1 ≤ _ by simp); obtain ⟨c0, c1, c2, c3⟩ := HCE.out _ hb4; have hb3 := HB1.out.trans (hb4.mono (Nat.le_succ _)); have HB3 := hide hb3; clear hb2 hb3 hb4))
    all_goals go_ret
    all_goals (first | refine ⟨ret_bool (bool_of_iff ?_), HB3.out⟩ | refine ⟨ret_bool (bool_of_iff ?_), HB1.out⟩)
    all_goals (rw [HI.out]; simp [inB_iff, inB_no] at *; try omega)
/-- the place of an id -/
def findR (xs : List SReader) (id : Int) : Int := idxF (fun c => c.ident == id) xs
theorem readerAt1_any (a0 : Int) (a1 : ByteArray) (a2 a3 a4 id : Int) (b : Nat) (w : World) (hc : w.cell? ⟨b, 0, none⟩ = some (.int .i64 id)) :
    Calls Tryz.prog 106 #[.agg #[.int .i64 a0, .string a1, .int .i64 a2, .int .i64 a3, .int .i64 a4], .pointer (some ⟨b, 0, none⟩)] w fun e w' => e = .returned (.bool (a0 == id)) ∧ Below w.heap.size w w' := by
  have hbl := World.block_lt_of_cell? w _ hc
  have hc2 : (w.alloc (.cells #[.int .i64 a0, .string a1, .int .i64 a2, .int .i64 a3, .int .i64 a4] 25)).cell? ⟨b, 0, none⟩ = some (.int .i64 id) := ((bcell (below_alloc w _)).1 b 0 hbl).trans hc
  go_enter Tryz.func106, Tryz.ntmps106
  go_wp2_with fail
  go_ret
  exact ⟨rfl, below_alloc _ _⟩
theorem readerAt_any (v : Value) (xs : List SReader) (id : Int) (w : World) (h : Is 5 SReader.enc w v xs) :
    Calls Tryz.prog 62 #[v, .int .i64 id] w fun e w' => e = .returned (.int .i64 (findR xs id)) ∧ Below w.heap.size w w' := by
  have hm := h.len
  obtain ⟨A, cap, rfl, hr, _, _⟩ := h
  have B1 := below_alloc w (.cells #[.int .i64 id] 3)
  have hr1 := hr.below B1 (Nat.le_refl _) B1.size
  have hcell : (w.alloc (.cells #[.int .i64 id] 3)).cell? ⟨w.heap.size, 0, none⟩ = some (.int .i64 id) := by rw [(Blk.new w _ _).cell]; rfl
  have hp : SReader.Pred 106 #[.pointer (some ⟨w.heap.size, 0, none⟩)] (fun c => c.ident == id) (w.alloc (.cells #[.int .i64 id] 3)).heap.size (w.alloc (.cells #[.int .i64 id] 3)) := fun W c hb =>
    (readerAt1_any _ _ _ _ _ id w.heap.size W (((bcell hb).1 _ _ (by simp)).trans hcell)).mono fun e w' ⟨he, hw⟩ => ⟨he, hb.trans (hw.mono hb.size)⟩
  have HR := hide hr1; have HP := hide hp; clear hr hr1 hp hcell
  go_enter Tryz.func62, Tryz.ntmps62
  go_wp2_with (go_at_call 105; refine (IndexFuncReader_any _ _ _ _ _ _ _ HR.out hm (fun _ _ => by kernel_rfl) HP.out).mono ?_; rintro e w' ⟨rfl, hb'⟩)
  go_ret
  exact ⟨rfl, bstep B1 hb' B1.size⟩
end Go.Proofs.YtplemibckjnbhaaGreatDoor

/- Contracts of the test of a list of readers, in impl and spec: the Lean function goodR. Condition: the strings' lengths fit. (Printed by mkgood3.py.) -/
namespace Go.Proofs.YtplemibckjnbhaaGreatDoor
open Go.RowKit
set_option linter.unusedVariables false
def SReader.at (xs : List SReader) (i : Nat) : SReader := xs.getD i SReader.zero
theorem SReader.at_lt {xs : List SReader} {i : Nat} (h : i < xs.length) : SReader.at xs i = xs[i] := by simp [SReader.at, List.getD_eq_getElem?_getD, h]
def okR (xs : List SReader) (i : Nat) : Bool := (SReader.at xs i).okB && (decide (i = 0) || decide ((SReader.at xs (i - 1)).ident < (SReader.at xs i).ident))
def goodR (xs : List SReader) : Bool := (List.range xs.length).all (okR xs) && decide (xs.length ≤ 10)
theorem goodR_no {xs : List SReader} {i : Nat} (hi : i < xs.length) (h : okR xs i = false) : goodR xs = false := by
  unfold goodR
  rw [Bool.and_eq_false_iff]; left
  rw [List.all_eq_false]
  exact ⟨i, List.mem_range.2 hi, by rw [h]; simp⟩
set_option maxHeartbeats 2000000 in
theorem l3Good_is (v : Value) (xs : List SReader) (w : World) (h : Is 5 SReader.enc w v xs) (hw : ∀ z ∈ xs, z.wf) :
    Calls Tryz.prog 74 #[v] w fun e w' => e = .returned (.bool (goodR xs)) ∧ Below w.heap.size w w' := by
  have hm := h.len
  have HW := hide hw; clear hw
  obtain ⟨A, cap, rfl, hr, _, _⟩ := h
  generalize hB : w.heap.size = B at hr ⊢
  have HB := hide hB; clear hB
  have HR := hide hr; clear hr
  go_enter Tryz.func74, Tryz.ntmps74
  go_wp2_with fail
  go_loopw [3] (fun i wr => ∃ (k : Nat), k ≤ xs.length ∧ i = .int .i64 k ∧ (List.range k).all (okR xs) = true ∧ Below B w wr) (fun i _ => xs.length - (intOf i).toNat)
  case atStart => exact ⟨0, Nat.zero_le _, rfl, rfl, Below.refl _ _⟩
  case round =>
    obtain ⟨i, hi, rfl, hall, hbel⟩ := hrel
    have HALL := hide hall; clear hall
    have hsz : B ≤ wr.heap.size := by have := hbel.size; rw [HB.out] at this; exact this
    by_cases hlt : i < xs.length
    · have hlt' : (i : Int) < xs.length := by omega
      obtain ⟨b, off, rfl, hb, c0, c1, c2, c3, c4⟩ := SReader.cells HR.out hlt hbel
      have hbw : b < wr.heap.size := by omega
      have hwf : xs[i].name.size ≤ 9223372036854775807 := Nat.le_trans (HW.out xs[i] (List.getElem_mem hlt)).2.1 (by decide)
      have hat : SReader.at xs i = ⟨xs[i].ident, xs[i].name, xs[i].joined, xs[i].cls, xs[i].fines⟩ := SReader.at_lt hlt
      generalize xs[i].ident = y0 at *; generalize xs[i].name = y1 at *; generalize xs[i].joined = y2 at *; generalize xs[i].cls = y3 at *; generalize xs[i].fines = y4 at *
      have hone := fun W => l3One_any y0 y1 y2 y3 y4 W hwf
      have hne : okR xs i = (SReader.okB ⟨y0, y1, y2, y3, y4⟩ && (decide (i = 0) || decide ((SReader.at xs (i - 1)).ident < y0))) := by unfold okR; rw [hat]
      clear hat hwf
      have BX := hbel
      have hsx := hsz
      have m0 := fun n => later_cell c0 n; have m1 := fun n => later_cell c1 n; have m2 := fun n => later_cell c2 n; have m3 := fun n => later_cell c3 n; have m4 := fun n => later_cell c4 n
      cases hok : SReader.okB ⟨y0, y1, y2, y3, y4⟩ with
      | false =>
        rw [hok] at hone hne
        have HN := hide (goodR_no hlt hne); have HC := hide hone
        clear hone hne hok
        go_wp2_with fail
        (refine wp_region_later (by kernel_rfl) (by kernel_rfl) ?_; (repeat (go_big_quiet_step ((go_at_call 46; exact later_call (HC.out _))))); refine wpQuiet_nil ?_; intro _ hw'; obtain ⟨nq, hw''⟩ := hw'; subst hw'')
        have B3 := bstep BX nq.h hsx
        go_wp2_with fail
        go_ret
        exact ⟨ret_bool HN.out.symm, B3⟩
      | true =>
        rw [hok, Bool.true_and] at hne
        rw [hok] at hone
        have HC := hide hone; clear hone hok
        have hcont : okR xs i = true → (List.range (i + 1)).all (okR xs) = true := fun h => by rw [List.range_succ, List.all_append, HALL.out]; simp [h]
        have HCONT := hide hcont; clear hcont
        rcases Nat.eq_zero_or_pos i with hz | hpos
        · have hz1 : ¬ (0 : Int) < (i : Int) := by omega
          have hz3 : ¬ 0 < i := by omega
          have hz4 : decide (0 < i) = false := decide_eq_false hz3
          have hz5 : (i == 0) = true := by simpa using hz
          clear hz1
          have HNE := hide (show okR xs i = true from hne.trans (by rw [decide_eq_true hz]; rfl)); clear hne hz
          go_wp2_with fail
          (refine wp_region_later (by kernel_rfl) (by kernel_rfl) ?_; (repeat (go_big_quiet_step ((go_at_call 46; exact later_call (HC.out _))))); refine wpQuiet_nil ?_; intro _ hw'; obtain ⟨nq, hw''⟩ := hw'; subst hw'')
          have B3 := bstep BX nq.h hsx
          generalize nq.W = W5 at B3
          go_wp2_with fail
          go_round
          case measure => (first | (simp [intOf]; done) | (simp [intOf] <;> omega))
          case rel => exact ⟨i + 1, by omega, by go_num, HCONT.out HNE.out, B3⟩
        · obtain ⟨q, rfl⟩ : ∃ q, i = q + 1 := ⟨i - 1, by omega⟩
          obtain ⟨b', off', hA, hb', p0, _, _, _, _⟩ := SReader.cells HR.out (i := q) (by omega) hbel
          injection hA with hA; injection hA with hA1 hA2; subst hA1 hA2
          rw [show q + 1 - 1 = q by omega, SReader.at_lt (show q < xs.length by omega)] at hne
          generalize xs[q].ident = pid at p0 hne
          have p1 : wr.cell? ⟨b, off + q * 5, none⟩ = some (.int .i64 pid) := p0
          have n1 := fun n => later_cell p1 n
          by_cases hp : pid < y0
          · have hp' : ¬ y0 ≤ pid := by omega
            have HNE := hide (show okR xs (q + 1) = true from hne.trans (by rw [decide_eq_true hp, Bool.or_true])); clear hne
            go_wp2_with fail
            (refine wp_region_later (by kernel_rfl) (by kernel_rfl) ?_; (repeat (go_big_quiet_step ((go_at_call 46; exact later_call (HC.out _))))); refine wpQuiet_nil ?_; intro _ hw'; obtain ⟨nq, hw''⟩ := hw'; subst hw'')
            have B3 := bstep BX nq.h hsx
            generalize nq.W = W5 at B3
            go_wp2_with fail
            go_round
            case measure => (first | (simp [intOf]; done) | (simp [intOf] <;> omega))
            case rel => exact ⟨q + 1 + 1, by omega, by go_num, HCONT.out HNE.out, B3⟩
          · have hge : y0 ≤ pid := by omega
            have hne2 : okR xs (q + 1) = false := by rw [hne, decide_eq_false hp, decide_eq_false (show ¬ q + 1 = 0 by omega)]; rfl
            have HN := hide (goodR_no hlt hne2)
            clear hne hne2
            go_wp2_with fail
            (refine wp_region_later (by kernel_rfl) (by kernel_rfl) ?_; (repeat (go_big_quiet_step ((go_at_call 46; exact later_call (HC.out _))))); refine wpQuiet_nil ?_; intro _ hw'; obtain ⟨nq, hw''⟩ := hw'; subst hw'')
            have B3 := bstep BX nq.h hsx
            go_wp2_with fail
            go_ret
            exact ⟨ret_bool HN.out.symm, B3⟩
    · have hk : i = xs.length := by omega
      have hall := HALL.out
      rw [hk] at hall
      have HA := hide hall; clear hall hk
      go_wp2_with fail
      go_ret
      exact ⟨ret_bool (by unfold goodR; rw [HA.out, Bool.true_and]; simp; omega), hbel⟩
set_option maxHeartbeats 2000000 in
theorem AreReaders_is (v : Value) (xs : List SReader) (w : World) (h : Is 5 SReader.enc w v xs) (hw : ∀ z ∈ xs, z.wf) :
    Calls Tryz.prog 63 #[v] w fun e w' => e = .returned (.bool (goodR xs)) ∧ Below w.heap.size w w' := by
  have hm := h.len
  have HW := hide hw; clear hw
  obtain ⟨A, cap, rfl, hr, _, _⟩ := h
  generalize hB : w.heap.size = B at hr ⊢
  have HB := hide hB; clear hB
  have HR := hide hr; clear hr
  go_enter Tryz.func63, Tryz.ntmps63
  go_wp2_with fail
  go_loopw [7] (fun i wr => ∃ (k : Nat), k ≤ xs.length ∧ i = .int .i64 k ∧ (List.range k).all (okR xs) = true ∧ Below B w wr) (fun i _ => xs.length - (intOf i).toNat)
  case atStart => exact ⟨0, Nat.zero_le _, rfl, rfl, Below.refl _ _⟩
  case round =>
    obtain ⟨i, hi, rfl, hall, hbel⟩ := hrel
    have HALL := hide hall; clear hall
    have hsz : B ≤ wr.heap.size := by have := hbel.size; rw [HB.out] at this; exact this
    by_cases hlt : i < xs.length
    · have hlt' : (i : Int) < xs.length := by omega
      obtain ⟨b, off, rfl, hb, c0, c1, c2, c3, c4⟩ := SReader.cells HR.out hlt hbel
      have hbw : b < wr.heap.size := by omega
      have hwf : xs[i].name.size ≤ 9223372036854775807 := Nat.le_trans (HW.out xs[i] (List.getElem_mem hlt)).2.1 (by decide)
      have hat : SReader.at xs i = ⟨xs[i].ident, xs[i].name, xs[i].joined, xs[i].cls, xs[i].fines⟩ := SReader.at_lt hlt
      generalize xs[i].ident = y0 at *; generalize xs[i].name = y1 at *; generalize xs[i].joined = y2 at *; generalize xs[i].cls = y3 at *; generalize xs[i].fines = y4 at *
      have hone := fun W => IsReader_any y0 y1 y2 y3 y4 W hwf
      have hne : okR xs i = (SReader.okB ⟨y0, y1, y2, y3, y4⟩ && (decide (i = 0) || decide ((SReader.at xs (i - 1)).ident < y0))) := by unfold okR; rw [hat]
      clear hat hwf
      have BX := hbel.alloc hsz (.cells #[.int .i64 y0, .string y1, .int .i64 y2, .int .i64 y3, .int .i64 y4] 25)
      have hsx : B ≤ (wr.alloc (.cells #[.int .i64 y0, .string y1, .int .i64 y2, .int .i64 y3, .int .i64 y4] 25)).heap.size := Nat.le_trans hsz (by simp)
      have hbx : ∀ W, Below (wr.alloc (.cells #[.int .i64 y0, .string y1, .int .i64 y2, .int .i64 y3, .int .i64 y4] 25)).heap.size (wr.alloc (.cells #[.int .i64 y0, .string y1, .int .i64 y2, .int .i64 y3, .int .i64 y4] 25)) W → W.cell? ⟨wr.heap.size, 0, none⟩ = some (.int .i64 y0) ∧ W.cell? ⟨wr.heap.size, 1, none⟩ = some (.string y1) ∧ W.cell? ⟨wr.heap.size, 2, none⟩ = some (.int .i64 y2) ∧ W.cell? ⟨wr.heap.size, 3, none⟩ = some (.int .i64 y3) ∧ W.cell? ⟨wr.heap.size, 4, none⟩ = some (.int .i64 y4) := by
        intro W hb
        have hc := fun o => (bcell hb).1 wr.heap.size o (by simp)
        refine ⟨?_, ?_, ?_, ?_, ?_⟩ <;> rw [hc, (Blk.new wr _ _).cell] <;> rfl
      have HBX := hide hbx; clear hbx
      have m0 := fun n : Later (wr.alloc (.cells #[.int .i64 y0, .string y1, .int .i64 y2, .int .i64 y3, .int .i64 y4] 25)) => (HBX.out n.W n.h).1
      have m1 := fun n : Later (wr.alloc (.cells #[.int .i64 y0, .string y1, .int .i64 y2, .int .i64 y3, .int .i64 y4] 25)) => (HBX.out n.W n.h).2.1
      have m2 := fun n : Later (wr.alloc (.cells #[.int .i64 y0, .string y1, .int .i64 y2, .int .i64 y3, .int .i64 y4] 25)) => (HBX.out n.W n.h).2.2.1
      have m3 := fun n : Later (wr.alloc (.cells #[.int .i64 y0, .string y1, .int .i64 y2, .int .i64 y3, .int .i64 y4] 25)) => (HBX.out n.W n.h).2.2.2.1
      have m4 := fun n : Later (wr.alloc (.cells #[.int .i64 y0, .string y1, .int .i64 y2, .int .i64 y3, .int .i64 y4] 25)) => (HBX.out n.W n.h).2.2.2.2
      cases hok : SReader.okB ⟨y0, y1, y2, y3, y4⟩ with
      | false =>
        rw [hok] at hone hne
        have HN := hide (goodR_no hlt hne); have HC := hide hone
        clear hone hne hok
        go_wp2_with fail
        (refine wp_region_later (by kernel_rfl) (by kernel_rfl) ?_; (repeat (go_big_quiet_step ((go_at_call 9; exact later_call (HC.out _))))); refine wpQuiet_nil ?_; intro _ hw'; obtain ⟨nq, hw''⟩ := hw'; subst hw'')
        have B3 := bstep BX nq.h hsx
        go_wp2_with fail
        go_ret
        exact ⟨ret_bool HN.out.symm, B3⟩
      | true =>
        rw [hok, Bool.true_and] at hne
        rw [hok] at hone
        have HC := hide hone; clear hone hok
        have hcont : okR xs i = true → (List.range (i + 1)).all (okR xs) = true := fun h => by rw [List.range_succ, List.all_append, HALL.out]; simp [h]
        have HCONT := hide hcont; clear hcont
        rcases Nat.eq_zero_or_pos i with hz | hpos
        · have hz1 : ¬ (0 : Int) < (i : Int) := by omega
          have hz3 : ¬ 0 < i := by omega
          have hz4 : decide (0 < i) = false := decide_eq_false hz3
          have hz5 : (i == 0) = true := by simpa using hz
          clear hz1
          have HNE := hide (show okR xs i = true from hne.trans (by rw [decide_eq_true hz]; rfl)); clear hne hz
          go_wp2_with fail
          (refine wp_region_later (by kernel_rfl) (by kernel_rfl) ?_; (repeat (go_big_quiet_step ((go_at_call 9; exact later_call (HC.out _))))); refine wpQuiet_nil ?_; intro _ hw'; obtain ⟨nq, hw''⟩ := hw'; subst hw'')
          have B3 := bstep BX nq.h hsx
          generalize nq.W = W5 at B3
          go_wp2_with fail
          go_round
          case measure => (first | (simp [intOf]; done) | (simp [intOf] <;> omega))
          case rel => exact ⟨i + 1, by omega, by go_num, HCONT.out HNE.out, B3⟩
        · obtain ⟨q, rfl⟩ : ∃ q, i = q + 1 := ⟨i - 1, by omega⟩
          obtain ⟨b', off', hA, hb', p0, _, _, _, _⟩ := SReader.cells HR.out (i := q) (by omega) hbel
          injection hA with hA; injection hA with hA1 hA2; subst hA1 hA2
          rw [show q + 1 - 1 = q by omega, SReader.at_lt (show q < xs.length by omega)] at hne
          generalize xs[q].ident = pid at p0 hne
          have p1 : (wr.alloc (.cells #[.int .i64 y0, .string y1, .int .i64 y2, .int .i64 y3, .int .i64 y4] 25)).cell? ⟨b, off + q * 5, none⟩ = some (.int .i64 pid) := ((bcell (below_alloc wr _)).1 _ _ hbw).trans p0
          have n1 := fun n => later_cell p1 n
          by_cases hp : pid < y0
          · have hp' : ¬ y0 ≤ pid := by omega
            have HNE := hide (show okR xs (q + 1) = true from hne.trans (by rw [decide_eq_true hp, Bool.or_true])); clear hne
            go_wp2_with fail
            (refine wp_region_later (by kernel_rfl) (by kernel_rfl) ?_; (repeat (go_big_quiet_step ((go_at_call 9; exact later_call (HC.out _))))); refine wpQuiet_nil ?_; intro _ hw'; obtain ⟨nq, hw''⟩ := hw'; subst hw'')
            have B3 := bstep BX nq.h hsx
            generalize nq.W = W5 at B3
            go_wp2_with fail
            go_round
            case measure => (first | (simp [intOf]; done) | (simp [intOf] <;> omega))
            case rel => exact ⟨q + 1 + 1, by omega, by go_num, HCONT.out HNE.out, B3⟩
          · have hge : y0 ≤ pid := by omega
            have hne2 : okR xs (q + 1) = false := by rw [hne, decide_eq_false hp, decide_eq_false (show ¬ q + 1 = 0 by omega)]; rfl
            have HN := hide (goodR_no hlt hne2)
            clear hne hne2
            go_wp2_with fail
            (refine wp_region_later (by kernel_rfl) (by kernel_rfl) ?_; (repeat (go_big_quiet_step ((go_at_call 9; exact later_call (HC.out _))))); refine wpQuiet_nil ?_; intro _ hw'; obtain ⟨nq, hw''⟩ := hw'; subst hw'')
            have B3 := bstep BX nq.h hsx
            go_wp2_with fail
            go_ret
            exact ⟨ret_bool HN.out.symm, B3⟩
    · have hk : i = xs.length := by omega
      have hall := HALL.out
      rw [hk] at hall
      have HA := hide hall; clear hall hk
      go_wp2_with fail
      go_ret
      exact ⟨ret_bool (by unfold goodR; rw [HA.out, Bool.true_and]; simp; omega), hbel⟩
end Go.Proofs.YtplemibckjnbhaaGreatDoor

/- Contracts of the search of a reader in spec, and of the tests of ripeness in both. Condition: the strings' lengths fit; small numbers. -/
namespace Go.Proofs.YtplemibckjnbhaaGreatDoor
open Go.RowKit
set_option linter.unusedVariables false
def findGR (xs : List SReader) (id : Int) : Int := if goodR xs then findR xs id else -1
set_option maxHeartbeats 1000000 in
theorem l3Find_is (v : Value) (xs : List SReader) (id : Int) (w : World) (h : Is 5 SReader.enc w v xs) (hw : ∀ z ∈ xs, z.wf) :
    Calls Tryz.prog 66 #[v, .int .i64 id] w fun e w' => e = .returned (.int .i64 (findGR xs id)) ∧ Below w.heap.size w w' := by
  have hm := h.len
  have hgd := fun W hi => l3Good_is v xs W hi hw
  have HI := hide h
  obtain ⟨A, cap, rfl, hr, _, _⟩ := h
  generalize hB : w.heap.size = B at hr ⊢
  have HB := hide hB
  have HR := hide hr; clear hr
  have hfg : findGR xs id = if goodR xs then findR xs id else -1 := rfl
  generalize goodR xs = gd at hgd hfg
  have HGD := hide hgd; have HFG := hide hfg; clear hgd hfg
  go_enter Tryz.func66, Tryz.ntmps66
  go_wp2_with fail
  go_loopw [5] (fun i wr => ∃ (k : Nat), k ≤ xs.length ∧ i = .int .i64 k ∧ (∀ c ∈ xs.take k, (c.ident == id) = false) ∧ (gd = false → k = 0) ∧ Below B w wr) (fun i _ => xs.length - (intOf i).toNat)
  case atStart => exact ⟨0, Nat.zero_le _, rfl, by simp, fun _ => rfl, Below.refl _ _⟩
  case round =>
    obtain ⟨i, hi, rfl, hno, hk0, hbel⟩ := hrel
    have HN := hide hno; have HK0 := hide hk0; clear hno hk0
    have hsz : B ≤ wr.heap.size := by have := hbel.size; rw [HB.out] at this; exact this
    by_cases hlt : i < xs.length
    · have hlt' : (i : Int) < xs.length := by omega
      have HC := hide (HGD.out wr (HI.out.below hbel (by rw [HB.out]; exact Nat.le_refl _)))
      cases gd with
      | false =>
        have HV := hide HFG.out
        go_wp2_with fail
        refine HC.out.mono ?_; rintro e w1 ⟨rfl, hb1⟩
        have HB1 := hide (bstep hbel hb1 hsz)
        clear hb1
        go_wp2_with fail
        go_ret
        exact ⟨ret_int (by rw [HV.out]; rfl), HB1.out⟩
      | true =>
        have HV := hide HFG.out
        go_wp2_with fail
        refine HC.out.mono ?_; rintro e w1 ⟨rfl, hb1⟩
        have hbel1 := bstep hbel hb1 hsz
        obtain ⟨b, off, rfl, hb, c0, _, _, _, _⟩ := SReader.cells HR.out hlt hbel1
        generalize hy : xs[i].ident = y at c0
        have HY := hide hy; clear hy
        have HB1 := hide hbel1; clear hb1 hbel1
        cases hq : (y == id) with
        | true =>
          have HQ := hide hq
          go_wp2_with fail
          go_ret
          refine ⟨ret_int ?_, HB1.out⟩
          rw [HV.out]
          exact (idxF_hit hlt (by rw [HY.out]; exact HQ.out) HN.out).symm
        | false =>
          have HQ := hide hq
          go_wp2_with fail
          go_round
          case measure => simp [intOf]; omega
          case rel =>
            refine ⟨i + 1, by omega, by go_num, ?_, (fun h => by cases h), HB1.out⟩
            rw [take_snoc' hlt]
            intro c hc
            rcases List.mem_append.1 hc with h | h
            · exact HN.out c h
            · rw [List.mem_singleton.1 h, HY.out]; exact HQ.out
    · have hk : i = xs.length := by omega
      have HK := hide hk; clear hk
      go_wp2_with fail
      go_ret
      refine ⟨ret_int ?_, hbel⟩
      have := HN.out; rw [HK.out, List.take_length] at this
      have hf : findR xs id = -1 := idxF_miss this
      rw [HFG.out, hf]; cases gd <;> rfl
end Go.Proofs.YtplemibckjnbhaaGreatDoor
