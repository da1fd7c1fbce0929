/- Contracts of the small functions on texts: numerals within bounds (FormatInt), checksums (l1Sum, checksum, l1Seal), whether a byte stands in a text, the code's bytes. Condition: the table of powers of ten is laid, for impl's. -/
import Derived.Test.YtplemibckjnbhaaDoorLsA
import Derived.Test.YtplemibckjnbhaaDoorLsT
import Derived.Test.YtplemibckjnbhaaDoorL1
import Derived.Test.YtplemibckjnbhaaDoorStInt
import Derived.Lib.ConvBytes
namespace Go.Proofs.YtplemibckjnbhaaDoor
open Go.RowKit Go.Lib
set_option linter.unusedVariables false
/-- the numeral of a number within bounds -/
def fmtV (n : Int) : ByteArray × Bool := if inB n (-999999) 999999 then (numS n, true) else (⟨#[]⟩, false)
theorem FormatIntI_is (n : Int) (w : World) (ht : Tab w) :
    Calls Tryd.prog 38 #[.int .i64 n] w fun e w' => e = .returned (.tuple #[.string (fmtV n).1, .bool (fmtV n).2]) ∧ Below w.heap.size w w' := by
  have HT := hide ht; clear ht
  unfold fmtV
  cases hq : inB n (-999999) 999999 with
  | false =>
    have HQ := hide hq; clear hq
    go_enter Tryd.func38, Tryd.ntmps38
    go_wp2_with (go_at_call 61; refine (within_any _ _ _ _).mono ?_; rintro e w' ⟨rfl, rfl⟩; rw [HQ.out])
    go_ret2
    exact ⟨rfl, Below.refl _ _⟩
  | true =>
    have hb := inB_iff.1 hq
    have HQ := hide hq; have HBD := hide hb; clear hq hb
    go_enter Tryd.func38, Tryd.ntmps38
    go_wp2_with (first | (go_at_call 61; refine (within_any _ _ _ _).mono ?_; rintro e w' ⟨rfl, rfl⟩; rw [HQ.out]) | (go_at_call 83; refine (text_is _ _ (by have := HBD.out; omega) (by have := HBD.out; omega) HT.out).mono ?_; rintro e w' ⟨rfl, hb⟩))
    go_ret2
    exact ⟨rfl, hb⟩
theorem FormatIntS_is (n : Int) (w : World) :
    Calls Tryd.prog 39 #[.int .i64 n] w fun e w' => e = .returned (.tuple #[.string (fmtV n).1, .bool (fmtV n).2]) ∧ Below w.heap.size w w' := by
  unfold fmtV
  cases hq : inB n (-999999) 999999 with
  | false =>
    have HQ := hide hq; clear hq
    go_enter Tryd.func39, Tryd.ntmps39
    go_wp2_with (go_at_call 84; refine (l1In_any _ _ _ _).mono ?_; rintro e w' ⟨rfl, rfl⟩; rw [HQ.out])
    go_ret2
    exact ⟨rfl, Below.refl _ _⟩
  | true =>
    have hb := inB_iff.1 hq
    have HQ := hide hq; have HBD := hide hb; clear hq hb
    go_enter Tryd.func39, Tryd.ntmps39
    go_wp2_with (first | (go_at_call 84; refine (l1In_any _ _ _ _).mono ?_; rintro e w' ⟨rfl, rfl⟩; rw [HQ.out]) | (go_at_call 86; refine (num_is _ _ (by have := HBD.out; omega) (by have := HBD.out; omega)).mono ?_; rintro e w' ⟨rfl, hb⟩))
    go_ret2
    exact ⟨rfl, hb⟩
/-! ### checksums -/
def sumTo (s : ByteArray) (k : Nat) : Nat := sumB (s.data.toList.take k)
theorem sumTo_lt (s : ByteArray) (k : Nat) : sumTo s k < 999979 := sumB_lt _
theorem sumTo_succ (s : ByteArray) {k : Nat} (h : k < s.size) : ((sumTo s (k + 1) : Nat) : Int) = (41 * (sumTo s k : Int) + (s[k].toNat : Int) + 1) % 999979 := by
  have hl : k < s.data.toList.length := h
  have : s.data.toList.take (k + 1) = s.data.toList.take k ++ [s[k]] := by rw [take_snoc' hl]; rfl
  unfold sumTo sumB
  rw [this, List.foldl_append]
  show ((sumStep _ _ : Nat) : Int) = _
  unfold sumStep
  omega
theorem sumTo_all (s : ByteArray) : sumTo s s.size = sumB s.data.toList := by
  unfold sumTo
  have : s.data.toList.length = s.size := rfl
  rw [← this, List.take_length]
theorem l1Sum_is (s : ByteArray) (w : World) (hm : s.size ≤ 9223372036854775807) :
    Calls Tryd.prog 112 #[.string s] w fun e w' => e = .returned (.int .i64 (sumB s.data.toList : Nat)) ∧ w = w' := by
  go_enter Tryd.func112, Tryd.ntmps112
  go_wp2_with fail
  go_loop [3, 4] (fun h i => ∃ (k : Nat), k ≤ s.size ∧ i = .int .i64 k ∧ h = .int .i64 (sumTo s k : Nat)) (fun _ i => s.size - (intOf i).toNat)
  case atStart => exact ⟨0, Nat.zero_le _, rfl, rfl⟩
  case round =>
    obtain ⟨k, hk, rfl, rfl⟩ := hrel
    by_cases hlt : k < s.size
    · have hs := sumTo_succ s hlt
      have hb := sumTo_lt s k
      have hc : s[k].toNat < 256 := UInt8.toNat_lt _
      have HS := hide hs; clear hs
      generalize sumTo s k = h0 at *
      go_wp2_with fail
      exact ⟨⟨k + 1, by omega, by go_num, by rw [HS.out]⟩, by simp [intOf]; omega⟩
    · have hke : k = s.size := by omega
      have HK := hide hke; clear hke
      go_wp2_with fail
      go_ret
      exact ⟨ret_int (by rw [HK.out, sumTo_all]), rfl⟩
theorem below_bytesS (w : World) (e : TypeId) (s : ByteArray) : Below w.heap.size w (bytesWorld w e s) :=
  below_freeze ((Below.drew (Below.refl _ w)).alloc (Nat.le_refl _) _) (p := ⟨w.heap.size, _, none⟩) (Nat.le_refl _) 1
theorem row_bytesS (w : World) (e : TypeId) (s : ByteArray) : Row 1 encB (bytesWorld w e s) (bytesWorld w e s).heap.size (some ⟨w.heap.size, 0, none⟩) s.data.toList := by
  refine .inr ⟨w.heap.size, 0, rfl, by rw [bytesWorld_size]; omega, fun i x hx j hj => ?_⟩
  obtain rfl : j = 0 := by omega
  obtain ⟨hi, rfl⟩ := List.getElem?_eq_some_iff.1 hx
  have hs : i < s.size := hi
  simp only [Nat.zero_add, Nat.mul_one, Nat.add_zero]
  rw [bytesWorld_cell w e s i hs, List.getD_eq_getElem?_getD, List.getElem?_eq_getElem hi]
  rfl
theorem checksum_is (s : ByteArray) (w : World) (hm : s.size ≤ 9223372036854775807) :
    Calls Tryd.prog 89 #[.string s] w fun e w' => e = .returned (.int .i64 (sumB s.data.toList : Nat)) ∧ Below w.heap.size w w' := by
  have hcv := Go.Lib.run_convert_string_bytes (P := Tryd.prog) w 9 22 5 s Tryd.underlying9 Tryd.underlying22 Tryd.underlying5
  have hr := row_bytesS w 5 s
  have B1 := below_bytesS w 5 s
  generalize bytesWorld w 5 s = w1 at hcv hr B1
  generalize grownCap w s.size 0 5 = gc at hcv
  have HR := hide hr; have HB1 := hide B1; clear hr B1
  go_enter Tryd.func89, Tryd.ntmps89
  go_wp2_with fail
  go_loop [3, 9] (fun h i => ∃ (k : Nat), k ≤ s.size ∧ i = .int .i64 k ∧ h = .int .i64 (sumTo s k : Nat)) (fun _ i => s.size - (intOf i).toNat)
  case atStart => exact ⟨0, Nat.zero_le _, rfl, rfl⟩
  case round =>
    obtain ⟨k, hk, rfl, rfl⟩ := hrel
    clear hcv
    by_cases hlt : k < s.size
    · have hs := sumTo_succ s hlt
      have hb := sumTo_lt s k
      have hc : s[k].toNat < 256 := UInt8.toNat_lt _
      obtain ⟨b9, off9, he9, _, c0⟩ := Bytes.cells HR.out (i := k) hlt (Below.refl _ _)
      have hg : s.data.toList[k]'hlt = s[k] := rfl
      rw [hg] at c0
      injection he9 with he9; injection he9 with e1 e2; subst e1 e2
      rw [Nat.zero_add] at c0
      have HS := hide hs; clear hs hg
      generalize sumTo s k = h0 at *
      go_wp2_with fail
      exact ⟨⟨k + 1, by omega, by go_num, by rw [HS.out]⟩, by simp [intOf]; omega⟩
    · have hke : k = s.size := by omega
      have HK := hide hke; clear hke
      go_wp2_with fail
      go_ret
      exact ⟨ret_int (by rw [HK.out, sumTo_all]), HB1.out⟩
/-- whether a byte stands in a text -/
def hasB (c : UInt8) (s : ByteArray) : Bool := decide (c ∈ s.data.toList)
theorem l1Stands_is (s : ByteArray) (c : UInt8) (w : World) (hm : s.size ≤ 9223372036854775807) :
    Calls Tryd.prog 55 #[.string s, .int .u8 (c.toNat : Int)] w fun e w' => e = .returned (.bool (hasB c s)) ∧ w = w' := by
  go_enter Tryd.func55, Tryd.ntmps55
  go_wp2_with fail
  go_loop [5] (fun i => ∃ (k : Nat), k ≤ s.size ∧ i = .int .i64 k ∧ c ∉ s.data.toList.take k) (fun i => s.size - (intOf i).toNat)
  case atStart => exact ⟨0, Nat.zero_le _, rfl, by simp⟩
  case round =>
    obtain ⟨k, hk, rfl, hno⟩ := hrel
    have HN := hide hno; clear hno
    by_cases hlt : k < s.size
    · have hl : k < s.data.toList.length := hlt
      have hg : s.data.toList[k] = s[k] := rfl
      have htk : s.data.toList.take (k + 1) = s.data.toList.take k ++ [s[k]] := by rw [take_snoc' hl]; rfl
      have hmem : s[k] ∈ s.data.toList := hg ▸ List.getElem_mem hl
      have HT := hide htk; have HM := hide hmem; clear htk hmem hg
      by_cases he : s[k] = c
      · have he2 : (s[k].toNat : Int) = c.toNat := by rw [he]
        have he3 : ((s[k].toNat : Int) == (c.toNat : Int)) = true := by simpa using he2
        rw [he] at HM
        clear he he2
        go_wp2_with fail
        go_ret
        exact ⟨ret_bool (decide_eq_true HM.out).symm, rfl⟩
      · have he2 : ¬ s[k].toNat = c.toNat := fun h => he (UInt8.toNat_inj.1 h)
        have he3 : ((s[k].toNat : Int) == (c.toNat : Int)) = false := by simp only [beq_eq_false_iff_ne, ne_eq]; omega
        have HE := hide he; clear he he2
        go_wp2_with fail
        refine ⟨⟨k + 1, by omega, by go_num, ?_⟩, by simp [intOf]; omega⟩
        rw [HT.out]
        intro h
        rcases List.mem_append.1 h with h | h
        · exact HN.out h
        · exact HE.out (List.mem_singleton.1 h).symm
    · have hke : k = s.data.toList.length := by have : s.data.toList.length = s.size := rfl; omega
      have HK := hide hke; clear hke
      go_wp2_with fail
      go_ret
      refine ⟨ret_bool (decide_eq_false ?_).symm, rfl⟩
      have := HN.out
      rw [HK.out, List.take_length] at this
      exact this
/-- a text and its checksum -/
def sealS (s : ByteArray) : ByteArray := s ++ ⟨#[35]⟩ ++ numS (sumB s.data.toList : Nat)
theorem sealS_eq (s : ByteArray) : (sealS s).data.toList = sealB s.data.toList := by
  unfold sealS sealB numS
  simp [ByteArray.data_append]
theorem sealS_size (s : ByteArray) : (sealS s).size = (sealB s.data.toList).length := by
  rw [← sealS_eq]; rfl
theorem l1Seal_is (s : ByteArray) (w : World) (hm : s.size ≤ 1000000) :
    Calls Tryd.prog 90 #[.string s] w fun e w' => e = .returned (.string (sealS s)) ∧ Below w.heap.size w w' := by
  unfold sealS
  have hlt := sumB_lt s.data.toList
  have hz := (numS_size (sumB s.data.toList : Nat) (by omega) (by omega)).2
  have hcs := fun w => l1Sum_is s w (by omega)
  have hcn := fun w => num_is (sumB s.data.toList : Nat) w (by omega) (by omega)
  generalize numS (sumB s.data.toList : Nat) = t at *
  generalize sumB s.data.toList = q at *
  have q1 : ¬ 9223372036854775807 < s.size + 1 := by omega
  have q2 : ¬ 9223372036854775807 < s.size + 1 + t.size := by omega
  have HS := hide hcs; have HN := hide hcn; clear hcs hcn
  go_enter Tryd.func90, Tryd.ntmps90
  go_wp2_with (first | (go_at_call 112; refine (HS.out _).mono ?_; rintro e w' ⟨rfl, rfl⟩) | (go_at_call 86; refine (HN.out _).mono ?_; rintro e w' ⟨rfl, hb⟩))
  go_ret
  exact ⟨rfl, hb⟩
end Go.Proofs.YtplemibckjnbhaaDoor
