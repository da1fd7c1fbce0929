/- The plain law of a reader's text: what ParseReader finds (parR), in impl's way and in spec's; it finds the reader of a text. No program. -/
import Derived.Test.YtplemibckjnbhaaGreatDoorL2W
import Derived.Test.YtplemibckjnbhaaGreatDoorL3T
namespace Go.Proofs.YtplemibckjnbhaaGreatDoor
open Go.RowKit Go.Lib
set_option linter.unusedVariables false
theorem wordB_no {c : UInt8} (hc : c.toNat < 97) {s : ByteArray} (h : wordB s = true) : c ∉ s.data.toList := by
  intro hm
  unfold wordB at h
  rw [Bool.and_eq_true, List.all_eq_true] at h
  have := h.1 c hm
  unfold letB at this
  have := of_decide_eq_true this
  omega
theorem rd_words {z : SReader} (hz : z.okB = true) : splitS 32 (rdT z) = [numS z.ident, z.name, ⟨#[99]⟩ ++ numS z.cls, ⟨#[115, 105, 110, 99, 101]⟩, numS z.joined] ++ (if 0 < z.fines then [⟨#[111, 119, 101, 115]⟩, numS z.fines] else []) := by
  have hw := (SReader.okB_iff (a0 := z.ident) (a1 := z.name) (a2 := z.joined) (a3 := z.cls) (a4 := z.fines)).1 hz
  have n0 := numS_no (c := 32) (by decide)
  have n1 := wordB_no (c := 32) (by decide) hw.2.2.1
  by_cases hf : 0 < z.fines
  · rw [rdT_some hf, if_pos hf]
    have h : rdT0 z ++ ⟨#[32, 111, 119, 101, 115, 32]⟩ ++ numS z.fines = numS z.ident ++ ⟨#[32]⟩ ++ (z.name ++ ⟨#[32]⟩ ++ ((⟨#[99]⟩ ++ numS z.cls) ++ ⟨#[32]⟩ ++ ((⟨#[115, 105, 110, 99, 101]⟩ : ByteArray) ++ ⟨#[32]⟩ ++ (numS z.joined ++ ⟨#[32]⟩ ++ ((⟨#[111, 119, 101, 115]⟩ : ByteArray) ++ ⟨#[32]⟩ ++ numS z.fines))))) := bytes_ext (by
      unfold rdT0; simp only [app_list]; simp)
    rw [h, splitS_hit (n0 _), splitS_hit n1, splitS_hit, splitS_hit, splitS_hit (n0 _), splitS_hit, splitS_miss (n0 _)]
    · rfl
    · decide
    · decide
    · rw [app_list]; simp [n0]
  · rw [rdT_none hf, if_neg hf]
    have h : rdT0 z = numS z.ident ++ ⟨#[32]⟩ ++ (z.name ++ ⟨#[32]⟩ ++ ((⟨#[99]⟩ ++ numS z.cls) ++ ⟨#[32]⟩ ++ ((⟨#[115, 105, 110, 99, 101]⟩ : ByteArray) ++ ⟨#[32]⟩ ++ numS z.joined))) := bytes_ext (by
      unfold rdT0; simp only [app_list]; simp)
    rw [h, splitS_hit (n0 _), splitS_hit n1, splitS_hit, splitS_hit, splitS_miss (n0 _)]
    · rfl
    · decide
    · rw [app_list]; simp [n0]
/-- the reader of five or seven words, in impl's way -/
def rdI (l : List ByteArray) : SReader := ⟨numW (l.getD 0 ⟨#[]⟩), l.getD 1 ⟨#[]⟩, numW (l.getD 4 ⟨#[]⟩), numW (trimP (l.getD 2 ⟨#[]⟩) ⟨#[99]⟩), if l.length = 7 then numW (l.getD 6 ⟨#[]⟩) else 0⟩
/-- .. and in spec's -/
def rdS (l : List ByteArray) : SReader := ⟨(parseW (l.getD 0 ⟨#[]⟩)).1, l.getD 1 ⟨#[]⟩, (parseW (l.getD 4 ⟨#[]⟩)).1, (parseW ((l.getD 2 ⟨#[]⟩).extract 1 (l.getD 2 ⟨#[]⟩).size)).1, if l.length = 7 then (parseW (l.getD 6 ⟨#[]⟩)).1 else 0⟩
theorem okR_small {z : SReader} (h : z.okB = true) : ((-999999 ≤ z.ident ∧ z.ident ≤ 999999) ∧ (-999999 ≤ z.joined ∧ z.joined ≤ 999999)) ∧ ((1 ≤ z.cls ∧ z.cls ≤ 3) ∧ (-999999 ≤ z.cls ∧ z.cls ≤ 999999)) ∧ (0 ≤ z.fines ∧ z.fines ≤ 999999) := by
  have := (SReader.okB_iff (a0 := z.ident) (a1 := z.name) (a2 := z.joined) (a3 := z.cls) (a4 := z.fines)).1 h; omega
theorem rdI_text {z : SReader} (h : z.okB = true) : rdI (splitS 32 (rdT z)) = z := by
  obtain ⟨⟨h0, h1⟩, ⟨_, h2⟩, h3⟩ := okR_small h
  rw [rd_words h]
  obtain ⟨z0, z1, z2, z3, z4⟩ := z
  simp only at h0 h1 h2 h3
  by_cases hf : 0 < z4
  · simp only [if_pos hf]
    show (⟨numW (numS z0), z1, numW (numS z2), numW (trimP (⟨#[99]⟩ ++ numS z3) ⟨#[99]⟩), numW (numS z4)⟩ : SReader) = _
    rw [trimP_app, numW_num h0, numW_num h1, numW_num h2, numW_num (by omega)]
  · simp only [if_neg hf]
    show (⟨numW (numS z0), z1, numW (numS z2), numW (trimP (⟨#[99]⟩ ++ numS z3) ⟨#[99]⟩), 0⟩ : SReader) = _
    rw [trimP_app, numW_num h0, numW_num h1, numW_num h2, show z4 = 0 by omega]
theorem rdS_text {z : SReader} (h : z.okB = true) : rdS (splitS 32 (rdT z)) = z := by
  obtain ⟨⟨h0, h1⟩, ⟨_, h2⟩, h3⟩ := okR_small h
  rw [rd_words h]
  obtain ⟨z0, z1, z2, z3, z4⟩ := z
  simp only at h0 h1 h2 h3
  have e := ex_app2 (⟨#[99]⟩ : ByteArray) (numS z3)
  by_cases hf : 0 < z4
  · simp only [if_pos hf]
    show (⟨(parseW (numS z0)).1, z1, (parseW (numS z2)).1, (parseW (((⟨#[99]⟩ : ByteArray) ++ numS z3).extract (⟨#[99]⟩ : ByteArray).size (⟨#[99]⟩ ++ numS z3).size)).1, (parseW (numS z4)).1⟩ : SReader) = _
    rw [e, parseW_num h0, parseW_num h1, parseW_num h2, parseW_num (by omega)]
  · simp only [if_neg hf]
    show (⟨(parseW (numS z0)).1, z1, (parseW (numS z2)).1, (parseW (((⟨#[99]⟩ : ByteArray) ++ numS z3).extract (⟨#[99]⟩ : ByteArray).size (⟨#[99]⟩ ++ numS z3).size)).1, 0⟩ : SReader) = _
    rw [e, parseW_num h0, parseW_num h1, parseW_num h2, show z4 = 0 by omega]
theorem rd_len {z : SReader} (h : z.okB = true) : (splitS 32 (rdT z)).length = 5 ∨ (splitS 32 (rdT z)).length = 7 := by
  rw [rd_words h]
  by_cases hf : 0 < z.fines
  · rw [if_pos hf]; exact .inr rfl
  · rw [if_neg hf]; exact .inl rfl
theorem numS_len {n : Int} (h : 0 ≤ n) : (numS n).size = Lib.nDigits n.toNat := by
  show (Lib.itoa n).toArray.size = _
  rw [List.size_toArray]
  unfold Lib.itoa
  rw [if_neg (by omega), Lib.decDigits_length]
theorem cls_size {n : Int} (h : 1 ≤ n ∧ n ≤ 3) : (numS n).size = 1 := by
  have h2 := numS_len (n := n) (by omega)
  rw [Lib.nDigits_small (by omega)] at h2
  exact h2
theorem rd_two {z : SReader} (h : z.okB = true) : ((splitS 32 (rdT z)).getD 2 ⟨#[]⟩).size = 2 := by
  have h3 := (okR_small h).2.1.1
  rw [rd_words h]
  show ((⟨#[99]⟩ : ByteArray) ++ numS z.cls).size = 2
  rw [ByteArray.size_append, cls_size h3]
  rfl
theorem small_size {n : Int} (h : 0 ≤ n ∧ n ≤ 999999) : (numS n).size ≤ 7 := by
  rw [numS_len h.1]
  have mono : ∀ k u : Nat, u < 10 ^ (k + 1) → Lib.nDigits u ≤ k + 1 := by
    intro k
    induction k with
    | zero => intro u hu; rw [Lib.nDigits_small (by simpa using hu)]; exact Nat.le_refl _
    | succ k ih =>
      intro u hu
      by_cases h : u < 10
      · rw [Lib.nDigits_small h]; omega
      · rw [Lib.nDigits_big h]
        have := ih (u / 10) (by rw [Nat.pow_succ] at hu; omega)
        omega
  exact mono 6 n.toNat (by have : n.toNat ≤ 999999 := by omega
                           exact Nat.lt_of_le_of_lt this (by decide))
theorem rd_size {z : SReader} (h : z.okB = true) : (rdT z).size ≤ 60 := by
  have hw := (SReader.okB_iff (a0 := z.ident) (a1 := z.name) (a2 := z.joined) (a3 := z.cls) (a4 := z.fines)).1 h
  have s0 := small_size (n := z.ident) (by omega); have s1 := small_size (n := z.joined) (by omega); have s2 := small_size (n := z.cls) (by omega); have s3 := small_size (n := z.fines) (by omega)
  have s4 := wordB_size hw.2.2.1
  have k1 : (⟨#[32]⟩ : ByteArray).size = 1 := rfl
  have k2 : (⟨#[32, 99]⟩ : ByteArray).size = 2 := rfl
  have k3 : (⟨#[32, 115, 105, 110, 99, 101, 32]⟩ : ByteArray).size = 7 := rfl
  have k4 : (⟨#[32, 111, 119, 101, 115, 32]⟩ : ByteArray).size = 6 := rfl
  unfold rdT rdT0
  split <;> simp only [ByteArray.size_append] <;> omega
/-- whether a text is that of the reader z, found in its words -/
def isRd (s : ByteArray) (z : SReader) : Bool := decide ((splitS 32 s).length = 5 ∨ (splitS 32 s).length = 7) && (z.okB && decide (rdT z = s))
def parR (s : ByteArray) : SReader × Bool := if isRd s (rdI (splitS 32 s)) then (rdI (splitS 32 s), true) else (⟨0, ⟨#[]⟩, 0, 0, 0⟩, false)
theorem isRd_iff {s : ByteArray} {z : SReader} : isRd s z = true ↔ ((splitS 32 s).length = 5 ∨ (splitS 32 s).length = 7) ∧ z.okB = true ∧ rdT z = s := by
  unfold isRd; rw [Bool.and_eq_true, Bool.and_eq_true, decide_eq_true_iff, decide_eq_true_iff]
/-- the same, in spec's way -/
def isRdS (s : ByteArray) (z : SReader) : Bool := decide (s.size ≤ 60) && (decide (((splitS 32 s).getD 2 ⟨#[]⟩).size = 2) && isRd s z)
theorem isRdS_iff {s : ByteArray} {z : SReader} : isRdS s z = true ↔ isRd s z = true := by
  constructor
  · intro h; unfold isRdS at h; rw [Bool.and_eq_true, Bool.and_eq_true] at h; exact h.2.2
  · intro h
    obtain ⟨h1, h2, h3⟩ := isRd_iff.1 h
    have a := rd_size h2; have b := rd_two h2
    rw [h3] at a b
    unfold isRdS
    rw [h, decide_eq_true a, decide_eq_true b]; rfl
theorem parR_S (s : ByteArray) : parR s = if isRdS s (rdS (splitS 32 s)) then (rdS (splitS 32 s), true) else (⟨0, ⟨#[]⟩, 0, 0, 0⟩, false) := by
  unfold parR
  by_cases h : isRd s (rdI (splitS 32 s)) = true
  · obtain ⟨h1, h2, h3⟩ := isRd_iff.1 h
    have e : rdS (splitS 32 s) = rdI (splitS 32 s) := by
      have := rdS_text h2
      rw [h3] at this
      exact this
    rw [e, if_pos h, if_pos (isRdS_iff.2 h)]
  · rw [if_neg h]
    by_cases h' : isRdS s (rdS (splitS 32 s)) = true
    · obtain ⟨h1, h2, h3⟩ := isRd_iff.1 (isRdS_iff.1 h')
      have e : rdI (splitS 32 s) = rdS (splitS 32 s) := by
        have := rdI_text h2
        rw [h3] at this
        exact this
      rw [e] at h; exact absurd (isRdS_iff.1 h') h
    · rw [if_neg h']
theorem parR_text {z : SReader} (h : z.okB = true) : parR (rdT z) = (z, true) := by
  have e := rdI_text h
  unfold parR
  rw [e, if_pos (isRd_iff.2 ⟨rd_len h, h, rfl⟩)]
theorem textR_par {z : SReader} (h : (textR z).2 = true) : parR (textR z).1 = (z, true) := by
  unfold textR at h ⊢
  by_cases hc : z.okB = true
  · rw [if_pos hc]; exact parR_text hc
  · rw [if_neg hc] at h; cases h
theorem textR_ok (z : SReader) : (textR z).2 = z.okB := by
  unfold textR
  cases z.okB <;> rfl
theorem textR_size (z : SReader) : (textR z).1.size ≤ 60 := by
  unfold textR
  cases h : z.okB with
  | false => exact Nat.zero_le 60
  | true => exact rd_size h
end Go.Proofs.YtplemibckjnbhaaGreatDoor
