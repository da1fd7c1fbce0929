/- Plain facts of decimal numerals (a numeral says its number; what a text parses to) and of checksums (a changed byte is told). Nothing here speaks of the program. No condition. -/
import Derived.Lib.ItoaNum
import Derived.Lib.Atoi
namespace Go.Proofs.YtplemibckjnbhaaGreatDoor
open Go.Lib
set_option linter.unusedVariables false
/-! ### decimal numerals -/
theorem decFrom_app : ∀ (l : List UInt8) (acc : Nat) (c : UInt8), decFrom acc (l ++ [c]) = (decFrom acc l).bind fun n => (digitVal c).map fun d => n * 10 + d := by
  intro l
  induction l with
  | nil => intro acc c; simp only [List.nil_append, decFrom, Option.bind_some]; cases digitVal c <;> rfl
  | cons b l ih =>
    intro acc c
    simp only [List.cons_append, decFrom]
    cases digitVal b with
    | none => rfl
    | some d => exact ih _ c
theorem digit_of (d : Nat) (h : d < 10) : digitVal (UInt8.ofNat (48 + d)) = some d := by
  unfold digitVal
  rw [UInt8.toNat_ofNat', if_pos (by omega)]
  congr 1; omega
theorem dec_val (u : Nat) : decFrom 0 (decDigits u) = some u := by
  induction u using Nat.strongRecOn with
  | _ u ih =>
    by_cases h : u < 10
    · rw [decDigits, dif_pos h]
      simp only [decFrom, digit_of u h]; simp
    · rw [decDigits, dif_neg h, decFrom_app, ih (u / 10) (by omega)]
      simp only [Option.bind_some, digit_of (u % 10) (by omega), Option.map_some]
      congr 1; omega
theorem dec_ne (u : Nat) : decDigits u ≠ [] := by
  rw [decDigits]; split <;> simp
theorem dec_dig (u : Nat) : ∀ c ∈ decDigits u, 48 ≤ c.toNat ∧ c.toNat ≤ 57 := by
  induction u using Nat.strongRecOn with
  | _ u ih =>
    by_cases h : u < 10
    · rw [decDigits, dif_pos h]
      intro c hc
      rw [List.mem_singleton.1 hc, UInt8.toNat_ofNat']; omega
    · rw [decDigits, dif_neg h]
      intro c hc
      rcases List.mem_append.1 hc with h1 | h1
      · exact ih (u / 10) (by omega) c h1
      · rw [List.mem_singleton.1 h1, UInt8.toNat_ofNat']; omega
theorem dec_len : ∀ (k u : Nat), 0 < k → u < 10 ^ k → (decDigits u).length ≤ k := by
  intro k
  induction k with
  | zero => intro u h; omega
  | succ k ih =>
    intro u _ hu
    by_cases h : u < 10
    · rw [decDigits, dif_pos h]; simp
    · rw [decDigits, dif_neg h, List.length_append]
      have hk : 0 < k := by
        rcases Nat.eq_zero_or_pos k with rfl | h0
        · simp at hu; omega
        · exact h0
      have := ih (u / 10) hk (by rw [Nat.pow_succ] at hu; omega)
      simp; omega
theorem dec_lo : ∀ (k u : Nat), (decDigits u).length ≤ k → u < 10 ^ k := by
  intro k
  induction k with
  | zero => intro u h; exact absurd (List.eq_nil_of_length_eq_zero (by omega)) (dec_ne u)
  | succ k ih =>
    intro u hu
    by_cases h : u < 10
    · rw [Nat.pow_succ]
      have : 1 ≤ 10 ^ k := Nat.one_le_pow _ _ (by decide)
      omega
    · rw [decDigits, dif_neg h, List.length_append] at hu
      have := ih (u / 10) (by simp at hu; omega)
      rw [Nat.pow_succ]; omega
theorem itoa_neg {n : Int} (h : n < 0) : itoa n = 45 :: decDigits n.natAbs := if_pos h
theorem itoa_pos {n : Int} (h : 0 ≤ n) : itoa n = decDigits n.toNat := if_neg (by omega)
theorem itoa_ne (n : Int) : itoa n ≠ [] := by
  unfold itoa; split
  · simp
  · exact dec_ne _
/-- no sign ahead of decimal digits -/
theorem dec_head {u : Nat} {c : UInt8} {r : List UInt8} (h : decDigits u = c :: r) : c ≠ 45 ∧ c ≠ 43 ∧ c.toNat ≠ 45 ∧ c.toNat ≠ 43 := by
  have := dec_dig u c (by rw [h]; simp)
  refine ⟨fun e => ?_, fun e => ?_, by omega, by omega⟩
  · rw [e] at this; exact absurd this (by decide)
  · rw [e] at this; exact absurd this (by decide)
/-- the digits of a text that may bear a sign -/
def tOf (s : List UInt8) : List UInt8 := if 1 < s.length ∧ s.head? = some 45 then s.tail else s
theorem tOf_itoa (n : Int) : tOf (itoa n) = decDigits n.natAbs ∧ ((tOf (itoa n)).length < (itoa n).length ↔ n < 0) := by
  by_cases h : n < 0
  · rw [itoa_neg h]
    have h1 : tOf (45 :: decDigits n.natAbs) = decDigits n.natAbs := by
      unfold tOf
      rw [if_pos ⟨by have := List.length_pos_iff.2 (dec_ne n.natAbs); simp; omega, rfl⟩]; rfl
    rw [h1]
    exact ⟨rfl, by simp [h]⟩
  · rw [itoa_pos (by omega)]
    have h1 : tOf (decDigits n.toNat) = decDigits n.toNat := by
      unfold tOf
      rw [if_neg]
      rintro ⟨_, h2⟩
      cases hd : decDigits n.toNat with
      | nil => exact dec_ne _ hd
      | cons c r =>
        rw [hd] at h2
        simp only [List.head?_cons, Option.some.injEq] at h2
        exact (dec_head hd).1 h2
    rw [h1]
    refine ⟨by congr 1; omega, by constructor <;> intro h2 <;> omega⟩
theorem itoa_inj {a b : Int} (h : itoa a = itoa b) : a = b := by
  have ha := tOf_itoa a; have hb := tOf_itoa b
  rw [h] at ha
  have h1 := dec_val a.natAbs; have h2 := dec_val b.natAbs
  rw [← ha.1] at h1; rw [← hb.1] at h2
  rw [h1] at h2
  injection h2 with h2
  have h3 := ha.2; have h4 := hb.2
  rw [h3] at h4
  omega
theorem atoi_itoa (n : Int) : atoi (itoa n) = some n := by
  have hnat : ∀ u, decNat (decDigits u) = some u := fun u => by
    unfold decNat
    rw [if_neg (by simp [dec_ne]), dec_val]
  by_cases h : n < 0
  · rw [itoa_neg h]
    simp only [atoi]
    rw [if_pos (by decide), hnat]
    simp only [Option.map_some]
    congr 1; omega
  · rw [itoa_pos (by omega)]
    cases hd : decDigits n.toNat with
    | nil => exact absurd hd (dec_ne _)
    | cons c r =>
      have hh := dec_head hd
      simp only [atoi]
      rw [if_neg (by simpa using hh.1), if_neg (by simpa using hh.2.1), ← hd, hnat]
      simp only [Option.map_some]
      congr 1; omega
theorem itoa_len {n : Int} (h : -999999 ≤ n ∧ n ≤ 999999) : (itoa n).length ≤ 7 ∧ (decDigits n.natAbs).length ≤ 6 := by
  have h1 := dec_len 6 n.natAbs (by decide) (by omega)
  refine ⟨?_, h1⟩
  unfold itoa
  split
  · simp; omega
  · rw [show n.toNat = n.natAbs by omega]; omega
/-- what a text parses to: a number whose numeral it is -/
def parseV (s : List UInt8) : Int × Bool := match atoi s with
  | some n => if itoa n = s ∧ -999999 ≤ n ∧ n ≤ 999999 then (n, true) else (0, false)
  | none => (0, false)
theorem parseV_yes {n : Int} (h : -999999 ≤ n ∧ n ≤ 999999) : parseV (itoa n) = (n, true) := by
  unfold parseV; rw [atoi_itoa]; exact if_pos ⟨rfl, h⟩
theorem parseV_no {s : List UInt8} (h : ∀ n, -999999 ≤ n ∧ n ≤ 999999 → itoa n ≠ s) : parseV s = (0, false) := by
  unfold parseV
  split
  · next n _ => exact if_neg (fun h1 => h n h1.2 h1.1)
  · rfl
theorem parseV_of {s : List UInt8} {n : Int} (h : parseV s = (n, true)) : itoa n = s ∧ -999999 ≤ n ∧ n ≤ 999999 := by
  unfold parseV at h
  split at h
  · split at h
    · next h1 => injection h with h2; subst h2; exact h1
    · cases h
  · cases h
theorem parseV_two (s : List UInt8) : (∃ n, itoa n = s ∧ (-999999 ≤ n ∧ n ≤ 999999) ∧ parseV s = (n, true)) ∨ ((∀ n, -999999 ≤ n ∧ n ≤ 999999 → itoa n ≠ s) ∧ parseV s = (0, false)) := by
  by_cases h : ∃ n, itoa n = s ∧ (-999999 ≤ n ∧ n ≤ 999999)
  · obtain ⟨n, rfl, hn⟩ := h
    exact .inl ⟨n, rfl, hn, parseV_yes hn⟩
  · have hh : ∀ n, -999999 ≤ n ∧ n ≤ 999999 → itoa n ≠ s := fun n hn e => h ⟨n, e, hn⟩
    exact .inr ⟨hh, parseV_no hh⟩
/-! ### checksums -/
def sumStep (h : Nat) (c : UInt8) : Nat := (41 * h + c.toNat + 1) % 999979
def sumB (s : List UInt8) : Nat := s.foldl sumStep 7
theorem sum_lt (s : List UInt8) : ∀ h, h < 999979 → s.foldl sumStep h < 999979 := by
  induction s with
  | nil => intro h hh; exact hh
  | cons c s ih => intro h _; exact ih _ (Nat.mod_lt _ (by decide))
theorem sumB_lt (s : List UInt8) : sumB s < 999979 := sum_lt s 7 (by decide)
theorem step_inj {a b : Nat} {c : UInt8} (ha : a < 999979) (hb : b < 999979) (h : sumStep a c = sumStep b c) : a = b := by
  unfold sumStep at h
  omega
theorem step_ne {a : Nat} {c d : UInt8} (h : sumStep a c = sumStep a d) : c = d := by
  unfold sumStep at h
  have h1 := c.toNat_lt; have h2 := d.toNat_lt
  exact UInt8.toNat_inj.1 (by omega)
theorem sum_inj (s : List UInt8) : ∀ a b, a < 999979 → b < 999979 → s.foldl sumStep a = s.foldl sumStep b → a = b := by
  induction s with
  | nil => intro a b _ _ h; exact h
  | cons c s ih => intro a b ha hb h; exact step_inj ha hb (ih _ _ (Nat.mod_lt _ (by decide)) (Nat.mod_lt _ (by decide)) h)
theorem sumB_set {s : List UInt8} {k : Nat} (hk : k < s.length) {c : UInt8} (h : sumB (s.set k c) = sumB s) : c = s[k] := by
  unfold sumB at h
  have e1 : s.set k c = s.take k ++ c :: s.drop (k + 1) := by
    rw [List.set_eq_take_append_cons_drop, if_pos hk]
  have e2 : s = s.take k ++ s[k] :: s.drop (k + 1) := by
    rw [← List.drop_eq_getElem_cons hk, List.take_append_drop]
  rw [e1] at h
  conv at h => rhs; rw [e2]
  rw [List.foldl_append, List.foldl_append, List.foldl_cons, List.foldl_cons] at h
  exact step_ne (sum_inj _ _ _ (Nat.mod_lt _ (by decide)) (Nat.mod_lt _ (by decide)) h)
def sealB (s : List UInt8) : List UInt8 := s ++ 35 :: itoa (sumB s)
def sealV (s : List UInt8) : List UInt8 × Bool := if 35 ∈ s ∨ 4000 < (sealB s).length then ([], false) else (sealB s, true)
def headB (s : List UInt8) : List UInt8 := s.takeWhile (· != 35)
def verV (s : List UInt8) : List UInt8 × Bool := if sealV (headB s) = (s, true) then (headB s, true) else ([], false)
theorem sealV_of {x y : List UInt8} (h : sealV x = (y, true)) : 35 ∉ x ∧ y = sealB x := by
  unfold sealV at h
  split at h
  · cases h
  · next h1 => injection h with h2; exact ⟨fun h3 => h1 (.inl h3), h2.symm⟩
theorem head_app {x : List UInt8} (h : 35 ∉ x) (r : List UInt8) : headB (x ++ 35 :: r) = x := by
  unfold headB
  rw [List.takeWhile_append_of_pos (fun c hc => by
    simp only [bne_iff_ne, ne_eq]; rintro rfl; exact h hc), List.takeWhile_cons_of_neg (by simp), List.append_nil]
theorem head_no {x : List UInt8} (h : 35 ∉ x) : headB x = x := by
  have := List.takeWhile_append_of_pos (p := fun c : UInt8 => c != 35) (l₁ := x) (l₂ := []) (fun c hc => by
    simp only [bne_iff_ne, ne_eq]; rintro rfl; exact h hc)
  simpa [headB] using this
theorem ver_seal {x y : List UInt8} (h : sealV x = (y, true)) : verV y = (x, true) := by
  obtain ⟨h1, rfl⟩ := sealV_of h
  have h2 : headB (sealB x) = x := head_app h1 _
  unfold verV
  rw [h2, if_pos h]
theorem itoa_no (n : Nat) : (35 : UInt8) ∉ itoa (n : Int) := by
  rw [itoa_pos (by omega)]
  intro h
  exact absurd (dec_dig _ _ h).1 (by decide)
/-- changing one byte of a sealed text is told -/
theorem ver_change {x y : List UInt8} (h : sealV x = (y, true)) {k : Nat} (hk : k < y.length) {c : UInt8} (hc : c ≠ y[k]) : (verV (y.set k c)).2 = false := by
  obtain ⟨h1, rfl⟩ := sealV_of h
  unfold verV
  rw [if_neg]
  intro hs
  obtain ⟨h3, h4⟩ := sealV_of hs
  have hlen : (sealB x).length = x.length + 1 + (itoa (sumB x)).length := by simp [sealB]; omega
  have hrest : ∀ a b : List UInt8, (a ++ 35 :: b).length = a.length + 1 + b.length := fun a b => by simp; omega
  rcases Nat.lt_trichotomy k x.length with hlt | heq | hgt
  · have e1 : (sealB x).set k c = x.set k c ++ 35 :: itoa (sumB x) := by
      unfold sealB; rw [List.set_append_left _ _ hlt]
    have hck : c ≠ x[k] := fun e => hc (by rw [e]; simp [sealB, List.getElem_append_left hlt])
    by_cases hcs : c = 35
    · subst hcs
      have e2 : x.set k 35 = x.take k ++ 35 :: x.drop (k + 1) := by
        rw [List.set_eq_take_append_cons_drop, if_pos hlt]
      have e3 : headB ((sealB x).set k 35) = x.take k := by
        rw [e1, e2, List.append_assoc, List.cons_append]
        exact head_app (fun hm => h1 (List.mem_of_mem_take hm)) _
      rw [e3] at h4
      rw [e1, e2, List.append_assoc, List.cons_append] at h4
      unfold sealB at h4
      have h5 := List.append_cancel_left h4
      injection h5 with _ h5
      exact itoa_no _ (by rw [← h5]; simp)
    · have hn : 35 ∉ x.set k c := fun hm => by
        rcases List.mem_or_eq_of_mem_set hm with h6 | h6
        · exact h1 h6
        · exact hcs h6.symm
      have e3 : headB ((sealB x).set k c) = x.set k c := by rw [e1]; exact head_app hn _
      rw [e3, e1] at h4
      unfold sealB at h4
      have h5 := List.append_cancel_left h4
      injection h5 with _ h5
      have h6 := itoa_inj h5
      exact hck (sumB_set hlt (by omega))
  · subst heq
    have hc35 : c ≠ 35 := fun e => hc (by rw [e]; simp [sealB])
    have e1 : (sealB x).set x.length c = x ++ c :: itoa (sumB x) := by
      unfold sealB; rw [List.set_append_right _ _ (Nat.le_refl _)]; simp
    have hn : 35 ∉ x ++ c :: itoa (sumB x) := fun hm => by
      rcases List.mem_append.1 hm with h6 | h6
      · exact h1 h6
      · rcases List.mem_cons.1 h6 with h7 | h7
        · exact hc35 h7.symm
        · exact itoa_no _ h7
    rw [e1, head_no hn] at h4
    have := congrArg List.length h4
    simp [sealB] at this
  · obtain ⟨m, rfl⟩ : ∃ m, k = x.length + 1 + m := ⟨k - x.length - 1, by omega⟩
    have e1 : (sealB x).set (x.length + 1 + m) c = x ++ 35 :: (itoa (sumB x)).set m c := by
      unfold sealB
      rw [List.set_append_right _ _ (by omega), show x.length + 1 + m - x.length = m + 1 by omega, List.set_cons_succ]
    rw [e1, head_app h1] at h4
    unfold sealB at h4
    have h5 := List.append_cancel_left h4
    injection h5 with _ h5
    have hm : m < (itoa (sumB x)).length := by omega
    have h6 : ((itoa (sumB x)).set m c)[m]'(by rw [List.length_set]; exact hm) = (itoa (sumB x))[m] := by simp only [h5]
    rw [List.getElem_set_self] at h6
    apply hc
    rw [h6]
    simp only [sealB]
    rw [List.getElem_append_right (by omega)]
    simp [show x.length + 1 + m - x.length = m + 1 by omega]
end Go.Proofs.YtplemibckjnbhaaGreatDoor
