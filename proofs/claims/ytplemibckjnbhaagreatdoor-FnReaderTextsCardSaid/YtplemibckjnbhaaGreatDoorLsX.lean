/- Cut ends of texts (strings.TrimPrefix, TrimSuffix), impl's number, and spec's l2Cut. Conditions: texts of at most 5000 bytes; the tables and errors of strconv are laid, for impl's. -/
import Derived.Test.YtplemibckjnbhaaGreatDoorLsW
namespace Go.Proofs.YtplemibckjnbhaaGreatDoor
open Go.RowKit Go.Lib
set_option linter.unusedVariables false
def preB (s p : ByteArray) : Bool := decide (p.size ≤ s.size) && ((s.extract 0 p.size).toList == p.toList)
def sufB (s p : ByteArray) : Bool := decide (p.size ≤ s.size) && ((s.extract (s.size - p.size) s.size).toList == p.toList)
def trimP (s p : ByteArray) : ByteArray := if preB s p then s.extract p.size s.size else s
def trimS (s p : ByteArray) : ByteArray := if sufB s p then s.extract 0 (s.size - p.size) else s
theorem hasPre_is (s p : ByteArray) (w : World) (hs : s.size ≤ 5000) (hp : p.size ≤ 5000) :
    Calls Tryz.prog 125 #[.string s, .string p] w fun e w' => e = .returned (.bool (preB s p)) ∧ w = w' := by
  by_cases h : p.size ≤ s.size
  · have h' : (p.size : Int) ≤ s.size := by omega
    have hv : preB s p = ((s.extract 0 p.size).toList == p.toList) := by unfold preB; rw [decide_eq_true h, Bool.true_and]
    have HV := hide hv; clear hv
    go_enter Tryz.func125, Tryz.ntmps125
    go_wp2_with fail
    go_ret
    exact ⟨ret_bool HV.out.symm, rfl⟩
  · have h' : ¬ (p.size : Int) ≤ s.size := by omega
    have hv : preB s p = false := by unfold preB; rw [decide_eq_false h, Bool.false_and]
    have HV := hide hv; clear hv
    go_enter Tryz.func125, Tryz.ntmps125
    go_wp2_with fail
    go_ret
    exact ⟨ret_bool HV.out.symm, rfl⟩
theorem hasSuf_is (s p : ByteArray) (w : World) (hs : s.size ≤ 5000) (hp : p.size ≤ 5000) :
    Calls Tryz.prog 128 #[.string s, .string p] w fun e w' => e = .returned (.bool (sufB s p)) ∧ w = w' := by
  by_cases h : p.size ≤ s.size
  · have h' : (p.size : Int) ≤ s.size := by omega
    have hv : sufB s p = ((s.extract (s.size - p.size) s.size).toList == p.toList) := by unfold sufB; rw [decide_eq_true h, Bool.true_and]
    have hsub : (s.size : Int) - (p.size : Int) = ((s.size - p.size : Nat) : Int) := by omega
    have hle : s.size - p.size ≤ s.size := by omega
    have HV := hide hv; clear hv
    go_enter Tryz.func128, Tryz.ntmps128
    go_wp2_with fail
    go_ret
    exact ⟨ret_bool HV.out.symm, rfl⟩
  · have h' : ¬ (p.size : Int) ≤ s.size := by omega
    have hv : sufB s p = false := by unfold sufB; rw [decide_eq_false h, Bool.false_and]
    have HV := hide hv; clear hv
    go_enter Tryz.func128, Tryz.ntmps128
    go_wp2_with fail
    go_ret
    exact ⟨ret_bool HV.out.symm, rfl⟩
theorem trimP_is (s p : ByteArray) (w : World) (hs : s.size ≤ 5000) (hp : p.size ≤ 5000) :
    Calls Tryz.prog 54 #[.string s, .string p] w fun e w' => e = .returned (.string (trimP s p)) ∧ w = w' := by
  have hc := fun W => hasPre_is s p W hs hp
  have hle : preB s p = true → p.size ≤ s.size := fun h => by unfold preB at h; rw [Bool.and_eq_true, decide_eq_true_iff] at h; exact h.1
  have inner : ∀ W, Calls Tryz.prog 104 #[.string s, .string p] W fun e w' => e = .returned (.string (trimP s p)) ∧ W = w' := by
    intro W
    unfold trimP
    cases hb : preB s p with
    | true =>
      have h1 := hle hb
      rw [hb] at hc
      have HC := hide hc; clear hc hb hle
      go_enter Tryz.func104, Tryz.ntmps104
      go_wp2_with (go_at_call 125; refine (HC.out _).mono ?_; rintro e w' ⟨rfl, rfl⟩)
      go_ret
      exact ⟨rfl, rfl⟩
    | false =>
      rw [hb] at hc
      have HC := hide hc; clear hc hb hle
      go_enter Tryz.func104, Tryz.ntmps104
      go_wp2_with (go_at_call 125; refine (HC.out _).mono ?_; rintro e w' ⟨rfl, rfl⟩)
      go_ret
      exact ⟨rfl, rfl⟩
  have HI := hide inner; clear inner hc hle
  go_enter Tryz.func54, Tryz.ntmps54
  go_wp2_with (go_at_call 104; refine (HI.out _).mono ?_; rintro e w' ⟨rfl, rfl⟩)
  go_ret
  exact ⟨rfl, rfl⟩
theorem trimS_is (s p : ByteArray) (w : World) (hs : s.size ≤ 5000) (hp : p.size ≤ 5000) :
    Calls Tryz.prog 77 #[.string s, .string p] w fun e w' => e = .returned (.string (trimS s p)) ∧ w = w' := by
  have hc := fun W => hasSuf_is s p W hs hp
  have hle : sufB s p = true → p.size ≤ s.size := fun h => by unfold sufB at h; rw [Bool.and_eq_true, decide_eq_true_iff] at h; exact h.1
  have inner : ∀ W, Calls Tryz.prog 110 #[.string s, .string p] W fun e w' => e = .returned (.string (trimS s p)) ∧ W = w' := by
    intro W
    unfold trimS
    cases hb : sufB s p with
    | true =>
      have h1 := hle hb
      have hsub : (s.size : Int) - (p.size : Int) = ((s.size - p.size : Nat) : Int) := by omega
      have hle2 : s.size - p.size ≤ s.size := by omega
      rw [hb] at hc
      have HC := hide hc; clear hc hb hle
      go_enter Tryz.func110, Tryz.ntmps110
      go_wp2_with (go_at_call 128; refine (HC.out _).mono ?_; rintro e w' ⟨rfl, rfl⟩)
      go_ret
      exact ⟨rfl, rfl⟩
    | false =>
      rw [hb] at hc
      have HC := hide hc; clear hc hb hle
      go_enter Tryz.func110, Tryz.ntmps110
      go_wp2_with (go_at_call 128; refine (HC.out _).mono ?_; rintro e w' ⟨rfl, rfl⟩)
      go_ret
      exact ⟨rfl, rfl⟩
  have HI := hide inner; clear inner hc hle
  go_enter Tryz.func77, Tryz.ntmps77
  go_wp2_with (go_at_call 110; refine (HI.out _).mono ?_; rintro e w' ⟨rfl, rfl⟩)
  go_ret
  exact ⟨rfl, rfl⟩
/-- the number of a text, or one that is valid nowhere -/
def numW (s : ByteArray) : Int := if (parseW s).2 then (parseW s).1 else -1000000
theorem number_is (s : ByteArray) (w : World) (hm : s.size ≤ 1000000) (ht : Tab w) (he : Errs w) :
    Calls Tryz.prog 53 #[.string s] w fun e w' => e = .returned (.int .i64 (numW s)) ∧ Below w.heap.size w w' := by
  have hc := ParseI_is s w hm ht he
  unfold numW
  generalize parseW s = p at *
  obtain ⟨n, ok⟩ := p
  have HC := hide hc; clear hc ht he
  cases ok with
  | true =>
    go_enter Tryz.func53, Tryz.ntmps53
    go_wp2_with (go_at_call 103; refine HC.out.mono ?_; rintro e w' ⟨rfl, hb⟩)
    go_ret
    exact ⟨rfl, hb⟩
  | false =>
    go_enter Tryz.func53, Tryz.ntmps53
    go_wp2_with (go_at_call 103; refine HC.out.mono ?_; rintro e w' ⟨rfl, hb⟩)
    go_ret
    exact ⟨rfl, hb⟩
/-- the number of a text without its ends, or -1 -/
def cutW (s : ByteArray) (a b : Nat) : Int := if s.size ≤ a + b then -1 else if (parseW (s.extract a (s.size - b))).2 then (parseW (s.extract a (s.size - b))).1 else -1
theorem l2Cut_is (s : ByteArray) (a b : Nat) (w : World) (hm : s.size ≤ 1000000) (ha : a ≤ 10) (hb : b ≤ 10) :
    Calls Tryz.prog 83 #[.string s, .int .i64 (a : Int), .int .i64 (b : Int)] w fun e w' => e = .returned (.int .i64 (cutW s a b)) ∧ Below w.heap.size w w' := by
  unfold cutW
  by_cases h : s.size ≤ a + b
  · rw [if_pos h]
    have h' : (s.size : Int) ≤ (a : Int) + (b : Int) := by omega
    go_enter Tryz.func83, Tryz.ntmps83
    go_wp2_with fail
    go_ret
    exact ⟨rfl, Below.refl _ _⟩
  · rw [if_neg h]
    have h' : ¬ (s.size : Int) ≤ (a : Int) + (b : Int) := by omega
    have hsub : (s.size : Int) - (b : Int) = ((s.size - b : Nat) : Int) := by omega
    have h2 : a ≤ s.size - b := by omega
    have h3 : s.size - b ≤ s.size := by omega
    have hz : (s.extract a (s.size - b)).size ≤ 1000000 := by rw [ByteArray.size_extract]; omega
    have hc := fun W => l1Read_is (s.extract a (s.size - b)) W hz
    generalize hpp : parseW (s.extract a (s.size - b)) = p at *
    obtain ⟨n, ok⟩ := p
    have HC := hide hc; clear hc hz hpp
    cases ok with
    | true =>
      go_enter Tryz.func83, Tryz.ntmps83
      go_wp2_with (go_at_call 58; refine (HC.out _).mono ?_; rintro e w' ⟨rfl, hb⟩)
      go_ret
      exact ⟨rfl, hb⟩
    | false =>
      go_enter Tryz.func83, Tryz.ntmps83
      go_wp2_with (go_at_call 58; refine (HC.out _).mono ?_; rintro e w' ⟨rfl, hb⟩)
      go_ret
      exact ⟨rfl, hb⟩
end Go.Proofs.YtplemibckjnbhaaGreatDoor
