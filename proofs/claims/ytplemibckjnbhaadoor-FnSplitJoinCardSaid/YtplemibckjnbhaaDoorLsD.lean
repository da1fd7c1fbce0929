/- Contracts of AppendChecksum in spec and of VerifyChecksum in impl. Condition: the table of powers of ten is laid, for impl's; texts of at most a million bytes. -/
import Derived.Test.YtplemibckjnbhaaDoorLsC
namespace Go.Proofs.YtplemibckjnbhaaDoor
open Go.RowKit Go.Lib
set_option linter.unusedVariables false
theorem ne_toList {a b : ByteArray} (h : a ≠ b) : (a.toList == b.toList) = false := by
  rw [ByteArray.toList_eq, ByteArray.toList_eq]
  simp only [beq_eq_false_iff_ne, ne_eq]
  intro h2
  exact h (by cases a; cases b; simp_all)
set_option maxHeartbeats 1000000 in
theorem AppendS_is (s : ByteArray) (w : World) (hm : s.size ≤ 1000000) :
    Calls Tryd.prog 45 #[.string s] w fun e w' => e = .returned (.tuple #[.string (sealW s).1, .bool (sealW s).2]) ∧ Below w.heap.size w w' := by
  have hx : sealW s = if badS s then (⟨#[]⟩, false) else (sealS s, true) := rfl
  have hss := sealS_bounds s hm
  have hcs := fun w => l1Seal_is s w hm
  have hcc := fun w => l1Stands_is s 35 w (by omega)
  have hbad : badS s = (hasB 35 s || decide ((4000 : Int) < ((sealS s).size : Nat))) := rfl
  generalize sealW s = sw at *
  generalize badS s = bad at *
  generalize sealS s = se at *
  generalize hasB 35 s = hs at *
  have HS := hide hcs; have HC := hide hcc; have HX := hide hx; have HBAD := hide hbad; have HSS := hide hss; clear hcs hcc hx hbad hss
  have HB0 := hide (Below.refl w.heap.size w)
  by_cases h4 : (4000 : Int) < s.size
  · go_enter Tryd.func45, Tryd.ntmps45
    go_wp2_with fail
    go_ret2
    have hb := HBAD.out; rw [decide_eq_true (by have := HSS.out; omega), Bool.or_true] at hb
    rw [HX.out, hb]
    exact ⟨rfl, Below.refl _ _⟩
  · cases hs with
    | true =>
      go_enter Tryd.func45, Tryd.ntmps45
      go_wp2_with (go_at_call 55; refine (HC.out _).mono ?_; rintro e w' ⟨rfl, rfl⟩)
      go_ret2
      have hb := HBAD.out; rw [Bool.true_or] at hb
      rw [HX.out, hb]
      exact ⟨rfl, Below.refl _ _⟩
    | false =>
      by_cases hl : (4000 : Int) < se.size
      · go_enter Tryd.func45, Tryd.ntmps45
        go_wp2_with (first | (go_at_call 55; refine (HC.out _).mono ?_; rintro e w' ⟨rfl, rfl⟩) | (go_at_call 90; refine (HS.out _).mono ?_; rintro e w1 ⟨rfl, hb⟩; have HB1 := hide hb; clear hb))
        go_ret2
        have hb := HBAD.out; rw [Bool.false_or, decide_eq_true hl] at hb
        rw [HX.out, hb]
        exact ⟨rfl, HB1.out⟩
      · go_enter Tryd.func45, Tryd.ntmps45
        go_wp2_with (first | (go_at_call 55; refine (HC.out _).mono ?_; rintro e w' ⟨rfl, rfl⟩) | (go_at_call 90; refine (HS.out _).mono ?_; rintro e w1 ⟨rfl, hb⟩; replace HB0 := hide (bstep HB0.out hb HB0.out.size); clear hb))
        go_ret2
        have hb := HBAD.out; rw [Bool.false_or, decide_eq_false (by omega)] at hb
        rw [HX.out, hb]
        exact ⟨rfl, HB0.out⟩
/-- the text ahead of its checksum, and whether that is what the text says -/
def verW (s : ByteArray) : ByteArray × Bool := if sealW (headS s) = (s, true) then (headS s, true) else (⟨#[]⟩, false)
set_option maxHeartbeats 1000000 in
theorem Verify_is (s : ByteArray) (w : World) (hm : s.size ≤ 1000000) (ht : Tab w) :
    Calls Tryd.prog 46 #[.string s] w fun e w' => e = .returned (.tuple #[.string (verW s).1, .bool (verW s).2]) ∧ Below w.heap.size w w' := by
  have hx : verW s = if sealW (headS s) = (s, true) then (headS s, true) else (⟨#[]⟩, false) := rfl
  have hc := fun w => cut_is s w hm
  have ha := fun w h => AppendI_is (headS s) w (Nat.le_trans (headS_size s) hm) h
  generalize verW s = v at *
  generalize sealW (headS s) = q at *
  generalize headS s = t at *
  obtain ⟨q1, q2⟩ := q
  have HC := hide hc; have HA := hide ha; have HT := hide ht; clear hc ha ht
  cases q2 with
  | false =>
    have hv : v = (⟨#[]⟩, false) := by rw [hx, if_neg (fun h => by simpa using congrArg Prod.snd h)]
    have HX := hide hv; clear hv hx
    go_enter Tryd.func46, Tryd.ntmps46
    go_wp2_with (first | (go_at_call 91; refine (HC.out _).mono ?_; rintro e w1 ⟨r, b, rfl, hb⟩; have HB1 := hide hb; clear hb) | (go_at_call 44; refine (HA.out _ (HT.out.below HB1.out (Nat.le_refl _))).mono ?_; rintro e w2 ⟨rfl, hb⟩; have HB2 := hide (bstep HB1.out hb HB1.out.size); clear hb))
    go_ret2
    rw [HX.out]
    exact ⟨rfl, HB2.out⟩
  | true =>
    by_cases he : q1 = s
    · subst he
      have hv : v = (t, true) := by rw [hx, if_pos rfl]
      have HX := hide hv; clear hv hx
      have t1 : (q1.toList == q1.toList) = true := by simp
      have t2 : (q1.toList != q1.toList) = false := by simp
      go_enter Tryd.func46, Tryd.ntmps46
      go_wp2_with (first | (go_at_call 91; refine (HC.out _).mono ?_; rintro e w1 ⟨r, b, rfl, hb⟩; have HB1 := hide hb; clear hb) | (go_at_call 44; refine (HA.out _ (HT.out.below HB1.out (Nat.le_refl _))).mono ?_; rintro e w2 ⟨rfl, hb⟩; have HB2 := hide (bstep HB1.out hb HB1.out.size); clear hb))
      go_ret2
      rw [HX.out]
      exact ⟨rfl, HB2.out⟩
    · have hv : v = (⟨#[]⟩, false) := by rw [hx, if_neg (fun h => he (congrArg Prod.fst h))]
      have HX := hide hv; have t1 := ne_toList he; clear hv hx he
      go_enter Tryd.func46, Tryd.ntmps46
      go_wp2_with (first | (go_at_call 91; refine (HC.out _).mono ?_; rintro e w1 ⟨r, b, rfl, hb⟩; have HB1 := hide hb; clear hb) | (go_at_call 44; refine (HA.out _ (HT.out.below HB1.out (Nat.le_refl _))).mono ?_; rintro e w2 ⟨rfl, hb⟩; have HB2 := hide (bstep HB1.out hb HB1.out.size); clear hb))
      go_ret2
      rw [HX.out]
      exact ⟨rfl, HB2.out⟩
end Go.Proofs.YtplemibckjnbhaaDoor
