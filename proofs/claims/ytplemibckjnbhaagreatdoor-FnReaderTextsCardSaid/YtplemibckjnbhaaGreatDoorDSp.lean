/- Spoilt texts. No condition beyond a cursor that has stepped less than 2^60 times. (Out of D2D, by mkd3d.py.) -/
import Derived.Test.YtplemibckjnbhaaGreatDoorDr
namespace Go.Proofs.YtplemibckjnbhaaGreatDoor
open Go.RowKit
set_option linter.unusedVariables false
set_option maxRecDepth 100000 in
set_option maxHeartbeats 4000000 in
theorem spoilt_is (w0 w : World) (base g k : Nat) (A : Option Addr) (cap : Nat) (code : List Int) (hD : DS w0 base g A cap code k w) (s q : ByteArray) (hs : s.size ≤ 3000) (hq : 1 ≤ q.size) (hq2 : q.size ≤ 100) (hk : k + 10 < 2305843009213693952) :
    Calls Tryz.prog 56 #[.pointer (some ⟨g, 0, none⟩), .string s, .string q] w fun e w' => ∃ t : ByteArray, e = .returned (.string t) ∧ t.size ≤ s.size + 1 ∧ DS w0 base g A cap code (k + 10) w' ∧ w.grownBy w' (some g) := by
  have hgw := hD.lt
  have HD0 := hide hD
  have HD := hide (DS.start hD.cur hD.sz); clear hD
  by_cases hz : s.size = 0
  · have he : s = ⟨#[]⟩ := by
      have h0 : s.data.toList.length = 0 := hz
      cases s; simp_all
    subst he
    have he2 : (⟨#[]⟩ : ByteArray).toList.isEmpty = true := by rw [ByteArray.toList_eq]; rfl
    have hsz : (q.extract 0 1).size ≤ 1 := by rw [ByteArray.size_extract]; omega
    have HSZ := hide hsz; clear hsz hz
    go_enter Tryz.func56, Tryz.ntmps56
    go_wp2_with fail
    go_ret
    exact ⟨_, rfl, by have := HSZ.out; omega, ⟨(HD.out.le (by omega)).cur, grownTrans HD0.out.gr HD.out.gr, HD0.out.hb⟩, HD.out.gr⟩
  · have hne : s.toList.isEmpty = false := by
      rw [ByteArray.toList_eq]
      cases hl : s.data.toList with
      | nil => exact absurd (show s.data.toList.length = 0 by rw [hl]; rfl) hz
      | cons _ _ => rfl
    go_enter Tryz.func56, Tryz.ntmps56
    go_wp2_with fail
    refine (pickD (s.size : Int) HD.out (by omega)).mono ?_; rintro e w1 ⟨x1, rfl, p1, q1, hD, hg⟩
    replace HD := hide hD; clear hD hg
    obtain ⟨i, rfl⟩ : ∃ i : Nat, x1 = (i : Int) := ⟨x1.toNat, by omega⟩
    have hi : i < s.size := by omega
    go_wp2_with fail
    refine (pickD (q.size : Int) HD.out (by omega)).mono ?_; rintro e w2 ⟨x2, rfl, p2, q2, hD, hg⟩
    replace HD := hide hD; clear hD hg
    obtain ⟨j, rfl⟩ : ∃ j : Nat, x2 = (j : Int) := ⟨x2.toNat, by omega⟩
    have hj : j < q.size := by omega
    have hj1 : (q.extract j q.size).size = q.size - j := by rw [ByteArray.size_extract]; omega
    have hj2 : 1 ≤ (q.extract j q.size).size := by omega
    have hc : ((q.extract j q.size).extract 0 1).size = 1 := by rw [ByteArray.size_extract]; omega
    have a1 : (s.extract 0 i).size = i := by rw [ByteArray.size_extract]; omega
    have a2 : (s.extract i s.size).size = s.size - i := by rw [ByteArray.size_extract]; omega
    have a3 : (s.extract (i + 1) s.size).size = s.size - (i + 1) := by rw [ByteArray.size_extract]; omega
    clear p1 q1 p2 q2
    go_wp2_with fail
    refine (pickD 3 HD.out (by omega)).mono ?_; rintro e w3 ⟨x3, rfl, p3, q3, hD, hg⟩
    replace HD := hide hD; clear hD hg
    generalize (q.extract j q.size).extract 0 1 = c at *
    have b1 : ¬ 9223372036854775807 < (s.extract 0 i).size + c.size := by omega
    have b2 : ¬ 9223372036854775807 < (s.extract 0 i).size + c.size + (s.extract i s.size).size := by omega
    have b3 : ¬ 9223372036854775807 < (s.extract 0 i).size + c.size + (s.extract (i + 1) s.size).size := by omega
    have b4 : ¬ 9223372036854775807 < (s.extract 0 i).size + (s.extract (i + 1) s.size).size := by omega
    have d1 : (s.extract 0 i ++ c ++ s.extract i s.size).size ≤ s.size + 1 := by rw [ByteArray.size_append, ByteArray.size_append]; omega
    have d2 : (s.extract 0 i ++ c ++ s.extract (i + 1) s.size).size ≤ s.size + 1 := by rw [ByteArray.size_append, ByteArray.size_append]; omega
    have d3 : (s.extract 0 i ++ s.extract (i + 1) s.size).size ≤ s.size + 1 := by rw [ByteArray.size_append]; omega
    have D1 := hide d1; have D2 := hide d2; have D3 := hide d3; clear d1 d2 d3
    have hx : x3 = 0 ∨ x3 = 1 ∨ x3 = 2 := by omega
    clear p3 q3
    rcases hx with rfl | rfl | rfl
    · go_wp2_with fail
      go_region
      all_goals
        go_wp2_with fail
        go_ret
        exact ⟨_, rfl, D1.out, ⟨((HD.out.drew).le (by omega)).cur, grownTrans HD0.out.gr HD.out.drew.gr, HD0.out.hb⟩, HD.out.drew.gr⟩
    · go_wp2_with fail
      go_region
      all_goals
        go_wp2_with fail
        go_ret
        exact ⟨_, rfl, D2.out, ⟨((HD.out.drew).le (by omega)).cur, grownTrans HD0.out.gr HD.out.drew.gr, HD0.out.hb⟩, HD.out.drew.gr⟩
    · go_wp2_with fail
      go_region
      all_goals
        go_wp2_with fail
        go_ret
        exact ⟨_, rfl, D3.out, ⟨((HD.out.drew).le (by omega)).cur, grownTrans HD0.out.gr HD.out.drew.gr, HD0.out.hb⟩, HD.out.drew.gr⟩
end Go.Proofs.YtplemibckjnbhaaGreatDoor
