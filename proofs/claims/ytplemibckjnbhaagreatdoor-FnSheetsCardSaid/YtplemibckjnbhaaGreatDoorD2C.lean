/- The drawing of a sheet's id and of a scale, and the drawing functions of FnNeighbors. No condition beyond a cursor that has stepped less than 2^60 times. (Printed by mksheet8.py.) -/
import Derived.Test.YtplemibckjnbhaaGreatDoorD2B
namespace Go.Proofs.YtplemibckjnbhaaGreatDoor
open Go.RowKit
set_option linter.unusedVariables false
set_option maxHeartbeats 2000000 in
theorem scaleOf_is (w0 w : World) (base g k : Nat) (A : Option Addr) (cap : Nat) (code : List Int) (hD : DS w0 base g A cap code k w) (b : Nat) (v : Value) (xs : List SSheet) (hO : Own 5 SSheet.enc 50 w b v xs) (hf : ∀ z ∈ xs, z.Fit) (hl : xs.length ≤ 1000) (hk : k + 10 < 2305843009213693952) :
    Calls Tryz.prog 85 #[.pointer (some ⟨g, 0, none⟩), v] w fun e w' => ∃ x : Int, e = .returned (.int .i64 x) ∧ (-100000 ≤ x ∧ x ≤ 100000) ∧ DS w0 base g A cap code (k + 10) w' ∧ w.grownBy w' (some g) := by
  have hgw := hD.lt
  have HD0 := hide hD
  have HFI := hide hf
  have HD := hide (DS.start hD.cur hD.sz); clear hD hf
  obtain ⟨A7, c7, rfl, _, _, _⟩ := hO.is
  have HO := hide hO; clear hO
  go_enter Tryz.func85, Tryz.ntmps85
  by_cases hz : xs.length = 0
  · have hz1 : (xs.length : Int) = 0 := by omega
    rw [hz]
    clear hz hz1 HO
    go_wp2_with fail
    refine (amongD [25, 50, 9, 501] HD.out (by rfl) (by rfl) (by rfl) (by simp) (by simp) (by omega)).mono ?_; rintro e w1 ⟨x1, rfl, hm, hD, hg⟩
    replace HD := hide hD; clear hD hg
    have b1 := (by decide : ∀ x ∈ ([25, 50, 9, 501] : List Int), 0 ≤ x ∧ x ≤ 501) _ hm; clear hm
    obtain ⟨q0, q1⟩ := b1
    go_wp2_with fail
    go_ret
    exact ⟨_, rfl, ⟨by omega, by omega⟩, ⟨(HD.out.le (by omega)).cur, grownTrans HD0.out.gr HD.out.gr, HD0.out.hb⟩, HD.out.gr⟩
  · have hz1 : ¬ (xs.length : Int) = 0 := by omega
    have hz2 : ((xs.length : Int) == 0) = false := by simpa using hz1
    go_wp2_with fail
    refine (oneD 10 HD.out (by omega)).mono ?_; rintro e w1 ⟨x1, rfl, hD, hg⟩
    replace HO := hide (HD.out.own HO.out hg (by decide))
    replace HD := hide hD; clear hD hg
    cases x1 with
    | true =>
      clear HO
      go_wp2_with fail
      refine (amongD [25, 50, 9, 501] HD.out (by rfl) (by rfl) (by rfl) (by simp) (by simp) (by omega)).mono ?_; rintro e w2 ⟨x2, rfl, hm, hD, hg⟩
      replace HD := hide hD; clear hD hg
      have b2 := (by decide : ∀ x ∈ ([25, 50, 9, 501] : List Int), 0 ≤ x ∧ x ≤ 501) _ hm; clear hm
      obtain ⟨q0, q1⟩ := b2
      go_wp2_with fail
      go_ret
      exact ⟨_, rfl, ⟨by omega, by omega⟩, ⟨(HD.out.le (by omega)).cur, grownTrans HD0.out.gr HD.out.gr, HD0.out.hb⟩, HD.out.gr⟩
    | false =>
      go_wp2_with fail
      refine (pickD (xs.length : Int) HD.out (by omega)).mono ?_; rintro e w2 ⟨x2, rfl, p2, q2, hD, hg⟩
      replace HO := hide (HD.out.own HO.out hg (by decide))
      replace HD := hide hD; clear hD hg
      obtain ⟨q, rfl⟩ : ∃ q : Nat, x2 = (q : Int) := ⟨x2.toNat, by omega⟩
      have hq : q < xs.length := by omega
      have hq' : (q : Int) < xs.length := by omega
      obtain ⟨A8, c8, he8, hr8, _, _⟩ := HO.out.is
      injection he8 with e1 e2 e3; subst e1 e3; clear e2
      obtain ⟨b8, off8, rfl, _, _, _, _, f3, _⟩ := SSheet.cells hr8 hq (Below.refl _ _)
      clear hr8
      have hfq := HFI.out _ (List.getElem_mem hq)
      have hbq : -100000 ≤ xs[q].scale ∧ xs[q].scale ≤ 100000 := by obtain ⟨h0, h1, h2, h3, h4⟩ := hfq; omega
      clear hfq
      generalize xs[q].scale = y0 at *
      go_wp2_with fail
      go_ret
      exact ⟨_, rfl, hbq, ⟨(HD.out.le (by omega)).cur, grownTrans HD0.out.gr HD.out.gr, HD0.out.hb⟩, HD.out.gr⟩
theorem results_tmp2_s {fn : Func} {t u : Tmp} (h : fn.results = #[.tmp t, .tmp u]) (tmps : Array Value) (P : Program) (w : World) :
    (results fn tmps).run P w = .ok (.tuple #[tmps.getD t undef, tmps.getD u undef]) w := by
  simp [results, h]
end Go.Proofs.YtplemibckjnbhaaGreatDoor
