/- Contract of StretchOf in spec: the Lean function stV. No condition. -/
import Derived.Test.YtplemibckjnbhaaDoorL4L
import Derived.IntWalk
namespace Go.Proofs.YtplemibckjnbhaaDoor
open Go.RowKit
set_option linter.unusedVariables false
theorem l2Reduce4_any (n d : Int) (w : World) (h0 : 0 ≤ n) (h1 : n ≤ 2199023255552) (h2 : 1 ≤ d) (h3 : d ≤ 2199023255552) :
    Calls Tryd.prog 81 #[.int .i64 n, .int .i64 d] w fun e w' => e = .returned (.tuple #[.int .i64 (frac n d).1, .int .i64 (frac n d).2]) ∧ Below w.heap.size w w' := by
  have hp := gcdI_pos (a := n) (b := d) (by omega)
  have hgi : (Int.gcd n d : Int) = gcdI n d := by rw [← gcdI_abs, show max n (-n) = n by omega, show max d (-d) = d by omega]
  unfold frac
  rw [hgi]
  clear hgi
  have q1 := Int.ediv_nonneg h0 (show 0 ≤ gcdI n d by omega)
  have q2 := Int.ediv_nonneg (show 0 ≤ d by omega) (show 0 ≤ gcdI n d by omega)
  have q3 := Int.ediv_le_self (gcdI n d) h0
  have q4 := Int.ediv_le_self (gcdI n d) (show 0 ≤ d by omega)
  generalize hg : gcdI n d = g at hp q1 q2 q3 q4 ⊢
  have HG := hide hg; clear hg
  have hg0 : ¬ g = 0 := by omega
  have hmost : max n (-n) = n := by omega
  go_enter Tryd.func81, Tryd.ntmps81
  go_wp2_with fail
  refine (l1Most_any _ _ _).mono ?_; rintro e w' ⟨rfl, rfl⟩
  rw [hmost]
  clear hmost
  go_wp2_with fail
  go_loopw [6, 7] (fun p q wr => ∃ x y : Int, p = .int .i64 x ∧ q = .int .i64 y ∧ 0 ≤ x ∧ x ≤ 2199023255552 ∧ 0 ≤ y ∧ y ≤ 2199023255552 ∧ Hid (gcdI x y = g) ∧ Below w.heap.size w wr) (fun _ q _ => (intOf q).toNat)
  case atStart => exact ⟨n, d, rfl, rfl, h0, h1, by omega, h3, HG, Below.refl _ _⟩
  case round =>
    obtain ⟨x, y, rfl, rfl, x0, x1, y0, y1, HX, hbel⟩ := hrel
    by_cases hy : y = 0
    · subst hy
      have hx := HX.out
      rw [gcdI_zero x0] at hx
      subst hx
      go_wp2_with fail
      go_region
      all_goals
        go_wp2_with fail
        go_ret2
        exact ⟨rfl, hbel.drew⟩
    · have hm := Int.emod_nonneg x hy
      have hm2 := Int.emod_lt_of_pos x (show 0 < y by omega)
      have hst := gcdI_step x0 (show 0 < y by omega)
      rw [HX.out] at hst
      have HST := hide hst; clear hst
      go_wp2_with fail
      refine ⟨⟨y, x % y, rfl, rfl, y0, y1, hm, by omega, HST, hbel⟩, by simp [intOf]; omega⟩
set_option maxHeartbeats 1000000 in
theorem StretchOfS_is (v : Value) (xs : List STurn) (w : World) (h : Is 5 STurn.enc w v xs) :
    Calls Tryd.prog 33 #[v] w fun e w' => e = .returned (.tuple #[.int .i64 (stV xs).1.1, .int .i64 (stV xs).1.2.1, .int .i64 (stV xs).1.2.2, .bool (stV xs).2]) ∧ Below w.heap.size w w' := by
  have hm := h.len
  have hv : stV xs = if chainB xs then (strV xs, true) else ((0, 0, 0), false) := rfl
  have hch := fun W hw => l4Chain_is v xs W hw
  have hall := fun (hc : chainB xs = true) => chainB_iff.1 hc
  generalize stV xs = tv at *
  generalize chainB xs = c at *
  have HCH := hide hch; have HALL := hide hall; have HI := hide h; clear hch hall h
  generalize hB : w.heap.size = B
  go_enter Tryd.func33, Tryd.ntmps33
  go_wp2_with fail
  refine (HCH.out _ HI.out).mono ?_; rintro e w1 ⟨rfl, hb1⟩
  have hi1 := HI.out.below hb1 (Nat.le_refl _)
  have B1 : Below B w w1 := by rw [← hB]; exact hb1
  have hs1 := hb1.size
  have HI1 := hide hi1; have HB1 := hide B1; clear hi1 B1 hb1
  cases c with
  | false =>
    have HV := hide hv; clear hv
    go_wp2_with fail
    (try simp only [Exit.inBlock, Exit.then]); refine bodyPost_ret (results_tmp4_d rfl _ _ _) rfl ?_
    exact ⟨by first | (rw [HV.out]; rfl) | rw [HV.out], HB1.out⟩
  | true =>
    simp only [if_true] at hv
    have HV := hide hv; clear hv
    obtain ⟨hok, hl⟩ := HALL.out (by trivial)
    have HOK := hide hok; clear hok HALL HCH
    obtain ⟨A, cap, rfl, hr, _, _⟩ := HI.out
    rw [hB] at hr
    have HR := hide hr; have HSB := hide hB; clear hr HI1
    go_wp2_with fail
    go_loopw [6, 7, 8, 9] (fun p q r i wr => ∃ k : Nat, k ≤ xs.length ∧ i = .int .i64 (k : Int) ∧ p = .int .i64 (qV (xs.take k) % 4) ∧ q = .int .i64 (numV (xs.take k)) ∧ r = .int .i64 (denV (xs.take k)) ∧ Below B w wr) (fun _ _ _ i _ => xs.length - (intOf i).toNat)
    case atStart => exact ⟨0, Nat.zero_le _, rfl, by simp [qV], by simp [numV], by simp [denV], HB1.out⟩
    case round =>
      clear HB1
      obtain ⟨k, hk, rfl, rfl, rfl, rfl, hbel⟩ := hrel
      have hqb := qV_bd HOK.out k hk
      have hat := all_take HOK.out k
      have hnb := numV_bound hat; have hdb := denV_bound hat
      have hlk : (xs.take k).length = k := List.length_take_of_le hk
      have h20 := (bX_le4 k (by omega)).2
      rw [hlk] at hnb hdb
      by_cases hlt : k < xs.length
      · have hlt' : (k : Int) < xs.length := by omega
        obtain ⟨b, off, rfl, hb, c0, c1, c2, c3, c4⟩ := STurn.cells HR.out hlt hbel
        have hot := HOK.out _ (List.getElem_mem hlt)
        have hsn : numV (xs.take (k + 1)) = numV (xs.take k) * xs[k].num := by rw [take_snoc' hlt, numV_snoc]
        have hsd : denV (xs.take (k + 1)) = denV (xs.take k) * xs[k].den := by rw [take_snoc' hlt, denV_snoc]
        have hsq : qV (xs.take (k + 1)) = qV (xs.take k) + xs[k].q := by rw [take_snoc' hlt, qV_snoc]
        have hmn := mul_bound (x := numV (xs.take k)) (m := xs[k].num) (c := 160000) ⟨by omega, by omega⟩ ⟨by have := hot.2.2.1; omega, hot.2.2.2.1⟩
        have hmd := mul_bound (x := denV (xs.take k)) (m := xs[k].den) (c := 160000) ⟨by omega, by omega⟩ ⟨by have := hot.2.2.2.2.1; omega, hot.2.2.2.2.2.1⟩
        obtain ⟨q0, q1, -⟩ := hot
        generalize numV (xs.take k) = n at *; generalize denV (xs.take k) = d at *; generalize qV (xs.take k) = qk at *
        have HN := hide hsn; have HD := hide hsd; have HQ := hide hsq; clear hsn hsd hsq
        generalize xs[k].q = y0 at *; generalize xs[k].num = y1 at *; generalize xs[k].den = y2 at *; generalize xs[k].e = y3 at *; generalize xs[k].n = y4 at *
        obtain ⟨mn1, mn2⟩ := hmn; obtain ⟨md1, md2⟩ := hmd
        have r0 : 0 ≤ qk % 4 := by omega
        have r1 : qk % 4 ≤ 3 := by omega
        have hmod : (qk % 4 + y0) % 4 = (qk + y0) % 4 := by omega
        have HM := hide hmod; clear hmod
        generalize qk % 4 = qm at *
        clear hat hnb hdb
        go_wp2_with fail
        go_round
        case measure => simp [intOf]; omega
        case rel => exact ⟨k + 1, by omega, by go_num, by rw [HQ.out, ← HM.out], by rw [HN.out], by rw [HD.out], hbel⟩
      · have hkn : k = xs.length := by omega
        subst hkn
        have HV2 := HV.out
        unfold strV at HV2
        simp only [List.take_length] at *
        have cr := fun W => l2Reduce4_any (numV xs) (denV xs) W (by omega) (by omega) (by omega) (by omega)
        generalize qV xs % 4 = qk at *
        generalize frac (numV xs) (denV xs) = ff at *
        obtain ⟨g1, g2⟩ := ff
        have HV := hide HV2; have CR := hide cr; clear HV2 cr
        have HBL := hide hbel
        have hbs : B ≤ wr.heap.size := by have h7 := hbel.size; rw [HSB.out] at h7; exact h7
        go_wp2_with fail
        refine (CR.out _).mono ?_; rintro e w4 ⟨rfl, hb4⟩
        have HB5 := hide (HBL.out.trans (hb4.mono hbs)); clear hb4
        go_wp2_with fail
        (try simp only [Exit.inBlock, Exit.then]); refine bodyPost_ret (results_tmp4_d rfl _ _ _) rfl ?_
        exact ⟨by rw [HV.out]; rfl, HB5.out⟩
end Go.Proofs.YtplemibckjnbhaaDoor
