/- Contracts of SameChains in impl and spec and of StretchOf in impl: the Lean functions scV and stV. No condition. -/
import Derived.Test.YtplemibckjnbhaaDoorL4J
import Derived.Test.YtplemibckjnbhaaDoorDr
namespace Go.Proofs.YtplemibckjnbhaaDoor
open Go.RowKit
set_option linter.unusedVariables false
def sameS (a b c d e f : Int) : Bool := decide (a = d ∧ b = e ∧ c = f)
theorem sameS_iff {a b c d e f : Int} : sameS a b c d e f = true ↔ a = d ∧ b = e ∧ c = f := decide_eq_true_iff
def sameP (s u : SSpot) : Bool := sameS s.x s.y s.den u.x u.y u.den
theorem sameP_iff {s u : SSpot} : sameP s u = true ↔ s = u := by
  unfold sameP
  rw [sameS_iff]
  constructor
  · rintro ⟨h1, h2, h3⟩; exact SSpot.ext' h1 h2 h3
  · rintro rfl; exact ⟨rfl, rfl, rfl⟩
theorem SSpot.eql_run (a b c d e f : Int) (w : World) : (binOp .eql 38 (.agg #[.int .i64 a, .int .i64 b, .int .i64 c]) (.agg #[.int .i64 d, .int .i64 e, .int .i64 f])).run Tryd.prog w = .ok (.bool (sameS a b c d e f)) w := by
  unfold sameS
  have u3 := Tryd.underlying3
  have hS : Tryd.prog.underlying 38 = some (.struct (Tryd.prog.fieldsOf 38)) := by kernel_rfl
  have hp : Tryd.prog.stoodInHeld 38 = false := by kernel_rfl
  rw [run_eql_struct, show (10000 : Nat) = 9999 + 1 from rfl, run_equalIn_agg w 9999 38 _ _ hS hp]
  simp only [Program.fieldsOf, Tryd.underlying38]
  go_simp
  by_cases h1 : a = d <;> by_cases h2 : b = e <;> by_cases h3 : c = f <;> simp [h1, h2, h3]
theorem SSpot.neq_run (a b c d e f : Int) (w : World) : (binOp .neq 38 (.agg #[.int .i64 a, .int .i64 b, .int .i64 c]) (.agg #[.int .i64 d, .int .i64 e, .int .i64 f])).run Tryd.prog w = .ok (.bool (!sameS a b c d e f)) w := by
  unfold sameS
  have u3 := Tryd.underlying3
  have hS : Tryd.prog.underlying 38 = some (.struct (Tryd.prog.fieldsOf 38)) := by kernel_rfl
  have hp : Tryd.prog.stoodInHeld 38 = false := by kernel_rfl
  rw [run_neq_struct, show (10000 : Nat) = 9999 + 1 from rfl, run_equalIn_agg w 9999 38 _ _ hS hp]
  simp only [Program.fieldsOf, Tryd.underlying38]
  go_simp
  by_cases h1 : a = d <;> by_cases h2 : b = e <;> by_cases h3 : c = f <;> simp [h1, h2, h3]
def scV (xa xb : List STurn) : Bool × Bool := if chainB xa && chainB xb then (sameP (goV xa ⟨0, 0, 1⟩) (goV xb ⟨0, 0, 1⟩) && sameP (goV xa ⟨1, 0, 1⟩) (goV xb ⟨1, 0, 1⟩), true) else (false, false)
theorem fraction4_any (n d : Int) (w : World) (h0 : 0 ≤ n) (h1 : n ≤ 2199023255552) (h2 : 1 ≤ d) (h3 : d ≤ 2199023255552) :
    Calls Tryd.prog 79 #[.int .i64 n, .int .i64 d] w fun e w' => e = .returned (.tuple #[.int .i64 (frac n d).1, .int .i64 (frac n d).2]) ∧ Below w.heap.size w w' := by
  have hgi : (Int.gcd n d : Int) = gcdI n d := by rw [← gcdI_abs, show max n (-n) = n by omega, show max d (-d) = d by omega]
  have hp := gcdI_pos (a := n) (b := d) (by omega)
  have hcall := fun W => gcd_any n d W h0 (by omega) h1 h3
  unfold frac
  rw [hgi]
  clear hgi
  have q1 := Int.ediv_nonneg h0 (show 0 ≤ gcdI n d by omega)
  have q2 := Int.ediv_nonneg (show 0 ≤ d by omega) (show 0 ≤ gcdI n d by omega)
  have q3 := Int.ediv_le_self (gcdI n d) h0
  have q4 := Int.ediv_le_self (gcdI n d) (show 0 ≤ d by omega)
  generalize gcdI n d = g at hp hcall q1 q2 q3 q4 ⊢
  have HC := hide hcall; clear hcall
  have hab := fun W => absI_any n W (by omega) h1
  rw [show max n (-n) = n by omega] at hab
  have HAB := hide hab; clear hab
  have hg0 : ¬ g = 0 := by omega
  go_enter Tryd.func79, Tryd.ntmps79
  go_wp2_with fail
  refine (HAB.out w).mono ?_; rintro e w' ⟨rfl, rfl⟩
  go_wp2_with fail
  refine (HC.out _).mono ?_; rintro e w1 ⟨rfl, hb1⟩
  go_wp2_with fail
  go_region
  all_goals
    go_wp2_with fail
    go_ret2
    exact ⟨rfl, hb1.drew⟩
def stV (xs : List STurn) : (Int × Int × Int) × Bool := if chainB xs then (strV xs, true) else ((0, 0, 0), false)
theorem all_take {xs : List STurn} (h : ∀ t ∈ xs, t.ok) (k : Nat) : ∀ t ∈ xs.take k, t.ok := fun t ht => h t (List.mem_of_mem_take ht)
theorem qV_bd {xs : List STurn} (h : ∀ t ∈ xs, t.ok) : ∀ k, k ≤ xs.length → 0 ≤ qV (xs.take k) ∧ qV (xs.take k) ≤ 3 * (k : Int)
  | 0, _ => by simp [qV]
  | k + 1, hk => by
    rw [take_snoc' (by omega), qV_snoc]
    have := qV_bd h k (by omega)
    have ht := h _ (List.getElem_mem (show k < xs.length by omega))
    have h1 := ht.1; have h2 := ht.2.1
    omega
set_option maxHeartbeats 1000000 in
theorem StretchOf_is (v : Value) (xs : List STurn) (w : World) (h : Is 5 STurn.enc w v xs) :
    Calls Tryd.prog 32 #[v] w fun e w' => e = .returned (.tuple #[.int .i64 (stV xs).1.1, .int .i64 (stV xs).1.2.1, .int .i64 (stV xs).1.2.2, .bool (stV xs).2]) ∧ Below w.heap.size w w' := by
  have hm := h.len
  have hv : stV xs = if chainB xs then (strV xs, true) else ((0, 0, 0), false) := rfl
  have hch := fun W hw => isChain_is v xs W hw
  have hall := fun (hc : chainB xs = true) => chainB_iff.1 hc
  generalize stV xs = tv at *
  generalize chainB xs = c at *
  have HCH := hide hch; have HALL := hide hall; have HI := hide h; clear hch hall h
  generalize hB : w.heap.size = B
  go_enter Tryd.func32, Tryd.ntmps32
  go_wp2_with fail
  refine (HCH.out _ HI.out).mono ?_; rintro e w1 ⟨rfl, hb1⟩
  have hi1 := HI.out.below hb1 (Nat.le_refl _)
  have B1 : Below B w w1 := by rw [← hB]; exact hb1
  have hs1 := hb1.size
  have HI1 := hide hi1; have HB1 := hide B1; clear hi1 B1 hb1
  cases c with
  | false =>
    have HV := hide hv; clear hv
    go_wp2_with fail
    (try simp only [Exit.inBlock, Exit.then]); refine bodyPost_ret (results_tmp4_d rfl _ _ _) rfl ?_
    exact ⟨by first | (rw [HV.out]; rfl) | rw [HV.out], HB1.out⟩
  | true =>
    simp only [if_true] at hv
    have HV := hide hv; clear hv
    obtain ⟨hok, hl⟩ := HALL.out (by trivial)
    have HOK := hide hok; clear hok HALL HCH
    obtain ⟨A, cap, rfl, hr, _, _⟩ := HI1.out
    have HR := hide hr; clear hr HI1
    generalize hG : w1.heap.size = G at *
    have HG := hide hG
    go_wp2_with fail
    go_loopw [6, 7, 8, 16] (fun p q r i wr => ∃ k : Nat, k ≤ xs.length ∧ i = .int .i64 (k : Int) ∧ p = .int .i64 (qV (xs.take k)) ∧ q = .int .i64 (frac (numV (xs.take k)) (denV (xs.take k))).1 ∧ r = .int .i64 (frac (numV (xs.take k)) (denV (xs.take k))).2 ∧ Row 5 STurn.enc wr G A xs ∧ G ≤ wr.heap.size ∧ Below B w wr) (fun _ _ _ i _ => xs.length - (intOf i).toNat)
    case atStart => exact ⟨0, Nat.zero_le _, rfl, by simp [qV], by simp [numV, denV, frac], by simp [numV, denV, frac], HR.out, by omega, HB1.out⟩
    case round =>
      clear HR HB1
      obtain ⟨k, hk, rfl, rfl, rfl, rfl, hrow, hsz, hbel⟩ := hrel
      have hqb := qV_bd HOK.out k hk
      by_cases hlt : k < xs.length
      · have hlt' : (k : Int) < xs.length := by omega
        obtain ⟨b, off, rfl, hb, c0, c1, c2, c3, c4⟩ := STurn.cells hrow hlt (Below.refl _ _)
        have hot := HOK.out _ (List.getElem_mem hlt)
        have hat := all_take HOK.out k
        have hnp := numV_pos hat; have hdp := denV_pos hat
        have hnb := numV_bound hat; have hdb := denV_bound hat
        have hlk : (xs.take k).length = k := List.length_take_of_le hk
        have h20 := (bX_le k (by omega)).2
        rw [hlk] at hnb hdb
        have hfp := frac_pos hnp hdp
        have hst := frac_step hnp hdp (show 0 < xs[k].num by have := hot.2.2.1; omega) (show 0 < xs[k].den by have := hot.2.2.2.2.1; omega)
        have hsn : numV (xs.take (k + 1)) = numV (xs.take k) * xs[k].num := by rw [take_snoc' hlt, numV_snoc]
        have hsd : denV (xs.take (k + 1)) = denV (xs.take k) * xs[k].den := by rw [take_snoc' hlt, denV_snoc]
        have hsq : qV (xs.take (k + 1)) = qV (xs.take k) + xs[k].q := by rw [take_snoc' hlt, qV_snoc]
        rw [← hsn, ← hsd] at hst
        have hq2 := qV_bd HOK.out (k + 1) (by omega)
        rw [hsq] at hq2
        have hmn := mul_bound (x := (frac (numV (xs.take k)) (denV (xs.take k))).1) (m := xs[k].num) (c := 8000) ⟨by omega, by omega⟩ ⟨by have := hot.2.2.1; omega, hot.2.2.2.1⟩
        have hmd := mul_bound (x := (frac (numV (xs.take k)) (denV (xs.take k))).2) (m := xs[k].den) (c := 8000) ⟨by omega, by omega⟩ ⟨by have := hot.2.2.2.2.1; omega, hot.2.2.2.2.2.1⟩
        have hmn1 : 1 ≤ (frac (numV (xs.take k)) (denV (xs.take k))).1 * xs[k].num := Int.mul_pos (by omega) (by have := hot.2.2.1; omega)
        have hmd1 : 1 ≤ (frac (numV (xs.take k)) (denV (xs.take k))).2 * xs[k].den := Int.mul_pos (by omega) (by have := hot.2.2.2.2.1; omega)
        have hcall := fun W => fraction4_any _ _ W (Int.le_trans (by omega) hmn1) (by omega) hmd1 (by omega)
        rw [hst] at hcall
        have HSQ := hide hsq; have HC := hide hcall
        clear hsn hsd hsq hst hcall hnb hdb hnp hdp hfp
        generalize (frac (numV (xs.take k)) (denV (xs.take k))).1 = f1 at *; generalize (frac (numV (xs.take k)) (denV (xs.take k))).2 = f2 at *
        generalize hF : frac (numV (xs.take (k + 1))) (denV (xs.take (k + 1))) = ff at *
        generalize qV (xs.take k) = qk at *
        generalize xs[k].q = y0 at *; generalize xs[k].num = y1 at *; generalize xs[k].den = y2 at *; generalize xs[k].e = y3 at *; generalize xs[k].n = y4 at *
        obtain ⟨g1, g2⟩ := ff
        simp only at *
        have HF := hide hF; clear hF hot hat
        obtain ⟨mn1, mn2⟩ := hmn; obtain ⟨md1, md2⟩ := hmd; obtain ⟨q1, q2⟩ := hq2
        have J2 := Blk.new wr 35 #[.int .i64 y0, .int .i64 y1, .int .i64 y2, .int .i64 y3, .int .i64 y4]
        have J1 := hrow.below (below_alloc wr (.cells #[.int .i64 y0, .int .i64 y1, .int .i64 y2, .int .i64 y3, .int .i64 y4] 35)) hsz (Nat.le_refl _)
        have J3 := hbel.alloc (show B ≤ wr.heap.size by omega) (.cells #[.int .i64 y0, .int .i64 y1, .int .i64 y2, .int .i64 y3, .int .i64 y4] 35)
        clear hbel
        go_upto_region 7 with fail
        have hs5 : (wr.alloc (.cells #[.int .i64 y0, .int .i64 y1, .int .i64 y2, .int .i64 y3, .int .i64 y4] 35)).heap.size = wr.heap.size + 1 := by simp
        clear c0 c1 c2 c3 c4
        generalize wr.alloc (.cells #[.int .i64 y0, .int .i64 y1, .int .i64 y2, .int .i64 y3, .int .i64 y4] 35) = W5 at *
        generalize wr.heap.size = G5 at *
        obtain ⟨c0, c1, c2, c3, c4⟩ := turn5 J2
        have HJ1 := hide J1; have HJ3 := hide J3; clear J1 J2 J3 hrow
        go_wp2_with fail
        refine (HC.out _).mono ?_; rintro e w4 ⟨rfl, hb4⟩
        have K1 := HJ1.out.below hb4 (by omega) (Nat.le_refl _)
        have K3 := bstep HJ3.out hb4 (by omega)
        have hs6 := hb4.size
        have HK1 := hide K1; have HK3 := hide K3; clear K1 K3 hb4
        clear c0 c1 c2 c3 c4
        go_wp2_with fail
        exact ⟨⟨k + 1, by omega, by go_num, by rw [HSQ.out], by rw [HF.out], by rw [HF.out], HK1.out, by omega, HK3.out⟩, by simp [intOf]; omega⟩
      · have hkn : k = xs.length := by omega
        subst hkn
        have HV2 := HV.out
        unfold strV at HV2
        rw [List.take_length] at hqb
        simp only [List.take_length]
        obtain ⟨q1, q2⟩ := hqb
        generalize qV xs = qk at *
        generalize frac (numV xs) (denV xs) = ff at *
        obtain ⟨g1, g2⟩ := ff
        simp only at *
        have HV := hide HV2; clear HV2
        have HBL := hide hbel; clear hbel hrow
        go_wp2_with fail
        (try simp only [Exit.inBlock, Exit.then]); refine bodyPost_ret (results_tmp4_d rfl _ _ _) rfl ?_
        exact ⟨by rw [HV.out]; rfl, HBL.out⟩
end Go.Proofs.YtplemibckjnbhaaDoor
