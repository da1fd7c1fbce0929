/- Contracts of SpotText in impl and spec: the Lean function spotT. Condition: the table of powers of ten is laid, for impl's. (Printed by mkspott.py.) -/
import Derived.Test.YtplemibckjnbhaaDoorL4M
import Derived.Test.YtplemibckjnbhaaDoorLsT
namespace Go.Proofs.YtplemibckjnbhaaDoor
open Go.RowKit
set_option linter.unusedVariables false
/-- the text of a spot, and whether there is one -/
def spotT (s : SSpot) : ByteArray × Bool := if spotB s then (if s.den = 1 then numS s.x ++ ⟨#[44]⟩ ++ numS s.y else numS s.x ++ ⟨#[44]⟩ ++ numS s.y ++ (⟨#[47]⟩ ++ numS s.den), true) else (⟨#[]⟩, false)
theorem ret_spt {s : SSpot} {t : ByteArray} {b : Bool} (h : spotT s = (t, b)) : Ending.returned (.tuple #[.string t, .bool b]) = .returned (.tuple #[.string (spotT s).1, .bool (spotT s).2]) := by rw [h]
theorem same_low {x y d : Int} (h : 1 ≤ d) : sameS (low ⟨x, y, d⟩).x (low ⟨x, y, d⟩).y (low ⟨x, y, d⟩).den x y d = decide (lowD ⟨x, y, d⟩ = 1) := by
  rw [Bool.eq_iff_iff, sameS_iff, decide_eq_true_iff, ← low_is (s := ⟨x, y, d⟩) h]
  constructor
  · rintro ⟨h1, h2, h3⟩; exact SSpot.ext' h1 h2 h3
  · intro e; rw [e]; exact ⟨rfl, rfl, rfl⟩
set_option maxHeartbeats 4000000 in
theorem SpotTextI_is (x y d : Int) (w : World) (ht : Tab w) :
    Calls Tryd.prog 35 #[.agg #[.int .i64 x, .int .i64 y, .int .i64 d]] w fun e w' => e = .returned (.tuple #[.string (spotT ⟨x, y, d⟩).1, .bool (spotT ⟨x, y, d⟩).2]) ∧ Below w.heap.size w w' := by
  have B1 := below_alloc w (.cells #[.int .i64 x, .int .i64 y, .int .i64 d] 38)
  have hT := ht.alloc (.cells #[.int .i64 x, .int .i64 y, .int .i64 d] 38)
  have K := Blk.new w 38 #[.int .i64 x, .int .i64 y, .int .i64 d]
  have hno : spotB ⟨x, y, d⟩ = false → spotT ⟨x, y, d⟩ = (⟨#[]⟩, false) := fun h => by unfold spotT; rw [h]; rfl
  have hyes : spotB ⟨x, y, d⟩ = true → spotT ⟨x, y, d⟩ = (if d = 1 then numS x ++ ⟨#[44]⟩ ++ numS y else numS x ++ ⟨#[44]⟩ ++ numS y ++ (⟨#[47]⟩ ++ numS d), true) := fun h => by unfold spotT; rw [h]; rfl
  have hsb : spotB ⟨x, y, d⟩ = (inB x (-2000000000000) 2000000000000 && (inB y (-2000000000000) 2000000000000 && (inB d 1 160000 && decide (lowD ⟨x, y, d⟩ = 1)))) := rfl
  have hr1 := @inB_iff x (-2000000000000) 2000000000000
  have hr2 := @inB_iff y (-2000000000000) 2000000000000
  have hr3 := @inB_iff d 1 160000
  generalize hw1 : w.alloc (.cells #[.int .i64 x, .int .i64 y, .int .i64 d] 38) = w1 at *
  have hs1 : w.heap.size < w1.heap.size := by rw [← hw1]; simp
  generalize hgm : w.heap.size = B at *
  have hqx := fun W => within_any x (-2000000000000) 2000000000000 W
  cases hcx : inB x (-2000000000000) 2000000000000 with
  | false =>
    rw [hcx] at hqx
    have Qx := hide hqx; clear hqx
    have hx := hno (by rw [hsb]; simp [*])
    have HX := hide hx; have HK := hide K; have HB := hide B1; clear hx hno hyes hsb K B1 hr1 hr2 hr3
    go_enter Tryd.func35, Tryd.ntmps35
    go_upto_region 1 with fail
    (try simp only [hgm, hw1])
    clear hw1
    obtain ⟨c0, c1, c2, cf⟩ := spot3 HK.out
    have m0 := fun n => later_cell c0 n; have m1 := fun n => later_cell c1 n; have m2 := fun n => later_cell c2 n
    (refine wp_region_later (by kernel_rfl) (by kernel_rfl) ?_; (repeat (go_big_quiet_step ((first | (go_at_call 61; first | (with_reducible exact later_same (Qx.out _))))))); refine wpQuiet_nil ?_; intro _ hw'; obtain ⟨nq, hw''⟩ := hw'; subst hw'')
    have HB2 := hide (HB.out.trans (nq.h.mono (by omega))); clear m0 m1 m2 c0 c1 c2 cf
    go_wp2_with fail
    go_ret2
    exact ⟨ret_spt HX.out, HB2.out⟩
  | true =>
    rw [hcx] at hqx
    have Qx := hide hqx; clear hqx
    have rx := hr1.1 hcx
    have hqy := fun W => within_any y (-2000000000000) 2000000000000 W
    cases hcy : inB y (-2000000000000) 2000000000000 with
    | false =>
      rw [hcy] at hqy
      have Qy := hide hqy; clear hqy
      have hx := hno (by rw [hsb]; simp [*])
      have HX := hide hx; have HK := hide K; have HB := hide B1; clear hx hno hyes hsb K B1 hr1 hr2 hr3
      go_enter Tryd.func35, Tryd.ntmps35
      go_upto_region 1 with fail
      (try simp only [hgm, hw1])
      clear hw1
      obtain ⟨c0, c1, c2, cf⟩ := spot3 HK.out
      have m0 := fun n => later_cell c0 n; have m1 := fun n => later_cell c1 n; have m2 := fun n => later_cell c2 n
      (refine wp_region_later (by kernel_rfl) (by kernel_rfl) ?_; (repeat (go_big_quiet_step ((first | (go_at_call 61; first | (with_reducible exact later_same (Qx.out _)) | (with_reducible exact later_same (Qy.out _))))))); refine wpQuiet_nil ?_; intro _ hw'; obtain ⟨nq, hw''⟩ := hw'; subst hw'')
      have HB2 := hide (HB.out.trans (nq.h.mono (by omega))); clear m0 m1 m2 c0 c1 c2 cf
      go_wp2_with fail
      go_ret2
      exact ⟨ret_spt HX.out, HB2.out⟩
    | true =>
      rw [hcy] at hqy
      have Qy := hide hqy; clear hqy
      have ry := hr2.1 hcy
      have hqd := fun W => within_any d 1 160000 W
      cases hcd : inB d 1 160000 with
      | false =>
        rw [hcd] at hqd
        have Qd := hide hqd; clear hqd
        have hx := hno (by rw [hsb]; simp [*])
        have HX := hide hx; have HK := hide K; have HB := hide B1; clear hx hno hyes hsb K B1 hr1 hr2 hr3
        go_enter Tryd.func35, Tryd.ntmps35
        go_upto_region 1 with fail
        (try simp only [hgm, hw1])
        clear hw1
        obtain ⟨c0, c1, c2, cf⟩ := spot3 HK.out
        have m0 := fun n => later_cell c0 n; have m1 := fun n => later_cell c1 n; have m2 := fun n => later_cell c2 n
        (refine wp_region_later (by kernel_rfl) (by kernel_rfl) ?_; (repeat (go_big_quiet_step ((first | (go_at_call 61; first | (with_reducible exact later_same (Qx.out _)) | (with_reducible exact later_same (Qy.out _)) | (with_reducible exact later_same (Qd.out _))))))); refine wpQuiet_nil ?_; intro _ hw'; obtain ⟨nq, hw''⟩ := hw'; subst hw'')
        have HB2 := hide (HB.out.trans (nq.h.mono (by omega))); clear m0 m1 m2 c0 c1 c2 cf
        go_wp2_with fail
        go_ret2
        exact ⟨ret_spt HX.out, HB2.out⟩
      | true =>
        rw [hcd] at hqd
        have Qd := hide hqd; clear hqd
        have rd := hr3.1 hcd
        have hl := fun W => lowest_any ⟨x, y, d⟩ W (by show 1 ≤ d; omega) (by show d ≤ _; omega) (by show _ ≤ x ∧ x ≤ _; omega) (by show _ ≤ y ∧ y ≤ _; omega)
        have hsl := same_low (x := x) (y := y) (d := d) (by omega)
        have hN := fun W => SSpot.neq_run (low ⟨x, y, d⟩).x (low ⟨x, y, d⟩).y (low ⟨x, y, d⟩).den x y d W
        simp only [hsl] at hN
        simp only at hl
        generalize low ⟨x, y, d⟩ = v at *
        obtain ⟨vx, vy, vd⟩ := v
        have HL := hide hl; clear hl hsl
        generalize hlo : lowD ⟨x, y, d⟩ = lo at *
        by_cases hl1 : lo = 1
        · have hl2 : decide (lo = 1) = true := decide_eq_true hl1
          rw [hl2] at hN
          have hx := hyes (by rw [hsb]; simp [*])
          have HX := hide hx; have HK := hide K; have HB := hide B1
          have HT := hide hT
          clear hx hno hyes hsb K B1 hr1 hr2 hr3 hT ht
          have z1 := (numS_size x (by omega) (by omega)).2; have z2 := (numS_size y (by omega) (by omega)).2; have z3 := (numS_size d (by omega) (by omega)).2
          have q0 : ¬ 9223372036854775807 < (numS x).size + 1 := by omega
          have q1 : ¬ 9223372036854775807 < (numS x).size + 1 + (numS y).size := by omega
          have q2 : ¬ 9223372036854775807 < 1 + (numS d).size := by omega
          have q3 : ¬ 9223372036854775807 < (numS x).size + 1 + (numS y).size + (1 + (numS d).size) := by omega
          clear z1 z2 z3
          go_enter Tryd.func35, Tryd.ntmps35
          go_upto_region 1 with fail
          (try simp only [hgm, hw1])
          clear hw1
          obtain ⟨c0, c1, c2, cf⟩ := spot3 HK.out
          have m0 := fun n => later_cell c0 n; have m1 := fun n => later_cell c1 n; have m2 := fun n => later_cell c2 n
          (refine wp_region_later (by kernel_rfl) (by kernel_rfl) ?_; (repeat (go_big_quiet_step ((first | (go_at_call 61; first | (with_reducible exact later_same (Qx.out _)) | (with_reducible exact later_same (Qy.out _)) | (with_reducible exact later_same (Qd.out _))) | (go_at_call 57; exact later_call (HL.out _)))))); refine wpQuiet_nil ?_; intro _ hw'; obtain ⟨nq, hw''⟩ := hw'; subst hw'')
          have HB2 := hide (HB.out.trans (nq.h.mono (by omega)))
          replace c0 := later_cell c0 nq; replace c1 := later_cell c1 nq; replace c2 := later_cell c2 nq
          have HT2 := hide (HT.out.later nq)
          clear m0 m1 m2 cf
          generalize nq.W = W2 at *
          have hs2 : B ≤ W2.heap.size := by have := HB2.out.size; omega
          have m0 := fun n => later_cell c0 n; have m1 := fun n => later_cell c1 n; have m2 := fun n => later_cell c2 n
          go_wp2_with fail
          (refine wp_region_later (by kernel_rfl) (by kernel_rfl) ?_; (repeat (go_big_quiet_step ((go_at_call 83; exact later_call (text_is _ _ (by omega) (by omega) (HT2.out.later _)))))); refine wpQuiet_nil ?_; intro _ hw'; obtain ⟨nq, hw''⟩ := hw'; subst hw'')
          have HB3 := hide (HB2.out.trans (nq.h.mono hs2))
          replace c2 := later_cell c2 nq
          have HT3 := hide (HT2.out.later nq)
          clear m0 m1 m2 c0 c1
          generalize nq.W = W3 at *
          have hs3 : B ≤ W3.heap.size := by have := HB3.out.size; omega
          by_cases h0 : d = 1
          · rw [if_pos h0] at HX
            subst h0
            go_wp2_with fail
            go_ret2
            exact ⟨ret_spt HX.out, HB3.out⟩
          · rw [if_neg h0] at HX
            have h1 : 1 < d := by omega
            go_wp2_with (go_at_call 83; refine (text_is _ _ (by omega) (by omega) (HT3.out)).mono ?_; rintro e w3 ⟨rfl, hb3⟩)
            go_ret2
            exact ⟨ret_spt (HX.out), HB3.out.trans (hb3.mono hs3)⟩
        · have hl2 : decide (lo = 1) = false := decide_eq_false hl1
          rw [hl2] at hN
          have hx := hno (by rw [hsb]; simp [*])
          have HX := hide hx; have HK := hide K; have HB := hide B1; clear hx hno hyes hsb K B1 hr1 hr2 hr3
          go_enter Tryd.func35, Tryd.ntmps35
          go_upto_region 1 with fail
          (try simp only [hgm, hw1])
          clear hw1
          obtain ⟨c0, c1, c2, cf⟩ := spot3 HK.out
          have m0 := fun n => later_cell c0 n; have m1 := fun n => later_cell c1 n; have m2 := fun n => later_cell c2 n
          (refine wp_region_later (by kernel_rfl) (by kernel_rfl) ?_; (repeat (go_big_quiet_step ((first | (go_at_call 61; first | (with_reducible exact later_same (Qx.out _)) | (with_reducible exact later_same (Qy.out _)) | (with_reducible exact later_same (Qd.out _))) | (go_at_call 57; exact later_call (HL.out _)))))); refine wpQuiet_nil ?_; intro _ hw'; obtain ⟨nq, hw''⟩ := hw'; subst hw'')
          have HB2 := hide (HB.out.trans (nq.h.mono (by omega))); clear m0 m1 m2 c0 c1 c2 cf
          go_wp2_with fail
          go_ret2
          exact ⟨ret_spt HX.out, HB2.out⟩
set_option maxHeartbeats 4000000 in
theorem SpotTextS_is (x y d : Int) (w : World) :
    Calls Tryd.prog 36 #[.agg #[.int .i64 x, .int .i64 y, .int .i64 d]] w fun e w' => e = .returned (.tuple #[.string (spotT ⟨x, y, d⟩).1, .bool (spotT ⟨x, y, d⟩).2]) ∧ Below w.heap.size w w' := by
  have B1 := below_alloc w (.cells #[.int .i64 x, .int .i64 y, .int .i64 d] 38)
  have K := Blk.new w 38 #[.int .i64 x, .int .i64 y, .int .i64 d]
  have hno : spotB ⟨x, y, d⟩ = false → spotT ⟨x, y, d⟩ = (⟨#[]⟩, false) := fun h => by unfold spotT; rw [h]; rfl
  have hyes : spotB ⟨x, y, d⟩ = true → spotT ⟨x, y, d⟩ = (if d = 1 then numS x ++ ⟨#[44]⟩ ++ numS y else numS x ++ ⟨#[44]⟩ ++ numS y ++ (⟨#[47]⟩ ++ numS d), true) := fun h => by unfold spotT; rw [h]; rfl
  have hsb : spotB ⟨x, y, d⟩ = (inB x (-2000000000000) 2000000000000 && (inB y (-2000000000000) 2000000000000 && (inB d 1 160000 && decide (lowD ⟨x, y, d⟩ = 1)))) := rfl
  have hr1 := @inB_iff x (-2000000000000) 2000000000000
  have hr2 := @inB_iff y (-2000000000000) 2000000000000
  have hr3 := @inB_iff d 1 160000
  generalize hw1 : w.alloc (.cells #[.int .i64 x, .int .i64 y, .int .i64 d] 38) = w1 at *
  have hs1 : w.heap.size < w1.heap.size := by rw [← hw1]; simp
  generalize hgm : w.heap.size = B at *
  have hqd := fun W => l1In_any d 1 160000 W
  cases hcd : inB d 1 160000 with
  | false =>
    rw [hcd] at hqd
    have Qd := hide hqd; clear hqd
    have hx := hno (by rw [hsb]; simp [*])
    have HX := hide hx; have HK := hide K; have HB := hide B1; clear hx hno hyes hsb K B1 hr1 hr2 hr3
    go_enter Tryd.func36, Tryd.ntmps36
    go_upto_region 1 with fail
    (try simp only [hgm, hw1])
    clear hw1
    obtain ⟨c0, c1, c2, cf⟩ := spot3 HK.out
    have m0 := fun n => later_cell c0 n; have m1 := fun n => later_cell c1 n; have m2 := fun n => later_cell c2 n
    (refine wp_region_later (by kernel_rfl) (by kernel_rfl) ?_; (repeat (go_big_quiet_step ((first | (go_at_call 84; first | (with_reducible exact later_same (Qd.out _))))))); refine wpQuiet_nil ?_; intro _ hw'; obtain ⟨nq, hw''⟩ := hw'; subst hw'')
    have HB2 := hide (HB.out.trans (nq.h.mono (by omega))); clear m0 m1 m2 c0 c1 c2 cf
    go_wp2_with fail
    go_ret2
    exact ⟨ret_spt HX.out, HB2.out⟩
  | true =>
    rw [hcd] at hqd
    have Qd := hide hqd; clear hqd
    have rd := hr3.1 hcd
    have hqx := fun W => l1In_any x (-2000000000000) 2000000000000 W
    cases hcx : inB x (-2000000000000) 2000000000000 with
    | false =>
      rw [hcx] at hqx
      have Qx := hide hqx; clear hqx
      have hx := hno (by rw [hsb]; simp [*])
      have HX := hide hx; have HK := hide K; have HB := hide B1; clear hx hno hyes hsb K B1 hr1 hr2 hr3
      go_enter Tryd.func36, Tryd.ntmps36
      go_upto_region 1 with fail
      (try simp only [hgm, hw1])
      clear hw1
      obtain ⟨c0, c1, c2, cf⟩ := spot3 HK.out
      have m0 := fun n => later_cell c0 n; have m1 := fun n => later_cell c1 n; have m2 := fun n => later_cell c2 n
      (refine wp_region_later (by kernel_rfl) (by kernel_rfl) ?_; (repeat (go_big_quiet_step ((first | (go_at_call 84; first | (with_reducible exact later_same (Qd.out _)) | (with_reducible exact later_same (Qx.out _))))))); refine wpQuiet_nil ?_; intro _ hw'; obtain ⟨nq, hw''⟩ := hw'; subst hw'')
      have HB2 := hide (HB.out.trans (nq.h.mono (by omega))); clear m0 m1 m2 c0 c1 c2 cf
      go_wp2_with fail
      go_ret2
      exact ⟨ret_spt HX.out, HB2.out⟩
    | true =>
      rw [hcx] at hqx
      have Qx := hide hqx; clear hqx
      have rx := hr1.1 hcx
      have hqy := fun W => l1In_any y (-2000000000000) 2000000000000 W
      cases hcy : inB y (-2000000000000) 2000000000000 with
      | false =>
        rw [hcy] at hqy
        have Qy := hide hqy; clear hqy
        have hx := hno (by rw [hsb]; simp [*])
        have HX := hide hx; have HK := hide K; have HB := hide B1; clear hx hno hyes hsb K B1 hr1 hr2 hr3
        go_enter Tryd.func36, Tryd.ntmps36
        go_upto_region 1 with fail
        (try simp only [hgm, hw1])
        clear hw1
        obtain ⟨c0, c1, c2, cf⟩ := spot3 HK.out
        have m0 := fun n => later_cell c0 n; have m1 := fun n => later_cell c1 n; have m2 := fun n => later_cell c2 n
        (refine wp_region_later (by kernel_rfl) (by kernel_rfl) ?_; (repeat (go_big_quiet_step ((first | (go_at_call 84; first | (with_reducible exact later_same (Qd.out _)) | (with_reducible exact later_same (Qx.out _)) | (with_reducible exact later_same (Qy.out _))))))); refine wpQuiet_nil ?_; intro _ hw'; obtain ⟨nq, hw''⟩ := hw'; subst hw'')
        have HB2 := hide (HB.out.trans (nq.h.mono (by omega))); clear m0 m1 m2 c0 c1 c2 cf
        go_wp2_with fail
        go_ret2
        exact ⟨ret_spt HX.out, HB2.out⟩
      | true =>
        rw [hcy] at hqy
        have Qy := hide hqy; clear hqy
        have ry := hr2.1 hcy
        have hgr := gcd_ranges (y := y) (d := d) (by omega) (by omega)
        have hl1 := fun W => l4Divisor_any y d W (by omega) (by omega) (by omega) (by omega)
        have hl2 := fun W => l4Divisor_any x (Int.gcd y d : Int) W (by omega) (by omega) hgr.1 hgr.2
        have hld : (Int.gcd x (Int.gcd y d : Int) : Int) = lowD ⟨x, y, d⟩ := rfl
        rw [hld] at hl2
        clear hld hgr
        generalize (Int.gcd y d : Int) = g1 at *
        have HL1 := hide hl1; have HL2 := hide hl2; clear hl1 hl2
        generalize hlo : lowD ⟨x, y, d⟩ = lo at *
        by_cases hl1 : lo = 1
        · have hl2 : decide (lo = 1) = true := decide_eq_true hl1
          have hl3 : (lo != 1) = false := by simp [hl1]
          have hx := hyes (by rw [hsb]; simp [*])
          have HX := hide hx; have HK := hide K; have HB := hide B1
          clear hx hno hyes hsb K B1 hr1 hr2 hr3
          have z1 := (numS_size x (by omega) (by omega)).2; have z2 := (numS_size y (by omega) (by omega)).2; have z3 := (numS_size d (by omega) (by omega)).2
          have q0 : ¬ 9223372036854775807 < (numS x).size + 1 := by omega
          have q1 : ¬ 9223372036854775807 < (numS x).size + 1 + (numS y).size := by omega
          have q2 : ¬ 9223372036854775807 < (numS x).size + 1 + (numS y).size + 1 := by omega
          have q3 : ¬ 9223372036854775807 < (numS x).size + 1 + (numS y).size + 1 + (numS d).size := by omega
          clear z1 z2 z3
          go_enter Tryd.func36, Tryd.ntmps36
          go_upto_region 1 with fail
          (try simp only [hgm, hw1])
          clear hw1
          obtain ⟨c0, c1, c2, cf⟩ := spot3 HK.out
          have m0 := fun n => later_cell c0 n; have m1 := fun n => later_cell c1 n; have m2 := fun n => later_cell c2 n
          (refine wp_region_later (by kernel_rfl) (by kernel_rfl) ?_; (repeat (go_big_quiet_step ((first | (go_at_call 84; first | (with_reducible exact later_same (Qd.out _)) | (with_reducible exact later_same (Qx.out _)) | (with_reducible exact later_same (Qy.out _))) | (go_at_call 85; first | (with_reducible exact later_call (HL1.out _)) | (with_reducible exact later_call (HL2.out _))))))); refine wpQuiet_nil ?_; intro _ hw'; obtain ⟨nq, hw''⟩ := hw'; subst hw'')
          have HB2 := hide (HB.out.trans (nq.h.mono (by omega)))
          replace c0 := later_cell c0 nq; replace c1 := later_cell c1 nq; replace c2 := later_cell c2 nq
          clear m0 m1 m2 cf
          generalize nq.W = W2 at *
          have hs2 : B ≤ W2.heap.size := by have := HB2.out.size; omega
          have m0 := fun n => later_cell c0 n; have m1 := fun n => later_cell c1 n; have m2 := fun n => later_cell c2 n
          go_wp2_with fail
          (refine wp_region_later (by kernel_rfl) (by kernel_rfl) ?_; (repeat (go_big_quiet_step ((go_at_call 86; exact later_call (num_is _ _ (by omega) (by omega)))))); refine wpQuiet_nil ?_; intro _ hw'; obtain ⟨nq, hw''⟩ := hw'; subst hw'')
          have HB3 := hide (HB2.out.trans (nq.h.mono hs2))
          replace c2 := later_cell c2 nq
          clear m0 m1 m2 c0 c1
          generalize nq.W = W3 at *
          have hs3 : B ≤ W3.heap.size := by have := HB3.out.size; omega
          by_cases h0 : d = 1
          · rw [if_pos h0] at HX
            subst h0
            go_wp2_with fail
            go_ret2
            exact ⟨ret_spt HX.out, HB3.out⟩
          · rw [if_neg h0] at HX
            have h1 : 1 < d := by omega
            go_wp2_with (go_at_call 86; refine (num_is _ _ (by omega) (by omega)).mono ?_; rintro e w3 ⟨rfl, hb3⟩)
            go_ret2
            exact ⟨ret_spt (HX.out.trans (by simp only [ByteArray.append_assoc])), HB3.out.trans (hb3.mono hs3)⟩
        · have hl2 : decide (lo = 1) = false := decide_eq_false hl1
          have hl3 : (lo != 1) = true := by simp [hl1]
          have hx := hno (by rw [hsb]; simp [*])
          have HX := hide hx; have HK := hide K; have HB := hide B1; clear hx hno hyes hsb K B1 hr1 hr2 hr3
          go_enter Tryd.func36, Tryd.ntmps36
          go_upto_region 1 with fail
          (try simp only [hgm, hw1])
          clear hw1
          obtain ⟨c0, c1, c2, cf⟩ := spot3 HK.out
          have m0 := fun n => later_cell c0 n; have m1 := fun n => later_cell c1 n; have m2 := fun n => later_cell c2 n
          (refine wp_region_later (by kernel_rfl) (by kernel_rfl) ?_; (repeat (go_big_quiet_step ((first | (go_at_call 84; first | (with_reducible exact later_same (Qd.out _)) | (with_reducible exact later_same (Qx.out _)) | (with_reducible exact later_same (Qy.out _))) | (go_at_call 85; first | (with_reducible exact later_call (HL1.out _)) | (with_reducible exact later_call (HL2.out _))))))); refine wpQuiet_nil ?_; intro _ hw'; obtain ⟨nq, hw''⟩ := hw'; subst hw'')
          have HB2 := hide (HB.out.trans (nq.h.mono (by omega))); clear m0 m1 m2 c0 c1 c2 cf
          go_wp2_with fail
          go_ret2
          exact ⟨ret_spt HX.out, HB2.out⟩
end Go.Proofs.YtplemibckjnbhaaDoor
