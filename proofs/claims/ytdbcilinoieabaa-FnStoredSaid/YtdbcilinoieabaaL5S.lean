/- Contract of DoesFit in spec. No condition on the values. -/
import Derived.Test.YtdbcilinoieabaaL5R
namespace Go.Proofs.Ytdbcilinoieabaa
open Go.RowKit
set_option linter.unusedVariables false
theorem DoesFitS_is (a0 a1 a2 a3 b0 b1 b2 b3 : Int) (A : Option Addr) (cap : Nat) (xs : List Int) (w : World) (hr : Row 1 encI w w.heap.size A xs) (hm : xs.length ≤ 9223372036854775807) :
    Calls Try.prog 45 #[.agg #[.int .i64 a0, .int .i64 a1, .int .i64 a2, .int .i64 a3], .agg #[.int .i64 b0, .int .i64 b1, .int .i64 b2, .int .i64 b3, .slice A xs.length cap]] w fun e w' =>
      e = .returned (.tuple #[.bool (SFlat.okB ⟨a0, a1, a2, a3⟩ && DrV.okB ⟨b0, b1, b2, b3, xs⟩ && fitB a1 a2 b1 b2), .bool (SFlat.okB ⟨a0, a1, a2, a3⟩ && DrV.okB ⟨b0, b1, b2, b3, xs⟩)]) ∧ Below w.heap.size w w' := by
  have hbf := (Blk.new w 68 #[.int .i64 a0, .int .i64 a1, .int .i64 a2, .int .i64 a3]).alloc (.cells #[.int .i64 b0, .int .i64 b1, .int .i64 b2, .int .i64 b3, .slice A xs.length cap] 70)
  have hbd := Blk.new (w.alloc (.cells #[.int .i64 a0, .int .i64 a1, .int .i64 a2, .int .i64 a3] 68)) 70 #[.int .i64 b0, .int .i64 b1, .int .i64 b2, .int .i64 b3, .slice A xs.length cap]
  rw [World.size_alloc] at hbd
  have hB := (below_alloc w (.cells #[.int .i64 a0, .int .i64 a1, .int .i64 a2, .int .i64 a3] 68)).alloc (by simp) (.cells #[.int .i64 b0, .int .i64 b1, .int .i64 b2, .int .i64 b3, .slice A xs.length cap] 70)
  have hR := hr.below hB (Nat.le_refl _) hB.size
  clear hr
  go_enter Try.func45, Try.ntmps45
  go_upto_region 1 with fail
  have HB := hide hB; clear hB
  generalize (w.alloc (.cells #[.int .i64 a0, .int .i64 a1, .int .i64 a2, .int .i64 a3] 68)).alloc (.cells #[.int .i64 b0, .int .i64 b1, .int .i64 b2, .int .i64 b3, .slice A xs.length cap] 70) = w1 at *
  generalize hgg : w.heap.size = g at *
  have HGG := hide hgg; clear hgg
  have cF := fun W => l5Flat_any a0 a1 a2 a3 W
  have cD := fun W (h : Row 1 encI W W.heap.size A xs) => l5Drawer_any b0 b1 b2 b3 A cap xs W h hm
  generalize hkf : SFlat.okB ⟨a0, a1, a2, a3⟩ = kf at cF
  generalize hkd : DrV.okB ⟨b0, b1, b2, b3, xs⟩ = kd at cD
  have HKF := hide hkf; have HKD := hide hkd; clear hkf hkd
  have CF := hide cF; have CD := hide cD; have HR := hide hR; have HBF := hide hbf; have HBD := hide hbd; clear cF cD hR hbf hbd
  obtain ⟨f0, f1, f2, f3⟩ := fl4 HBF.out
  go_wp2_with fail
  refine (CF.out _).mono ?_; rintro e w2 ⟨rfl, hb⟩
  have HR2 := hide (HR.out.below hb (Nat.le_refl _) hb.size); have HBF2 := hide (HBF.out.below hb HBF.out.lt); have HBD2 := hide (HBD.out.below hb HBD.out.lt); have HB2 := hide (HB.out.trans (hb.mono (Nat.le_of_lt HBF.out.lt)))
  have hl2 := HBF2.out.lt
  clear hb f0 f1 f2 f3
  cases kf with
  | false =>
    go_wp2_with fail
    go_ret2
    exact ⟨by simp [HKF.out, HKD.out], by rw [HGG.out]; exact HB2.out⟩
  | true =>
    obtain ⟨t0, t1, t2, t3, t4⟩ := dr5 HBD2.out
    go_wp2_with fail
    refine (CD.out _ HR2.out).mono ?_; rintro e w3 ⟨rfl, hb⟩
    have HBF3 := hide (HBF2.out.below hb HBF2.out.lt); have HBD3 := hide (HBD2.out.below hb HBD2.out.lt); have HB3 := hide (HB2.out.trans (hb.mono (Nat.le_of_lt hl2)))
    have hl3 := HBF3.out.lt
    clear hb t0 t1 t2 t3 t4
    cases kd with
    | false =>
      go_wp2_with fail
      go_ret2
      exact ⟨by simp [HKF.out, HKD.out], by rw [HGG.out]; exact HB3.out⟩
    | true =>
      have CX := hide (fun W => l5Fits_any a0 a1 a2 a3 b0 b1 b2 b3 A xs.length cap W)
      obtain ⟨f0, f1, f2, f3⟩ := fl4 HBF3.out
      obtain ⟨t0, t1, t2, t3, t4⟩ := dr5 HBD3.out
      go_wp2_with fail
      refine (CX.out _).mono ?_; rintro e w4 ⟨rfl, hb⟩
      have HB4 := hide (HB3.out.trans (hb.mono (Nat.le_of_lt hl3)))
      clear hb
      go_wp2_with fail
      go_ret2
      exact ⟨by simp [HKF.out, HKD.out], by rw [HGG.out]; exact HB4.out⟩
end Go.Proofs.Ytdbcilinoieabaa
