/- Contracts of cmp.Compare and cmp.Or at int, and of the order of sheets in impl's ofScale. No condition. -/
import Derived.Test.YtdbcilinoieabaaL2G
namespace Go.Proofs.Ytdbcilinoieabaa
open Go.RowKit
set_option linter.unusedVariables false
def cmpI (a b : Int) : Int := if a < b then -1 else if b < a then 1 else 0
theorem isNaN_any (n : Int) (w : World) : Calls Try.prog 208 #[.int .i64 n] w fun e w' => e = .returned (.bool false) ∧ w = w' := by
  have h : (n != n) = false := by simp
  go_enter Try.func208, Try.ntmps208
  go_wp2_with fail
  go_ret
  exact ⟨rfl, rfl⟩
theorem cmpI_any (a b : Int) (w : World) : Calls Try.prog 156 #[.int .i64 a, .int .i64 b] w fun e w' => e = .returned (.int .i64 (cmpI a b)) ∧ w = w' := by
  have HD := hide (show cmpI a b = if a < b then -1 else if b < a then 1 else 0 from rfl)
  by_cases h1 : a < b
  · have HV := hide (HD.out.trans (if_pos h1))
    go_enter Try.func156, Try.ntmps156
    go_wp2_with (go_at_call 208; refine (isNaN_any _ _).mono ?_; rintro e w' ⟨rfl, rfl⟩)
    go_ret
    exact ⟨ret_int HV.out.symm, rfl⟩
  · by_cases h2 : b < a
    · have HV := hide ((HD.out.trans (if_neg h1)).trans (if_pos h2))
      go_enter Try.func156, Try.ntmps156
      go_wp2_with (go_at_call 208; refine (isNaN_any _ _).mono ?_; rintro e w' ⟨rfl, rfl⟩)
      go_ret
      exact ⟨ret_int HV.out.symm, rfl⟩
    · have HV := hide ((HD.out.trans (if_neg h1)).trans (if_neg h2))
      go_enter Try.func156, Try.ntmps156
      go_wp2_with (go_at_call 208; refine (isNaN_any _ _).mono ?_; rintro e w' ⟨rfl, rfl⟩)
      go_ret
      exact ⟨ret_int HV.out.symm, rfl⟩
def orV (a b : Int) : Int := if a = 0 then b else a
theorem orI_any (a b : Int) (g : Nat) (w : World) (h0 : w.cell? ⟨g, 0, none⟩ = some (.int .i64 a)) (h1 : w.cell? ⟨g, 1, none⟩ = some (.int .i64 b)) :
    Calls Try.prog 203 #[.slice (some ⟨g, 0, none⟩) 2 2] w fun e w' => e = .returned (.int .i64 (orV a b)) ∧ w = w' := by
  have HD := hide (show orV a b = if a = 0 then b else a from rfl)
  by_cases ha : a = 0
  · subst ha
    have HV := hide (HD.out.trans (if_pos rfl))
    by_cases hb : b = 0
    · subst hb
      go_enter Try.func203, Try.ntmps203
      go_wp2_with fail
      go_loop [8] (fun i => i = .int .i64 0 ∨ i = .int .i64 1 ∨ i = .int .i64 2) (fun i => 2 - (intOf i).toNat)
      case atStart => exact .inl rfl
      case round =>
        rcases hrel with rfl | rfl | rfl
        · go_wp2_with fail
          go_round
          case measure => simp [intOf]
          case rel => exact .inr (.inl rfl)
        · go_wp2_with fail
          go_round
          case measure => simp [intOf]
          case rel => exact .inr (.inr rfl)
        · go_wp2_with fail
          go_ret
          exact ⟨ret_int HV.out.symm, rfl⟩
    · have hb2 : (b != 0) = true := by simpa using hb
      go_enter Try.func203, Try.ntmps203
      go_wp2_with fail
      go_loop [8] (fun i => i = .int .i64 0 ∨ i = .int .i64 1) (fun i => 2 - (intOf i).toNat)
      case atStart => exact .inl rfl
      case round =>
        rcases hrel with rfl | rfl
        · go_wp2_with fail
          go_round
          case measure => simp [intOf]
          case rel => exact .inr rfl
        · go_wp2_with fail
          go_ret
          exact ⟨ret_int HV.out.symm, rfl⟩
  · have ha2 : (a != 0) = true := by simpa using ha
    have HV := hide (HD.out.trans (if_neg ha))
    go_enter Try.func203, Try.ntmps203
    go_wp2_with fail
    go_loop [8] (fun i => i = .int .i64 0) (fun i => 0)
    case atStart => rfl
    case round =>
      subst hrel
      go_wp2_with fail
      go_ret
      exact ⟨ret_int HV.out.symm, rfl⟩
/-- by rows and then by columns -/
def cmpS (a b : SSheet) : Int := orV (cmpI a.row b.row) (cmpI a.col b.col)
set_option maxHeartbeats 1000000 in
theorem ofScale1_any (a0 a1 a2 a3 a4 b0 b1 b2 b3 b4 : Int) (w : World) :
    Calls Try.prog 202 #[.agg #[.int .i64 a0, .int .i64 a1, .int .i64 a2, .int .i64 a3, .int .i64 a4], .agg #[.int .i64 b0, .int .i64 b1, .int .i64 b2, .int .i64 b3, .int .i64 b4]] w fun e w' => e = .returned (.int .i64 (cmpS ⟨a0, a1, a2, a3, a4⟩ ⟨b0, b1, b2, b3, b4⟩)) ∧ w' = (((w.alloc (.cells #[.int .i64 a0, .int .i64 a1, .int .i64 a2, .int .i64 a3, .int .i64 a4] 142)).alloc (.cells #[.int .i64 b0, .int .i64 b1, .int .i64 b2, .int .i64 b3, .int .i64 b4] 142)).alloc (.cells #[.int .i64 (cmpI a1 b1), .int .i64 (cmpI a2 b2)] 3)).drew := by
  have HC := hide (show cmpS ⟨a0, a1, a2, a3, a4⟩ ⟨b0, b1, b2, b3, b4⟩ = orV (cmpI a1 b1) (cmpI a2 b2) from rfl)
  have K1 := (Blk.new w 142 #[.int .i64 a0, .int .i64 a1, .int .i64 a2, .int .i64 a3, .int .i64 a4]).alloc (.cells #[.int .i64 b0, .int .i64 b1, .int .i64 b2, .int .i64 b3, .int .i64 b4] 142)
  have K2 := Blk.new (w.alloc (.cells #[.int .i64 a0, .int .i64 a1, .int .i64 a2, .int .i64 a3, .int .i64 a4] 142)) 142 #[.int .i64 b0, .int .i64 b1, .int .i64 b2, .int .i64 b3, .int .i64 b4]
  rw [World.size_alloc] at K2
  obtain ⟨_, t1, t2, _, _⟩ := mk5S K1
  obtain ⟨_, s1, s2, _, _⟩ := mk5S K2
  clear K1 K2
  go_enter Try.func202, Try.ntmps202
  go_upto_region 1 with fail
  generalize hw2 : (w.alloc (.cells #[.int .i64 a0, .int .i64 a1, .int .i64 a2, .int .i64 a3, .int .i64 a4] 142)).alloc (.cells #[.int .i64 b0, .int .i64 b1, .int .i64 b2, .int .i64 b3, .int .i64 b4] 142) = w2 at *
  generalize w.heap.size + 1 = g1 at *
  generalize w.heap.size = g0 at *
  go_region_held3 (fun w' => w'.cell? ⟨g0, 1, none⟩ = some (.int .i64 a1) ∧ w'.cell? ⟨g0, 2, none⟩ = some (.int .i64 a2) ∧ w'.cell? ⟨g1, 1, none⟩ = some (.int .i64 b1) ∧ w'.cell? ⟨g1, 2, none⟩ = some (.int .i64 b2)) (go_keep) ((first | (go_at_call 156; refine (cmpI_any _ _ _).mono ?_; rintro e w' ⟨rfl, rfl⟩) | (go_at_call 203; refine (orI_any (cmpI a1 b1) (cmpI a2 b2) w2.heap.size _ (by simp [go_sem]) (by simp [go_sem])).mono ?_; rintro e w' ⟨rfl, rfl⟩)))
  all_goals
    go_wp2_with fail
    go_ret
    exact ⟨ret_int HC.out.symm, by rw [← hw2]⟩
end Go.Proofs.Ytdbcilinoieabaa
