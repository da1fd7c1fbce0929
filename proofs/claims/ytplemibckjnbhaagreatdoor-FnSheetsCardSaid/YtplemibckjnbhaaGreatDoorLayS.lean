import Derived.Test.YtplemibckjnbhaaGreatDoorL2D
import Derived.Test.YtplemibckjnbhaaGreatDoorL2Q
import Derived.Test.YtplemibckjnbhaaGreatDoorProg
import Derived.Shelf.SlLaysF0
/- Contract of LongestStrip in spec: the Lean function stripV. No condition. -/
namespace Go.Proofs.YtplemibckjnbhaaGreatDoor
open Go.RowKit
set_option linter.unusedVariables false
theorem foldK_succ (g : Nat → Option Int) (n : Nat) : foldK g (n + 1) = updL (foldK g n) (runK g (100 - n % 100) n) := rfl
theorem runK_len (g : Nat → Option Int) : ∀ (f k : Nat), (runK g f k).length ≤ f := by
  intro f
  induction f with
  | zero => intro k; simp [runK]
  | succ f ih =>
    intro k
    simp only [runK]
    cases g k with
    | none => simp
    | some x => simp; exact ih _
theorem foldK_len (g : Nat → Option Int) : ∀ n, (foldK g n).length ≤ 100 := by
  intro n
  rcases foldK_run g n with h | ⟨k, h⟩
  · rw [h]; simp
  · rw [h]; exact Nat.le_trans (runK_len _ _ _) (by omega)
/-- what is found at a place of a good list -/
theorem gS_at {xs : List SSheet} (hg : goodS xs = true) (scale : Int) (r c : Nat) (hr : r ≤ 99) : (atV xs (r : Int) (c : Int) scale < 0 ∧ (c ≤ 99 → gS xs scale (r * 100 + c) = none)) ∨ ∃ j, ∃ hj : j < xs.length, c ≤ 99 ∧ atV xs (r : Int) (c : Int) scale = (j : Int) ∧ gS xs scale (r * 100 + c) = some xs[j].id := by
  rcases atV_cases xs (r : Int) (c : Int) scale with ⟨h1, _⟩ | ⟨j, hj, h1, h2, h3, h4⟩
  · refine .inl ⟨by omega, fun hc => ?_⟩
    unfold gS
    rw [show (r * 100 + c) / 100 = r by omega, show (r * 100 + c) % 100 = c by omega, h1, if_pos (by omega)]
  · obtain ⟨m, hm, hat, hb, _⟩ := good_bd hg (c := SSheet.at xs j) (by rw [SSheet.at_lt hj]; exact List.getElem_mem hj)
    have hc : c ≤ 99 := by omega
    refine .inr ⟨j, hj, hc, h1, ?_⟩
    unfold gS
    rw [show (r * 100 + c) / 100 = r by omega, show (r * 100 + c) % 100 = c by omega, h1, if_neg (by omega), Int.toNat_natCast, SSheet.at_lt hj]
theorem stripV_no {xs : List SSheet} {scale : Int} (h : ¬ (goodS xs = true ∧ inB scale 10 500 = true)) : stripV xs scale = ([], false) := if_neg h
theorem stripV_yes {xs : List SSheet} {scale : Int} (h1 : goodS xs = true) (h2 : inB scale 10 500 = true) : stripV xs scale = (foldK (gS xs scale) 10000, decide (0 < (foldK (gS xs scale) 10000).length)) := if_pos ⟨h1, h2⟩
def lenS : Value → Nat
  | .slice _ n _ => n
  | _ => 0
end Go.Proofs.YtplemibckjnbhaaGreatDoor

/- Contracts of cmp.Compare and cmp.Or at int, and of the order of sheets in impl's ofScale. No condition. -/
namespace Go.Proofs.YtplemibckjnbhaaGreatDoor
open Go.RowKit
set_option linter.unusedVariables false
def cmpI (a b : Int) : Int := if a < b then -1 else if b < a then 1 else 0
theorem isNaN_any (n : Int) (w : World) : Calls Tryz.prog 109 #[.int .i64 n] w fun e w' => e = .returned (.bool false) ∧ w = w' := by
  have h : (n != n) = false := by simp
  go_enter Tryz.func109, Tryz.ntmps109
  go_wp2_with fail
  go_ret
  exact ⟨rfl, rfl⟩
theorem cmpI_any (a b : Int) (w : World) : Calls Tryz.prog 73 #[.int .i64 a, .int .i64 b] w fun e w' => e = .returned (.int .i64 (cmpI a b)) ∧ w = w' := by
  have HD := hide (show cmpI a b = if a < b then -1 else if b < a then 1 else 0 from rfl)
  by_cases h1 : a < b
  · have HV := hide (HD.out.trans (if_pos h1))
    go_enter Tryz.func73, Tryz.ntmps73
    go_wp2_with (go_at_call 109; refine (isNaN_any _ _).mono ?_; rintro e w' ⟨rfl, rfl⟩)
    go_ret
    exact ⟨ret_int HV.out.symm, rfl⟩
  · by_cases h2 : b < a
    · have HV := hide ((HD.out.trans (if_neg h1)).trans (if_pos h2))
      go_enter Tryz.func73, Tryz.ntmps73
      go_wp2_with (go_at_call 109; refine (isNaN_any _ _).mono ?_; rintro e w' ⟨rfl, rfl⟩)
      go_ret
      exact ⟨ret_int HV.out.symm, rfl⟩
    · have HV := hide ((HD.out.trans (if_neg h1)).trans (if_neg h2))
      go_enter Tryz.func73, Tryz.ntmps73
      go_wp2_with (go_at_call 109; refine (isNaN_any _ _).mono ?_; rintro e w' ⟨rfl, rfl⟩)
      go_ret
      exact ⟨ret_int HV.out.symm, rfl⟩
def orV (a b : Int) : Int := if a = 0 then b else a
theorem orI_any (a b : Int) (g : Nat) (w : World) (h0 : w.cell? ⟨g, 0, none⟩ = some (.int .i64 a)) (h1 : w.cell? ⟨g, 1, none⟩ = some (.int .i64 b)) :
    Calls Tryz.prog 115 #[.slice (some ⟨g, 0, none⟩) 2 2] w fun e w' => e = .returned (.int .i64 (orV a b)) ∧ w = w' := by
  have HD := hide (show orV a b = if a = 0 then b else a from rfl)
  by_cases ha : a = 0
  · subst ha
    have HV := hide (HD.out.trans (if_pos rfl))
    by_cases hb : b = 0
    · subst hb
      go_enter Tryz.func115, Tryz.ntmps115
      go_wp2_with fail
      go_loop [8] (fun i => i = .int .i64 0 ∨ i = .int .i64 1 ∨ i = .int .i64 2) (fun i => 2 - (intOf i).toNat)
      case atStart => exact .inl rfl
      case round =>
        rcases hrel with rfl | rfl | rfl
        · go_wp2_with fail
          go_round
          case measure => simp [intOf]
          case rel => exact .inr (.inl rfl)
        · go_wp2_with fail
          go_round
          case measure => simp [intOf]
          case rel => exact .inr (.inr rfl)
        · go_wp2_with fail
          go_ret
          exact ⟨ret_int HV.out.symm, rfl⟩
    · have hb2 : (b != 0) = true := by simpa using hb
      go_enter Tryz.func115, Tryz.ntmps115
      go_wp2_with fail
      go_loop [8] (fun i => i = .int .i64 0 ∨ i = .int .i64 1) (fun i => 2 - (intOf i).toNat)
      case atStart => exact .inl rfl
      case round =>
        rcases hrel with rfl | rfl
        · go_wp2_with fail
          go_round
          case measure => simp [intOf]
          case rel => exact .inr rfl
        · go_wp2_with fail
          go_ret
          exact ⟨ret_int HV.out.symm, rfl⟩
  · have ha2 : (a != 0) = true := by simpa using ha
    have HV := hide (HD.out.trans (if_neg ha))
    go_enter Tryz.func115, Tryz.ntmps115
    go_wp2_with fail
    go_loop [8] (fun i => i = .int .i64 0) (fun i => 0)
    case atStart => rfl
    case round =>
      subst hrel
      go_wp2_with fail
      go_ret
      exact ⟨ret_int HV.out.symm, rfl⟩
/-- by rows and then by columns -/
def cmpS (a b : SSheet) : Int := orV (cmpI a.row b.row) (cmpI a.col b.col)
set_option maxHeartbeats 1000000 in
theorem ofScale1_any (a0 a1 a2 a3 a4 b0 b1 b2 b3 b4 : Int) (w : World) :
    Calls Tryz.prog 114 #[.agg #[.int .i64 a0, .int .i64 a1, .int .i64 a2, .int .i64 a3, .int .i64 a4], .agg #[.int .i64 b0, .int .i64 b1, .int .i64 b2, .int .i64 b3, .int .i64 b4]] w fun e w' => e = .returned (.int .i64 (cmpS ⟨a0, a1, a2, a3, a4⟩ ⟨b0, b1, b2, b3, b4⟩)) ∧ w' = (((w.alloc (.cells #[.int .i64 a0, .int .i64 a1, .int .i64 a2, .int .i64 a3, .int .i64 a4] 50)).alloc (.cells #[.int .i64 b0, .int .i64 b1, .int .i64 b2, .int .i64 b3, .int .i64 b4] 50)).alloc (.cells #[.int .i64 (cmpI a1 b1), .int .i64 (cmpI a2 b2)] 3)).drew := by
  have HC := hide (show cmpS ⟨a0, a1, a2, a3, a4⟩ ⟨b0, b1, b2, b3, b4⟩ = orV (cmpI a1 b1) (cmpI a2 b2) from rfl)
  have K1 := (Blk.new w 50 #[.int .i64 a0, .int .i64 a1, .int .i64 a2, .int .i64 a3, .int .i64 a4]).alloc (.cells #[.int .i64 b0, .int .i64 b1, .int .i64 b2, .int .i64 b3, .int .i64 b4] 50)
  have K2 := Blk.new (w.alloc (.cells #[.int .i64 a0, .int .i64 a1, .int .i64 a2, .int .i64 a3, .int .i64 a4] 50)) 50 #[.int .i64 b0, .int .i64 b1, .int .i64 b2, .int .i64 b3, .int .i64 b4]
  rw [World.size_alloc] at K2
  obtain ⟨_, t1, t2, _, _⟩ := mk5S K1
  obtain ⟨_, s1, s2, _, _⟩ := mk5S K2
  clear K1 K2
  go_enter Tryz.func114, Tryz.ntmps114
  go_upto_region 1 with fail
  generalize hw2 : (w.alloc (.cells #[.int .i64 a0, .int .i64 a1, .int .i64 a2, .int .i64 a3, .int .i64 a4] 50)).alloc (.cells #[.int .i64 b0, .int .i64 b1, .int .i64 b2, .int .i64 b3, .int .i64 b4] 50) = w2 at *
  generalize w.heap.size + 1 = g1 at *
  generalize w.heap.size = g0 at *
  go_region_held3 (fun w' => w'.cell? ⟨g0, 1, none⟩ = some (.int .i64 a1) ∧ w'.cell? ⟨g0, 2, none⟩ = some (.int .i64 a2) ∧ w'.cell? ⟨g1, 1, none⟩ = some (.int .i64 b1) ∧ w'.cell? ⟨g1, 2, none⟩ = some (.int .i64 b2)) (go_keep) ((first | (go_at_call 73; refine (cmpI_any _ _ _).mono ?_; rintro e w' ⟨rfl, rfl⟩) | (go_at_call 115; refine (orI_any (cmpI a1 b1) (cmpI a2 b2) w2.heap.size _ (by simp [go_sem]) (by simp [go_sem])).mono ?_; rintro e w' ⟨rfl, rfl⟩)))
  all_goals
    go_wp2_with fail
    go_ret
    exact ⟨ret_int HC.out.symm, by rw [← hw2]⟩
end Go.Proofs.YtplemibckjnbhaaGreatDoor

/- The table of the functions and types of slices.SortFunc at sheets, at this seat (laid in plain words by mklayn.py). No condition. -/
namespace Go.Proofs.YtplemibckjnbhaaGreatDoor
open Go.Shelf
def layS_ren : Go.Shelf.Ren := ⟨fun | 6 => 113 | 15 => 130 | 14 => 129 | 28 => 147 | 29 => 148 | 20 => 139 | 21 => 140 | 22 => 141 | 23 => 142 | 24 => 143 | 25 => 144 | 26 => 145 | 27 => 146 | 46 => 164 | 47 => 165 | 48 => 166 | 49 => 167 | 50 => 168 | 57 => 178 | n => n, fun | 22 => 56 | 24 => 50 | 25 => 115 | 3 => 3 | 39 => 125 | 0 => 0 | 53 => 143 | 55 => 81 | 4 => 4 | 46 => 137 | 45 => 136 | 50 => 59 | 5 => 5 | 9 => 9 | 66 => 155 | 70 => 159 | 76 => 176 | 77 => 104 | n => n, fun | n => n⟩
theorem layS : SlLaysF0.n6 Tryz.prog layS_ren :=
  {
    mixed := by kernel_rfl
    f6 := ⟨Tryz.f113.name, by kernel_rfl, Tryz.func113.trans (congrArg some (by kernel_rfl))⟩
    f14 := ⟨Tryz.f129.name, by kernel_rfl, Tryz.func129.trans (congrArg some (by kernel_rfl))⟩
    f15 := Tryz.func130.trans (congrArg some (by kernel_rfl))
    f20 := ⟨Tryz.f139.name, by kernel_rfl, Tryz.func139.trans (congrArg some (by kernel_rfl))⟩
    f21 := ⟨Tryz.f140.name, by kernel_rfl, Tryz.func140.trans (congrArg some (by kernel_rfl))⟩
    f22 := ⟨Tryz.f141.name, by kernel_rfl, Tryz.func141.trans (congrArg some (by kernel_rfl))⟩
    f23 := ⟨Tryz.f142.name, by kernel_rfl, Tryz.func142.trans (congrArg some (by kernel_rfl))⟩
    f24 := ⟨Tryz.f143.name, by kernel_rfl, Tryz.func143.trans (congrArg some (by kernel_rfl))⟩
    f25 := ⟨Tryz.f144.name, by kernel_rfl, Tryz.func144.trans (congrArg some (by kernel_rfl))⟩
    f26 := ⟨Tryz.f145.name, by kernel_rfl, Tryz.func145.trans (congrArg some (by kernel_rfl))⟩
    f27 := ⟨Tryz.f146.name, by kernel_rfl, Tryz.func146.trans (congrArg some (by kernel_rfl))⟩
    f28 := Tryz.func147.trans (congrArg some (by kernel_rfl))
    f29 := Tryz.func148.trans (congrArg some (by kernel_rfl))
    f46 := ⟨Tryz.f164.name, by kernel_rfl, Tryz.func164.trans (congrArg some (by kernel_rfl))⟩
    f47 := Tryz.func165.trans (congrArg some (by kernel_rfl))
    f48 := Tryz.func166.trans (congrArg some (by kernel_rfl))
    f49 := ⟨Tryz.f167.name, by kernel_rfl, Tryz.func167.trans (congrArg some (by kernel_rfl))⟩
    f50 := ⟨Tryz.f168.name, by kernel_rfl, Tryz.func168.trans (congrArg some (by kernel_rfl))⟩
    f57 := ⟨Tryz.f178.name, by kernel_rfl, Tryz.func178.trans (congrArg some (by kernel_rfl))⟩
    t0 := Tryz.underlying0
    a0 := Tryz.isAgg0
    z0 := Tryz.sizeOf0
    v0 := Tryz.zeroValue0
    t3 := Tryz.underlying3
    a3 := Tryz.isAgg3
    z3 := Tryz.sizeOf3
    v3 := Tryz.zeroValue3
    t4 := Tryz.underlying4
    a4 := Tryz.isAgg4
    z4 := Tryz.sizeOf4
    v4 := Tryz.zeroValue4
    t5 := Tryz.underlying5
    a5 := Tryz.isAgg5
    z5 := Tryz.sizeOf5
    v5 := Tryz.zeroValue5
    t9 := Tryz.underlying9
    a9 := Tryz.isAgg9
    z9 := Tryz.sizeOf9
    v9 := Tryz.zeroValue9
    t22 := Tryz.underlying56
    a22 := Tryz.isAgg56
    z22 := Tryz.sizeOf56
    v22 := Tryz.zeroValue56
    t25 := Tryz.underlying115
    a25 := Tryz.isAgg115
    z25 := Tryz.sizeOf115
    v25 := Tryz.zeroValue115
    t39 := Tryz.underlying125
    a39 := Tryz.isAgg125
    z39 := Tryz.sizeOf125
    v39 := Tryz.zeroValue125
    t45 := Tryz.underlying136
    a45 := Tryz.isAgg136
    z45 := Tryz.sizeOf136
    v45 := Tryz.zeroValue136
    t46 := Tryz.underlying137
    a46 := Tryz.isAgg137
    z46 := Tryz.sizeOf137
    v46 := Tryz.zeroValue137
    t50 := Tryz.underlying59
    a50 := Tryz.isAgg59
    z50 := Tryz.sizeOf59
    v50 := Tryz.zeroValue59
    t53 := Tryz.underlying143
    a53 := Tryz.isAgg143
    z53 := Tryz.sizeOf143
    v53 := Tryz.zeroValue143
    t55 := Tryz.underlying81
    a55 := Tryz.isAgg81
    z55 := Tryz.sizeOf81
    v55 := Tryz.zeroValue81
    t66 := Tryz.underlying155
    a66 := Tryz.isAgg155
    z66 := Tryz.sizeOf155
    v66 := Tryz.zeroValue155
    t70 := Tryz.underlying159
    a70 := Tryz.isAgg159
    z70 := Tryz.sizeOf159
    v70 := Tryz.zeroValue159
    t76 := Tryz.underlying176
    a76 := Tryz.isAgg176
    z76 := Tryz.sizeOf176
    v76 := Tryz.zeroValue176
    t77 := Tryz.underlying104
    a77 := Tryz.isAgg104
    z77 := Tryz.sizeOf104
    v77 := Tryz.zeroValue104 }
end Go.Proofs.YtplemibckjnbhaaGreatDoor
