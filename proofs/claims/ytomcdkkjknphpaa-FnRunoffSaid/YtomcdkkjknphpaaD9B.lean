/- The draws of the laws on water: a relief, a relief and a square. No condition. (Printed by mkrelief2.py.) -/
import Derived.Test.YtomcdkkjknphpaaD9A
namespace Go.Proofs.Ytomcdkkjknphpaa
open Go.RowKit
set_option linter.unusedVariables false
theorem OwnG.head {w : World} {lo hi : Nat} {v : Value} {rs : List SRow} (h : OwnG w lo hi v rs) (hp : 0 < rs.length) :
    ∃ gs cap, v = .slice (some ⟨gs, 0, none⟩) rs.length cap ∧ lo ≤ gs ∧ w.cell? ⟨gs, 0, none⟩ = some (.slice rs[0].A rs[0].xs.length rs[0].cap) := by
  obtain ⟨gs, cap, cs, rfl, hlo, hbs, _, _, _, hfs⟩ := own_blk h.spine hp
  refine ⟨gs, cap, rfl, hlo, ?_⟩
  rw [hbs.cell]
  exact hfs 0 _ hp (List.getElem?_eq_getElem hp) 0 (by omega)
set_option maxRecDepth 100000 in
set_option maxHeartbeats 8000000 in
theorem squareOf_is (w0 w : World) (base g k : Nat) (A : Option Addr) (cap : Nat) (code : List Int) (hD : DS w0 base g A cap code k w) (hk : k + 5000 < 2305843009213693952) {lo hi : Nat} {v : Value} {rs : List SRow} (hG : OwnG w lo hi v rs) (hl : g < lo) :
    Calls Try.prog 82 #[.pointer (some ⟨g, 0, none⟩), v] w fun e w' => ∃ r c : Int, e = .returned (.tuple #[.int .i64 r, .int .i64 c]) ∧ DS w0 base g A cap code (k + 10) w' ∧ w.grownBy w' (some g) := by
  have HD0 := hide hD
  have HD := hide (DS.start hD.cur hD.sz); clear hD
  by_cases hp : rs.length = 0
  · obtain ⟨A9, cap9, rfl, _, _, _⟩ := hG.spine.is
    have hn : rs = [] := List.length_eq_zero_iff.1 hp
    subst hn
    clear hG hp
    go_enter Try.func82, Try.ntmps82
    go_wp2_with fail
    refine (amongD [-1, 0, 8] HD.out (by rfl) (by rfl) (by rfl) (by simp) (by simp) (by omega)).mono ?_; rintro e w1 ⟨x1, rfl, hm, hD, hg⟩
    replace HD := hide hD; clear hD hg
    clear hm
    go_wp2_with fail
    refine (amongD [-1, 0, 5] HD.out (by rfl) (by rfl) (by rfl) (by simp) (by simp) (by omega)).mono ?_; rintro e w2 ⟨x2, rfl, hm, hD, hg⟩
    replace HD := hide hD; clear hD hg
    clear hm
    go_wp2_with fail
    go_ret2
    exact ⟨_, _, rfl, ⟨(HD.out.le (by omega)).cur, grownTrans HD0.out.gr HD.out.gr, HD0.out.hb⟩, HD.out.gr⟩
  have hp1 : 0 < rs.length := by omega
  have hpi : (0 : Int) < (rs.length : Int) := by omega
  have hml := hG.spine.is.len
  have hr0 := (hG.rows 0 _ (List.getElem?_eq_getElem hp1)).is.len
  obtain ⟨gs, capS, rfl, hlo, c0⟩ := hG.head hp1
  have hne : some gs ≠ some g := fun e => by injection e; omega
  have HM := hide hml; clear hml hG hp
  generalize rs[0].A = A1 at *
  generalize rs[0].cap = cap1 at *
  generalize rs[0].xs.length = m at *
  generalize rs.length = n at *
  by_cases hm : m = 0
  · subst hm
    go_enter Try.func82, Try.ntmps82
    go_wp2_with fail
    refine (amongD [-1, 0, 8] HD.out (by rfl) (by rfl) (by rfl) (by simp) (by simp) (by omega)).mono ?_; rintro e w1 ⟨x1, rfl, hm, hD, hg⟩
    replace HD := hide hD; clear hD hg
    clear hm
    go_wp2_with fail
    refine (amongD [-1, 0, 5] HD.out (by rfl) (by rfl) (by rfl) (by simp) (by simp) (by omega)).mono ?_; rintro e w2 ⟨x2, rfl, hm, hD, hg⟩
    replace HD := hide hD; clear hD hg
    clear hm
    go_wp2_with fail
    go_ret2
    exact ⟨_, _, rfl, ⟨(HD.out.le (by omega)).cur, grownTrans HD0.out.gr HD.out.gr, HD0.out.hb⟩, HD.out.gr⟩
  have hmb : ((m : Int) == 0) = false := by simp [hm]
  have hm1 : ¬ (m : Int) = 0 := by omega
  go_enter Try.func82, Try.ntmps82
  go_wp2_with fail
  refine (oneD 12 HD.out (by omega)).mono ?_; rintro e w1 ⟨x1, rfl, hD, hg⟩
  have c1 : w1.cell? ⟨gs, 0, none⟩ = some (.slice A1 m cap1) := hg.cell (a := ⟨gs, 0, none⟩) c0 hne
  replace HD := hide hD; clear hD hg
  cases x1 with
  | true =>
    go_wp2_with fail
    refine (amongD [-1, 0, 8] HD.out (by rfl) (by rfl) (by rfl) (by simp) (by simp) (by omega)).mono ?_; rintro e w2 ⟨x2, rfl, hm, hD, hg⟩
    replace HD := hide hD; clear hD hg
    clear hm
    go_wp2_with fail
    refine (amongD [-1, 0, 5] HD.out (by rfl) (by rfl) (by rfl) (by simp) (by simp) (by omega)).mono ?_; rintro e w3 ⟨x3, rfl, hm, hD, hg⟩
    replace HD := hide hD; clear hD hg
    clear hm
    go_wp2_with fail
    go_ret2
    exact ⟨_, _, rfl, ⟨(HD.out.le (by omega)).cur, grownTrans HD0.out.gr HD.out.gr, HD0.out.hb⟩, HD.out.gr⟩
  | false =>
    have hdr := (Below.refl w1.heap.size w1).drew
    have HDd := hide (HD.out.below hdr); clear hdr
    go_wp2_with fail
    go_region_with (go_at_call 93; first | (refine (pickD _ HDd.out (by omega)).mono ?_; rintro e w2 ⟨x2, rfl, _, _, hD, hg⟩; have c2 : w2.cell? ⟨gs, 0, none⟩ = some (.slice A1 m cap1) := hg.cell (a := ⟨gs, 0, none⟩) c1 hne; have HD2 := hide hD; clear hD hg) | (refine (pickD _ HD2.out (by omega)).mono ?_; rintro e w3 ⟨x3, rfl, _, _, hD, hg⟩; have HD3 := hide hD; clear hD hg))
    all_goals
      go_wp2_with fail
      go_ret2
      exact ⟨_, _, rfl, ⟨(HD3.out.le (by omega)).cur, grownTrans HD0.out.gr HD3.out.gr, HD0.out.hb⟩, HD3.out.gr⟩
set_option maxRecDepth 100000 in
set_option maxHeartbeats 4000000 in
theorem drawIsRelief_is (w : World) (v : Value) (A : Option Addr) (cap : Nat) (code : List Int) (h : Code w v A cap code) :
    Calls Try.prog 63 #[v] w fun e w' => ∃ (v : Value) (xss : List (List Int)), e = .returned v ∧ IsG w' v xss ∧ Below w.heap.size w w' := by
  have hD := DS.new h
  obtain rfl := h.eq
  have HD := hide hD; clear hD h
  have hgw : w.heap.size < (w.alloc (.cells #[.slice A code.length cap, .int .i64 0, .int .u64 0] 72)).heap.size := by simp
  go_enter Try.func63, Try.ntmps63
  go_upto_region 2 with fail
  generalize hgs : w.heap.size = g at *
  generalize hw0 : w.alloc (.cells #[.slice A code.length cap, .int .i64 0, .int .u64 0] 72) = w0 at *
  go_wp2_with fail
  have HGW := hide hgw
  refine (relief_is w0 w0 g g 0 A cap code HD.out (by omega)).mono ?_; rintro e w1 ⟨v1, rfl, rs, hl1, hog, hD, hg⟩
  have HG := hide hog; replace HD := hide (hD.le (by omega : _ ≤ 5000)); clear hog hD hg
  go_wp2_with fail
  go_ret
  subst hw0 hgs
  exact ⟨_, _, rfl, HG.out.isG, HD.out.end⟩
set_option maxRecDepth 100000 in
set_option maxHeartbeats 4000000 in
theorem drawNextSquare_is (w : World) (v : Value) (A : Option Addr) (cap : Nat) (code : List Int) (h : Code w v A cap code) :
    Calls Try.prog 53 #[v] w fun e w' => ∃ (v : Value) (xss : List (List Int)) (r c : Int), e = .returned (.tuple #[v, .int .i64 r, .int .i64 c]) ∧ IsG w' v xss ∧ Below w.heap.size w w' := by
  have hD := DS.new h
  obtain rfl := h.eq
  have HD := hide hD; clear hD h
  have hgw : w.heap.size < (w.alloc (.cells #[.slice A code.length cap, .int .i64 0, .int .u64 0] 72)).heap.size := by simp
  go_enter Try.func53, Try.ntmps53
  go_upto_region 2 with fail
  generalize hgs : w.heap.size = g at *
  generalize hw0 : w.alloc (.cells #[.slice A code.length cap, .int .i64 0, .int .u64 0] 72) = w0 at *
  go_wp2_with fail
  have HGW := hide hgw
  refine (relief_is w0 w0 g g 0 A cap code HD.out (by omega)).mono ?_; rintro e w1 ⟨v1, rfl, rs, hl1, hog, hD, hg⟩
  have HG := hide hog; replace HD := hide (hD.le (by omega : _ ≤ 5000)); clear hog hD hg
  go_wp2_with fail
  refine (squareOf_is w0 w1 g g 5000 A cap code HD.out (by omega) HG.out HGW.out).mono ?_; rintro e w2 ⟨r, c, rfl, hD, hg⟩
  replace HG := hide (HG.out.cur hg HGW.out); replace HD := hide hD; clear hD hg
  go_wp2_with fail
  go_ret3
  subst hw0 hgs
  exact ⟨_, _, _, _, rfl, HG.out.isG, HD.out.end⟩
set_option maxRecDepth 100000 in
set_option maxHeartbeats 4000000 in
theorem drawFilledRelief_is (w : World) (v : Value) (A : Option Addr) (cap : Nat) (code : List Int) (h : Code w v A cap code) :
    Calls Try.prog 21 #[v] w fun e w' => ∃ (v : Value) (xss : List (List Int)), e = .returned v ∧ IsG w' v xss ∧ Below w.heap.size w w' := by
  have hc := drawIsRelief_is w v A cap code h
  have HC := hide hc; clear hc h
  go_enter Try.func21, Try.ntmps21
  go_wp2_with fail
  refine HC.out.mono ?_; rintro e w1 ⟨v1, xss, rfl, hg, hb⟩
  go_wp2_with fail
  go_ret
  exact ⟨_, xss, rfl, hg, hb⟩
set_option maxRecDepth 100000 in
set_option maxHeartbeats 4000000 in
theorem drawSteepestSquare_is (w : World) (v : Value) (A : Option Addr) (cap : Nat) (code : List Int) (h : Code w v A cap code) :
    Calls Try.prog 31 #[v] w fun e w' => ∃ (v : Value) (xss : List (List Int)), e = .returned v ∧ IsG w' v xss ∧ Below w.heap.size w w' := by
  have hc := drawIsRelief_is w v A cap code h
  have HC := hide hc; clear hc h
  go_enter Try.func31, Try.ntmps31
  go_wp2_with fail
  refine HC.out.mono ?_; rintro e w1 ⟨v1, xss, rfl, hg, hb⟩
  go_wp2_with fail
  go_ret
  exact ⟨_, xss, rfl, hg, hb⟩
set_option maxRecDepth 100000 in
set_option maxHeartbeats 4000000 in
theorem drawGreatestRiver_is (w : World) (v : Value) (A : Option Addr) (cap : Nat) (code : List Int) (h : Code w v A cap code) :
    Calls Try.prog 51 #[v] w fun e w' => ∃ (v : Value) (xss : List (List Int)), e = .returned v ∧ IsG w' v xss ∧ Below w.heap.size w w' := by
  have hc := drawIsRelief_is w v A cap code h
  have HC := hide hc; clear hc h
  go_enter Try.func51, Try.ntmps51
  go_wp2_with fail
  refine HC.out.mono ?_; rintro e w1 ⟨v1, xss, rfl, hg, hb⟩
  go_wp2_with fail
  go_ret
  exact ⟨_, xss, rfl, hg, hb⟩
set_option maxRecDepth 100000 in
set_option maxHeartbeats 4000000 in
theorem drawLevelAt_is (w : World) (v : Value) (A : Option Addr) (cap : Nat) (code : List Int) (h : Code w v A cap code) :
    Calls Try.prog 28 #[v] w fun e w' => ∃ (v : Value) (xss : List (List Int)) (r c : Int), e = .returned (.tuple #[v, .int .i64 r, .int .i64 c]) ∧ IsG w' v xss ∧ Below w.heap.size w w' := by
  have hc := drawNextSquare_is w v A cap code h
  have HC := hide hc; clear hc h
  go_enter Try.func28, Try.ntmps28
  go_wp2_with fail
  refine HC.out.mono ?_; rintro e w1 ⟨v1, xss, r, c, rfl, hg, hb⟩
  go_wp2_with fail
  go_ret3
  exact ⟨_, xss, r, c, rfl, hg, hb⟩
set_option maxRecDepth 100000 in
set_option maxHeartbeats 4000000 in
theorem drawRunOff_is (w : World) (v : Value) (A : Option Addr) (cap : Nat) (code : List Int) (h : Code w v A cap code) :
    Calls Try.prog 49 #[v] w fun e w' => ∃ (v : Value) (xss : List (List Int)) (r c : Int), e = .returned (.tuple #[v, .int .i64 r, .int .i64 c]) ∧ IsG w' v xss ∧ Below w.heap.size w w' := by
  have hc := drawNextSquare_is w v A cap code h
  have HC := hide hc; clear hc h
  go_enter Try.func49, Try.ntmps49
  go_wp2_with fail
  refine HC.out.mono ?_; rintro e w1 ⟨v1, xss, r, c, rfl, hg, hb⟩
  go_wp2_with fail
  go_ret3
  exact ⟨_, xss, r, c, rfl, hg, hb⟩
set_option maxRecDepth 100000 in
set_option maxHeartbeats 4000000 in
theorem drawCatchment_is (w : World) (v : Value) (A : Option Addr) (cap : Nat) (code : List Int) (h : Code w v A cap code) :
    Calls Try.prog 52 #[v] w fun e w' => ∃ (v : Value) (xss : List (List Int)) (r c : Int), e = .returned (.tuple #[v, .int .i64 r, .int .i64 c]) ∧ IsG w' v xss ∧ Below w.heap.size w w' := by
  have hc := drawNextSquare_is w v A cap code h
  have HC := hide hc; clear hc h
  go_enter Try.func52, Try.ntmps52
  go_wp2_with fail
  refine HC.out.mono ?_; rintro e w1 ⟨v1, xss, r, c, rfl, hg, hb⟩
  go_wp2_with fail
  go_ret3
  exact ⟨_, xss, r, c, rfl, hg, hb⟩
end Go.Proofs.Ytomcdkkjknphpaa
