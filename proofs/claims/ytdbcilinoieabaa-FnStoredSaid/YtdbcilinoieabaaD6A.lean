/- The drawing functions of FnStored. No condition. (Printed by mkd6.py.) -/
import Derived.Test.YtdbcilinoieabaaD5D
import Derived.Test.YtdbcilinoieabaaL6E
namespace Go.Proofs.Ytdbcilinoieabaa
open Go.RowKit
set_option linter.unusedVariables false
set_option maxRecDepth 100000 in
set_option maxHeartbeats 4000000 in
theorem drawAreDrawers_is (w : World) (v : Value) (A : Option Addr) (cap : Nat) (code : List Int) (h : Code w v A cap code) :
    Calls Try.prog 152 #[v] w fun e w' => ∃ (v u : Value) (fs : List SFlat) (ds : List DrV), e = .returned (.tuple #[v, u]) ∧ fitG fs ∧ fs.length ≤ 21 ∧ Is 4 SFlat.enc w' v fs ∧ IsD w' u ds ∧ Below w.heap.size w w' := by
  have hD := DS.new h
  obtain rfl := h.eq
  have HD := hide hD; clear hD h
  have hgw : w.heap.size < (w.alloc (.cells #[.slice A code.length cap, .int .i64 0, .int .u64 0] 90)).heap.size := by simp
  go_enter Try.func152, Try.ntmps152
  go_wp2_with fail
  generalize hgs : w.heap.size = g at *
  generalize hw0 : w.alloc (.cells #[.slice A code.length cap, .int .i64 0, .int .u64 0] 90) = w0 at *
  refine (flats_is w0 _ g g _ A cap code HD.out (by omega)).mono ?_; rintro e w1 ⟨v1, fs, rfl, hfit, hl, ho, hD, hg⟩
  replace HD := hide hD; clear hD hg
  have HX := hide ho; clear ho
  have hfg : fitG fs := hfit
  have HWF := hide hfg; clear hfit hfg
  go_wp2_with fail
  refine (drawers_is w0 _ g g _ A cap code HD.out _ v1 fs HX.out hl HWF.out (by omega)).mono ?_; rintro e w2 ⟨v2, qs, rfl, hql, ho, hD, hg⟩
  replace HX := hide (HD.out.own HX.out hg (by decide))
  replace HD := hide hD; clear hD hg
  have HO := hide ho; clear ho
  go_wp2_with fail
  (try simp only [Exit.inBlock, Exit.then]); refine bodyPost_ret (results_tmp2 rfl _ _ _) rfl ?_
  subst hw0 hgs
  exact ⟨_, _, _, _, rfl, HWF.out, hl, HX.out.is, HO.out.isD, HD.out.end⟩
set_option maxRecDepth 100000 in
set_option maxHeartbeats 4000000 in
theorem drawDrawerOf_is (w : World) (v : Value) (A : Option Addr) (cap : Nat) (code : List Int) (h : Code w v A cap code) :
    Calls Try.prog 160 #[v] w fun e w' => ∃ (v u : Value) (fs : List SFlat) (ds : List DrV) (x : Int), e = .returned (.tuple #[v, u, .int .i64 x]) ∧ fitG fs ∧ fs.length ≤ 21 ∧ Is 4 SFlat.enc w' v fs ∧ IsD w' u ds ∧ Below w.heap.size w w' := by
  have hD := DS.new h
  obtain rfl := h.eq
  have HD := hide hD; clear hD h
  have hgw : w.heap.size < (w.alloc (.cells #[.slice A code.length cap, .int .i64 0, .int .u64 0] 90)).heap.size := by simp
  go_enter Try.func160, Try.ntmps160
  go_wp2_with fail
  generalize hgs : w.heap.size = g at *
  generalize hw0 : w.alloc (.cells #[.slice A code.length cap, .int .i64 0, .int .u64 0] 90) = w0 at *
  refine (flats_is w0 _ g g _ A cap code HD.out (by omega)).mono ?_; rintro e w1 ⟨v1, fs, rfl, hfit, hl, ho, hD, hg⟩
  replace HD := hide hD; clear hD hg
  have HX := hide ho; clear ho
  have hfg : fitG fs := hfit
  have HWF := hide hfg; clear hfit hfg
  go_wp2_with fail
  refine (drawers_is w0 _ g g _ A cap code HD.out _ v1 fs HX.out hl HWF.out (by omega)).mono ?_; rintro e w2 ⟨v2, qs, rfl, hql, ho, hD, hg⟩
  replace HX := hide (HD.out.own HX.out hg (by decide))
  replace HD := hide hD; clear hD hg
  have HO := hide ho; clear ho
  go_wp2_with fail
  refine (flatId_is w0 _ g g _ A cap code HD.out _ _ _ HX.out (by omega) (by omega)).mono ?_; rintro e w3 ⟨px, rfl, hD, hg⟩
  replace HX := hide (HD.out.own HX.out hg (by decide)); replace HO := hide (HD.out.ownDs HO.out hg)
  replace HD := hide hD; clear hD hg
  go_wp2_with fail
  (try simp only [Exit.inBlock, Exit.then]); refine bodyPost_ret (results_tmp3_t rfl _ _ _) rfl ?_
  subst hw0 hgs
  exact ⟨_, _, _, _, _, rfl, HWF.out, hl, HX.out.is, HO.out.isD, HD.out.end⟩
theorem drawStoreAll_is (w : World) (v : Value) (A : Option Addr) (cap : Nat) (code : List Int) (h : Code w v A cap code) :
    Calls Try.prog 61 #[v] w fun e w' => ∃ (v u : Value) (fs : List SFlat) (ds : List DrV), e = .returned (.tuple #[v, u]) ∧ fitG fs ∧ fs.length ≤ 21 ∧ Is 4 SFlat.enc w' v fs ∧ IsD w' u ds ∧ Below w.heap.size w w' := by
  have HC := hide (drawAreDrawers_is w v A cap code h); clear h
  go_enter Try.func61, Try.ntmps61
  go_wp2_with fail
  refine HC.out.mono ?_; rintro e w1 ⟨v1, u1, fs, ds, rfl, h1, h2, h3, h4, h5⟩
  have HH := hide (And.intro h1 (And.intro h2 (And.intro h3 (And.intro h4 h5)))); clear h1 h2 h3 h4 h5
  go_wp2_with fail
  (try simp only [Exit.inBlock, Exit.then]); refine bodyPost_ret (results_tmp2 rfl _ _ _) rfl ?_
  exact ⟨_, _, _, _, rfl, HH.out⟩
theorem drawTightestFor_is (w : World) (v : Value) (A : Option Addr) (cap : Nat) (code : List Int) (h : Code w v A cap code) :
    Calls Try.prog 65 #[v] w fun e w' => ∃ (v u : Value) (fs : List SFlat) (ds : List DrV) (x : Int), e = .returned (.tuple #[v, u, .int .i64 x]) ∧ fitG fs ∧ fs.length ≤ 21 ∧ Is 4 SFlat.enc w' v fs ∧ IsD w' u ds ∧ Below w.heap.size w w' := by
  have HC := hide (drawDrawerOf_is w v A cap code h); clear h
  go_enter Try.func65, Try.ntmps65
  go_wp2_with fail
  refine HC.out.mono ?_; rintro e w1 ⟨v1, u1, fs, ds, x, rfl, h1, h2, h3, h4, h5⟩
  have HH := hide (And.intro h1 (And.intro h2 (And.intro h3 (And.intro h4 h5)))); clear h1 h2 h3 h4 h5
  go_wp2_with fail
  (try simp only [Exit.inBlock, Exit.then]); refine bodyPost_ret (results_tmp3_t rfl _ _ _) rfl ?_
  exact ⟨_, _, _, _, _, rfl, HH.out⟩
end Go.Proofs.Ytdbcilinoieabaa
