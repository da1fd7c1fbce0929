/- The drawing of roads over a cursor: some corners, of the call's own; at least one, at most 14. Condition: a cursor that has stepped less than 2^60 times. (Printed by mkroad.py.) -/
import Derived.Test.YtefnmfkndepfgaaDr
import Derived.Test.YtefnmfkndepfgaaL10X
namespace Go.Proofs.Ytefnmfkndepfgaa
open Go.RowKit
set_option linter.unusedVariables false
theorem blk2_cells {w : World} {b : Nat} {t : TypeId} {x y : Value} (h : Blk w b t #[x, y]) : w.cell? ⟨b, 0, none⟩ = some x ∧ w.cell? ⟨b, 1, none⟩ = some y := ⟨h.cell 0, h.cell 1⟩
set_option maxRecDepth 100000 in
set_option maxHeartbeats 2000000 in
theorem corner_is (w0 w : World) (base g k : Nat) (A : Option Addr) (cap : Nat) (code : List Int) (hD : DS w0 base g A cap code k w) (hk : k + 10 < 2305843009213693952) :
    Calls Try.prog 92 #[.pointer (some ⟨g, 0, none⟩)] w fun e w' => ∃ x y : Int, e = .returned (.agg #[.int .i64 x, .int .i64 y]) ∧ DS w0 base g A cap code (k + 10) w' ∧ w.grownBy w' (some g) := by
  have hB := Blk.new w 58 #[.int .i64 0, .int .i64 0]
  have hD1 := (DS.start hD.cur hD.sz).alloc (.cells #[.int .i64 0, .int .i64 0] 58)
  have hgw := hD.lt
  have HD0 := hide hD
  have HD := hide hD1; have HB := hide hB; clear hD hD1 hB
  go_enter Try.func92, Try.ntmps92
  go_wp2_with fail
  generalize hb0 : w.heap.size = b0 at *
  generalize w.alloc (.cells #[.int .i64 0, .int .i64 0] 58) = w1 at *
  refine (oneD 64 HD.out (by omega)).mono ?_; rintro e w2 ⟨x2, rfl, hD, hg⟩
  replace HB := hide (HD.out.blk HB.out hg (by decide))
  replace HD := hide hD; clear hD hg
  cases x2 with
  | true =>
    go_wp2_with fail
    refine (amongD [-1, 10000] HD.out (by rfl) (by rfl) (by rfl) (by simp) (by simp) (by omega)).mono ?_; rintro e w3 ⟨x3, rfl, hm, hD, hg⟩
    replace HB := hide (HD.out.blk HB.out hg (by decide))
    replace HD := hide hD; clear hD hg
    clear hm
    obtain ⟨m0, m1⟩ := blk2_cells HB.out
    have mf := fun o => HB.out.frozen o
    go_wp2_with fail
    have hF := (HB.out.set 0 (.int .i64 x3)).set 1 (.int .i64 0)
    have f0 := hF.cell 0; have f1 := hF.cell 1
    simp at f0 f1
    have hE := (HD.out.set (b := b0) (by omega) (by omega) 0 (.int .i64 x3)).set (b := b0) (by omega) (by omega) 1 (.int .i64 0)
    exact bodyPost_ret (v := .agg #[.int .i64 x3, .int .i64 0]) (by simp [results, Try.results92, go_sem, f0, f1]) rfl ⟨_, _, rfl, ⟨(hE.le (by omega)).cur, grownTrans HD0.out.gr hE.gr, HD0.out.hb⟩, hE.gr⟩
  | false =>
    go_wp2_with fail
    refine (amongD [0, 1, 2, 3, 4, 6, 30, 9999] HD.out (by rfl) (by rfl) (by rfl) (by simp) (by simp) (by omega)).mono ?_; rintro e w3 ⟨x3, rfl, hm, hD, hg⟩
    replace HB := hide (HD.out.blk HB.out hg (by decide))
    replace HD := hide hD; clear hD hg
    clear hm
    go_wp2_with fail
    refine (amongD [0, 1, 2, 3, 4, 8, 40, 9999] HD.out (by rfl) (by rfl) (by rfl) (by simp) (by simp) (by omega)).mono ?_; rintro e w4 ⟨x4, rfl, hm, hD, hg⟩
    replace HB := hide (HD.out.blk HB.out hg (by decide))
    replace HD := hide hD; clear hD hg
    clear hm
    obtain ⟨m0, m1⟩ := blk2_cells HB.out
    have mf := fun o => HB.out.frozen o
    go_wp2_with fail
    have hF := (HB.out.set 0 (.int .i64 x3)).set 1 (.int .i64 x4)
    have f0 := hF.cell 0; have f1 := hF.cell 1
    simp at f0 f1
    have hE := (HD.out.set (b := b0) (by omega) (by omega) 0 (.int .i64 x3)).set (b := b0) (by omega) (by omega) 1 (.int .i64 x4)
    exact bodyPost_ret (v := .agg #[.int .i64 x3, .int .i64 x4]) (by simp [results, Try.results92, go_sem, f0, f1]) rfl ⟨_, _, rfl, ⟨(hE.le (by omega)).cur, grownTrans HD0.out.gr hE.gr, HD0.out.hb⟩, hE.gr⟩
end Go.Proofs.Ytefnmfkndepfgaa
