/- The cursor's functions, their answer told ahead of the call (an answer that a region's guard asks for). Conditions: a cursor that has stepped less than 2^61 times; n from 2 to 200. -/
import Derived.Test.YtapbnggdclpokaaDoorDr
namespace Go.Proofs.YtapbnggdclpokaaDoor
open Go.RowKit
set_option linter.unusedVariables false
set_option maxHeartbeats 1000000 in
theorem next_det (w : World) (base g k : Nat) (A : Option Addr) (cap : Nat) (code : List Int) (h : Cur w base g k A cap code) (hk : k + 1 < 2305843009213693952) (hbw : base ≤ w.heap.size) :
    ∃ b : Int, 0 ≤ b ∧ b ≤ 255 ∧ Calls Tryd.prog 74 #[.pointer (some ⟨g, 0, none⟩)] w fun e w' => e = .returned (.int .i64 b) ∧ Cur w' base g (k + 1) A cap code ∧ w.grownBy w' (some g) := by
  obtain ⟨hle, ⟨at_, seed, hat, hs0, hs1, hblk⟩, hrow, hbyt, hlen, hcm⟩ := h
  have c0 : w.cell? ⟨g, 0, none⟩ = some (.slice A code.length cap) := hblk.cell 0
  have c1 : w.cell? ⟨g, 1, none⟩ = some (.int .i64 (at_ : Int)) := hblk.cell 1
  have c2 : w.cell? ⟨g, 2, none⟩ = some (.int .u64 seed) := hblk.cell 2
  have hfz := fun o => hblk.frozen o
  have HBLK := hide hblk; have HROW := hide hrow; have HBYT := hide hbyt
  clear hblk hrow hbyt
  by_cases hlt : at_ < code.length
  · have hlt' : (at_ : Int) < code.length := by omega
    obtain ⟨b, off, rfl, hb, hc⟩ := HROW.out.get hlt
    have d0 := hc 0 (by omega)
    rw [Nat.mul_one, Nat.add_zero] at d0
    have hbv := HBYT.out code[at_] (List.getElem_mem hlt)
    generalize code[at_] = bv at *
    change w.cell? ⟨b, off + at_, none⟩ = some (.int .u8 bv) at d0
    refine ⟨bv, hbv.1, hbv.2, ?_⟩
    go_enter Tryd.func74, Tryd.ntmps74
    go_wp2_with fail
    go_region
    go_wp2_with fail
    go_region
    go_wp2_with fail
    have hl1 : (at_ : Int) + 1 ≤ code.length := by omega
    go_region
    go_wp2_with fail
    go_ret
    refine ⟨rfl, ?_⟩
    have hst := Cur.step hle HBLK.out HROW.out HBYT.out ⟨hlen, hcm⟩ hat (IntKind.u64.wrap (IntKind.u64.wrap (seed * 6364136223846793005) + bv) + 604171)
    exact ⟨hst.1.drew, grownDrew hst.2⟩
  · have hlt' : ¬ (at_ : Int) < code.length := by omega
    have hl1 : ¬ (at_ : Int) + 1 ≤ code.length := by omega
    have hb5 := bits_255 (IntKind.u64.wrap (IntKind.u64.wrap (IntKind.u64.wrap (seed * 6364136223846793005)) + 604171) / 1099511627776)
    have hw5 := IntWalk.wrap64_in _ (show -9223372036854775808 ≤ bits .and .u64 (IntKind.u64.wrap (IntKind.u64.wrap (IntKind.u64.wrap (seed * 6364136223846793005)) + 604171) / 1099511627776) 255 ∧ bits .and .u64 (IntKind.u64.wrap (IntKind.u64.wrap (IntKind.u64.wrap (seed * 6364136223846793005)) + 604171) / 1099511627776) 255 ≤ 9223372036854775807 by omega)
    refine ⟨bits .and .u64 (IntKind.u64.wrap (IntKind.u64.wrap (IntKind.u64.wrap (seed * 6364136223846793005)) + 604171) / 1099511627776) 255, hb5.1, hb5.2, ?_⟩
    have HW5 := hide hw5; clear hw5 hb5
    go_enter Tryd.func74, Tryd.ntmps74
    go_wp2_with fail
    go_region
    go_wp2_with fail
    go_region
    go_wp2_with fail
    rw [HW5.out]
    go_ret
    refine ⟨rfl, ?_⟩
    exact Cur.step hle HBLK.out HROW.out HBYT.out ⟨hlen, hcm⟩ hat _
theorem pick_det (n : Int) (hn0 : 2 ≤ n) (hn1 : n ≤ 200) (w : World) (base g k : Nat) (A : Option Addr) (cap : Nat) (code : List Int) (h : Cur w base g k A cap code) (hk : k + 2 < 2305843009213693952) (hbw : base ≤ w.heap.size) :
    ∃ x : Int, 0 ≤ x ∧ x < n ∧ Calls Tryd.prog 65 #[.pointer (some ⟨g, 0, none⟩), .int .i64 n] w fun e w' => e = .returned (.int .i64 x) ∧ Cur w' base g (k + 2) A cap code ∧ w.grownBy w' (some g) := by
  obtain ⟨b, hb0, hb1, hn⟩ := next_det w base g k A cap code h (by omega) hbw
  have hm0 := Int.emod_nonneg b (show n ≠ 0 by omega)
  have hm1 := Int.emod_lt_of_pos b (show 0 < n by omega)
  refine ⟨b % n, hm0, hm1, ?_⟩
  have HN := hide hn; clear hn h
  have h1' : ¬ n ≤ 1 := by omega
  have h2' : ¬ 200 < n := by omega
  go_enter Tryd.func65, Tryd.ntmps65
  go_wp2_with fail
  refine HN.out.mono ?_; rintro e w1 ⟨rfl, hC1, hg1⟩
  have HC1 := hide hC1
  go_wp2_with fail
  go_ret
  exact ⟨rfl, HC1.out.le_k (by omega), hg1⟩
theorem one_det (n : Int) (hn0 : 2 ≤ n) (hn1 : n ≤ 200) (w : World) (base g k : Nat) (A : Option Addr) (cap : Nat) (code : List Int) (h : Cur w base g k A cap code) (hk : k + 2 < 2305843009213693952) (hbw : base ≤ w.heap.size) :
    ∃ x : Bool, Calls Tryd.prog 34 #[.pointer (some ⟨g, 0, none⟩), .int .i64 n] w fun e w' => e = .returned (.bool x) ∧ Cur w' base g (k + 2) A cap code ∧ w.grownBy w' (some g) := by
  obtain ⟨b, hb0, hb1, hn⟩ := pick_det n hn0 hn1 w base g k A cap code h hk hbw
  refine ⟨b == 0, ?_⟩
  have HN := hide hn; clear hn h
  go_enter Tryd.func34, Tryd.ntmps34
  go_wp2_with fail
  refine HN.out.mono ?_; rintro e w1 ⟨rfl, hC1, hg1⟩
  have HC1 := hide hC1
  go_wp2_with fail
  go_ret
  exact ⟨rfl, HC1.out, hg1⟩
/-- one, its answer told ahead of the call -/
theorem oneDD (n : Int) (hn0 : 2 ≤ n) (hn1 : n ≤ 200) {w0 w : World} {base g : Nat} {A : Option Addr} {cap : Nat} {code : List Int} {k : Nat} (h : DS w0 base g A cap code k w) (hk : k + 2 < 2305843009213693952) :
    ∃ x : Bool, Calls Tryd.prog 34 #[.pointer (some ⟨g, 0, none⟩), .int .i64 n] w fun e w' => e = .returned (.bool x) ∧ DS w0 base g A cap code (k + 2) w' ∧ w.grownBy w' (some g) := by
  obtain ⟨x, hx⟩ := one_det n hn0 hn1 w base g k A cap code h.cur hk h.sz
  exact ⟨x, hx.mono fun e w' ⟨he, hC, hg⟩ => ⟨he, h.next hC hg, hg⟩⟩
end Go.Proofs.YtapbnggdclpokaaDoor
