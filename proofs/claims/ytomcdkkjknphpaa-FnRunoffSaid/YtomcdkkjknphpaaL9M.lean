/- The squares over which water runs: the Lean list runL; contracts of impl's runOff and spec's l9Run, and of RunOff in both. Condition: the square is one of the relief. (Printed by mkrun9.py.) -/
import Derived.Test.YtomcdkkjknphpaaL9L
namespace Go.Proofs.Ytomcdkkjknphpaa
open Go.RowKit
set_option linter.unusedVariables false
/-- l: the squares behind p over which water runs -/
inductive RunFrom (xss : List (List Int)) : SA2 → List SA2 → Prop
  | stop {p : SA2} : runN xss p.x p.y = false → RunFrom xss p []
  | go {p : SA2} {l : List SA2} : runN xss p.x p.y = true → RunFrom xss (bestN xss p.x p.y) l → RunFrom xss p (bestN xss p.x p.y :: l)
def runF (xss : List (List Int)) : Nat → SA2 → List SA2
  | 0, _ => []
  | n + 1, p => if runN xss p.x p.y then bestN xss p.x p.y :: runF xss n (bestN xss p.x p.y) else []
def runL (xss : List (List Int)) (p : SA2) : List SA2 := p :: runF xss 10000 p
section
variable {xss : List (List Int)}
theorem runN_lt {p : SA2} (h : runN xss p.x p.y = true) : cellS xss (bestN xss p.x p.y) < cellS xss p := of_decide_eq_true h
theorem runF_from (h : reliefB xss = true) : ∀ (n : Nat) (p : SA2), InS xss p → cellS xss p < n → RunFrom xss p (runF xss n p)
  | 0, p, hp, hn => by have := (cellS_in h hp).1; omega
  | n + 1, p, hp, hn => by
    unfold runF
    cases hr : runN xss p.x p.y with
    | false => exact .stop hr
    | true =>
      have h1 := runN_lt hr
      exact .go hr (runF_from h n _ (bestN_in hp) (by omega))
theorem runL_from (h : reliefB xss = true) {p : SA2} (hp : InS xss p) : RunFrom xss p (runF xss 10000 p) := runF_from h _ _ hp (by have := (cellS_in h hp).2; omega)
theorem RunFrom.len (h : reliefB xss = true) {p : SA2} {l : List SA2} (hl : RunFrom xss p l) (hp : InS xss p) : (l.length : Int) ≤ cellS xss p := by
  induction hl with
  | stop hr => have := (cellS_in h hp).1; simpa using this
  | go hr _ ih =>
    have h1 := runN_lt hr
    have h2 := ih (bestN_in hp)
    simp only [List.length_cons]; omega
theorem runL_len (h : reliefB xss = true) {p : SA2} (hp : InS xss p) : (runL xss p).length ≤ 10000 := by
  have h1 := (runL_from h hp).len h hp
  have h2 := (cellS_in h hp).2
  simp only [runL, List.length_cons]; omega
theorem own_one2 (w : World) {B : Nat} (hB : B ≤ w.heap.size) (x y : Int) : Own 2 SA2.enc 50 (w.alloc (.cells #[.int .i64 x, .int .i64 y] 50)) B (.slice (some ⟨w.heap.size, 0, none⟩) 1 1) [(⟨x, y⟩ : SA2)] :=
  Own.made (cs := #[.int .i64 x, .int .i64 y]) rfl hB (Blk.new _ _ _) rfl (by simp only [maxLen, List.length_singleton]; omega) (by
    intro j z hj hz k hk
    have hj0 : j = 0 := by simpa using hj
    subst hj0
    simp at hz
    subst hz
    have hk' : k = 0 ∨ k = 1 := by omega
    rcases hk' with rfl | rfl <;> rfl)
end

set_option maxHeartbeats 1000000 in
theorem runOff_is (v : Value) (xss : List (List Int)) (r c : Int) (w : World) (h : IsG w v xss) (hrel : reliefB xss = true) (hr : 0 ≤ r ∧ r < xss.length) (hc : 0 ≤ c ∧ c < hdLen xss) :
    Calls Try.prog 75 #[v, .int .i64 r, .int .i64 c] w fun e w' => ∃ x, e = .returned x ∧ Own 2 SA2.enc 50 w' w.heap.size x (runL xss ⟨r, c⟩) ∧ Below w.heap.size w w' := by
  have hin : InS xss ⟨r, c⟩ := ⟨hr, hc⟩
  have hnx := fun (q : SA2) (hq : InS xss q) W (hb : Below w.heap.size w W) => next_is v xss q.x q.y W (h.below hb (Nat.le_refl _)) hrel hq.1 hq.2
  have hbn := fun (q : SA2) (hq : InS xss q) => (bestN_in hq : InS xss (bestN xss q.x q.y))
  have hll := runL_len hrel hin
  have hfr := runL_from hrel hin
  unfold runL at hll ⊢
  generalize runF xss 10000 ⟨r, c⟩ = rest0 at hll hfr ⊢
  generalize hB : w.heap.size = B at *
  have HNX := hide hnx; have HBN := hide hbn; have HFR := hide hfr; have HB := hide hB
  clear hnx hbn hfr h hrel hr hc
  have B0 := Below.refl B w
  have hs0 : w.heap.size = B := hB
  have B1 := B0.alloc (by omega) (.cells #[.int .i64 r, .int .i64 c] 50)
  have ho0 := own_one2 w (B := B) (by omega) r c
  have hcall := HNX.out ⟨r, c⟩ hin _ B1
  simp only at hcall
  rw [hs0] at ho0
  have HC := hide hcall; have HO0 := hide ho0; clear hcall ho0
  go_enter Try.func75, Try.ntmps75
  go_wp2_with fail
  refine HC.out.mono ?_; rintro e w1 ⟨rfl, hb1⟩
  have s1 : B + 1 ≤ w1.heap.size := by have := hb1.size; simp [hB] at this; omega
  have B2 := bstep B1 hb1 (by simp [hB] <;> omega)
  have HO1 := hide (HO0.out.below hb1)
  have hkn := Blk.new w1 50 (SA2.boxed (bestN xss r c))
  have hxg : ∀ g, (Value.slice (some ⟨B, 0, none⟩) 1 1).ownBlock = some g → g ≠ w1.heap.size := fun g hg => by
    have hgg : B = g := Option.some.inj hg
    omega
  have HKN := hide hkn; have HXG := hide hxg; clear hkn hxg hb1 HC HO0
  go_wp2_with fail
  go_loopg [7, 8, 9] rest0.length (fun g s p b wr => ∃ (q : SA2) (dn rest : List SA2) (gb : Nat), g = rest.length ∧ p = .pointer (some ⟨gb, 0, none⟩) ∧ b = .bool (runN xss q.x q.y) ∧ dn ++ rest = ⟨r, c⟩ :: rest0 ∧ RunFrom xss q rest ∧ InS xss q ∧ Own 2 SA2.enc 50 wr B s dn ∧ (∀ g, s.ownBlock = some g → g ≠ gb) ∧ B ≤ gb ∧ Blk wr gb 50 (bestN xss q.x q.y).boxed ∧ Below B w wr)
  case atStart =>
    exact ⟨⟨r, c⟩, [⟨r, c⟩], rest0, w1.heap.size, rfl, rfl, rfl, rfl, HFR.out, hin, HO1.out.alloc _, HXG.out, by omega, HKN.out, B2.alloc (by omega) _⟩
  case round =>
    obtain ⟨q, dn, rest, gb, rfl, rfl, rfl, hcat, hfrom, hq, hown, hng, hgbB, hblk, hbel⟩ := hrel
    have hsz : B ≤ wr.heap.size := by have := hbel.size; rw [HB.out] at this; exact this
    have HCAT := hide hcat; have HOW := hide hown
    clear hcat hown
    cases hfrom with
    | stop hz =>
      have HZ := hide hz; clear hblk hng
      rw [hz]
      go_wp2_with fail
      go_ret
      refine ⟨_, rfl, ?_, hbel⟩
      have := HCAT.out
      rw [List.append_nil] at this
      rw [← this]
      exact HOW.out
    | @go _ l hz hrest =>
      rw [hz]
      have hdl : dn.length ≤ 16777216 := by
        have h1 := congrArg List.length HCAT.out
        simp only [List.length_append, List.length_cons] at h1 hll; omega
      have hq2 := HBN.out q hq
      have hst : (dn ++ [bestN xss q.x q.y]) ++ l = ⟨r, c⟩ :: rest0 := by rw [List.append_assoc]; exact HCAT.out
      have hgl := hblk.lt
      have HST := hide hst; have HRT := hide hrest
      clear hst hrest hz hin
      generalize bestN xss q.x q.y = p at *
      obtain ⟨px, py⟩ := p
      obtain ⟨e0, e1⟩ := boxed2_cell hblk
      simp only at e0 e1
      have HNG := hide hng; have HBK := hide hblk; clear hng hblk
      have hca := fun W hb => HNX.out ⟨px, py⟩ hq2 W hb
      simp only at hca
      have HCA := hide hca; clear hca
      go_wp2_with (at_builtin; refine wpList_push1s (k := 2) (enc := SA2.enc) _ rfl _ _ 44 rfl 50 (.agg #[.int .i64 0, .int .i64 0]) 16 Try.underlying44 SA2.info rfl (by omega) (by omega) SA2.one B _ dn rfl HOW.out (⟨px, py⟩ : SA2) _ _ rfl rfl rfl hdl hsz hbel (Nat.le_refl _) rfl ?_; intro v1 w2 ho1 hb2 hg2; have hbk2 := (hg2.block gb (by simp; omega) (fun e => HNG.out gb e.symm rfl)).trans (HBK.out.alloc (.cells #[.int .i64 px, .int .i64 py] 50)); have hs2 : wr.heap.size + 1 ≤ w2.heap.size := (by have := hg2.size; simpa using this); obtain ⟨f0, f1⟩ := boxed2_cell (p := ⟨px, py⟩) hbk2; have HO2 := hide ho1; clear ho1 hg2 hbk2; have hkb := Blk.new w2 50 (SA2.boxed ⟨px, py⟩); have HKB := hide hkb; obtain ⟨k0, k1⟩ := boxed2_cell hkb; simp only at k0 k1; clear hkb)
      have B3 := hb2.alloc (by omega) (.cells #[.int .i64 px, .int .i64 py] 50)
      refine (HCA.out _ B3).mono ?_; rintro e w5 ⟨rfl, hb5⟩
      have B5 := bstep B3 hb5 (by simp; omega)
      have ho5 := (HO2.out.alloc (.cells #[.int .i64 px, .int .i64 py] 50)).below hb5
      have hk5 := HKB.out.below hb5 (by simp)
      have hxg2 : ∀ g, v1.ownBlock = some g → g ≠ w2.heap.size := fun g hg => by have := (HO2.out.lt g hg).2; omega
      have g0 := hk5.some (i := 0) (show 0 < 2 by omega); have g1 := hk5.some (i := 1) (show 1 < 2 by omega)
      have hfz := hk5.frozen
      have HO5 := hide ho5; have HK5 := hide hk5; have HXG2 := hide hxg2
      clear ho5 hk5 hxg2 hb5 e0 e1 f0 f1 k0 k1
      go_wp2_with fail
      go_roundg l.length
      case measure => simp
      case rel =>
        exact ⟨⟨px, py⟩, dn ++ [⟨px, py⟩], l, w2.heap.size, rfl, rfl, rfl, HST.out, HRT.out, hq2, (HO5.out.setCell (p := ⟨w2.heap.size, 0, none⟩) HXG2.out _).setCell (p := ⟨w2.heap.size, 1, none⟩) HXG2.out _, HXG2.out, by omega, (HK5.out.set 0 _).set 1 _, (B5.setCell (p := ⟨w2.heap.size, 0, none⟩) (by simp; omega) _).setCell (p := ⟨w2.heap.size, 1, none⟩) (by simp; omega) _⟩
set_option maxHeartbeats 1000000 in
theorem l9Run_is (v : Value) (xss : List (List Int)) (r c : Int) (w : World) (h : IsG w v xss) (hrel : reliefB xss = true) (hr : 0 ≤ r ∧ r < xss.length) (hc : 0 ≤ c ∧ c < hdLen xss) :
    Calls Try.prog 74 #[v, .agg #[.int .i64 r, .int .i64 c]] w fun e w' => ∃ x, e = .returned x ∧ Own 2 SA2.enc 50 w' w.heap.size x (runL xss ⟨r, c⟩) ∧ Below w.heap.size w w' := by
  have hin : InS xss ⟨r, c⟩ := ⟨hr, hc⟩
  have hnx := fun (q : SA2) (hq : InS xss q) W (hb : Below w.heap.size w W) => l9Next_is v xss q.x q.y W (h.below hb (Nat.le_refl _)) hrel hq.1 hq.2
  have hbn := fun (q : SA2) (hq : InS xss q) => (bestN_in hq : InS xss (bestN xss q.x q.y))
  have hll := runL_len hrel hin
  have hfr := runL_from hrel hin
  unfold runL at hll ⊢
  generalize runF xss 10000 ⟨r, c⟩ = rest0 at hll hfr ⊢
  generalize hB : w.heap.size = B at *
  have HNX := hide hnx; have HBN := hide hbn; have HFR := hide hfr; have HB := hide hB
  clear hnx hbn hfr h hrel hr hc
  have B0 := (Below.refl B w).alloc (by rw [hB]; exact Nat.le_refl _) (.cells #[.int .i64 r, .int .i64 c] 50)
  have x0 : (w.alloc (.cells #[.int .i64 r, .int .i64 c] 50)).cell? ⟨B, 0, none⟩ = some (.int .i64 r) := by rw [← hB, (Blk.new _ _ _).cell]; rfl
  have x1 : (w.alloc (.cells #[.int .i64 r, .int .i64 c] 50)).cell? ⟨B, 1, none⟩ = some (.int .i64 c) := by rw [← hB, (Blk.new _ _ _).cell]; rfl
  have hs0 : (w.alloc (.cells #[.int .i64 r, .int .i64 c] 50)).heap.size = B + 1 := by simp [hB]
  have B1 := B0.alloc (by omega) (.cells #[.int .i64 r, .int .i64 c] 50)
  have ho0 := own_one2 (w.alloc (.cells #[.int .i64 r, .int .i64 c] 50)) (B := B) (by omega) r c
  have hcall := HNX.out ⟨r, c⟩ hin _ B1
  simp only at hcall
  have y0 := ((bcell (below_alloc (w.alloc (.cells #[.int .i64 r, .int .i64 c] 50)) (.cells #[.int .i64 r, .int .i64 c] 50))).1 B 0 (by rw [hs0]; omega)).trans x0
  have y1 := ((bcell (below_alloc (w.alloc (.cells #[.int .i64 r, .int .i64 c] 50)) (.cells #[.int .i64 r, .int .i64 c] 50))).1 B 1 (by rw [hs0]; omega)).trans x1
  rw [hs0] at ho0
  have HC := hide hcall; have HO0 := hide ho0; clear hcall ho0
  go_enter Try.func74, Try.ntmps74
  go_wp2_with fail
  refine HC.out.mono ?_; rintro e w1 ⟨rfl, hb1⟩
  have s1 : B + 1 + 1 ≤ w1.heap.size := by have := hb1.size; simp [hB] at this; omega
  have B2 := bstep B1 hb1 (by simp [hB] <;> omega)
  have HO1 := hide (HO0.out.below hb1)
  have hkn := Blk.new w1 50 (SA2.boxed (bestN xss r c))
  have hxg : ∀ g, (Value.slice (some ⟨B + 1, 0, none⟩) 1 1).ownBlock = some g → g ≠ w1.heap.size := fun g hg => by
    have hgg : B + 1 = g := Option.some.inj hg
    omega
  have HKN := hide hkn; have HXG := hide hxg; clear hkn hxg hb1 HC HO0
  go_wp2_with fail
  go_loopg [5, 6, 7] rest0.length (fun g s p b wr => ∃ (q : SA2) (dn rest : List SA2) (gb : Nat), g = rest.length ∧ p = .pointer (some ⟨gb, 0, none⟩) ∧ b = .bool (runN xss q.x q.y) ∧ dn ++ rest = ⟨r, c⟩ :: rest0 ∧ RunFrom xss q rest ∧ InS xss q ∧ Own 2 SA2.enc 50 wr B s dn ∧ (∀ g, s.ownBlock = some g → g ≠ gb) ∧ B ≤ gb ∧ Blk wr gb 50 (bestN xss q.x q.y).boxed ∧ Below B w wr)
  case atStart =>
    exact ⟨⟨r, c⟩, [⟨r, c⟩], rest0, w1.heap.size, rfl, rfl, rfl, rfl, HFR.out, hin, HO1.out.alloc _, HXG.out, by omega, HKN.out, B2.alloc (by omega) _⟩
  case round =>
    obtain ⟨q, dn, rest, gb, rfl, rfl, rfl, hcat, hfrom, hq, hown, hng, hgbB, hblk, hbel⟩ := hrel
    have hsz : B ≤ wr.heap.size := by have := hbel.size; rw [HB.out] at this; exact this
    have HCAT := hide hcat; have HOW := hide hown
    clear hcat hown x0 x1 y0 y1
    cases hfrom with
    | stop hz =>
      have HZ := hide hz; clear hblk hng
      rw [hz]
      go_wp2_with fail
      go_ret
      refine ⟨_, rfl, ?_, hbel⟩
      have := HCAT.out
      rw [List.append_nil] at this
      rw [← this]
      exact HOW.out
    | @go _ l hz hrest =>
      rw [hz]
      have hdl : dn.length ≤ 16777216 := by
        have h1 := congrArg List.length HCAT.out
        simp only [List.length_append, List.length_cons] at h1 hll; omega
      have hq2 := HBN.out q hq
      have hst : (dn ++ [bestN xss q.x q.y]) ++ l = ⟨r, c⟩ :: rest0 := by rw [List.append_assoc]; exact HCAT.out
      have hgl := hblk.lt
      have HST := hide hst; have HRT := hide hrest
      clear hst hrest hz hin
      generalize bestN xss q.x q.y = p at *
      obtain ⟨px, py⟩ := p
      obtain ⟨e0, e1⟩ := boxed2_cell hblk
      simp only at e0 e1
      have HNG := hide hng; have HBK := hide hblk; clear hng hblk
      have hca := fun W hb => HNX.out ⟨px, py⟩ hq2 W hb
      simp only at hca
      have HCA := hide hca; clear hca
      go_wp2_with (at_builtin; refine wpList_push1s (k := 2) (enc := SA2.enc) _ rfl _ _ 44 rfl 50 (.agg #[.int .i64 0, .int .i64 0]) 16 Try.underlying44 SA2.info rfl (by omega) (by omega) SA2.one B _ dn rfl HOW.out (⟨px, py⟩ : SA2) _ _ rfl rfl rfl hdl hsz hbel (Nat.le_refl _) rfl ?_; intro v1 w2 ho1 hb2 hg2; have hbk2 := (hg2.block gb (by simp; omega) (fun e => HNG.out gb e.symm rfl)).trans (HBK.out.alloc (.cells #[.int .i64 px, .int .i64 py] 50)); have hs2 : wr.heap.size + 1 ≤ w2.heap.size := (by have := hg2.size; simpa using this); obtain ⟨f0, f1⟩ := boxed2_cell (p := ⟨px, py⟩) hbk2; have HO2 := hide ho1; clear ho1 hg2 hbk2; have hkb := Blk.new w2 50 (SA2.boxed ⟨px, py⟩); have HKB := hide hkb; obtain ⟨k0, k1⟩ := boxed2_cell hkb; simp only at k0 k1; clear hkb)
      have B3 := hb2.alloc (by omega) (.cells #[.int .i64 px, .int .i64 py] 50)
      refine (HCA.out _ B3).mono ?_; rintro e w5 ⟨rfl, hb5⟩
      have B5 := bstep B3 hb5 (by simp; omega)
      have ho5 := (HO2.out.alloc (.cells #[.int .i64 px, .int .i64 py] 50)).below hb5
      have hk5 := HKB.out.below hb5 (by simp)
      have hxg2 : ∀ g, v1.ownBlock = some g → g ≠ w2.heap.size := fun g hg => by have := (HO2.out.lt g hg).2; omega
      have g0 := hk5.some (i := 0) (show 0 < 2 by omega); have g1 := hk5.some (i := 1) (show 1 < 2 by omega)
      have hfz := hk5.frozen
      have HO5 := hide ho5; have HK5 := hide hk5; have HXG2 := hide hxg2
      clear ho5 hk5 hxg2 hb5 e0 e1 f0 f1 k0 k1
      go_wp2_with fail
      go_roundg l.length
      case measure => simp
      case rel =>
        exact ⟨⟨px, py⟩, dn ++ [⟨px, py⟩], l, w2.heap.size, rfl, rfl, rfl, HST.out, HRT.out, hq2, (HO5.out.setCell (p := ⟨w2.heap.size, 0, none⟩) HXG2.out _).setCell (p := ⟨w2.heap.size, 1, none⟩) HXG2.out _, HXG2.out, by omega, (HK5.out.set 0 _).set 1 _, (B5.setCell (p := ⟨w2.heap.size, 0, none⟩) (by simp; omega) _).setCell (p := ⟨w2.heap.size, 1, none⟩) (by simp; omega) _⟩
end Go.Proofs.Ytomcdkkjknphpaa
