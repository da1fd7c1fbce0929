/- Contract of ofScale in impl: the sheets of a scale, in order. Condition: fewer than 1000 sheets. -/
import Derived.Test.YtplemibckjnbhaaGreatDoorL2J
namespace Go.Proofs.YtplemibckjnbhaaGreatDoor
open Go.RowKit
set_option linter.unusedVariables false
def filtS (scale : Int) (xs : List SSheet) (n : Nat) : List SSheet := (xs.take n).filter fun c => decide (c.scale = scale)
theorem filtS_succ {scale : Int} {xs : List SSheet} {n : Nat} (h : n < xs.length) : filtS scale xs (n + 1) = filtS scale xs n ++ if xs[n].scale = scale then [xs[n]] else [] := by
  unfold filtS
  rw [take_snoc' h, List.filter_append]
  congr 1
  by_cases hp : xs[n].scale = scale <;> simp [hp]
theorem filtS_le (scale : Int) (xs : List SSheet) (n : Nat) : (filtS scale xs n).length ≤ n := by
  unfold filtS
  exact Nat.le_trans (List.length_filter_le _ _) (by simp; omega)
set_option maxHeartbeats 2000000 in
theorem ofScale_is (v : Value) (xs : List SSheet) (scale : Int) (w : World) (h : Is 5 SSheet.enc w v xs) (hl : xs.length < 1000) :
    Calls Tryz.prog 89 #[v, .int .i64 scale] w fun e w' => ∃ (r : Value) (ys : List SSheet), e = .returned r ∧ ys.Perm (xs.filter fun c => decide (c.scale = scale)) ∧ SortedS ys ∧ Own 5 SSheet.enc 50 w' w.heap.size r ys ∧ Below w.heap.size w w' := by
  obtain ⟨A, cap, rfl, hr, _, _⟩ := h
  generalize hB : w.heap.size = B at *
  have HB := hide hB; have HR := hide hr; clear hr
  go_enter Tryz.func89, Tryz.ntmps89
  go_wp2_with fail
  go_loopw [5, 10] (fun s i wr => ∃ n : Nat, n ≤ xs.length ∧ i = .int .i64 (n : Int) ∧ Own 5 SSheet.enc 50 wr B s (filtS scale xs n) ∧ Below B w wr) (fun _ i _ => xs.length - (intOf i).toNat)
  case atStart => exact ⟨0, Nat.zero_le _, rfl, Own.nil, Below.refl _ _⟩
  case round =>
    obtain ⟨n, hn, rfl, hown, hbel⟩ := hrel
    have HOW := hide hown; clear hown
    have hsz : B ≤ wr.heap.size := by have := hbel.size; rw [HB.out] at this; exact this
    by_cases hlt : n < xs.length
    · have hlt' : (n : Int) < xs.length := by omega
      obtain ⟨b, off, rfl, hb, c0, c1, c2, c3, c4⟩ := SSheet.cells HR.out hlt hbel
      have hst := filtS_succ (scale := scale) hlt
      have hdl : (filtS scale xs n).length ≤ 16777216 := by have := filtS_le scale xs n; omega
      generalize xs[n] = yy at *
      obtain ⟨y0, y1, y2, y3, y4⟩ := yy
      simp only at c0 c1 c2 c3 c4 hst
      have HBK := hide (Blk.new wr 50 #[.int .i64 y0, .int .i64 y1, .int .i64 y2, .int .i64 y3, .int .i64 y4])
      have HO1 := hide (HOW.out.below (below_alloc wr (.cells #[.int .i64 y0, .int .i64 y1, .int .i64 y2, .int .i64 y3, .int .i64 y4] 50)))
      have BB := hbel.alloc hsz (.cells #[.int .i64 y0, .int .i64 y1, .int .i64 y2, .int .i64 y3, .int .i64 y4] 50)
      have HST := hide hst
      have hsa : B ≤ (wr.alloc (.cells #[.int .i64 y0, .int .i64 y1, .int .i64 y2, .int .i64 y3, .int .i64 y4] 50)).heap.size := Nat.le_trans hsz (by simp)
      clear hst HOW hbel
      go_upto_region 5 with fail
      clear c0 c1 c2 c3 c4
      generalize wr.alloc (.cells #[.int .i64 y0, .int .i64 y1, .int .i64 y2, .int .i64 y3, .int .i64 y4] 50) = w3 at *
      generalize wr.heap.size = gm at *
      obtain ⟨t0, t1, t2, t3, t4⟩ := mk5S HBK.out
      by_cases hq : y3 = scale
      · have hq2 : (y3 == scale) = true := by simpa using hq
        rw [if_pos hq] at HST
        clear hq
        go_wp2_with (at_builtin; refine wpList_push1 (k := 5) (enc := SSheet.enc) _ rfl _ _ 56 rfl 50 (.agg #[.int .i64 0, .int .i64 0, .int .i64 0, .int .i64 0, .int .i64 0]) 40 Tryz.underlying56 SSheet.info rfl (by omega) (by omega) SSheet.one B _ (filtS scale xs n) rfl HO1.out (⟨y0, y1, y2, y3, y4⟩) _ rfl rfl hdl hsa BB (Nat.le_refl _) rfl ?_; intro v1 w1 ho1 hb1 hg1)
        go_round
        case measure => (simp [intOf] <;> omega)
        case rel => exact ⟨n + 1, by omega, by go_num, by rw [HST.out]; exact ho1, hb1⟩
      · have hq2 : (y3 == scale) = false := by simpa using hq
        rw [if_neg hq, List.append_nil] at HST
        clear hq
        go_wp2_with fail
        go_round
        case measure => (simp [intOf] <;> omega)
        case rel => exact ⟨n + 1, by omega, by go_num, by rw [HST.out]; exact HO1.out, BB⟩
    · have hnn : n = xs.length := by omega
      have hfl := filtS_le scale xs xs.length
      have hown := HOW.out
      rw [hnn] at hown
      have hfs : filtS scale xs xs.length = xs.filter fun c => decide (c.scale = scale) := by simp [filtS]
      have HFS := hide hfs
      have hbelg := fun (W' : World) (hg : wr.grownBy W' (Value.ownBlock u5)) => hown.belowGrown hbel hg (Nat.le_refl B) hsz
      have HS := hide (sortS_is _ _ wr hown (by omega))
      have HBG := hide hbelg
      clear hown hfs hnn HOW hbelg
      go_wp2_with fail
      refine HS.out.mono ?_; rintro e w5 ⟨rfl, ys, hp, hs, ho, hg⟩
      have HP := hide hp; have HSS := hide hs; have HO := hide ho; have B5 := hide (HBG.out _ hg); clear hp hs ho hg
      go_wp2_with fail
      go_ret
      exact ⟨_, ys, rfl, by rw [← HFS.out]; exact HP.out, HSS.out, HO.out, B5.out⟩
end Go.Proofs.YtplemibckjnbhaaGreatDoor
