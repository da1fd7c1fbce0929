/- Contract of spec's l9Next: the same square as impl's next. Condition: the square is one of the relief. -/
import Derived.Test.YtomcdkkjknphpaaL9D
import Derived.ChangeKeysEq
namespace Go.Proofs.Ytomcdkkjknphpaa
open Go.RowKit
set_option linter.unusedVariables false
def neqP (a b c d : Int) : Bool := !(decide (a = c) && decide (b = d))
theorem SA2.neq_run (a b c d : Int) (w : World) : (binOp .neq 50 (.agg #[.int .i64 a, .int .i64 b]) (.agg #[.int .i64 c, .int .i64 d])).run Try.prog w = .ok (.bool (neqP a b c d)) w := by
  have u3 := Try.underlying3
  obtain ⟨i, hi, h2, h3, h4⟩ := info_parts' infoI
  rw [run_neq_struct, show (10000 : Nat) = 9999 + 1 from rfl, run_equalIn_array w 9999 _ _ Try.underlying50 hi]
  have hce : Try.prog.cellsOf 3 = 1 := by kernel_rfl
  have hpk : Try.prog.plainKey 3 = true := by kernel_rfl
  have p0 := fun (x y : Int) W => run_part_plain (P := Try.prog) (w := W) hpk (xs := #[.int .i64 x, .int .i64 y]) (off := 0) rfl
  have p1 := fun (x y : Int) W => run_part_plain (P := Try.prog) (w := W) hpk (xs := #[.int .i64 x, .int .i64 y]) (off := 1) rfl
  unfold neqP
  rw [hce]
  simp only [show List.range 2 = [0, 1] from rfl, Op.eqItems, Sem.run_bind, Nat.zero_mul, Nat.one_mul, p0, p1, Result.andThen_ok]
  go_simp
  by_cases h1 : a = c <;> by_cases h2 : b = d <;> simp [h1, h2]
theorem neqP_run {xss : List (List Int)} {l : List SA2} {r c : Int} {k : Nat} : neqP (bestTo xss l ⟨r, c⟩ k).x (bestTo xss l ⟨r, c⟩ k).y r c = runTo xss l ⟨r, c⟩ k := by
  cases h : runTo xss l ⟨r, c⟩ k with
  | false => rw [bestTo_same h]; simp [neqP]
  | true =>
    have h2 := bestTo_ne h
    generalize bestTo xss l ⟨r, c⟩ k = q at *
    obtain ⟨qx, qy⟩ := q
    unfold neqP
    rw [Bool.not_eq_true', Bool.and_eq_false_iff, decide_eq_false_iff_not, decide_eq_false_iff_not]
    by_cases hx : qx = r
    · right; intro hy; simp only at hy; subst hx hy; exact h2 rfl
    · left; exact hx
set_option maxHeartbeats 2000000 in
theorem l9Next_is (v : Value) (xss : List (List Int)) (r c : Int) (w : World) (h : IsG w v xss) (hrel : reliefB xss = true) (hr : 0 ≤ r ∧ r < xss.length) (hc : 0 ≤ c ∧ c < hdLen xss) :
    Calls Try.prog 71 #[v, .agg #[.int .i64 r, .int .i64 c]] w fun e w' => e = .returned (.tuple #[.agg #[.int .i64 (bestN xss r c).x, .int .i64 (bestN xss r c).y], .bool (runN xss r c)]) ∧ Below w.heap.size w w' := by
  have hdm := relief_dims hrel
  have B2 := (below_alloc w (.cells #[.int .i64 r, .int .i64 c] 50)).alloc (by simp) (.cells #[.int .i64 0, .int .i64 0] 50)
  have hnear := fun W (hb : Below w.heap.size w W) => l9Near_is v xss r c W (h.below hb (Nat.le_refl _)) hr hc hdm.2.1 hdm.2.2.2
  have hk0 : Blk ((w.alloc (.cells #[.int .i64 r, .int .i64 c] 50)).alloc (.cells #[.int .i64 0, .int .i64 0] 50)) w.heap.size 50 (SA2.boxed ⟨r, c⟩) := (Blk.new w _ _).alloc _
  have hk1 : Blk ((w.alloc (.cells #[.int .i64 r, .int .i64 c] 50)).alloc (.cells #[.int .i64 0, .int .i64 0] 50)) (w.heap.size + 1) 50 #[.int .i64 0, .int .i64 0] := by
    have := Blk.new (w.alloc (.cells #[.int .i64 r, .int .i64 c] 50)) 50 #[.int .i64 0, .int .i64 0]
    rw [show (w.alloc (.cells #[.int .i64 r, .int .i64 c] 50)).heap.size = w.heap.size + 1 by simp] at this
    exact this
  have hsz2 : ((w.alloc (.cells #[.int .i64 r, .int .i64 c] 50)).alloc (.cells #[.int .i64 0, .int .i64 0] 50)).heap.size = w.heap.size + 2 := by simp
  obtain ⟨rs, hmap, his, hrs⟩ := h
  obtain ⟨A, cap, rfl, hrow, _, _⟩ := his
  have hxl : xss.length = rs.length := by rw [← hmap]; simp
  have hgc := fun (p : SA2) hp => grid_cells hmap hrow hrs hrel (p := p) hp
  have hbi := fun k hk => best_in hr hc (k := k) hk
  have hl4 := nearS_len xss r c
  have hin := fun p (hp : p ∈ nearS xss r c) => nearS_in hp
  have hb0 : bestTo xss (nearS xss r c) ⟨r, c⟩ 0 = ⟨r, c⟩ := rfl
  unfold bestN runN
  rw [hxl] at hgc hbi hin
  generalize hdLen xss = m at *
  generalize hB : w.heap.size = B at *
  have HNR := hide hnear; have HK0 := hide hk0; have HK1 := hide hk1; have HGC := hide hgc; have HBI := hide hbi; have HIN := hide hin; have HB0 := hide hb0; have HB2 := hide B2; have HSZ2 := hide hsz2
  clear hnear hk0 hk1 hgc hbi hin hb0 hrow hrs hmap hxl B2 hsz2 hrel hdm
  generalize nearS xss r c = l at *
  go_enter Try.func71, Try.ntmps71
  go_wp2_with fail
  generalize hW1 : (w.alloc (.cells #[.int .i64 r, .int .i64 c] 50)).alloc (.cells #[.int .i64 0, .int .i64 0] 50) = W1 at HK0 HK1 HB2 HSZ2 ⊢
  clear hW1
  obtain ⟨e0, e1⟩ := boxed2_cell HK0.out
  have hbW : B < W1.heap.size := by have := HSZ2.out; omega
  have B2 := HB2.out
  have hszB : B ≤ W1.heap.size := by omega
  have hnB : W1.heap.size ≠ B := by omega
  have hnB2 : B ≠ W1.heap.size := by omega
  have hnz : ∀ o, (W1.alloc (.cells #[.int .i64 0, .int .i64 0] 50)).cell? ⟨B, o, none⟩ = W1.cell? ⟨B, o, none⟩ := fun o => (bcell (below_alloc W1 _)).1 B o hbW
  go_region_held3 (fun w' => w'.cell? ⟨B, 0, none⟩ = some (.int .i64 r) ∧ w'.cell? ⟨B, 1, none⟩ = some (.int .i64 c)) (go_keep)
    (first
      | (go_at_call 88; refine (HNR.out _ (B2.alloc hszB (.cells #[.int .i64 0, .int .i64 0] 50)).drew).mono ?_; rintro e w3 ⟨x, rfl, ho, hb3⟩; have hq6 := (Blk.new W1 50 #[.int .i64 0, .int .i64 0]).below (w := (W1.alloc (.cells #[.int .i64 0, .int .i64 0] 50)).drew) hb3 (by simp [World.drew]); have g60 := hq6.some (i := 0) (show 0 < 2 by omega); have g61 := hq6.some (i := 1) (show 1 < 2 by omega); have hfz6 := hq6.frozen; have hc3 : ∀ o, w3.cell? ⟨B, o, none⟩ = W1.cell? ⟨B, o, none⟩ := (fun o => (hb3.cell (p := ⟨B, o, none⟩) (by simp [World.drew]; omega)).trans (hnz o)))
      | (go_at_call 88; refine (HNR.out _ B2.drew).mono ?_; rintro e w3 ⟨x, rfl, ho, hb3⟩; have hc3 : ∀ o, w3.cell? ⟨B, o, none⟩ = W1.cell? ⟨B, o, none⟩ := (fun o => hb3.cell (p := ⟨B, o, none⟩) hbW); have hn3 : w3.heap.size ≠ B := (by have := hb3.size; have h0 : W1.drew.heap.size = W1.heap.size := rfl; omega); have hn4 : B ≠ w3.heap.size := Ne.symm hn3; have hc4 : ∀ o, (w3.alloc (.cells #[.int .i64 0, .int .i64 0] 50)).cell? ⟨B, o, none⟩ = W1.cell? ⟨B, o, none⟩ := (fun o => ((bcell (below_alloc w3 _)).1 B o (Nat.lt_of_lt_of_le hbW hb3.size)).trans (hc3 o))))
  · have hs3 : W1.heap.size ≤ w3.heap.size := hb3.size
    have F := hide (show B + 2 ≤ w3.heap.size ∧ Own 2 SA2.enc 50 (w3.alloc (.cells #[.int .i64 r, .int .i64 c] 50)) (B + 2) x l ∧ (∀ g, x.ownBlock = some g → g ≠ w3.heap.size) ∧ Blk (w3.alloc (.cells #[.int .i64 r, .int .i64 c] 50)) w3.heap.size 50 (SA2.boxed ⟨r, c⟩) ∧ Blk (w3.alloc (.cells #[.int .i64 r, .int .i64 c] 50)) B 50 (SA2.boxed ⟨r, c⟩) ∧ Blk (w3.alloc (.cells #[.int .i64 r, .int .i64 c] 50)) (B + 1) 50 #[.int .i64 0, .int .i64 0] ∧ Below B w (w3.alloc (.cells #[.int .i64 r, .int .i64 c] 50)) from
      ⟨by have := HSZ2.out; omega, (ho.mono (show B + 2 ≤ W1.drew.heap.size by show B + 2 ≤ W1.heap.size; rw [HSZ2.out]; exact Nat.le_refl _)).alloc _, fun g hg => by have := (ho.lt g hg).2; omega, Blk.new w3 _ _, ((show Blk W1.drew B 50 (SA2.boxed ⟨r, c⟩) from HK0.out).below hb3 hbW).alloc _, ((show Blk W1.drew (B + 1) 50 #[.int .i64 0, .int .i64 0] from HK1.out).below hb3 (by show B + 1 < W1.heap.size; rw [HSZ2.out]; omega)).alloc _, (B2.drew.trans (hb3.mono hszB)).alloc (by omega) _⟩)
    clear ho hb3 hc3 hn3 hn4 hc4 hnz hnB hnB2
    generalize hWE : (w3.alloc (.cells #[.int .i64 r, .int .i64 c] 50)) = WE at F ⊢
    generalize hGG : w3.heap.size = G at F ⊢
    clear hWE hGG hs3
    obtain ⟨hGB, hown0, hxg, hbG, hbB, hbB1, hbelE⟩ := F.out
    obtain ⟨A', cap', rfl, _, _, _⟩ := hown0.row
    have HXG := hide hxg; have HO := hide hown0; have HG0 := hide hbG; have HGB := hide hbB; have HGB1 := hide hbB1
    clear F hxg hown0 hbG hbB hbB1 e0 e1
    go_wp2_with fail
    go_loopw [8] (fun i wr => ∃ k : Nat, k ≤ l.length ∧ i = .int .i64 (k : Int) ∧ Own 2 SA2.enc 50 wr (B + 2) (.slice A' l.length cap') l ∧ Blk wr G 50 (bestTo xss l ⟨r, c⟩ k).boxed ∧ Blk wr B 50 (SA2.boxed ⟨r, c⟩) ∧ Blk wr (B + 1) 50 #[.int .i64 0, .int .i64 0] ∧ Below B w wr) (fun i _ => l.length - (intOf i).toNat)
    case atStart => exact ⟨0, Nat.zero_le _, rfl, HO.out, HG0.out, HGB.out, HGB1.out, hbelE⟩
    case round =>
      obtain ⟨k, hk, rfl, hown, hblk, hblkB, hblk0, hbel⟩ := hrel
      have hgl := hblk.lt
      have hsz : B ≤ wr.heap.size := by omega
      by_cases hlt : k < l.length
      · obtain ⟨A2, c2, he, hrl, _, _⟩ := hown.row
        injection he with he1 he2 he3; subst he1 he3
        obtain ⟨b, off, rfl, hb, d0, d1⟩ := SA2.cells hrl hlt (Below.refl _ _)
        obtain ⟨e0, e1⟩ := boxed2_cell hblk
        have hpin := HIN.out l[k] (List.getElem_mem hlt)
        have hbin := HBI.out k hk
        have hst : bestTo xss l ⟨r, c⟩ (k + 1) = if cellS xss l[k] < cellS xss (bestTo xss l ⟨r, c⟩ k) then l[k] else bestTo xss l ⟨r, c⟩ k := by simp only [bestTo, List.getD_eq_getElem?_getD, List.getElem?_eq_getElem hlt, Option.getD_some]
        have hbw : b < wr.heap.size := hb
        generalize l[k] = p at *
        generalize bestTo xss l ⟨r, c⟩ k = q at *
        obtain ⟨gb, goff, gr, groff, gcr, hgA, hg1⟩ := HGC.out p hpin
        obtain ⟨gb', goff', gr', groff', gcr', hgA', hg2⟩ := HGC.out q hbin
        subst hgA
        injection hgA' with hgA'; injection hgA' with hz1 hz2; subst hz1 hz2
        obtain ⟨px, py⟩ := p
        obtain ⟨qx, qy⟩ := q
        simp only [SA2.boxed] at *
        obtain ⟨⟨px0, px1⟩, ⟨py0, py1⟩⟩ := hpin
        obtain ⟨⟨qx0, qx1⟩, ⟨qy0, qy1⟩⟩ := hbin
        have m0 := fun n : Later wr => later_cell d0 n
        have m1 := fun n : Later wr => later_cell d1 n
        have m2 := fun n : Later wr => later_cell e0 n
        have m3 := fun n : Later wr => later_cell e1 n
        have m4 := fun n : Later wr => (hg1 n.W (hbel.trans (n.h.mono hsz))).1
        have m5 := fun n : Later wr => (hg1 n.W (hbel.trans (n.h.mono hsz))).2
        have m6 := fun n : Later wr => (hg2 n.W (hbel.trans (n.h.mono hsz))).1
        have m7 := fun n : Later wr => (hg2 n.W (hbel.trans (n.h.mono hsz))).2
        have hdc := fun n : Later wr => And.intro (m0 n) (m1 n)
        have HDC := hide hdc
        have HOX := hide hown; have HKX := hide hblk; have HKB := hide hblkB; have HKX0 := hide hblk0
        generalize cellS xss ⟨px, py⟩ = hp at *
        generalize cellS xss ⟨qx, qy⟩ = hq at *
        clear hg1 hg2 hown hblk hblkB hblk0 hrl e0 e1 hdc
        have hlk' : (k : Int) < l.length := by omega
        by_cases hlow : hp < hq
        · rw [if_pos hlow] at hst
          have HST := hide hst; clear hst
          go_wp2_with fail
          (refine wp_region_later (by kernel_rfl) (by kernel_rfl) ?_; (repeat (go_big_quiet_step (fail))); refine wpQuiet_nil ?_; intro _ hw'; obtain ⟨nq, hw''⟩ := hw'; subst hw'')
          have B4 := hbel.trans (nq.h.mono hsz)
          have ho4 := HOX.out.below nq.h
          have hk4 := HKX.out.below nq.h hgl
          have hk5 := HKB.out.below nq.h HKB.out.lt
          have hk6 := HKX0.out.below nq.h HKX0.out.lt
          obtain ⟨f0, f1⟩ := HDC.out nq
          have g0 := hk4.some (i := 0) (show 0 < 2 by omega); have g1 := hk4.some (i := 1) (show 1 < 2 by omega)
          have hfz := hk4.frozen
          generalize nq.W = W5 at B4 ho4 hk4 hk5 hk6 f0 f1 g0 g1 hfz
          have HO4 := hide ho4; have HK4 := hide hk4; have HK5 := hide hk5; have HK6 := hide hk6
          clear nq ho4 hk4 hk5 hk6 m0 m1 m2 m3 m4 m5 m6 m7 d0 d1
          go_wp2_with fail
          go_round
          case measure => (simp [intOf] <;> omega)
          case rel =>
            exact ⟨k + 1, by omega, by go_num, (HO4.out.setCell (p := ⟨G, 0, none⟩) HXG.out _).setCell (p := ⟨G, 1, none⟩) HXG.out _, by rw [HST.out]; exact (HK4.out.set 0 _).set 1 _, (HK5.out.far (p := ⟨G, 0, none⟩) (by simp; omega) _).far (p := ⟨G, 1, none⟩) (by simp; omega) _, (HK6.out.far (p := ⟨G, 0, none⟩) (by simp; omega) _).far (p := ⟨G, 1, none⟩) (by simp; omega) _, (B4.setCell (p := ⟨G, 0, none⟩) (by simp; omega) _).setCell (p := ⟨G, 1, none⟩) (by simp; omega) _⟩
        · rw [if_neg hlow] at hst
          have HST := hide hst; clear hst
          go_wp2_with fail
          (refine wp_region_later (by kernel_rfl) (by kernel_rfl) ?_; (repeat (go_big_quiet_step (fail))); refine wpQuiet_nil ?_; intro _ hw'; obtain ⟨nq, hw''⟩ := hw'; subst hw'')
          have B4 := hbel.trans (nq.h.mono hsz)
          have ho4 := HOX.out.below nq.h
          have hk4 := HKX.out.below nq.h hgl
          have hk5 := HKB.out.below nq.h HKB.out.lt
          have hk6 := HKX0.out.below nq.h HKX0.out.lt
          generalize nq.W = W5 at B4 ho4 hk4 hk5 hk6
          have HO4 := hide ho4; have HK4 := hide hk4; have HK5 := hide hk5; have HK6 := hide hk6
          clear nq ho4 hk4 hk5 hk6 m0 m1 m2 m3 m4 m5 m6 m7 d0 d1
          go_wp2_with fail
          go_round
          case measure => (simp [intOf] <;> omega)
          case rel => exact ⟨k + 1, by omega, by go_num, HO4.out, by rw [HST.out]; exact HK4.out, HK5.out, HK6.out, B4⟩
      · have hkl : l.length = k := by omega
        obtain ⟨e0, e1⟩ := boxed2_cell hblk
        obtain ⟨b0, b1⟩ := boxed2_cell hblkB
        have g0 := hblk0.some (i := 0) (show 0 < 2 by omega); have g1 := hblk0.some (i := 1) (show 1 < 2 by omega)
        have hfz := hblk0.frozen
        have hne := neqP_run (xss := xss) (l := l) (r := r) (c := c) (k := k)
        have hqe : bestTo xss l ⟨r, c⟩ l.length = bestTo xss l ⟨r, c⟩ k := by rw [hkl]
        have hre : runTo xss l ⟨r, c⟩ l.length = runTo xss l ⟨r, c⟩ k := by rw [hkl]
        have HQE := hide hqe; have HRE := hide hre; have HNE := hide hne; have HKL := hide hkl; clear hqe hre hne hkl
        have n1 : G ≠ B + 1 := by omega
        have n2 : B + 1 ≠ G := by omega
        have HBEL := hide hbel; have HK0 := hide hblk0
        clear hblk hblkB hblk0 hown hbel
        generalize bestTo xss l ⟨r, c⟩ k = q at *
        generalize runTo xss l ⟨r, c⟩ k = rt at *
        obtain ⟨qx, qy⟩ := q
        simp only at *
        have hrun := fun W => SA2.neq_run qx qy r c W
        rw [HNE.out] at hrun
        go_wp2_with fail
        go_region_held3 (fun w' => w'.cell? ⟨G, 0, none⟩ = some (.int .i64 qx) ∧ w'.cell? ⟨G, 1, none⟩ = some (.int .i64 qy) ∧ w'.cell? ⟨B, 0, none⟩ = some (.int .i64 r) ∧ w'.cell? ⟨B, 1, none⟩ = some (.int .i64 c)) (go_keep) (fail)
        have hbf := ((HBEL.out.setCell (p := ⟨B + 1, 0, none⟩) (Nat.le_succ B) (.int .i64 qx)).setCell (p := ⟨B + 1, 1, none⟩) (Nat.le_succ B) (.int .i64 qy)).drew
        have hblf : Blk ((wr.setCell ⟨B + 1, 0, none⟩ (.int .i64 qx)).setCell ⟨B + 1, 1, none⟩ (.int .i64 qy)).drew (B + 1) 50 #[.int .i64 qx, .int .i64 qy] := (HK0.out.set 0 _).set 1 _
        generalize ((wr.setCell ⟨B + 1, 0, none⟩ (.int .i64 qx)).setCell ⟨B + 1, 1, none⟩ (.int .i64 qy)).drew = wf at hbf hblf ⊢
        have f0 : wf.cell? ⟨B + 1, 0, none⟩ = some (.int .i64 qx) := by rw [hblf.cell]; rfl
        have f1 : wf.cell? ⟨B + 1, 1, none⟩ = some (.int .i64 qy) := by rw [hblf.cell]; rfl
        go_wp2_with fail
        rw [HQE.out, HRE.out]
        exact bodyPost_ret (v := .tuple #[.agg #[.int .i64 qx, .int .i64 qy], .bool rt]) (by simp [results, Try.results71, go_sem, f0, f1]) rfl ⟨rfl, hbf⟩
  · have hl2 : W1.heap.size < (W1.alloc (.cells #[.int .i64 0, .int .i64 0] 50)).drew.heap.size := by show W1.heap.size < (W1.alloc _).heap.size; simp
    have hbas : B + 2 ≤ (W1.alloc (.cells #[.int .i64 0, .int .i64 0] 50)).drew.heap.size := by have := HSZ2.out; omega
    have hxo : ∀ g, x.ownBlock = some g → g ≠ W1.heap.size := fun g hg => by have := (ho.lt g hg).1; omega
    have F := hide (show B + 2 ≤ W1.heap.size ∧ Own 2 SA2.enc 50 ((w3.setCell ⟨W1.heap.size, 0, none⟩ (.int .i64 r)).setCell ⟨W1.heap.size, 1, none⟩ (.int .i64 c)) (B + 2) x l ∧ (∀ g, x.ownBlock = some g → g ≠ W1.heap.size) ∧ Blk ((w3.setCell ⟨W1.heap.size, 0, none⟩ (.int .i64 r)).setCell ⟨W1.heap.size, 1, none⟩ (.int .i64 c)) W1.heap.size 50 (SA2.boxed ⟨r, c⟩) ∧ Blk ((w3.setCell ⟨W1.heap.size, 0, none⟩ (.int .i64 r)).setCell ⟨W1.heap.size, 1, none⟩ (.int .i64 c)) B 50 (SA2.boxed ⟨r, c⟩) ∧ Blk ((w3.setCell ⟨W1.heap.size, 0, none⟩ (.int .i64 r)).setCell ⟨W1.heap.size, 1, none⟩ (.int .i64 c)) (B + 1) 50 #[.int .i64 0, .int .i64 0] ∧ Below B w ((w3.setCell ⟨W1.heap.size, 0, none⟩ (.int .i64 r)).setCell ⟨W1.heap.size, 1, none⟩ (.int .i64 c)) from
      ⟨by rw [HSZ2.out]; exact Nat.le_refl _, ((ho.mono hbas).setCell (p := ⟨W1.heap.size, 0, none⟩) hxo _).setCell (p := ⟨W1.heap.size, 1, none⟩) hxo _, hxo, (hq6.set 0 (.int .i64 r)).set 1 (.int .i64 c), (((show Blk (W1.alloc (.cells #[.int .i64 0, .int .i64 0] 50)).drew B 50 (SA2.boxed ⟨r, c⟩) from HK0.out.alloc _).below hb3 (by omega)).far (p := ⟨W1.heap.size, 0, none⟩) (by simp; omega) _).far (p := ⟨W1.heap.size, 1, none⟩) (by simp; omega) _, (((show Blk (W1.alloc (.cells #[.int .i64 0, .int .i64 0] 50)).drew (B + 1) 50 #[.int .i64 0, .int .i64 0] from HK1.out.alloc _).below hb3 (by have := HSZ2.out; omega)).far (p := ⟨W1.heap.size, 0, none⟩) (by have := HSZ2.out; simp; omega) _).far (p := ⟨W1.heap.size, 1, none⟩) (by have := HSZ2.out; simp; omega) _, ((((B2.alloc hszB _).drew).trans (hb3.mono (by omega))).setCell (p := ⟨W1.heap.size, 0, none⟩) hszB _).setCell (p := ⟨W1.heap.size, 1, none⟩) hszB _⟩)
    clear ho hb3 hc3 hq6 g60 g61 hfz6 hnz hnB hnB2
    generalize hWE : ((w3.setCell ⟨W1.heap.size, 0, none⟩ (.int .i64 r)).setCell ⟨W1.heap.size, 1, none⟩ (.int .i64 c)) = WE at F ⊢
    generalize hGG : W1.heap.size = G at F ⊢
    clear hWE hxo hl2 hbas
    obtain ⟨hGB, hown0, hxg, hbG, hbB, hbB1, hbelE⟩ := F.out
    obtain ⟨A', cap', rfl, _, _, _⟩ := hown0.row
    have HXG := hide hxg; have HO := hide hown0; have HG0 := hide hbG; have HGB := hide hbB; have HGB1 := hide hbB1
    clear F hxg hown0 hbG hbB hbB1 e0 e1
    go_wp2_with fail
    go_loopw [8] (fun i wr => ∃ k : Nat, k ≤ l.length ∧ i = .int .i64 (k : Int) ∧ Own 2 SA2.enc 50 wr (B + 2) (.slice A' l.length cap') l ∧ Blk wr G 50 (bestTo xss l ⟨r, c⟩ k).boxed ∧ Blk wr B 50 (SA2.boxed ⟨r, c⟩) ∧ Blk wr (B + 1) 50 #[.int .i64 0, .int .i64 0] ∧ Below B w wr) (fun i _ => l.length - (intOf i).toNat)
    case atStart => exact ⟨0, Nat.zero_le _, rfl, HO.out, HG0.out, HGB.out, HGB1.out, hbelE⟩
    case round =>
      obtain ⟨k, hk, rfl, hown, hblk, hblkB, hblk0, hbel⟩ := hrel
      have hgl := hblk.lt
      have hsz : B ≤ wr.heap.size := by omega
      by_cases hlt : k < l.length
      · obtain ⟨A2, c2, he, hrl, _, _⟩ := hown.row
        injection he with he1 he2 he3; subst he1 he3
        obtain ⟨b, off, rfl, hb, d0, d1⟩ := SA2.cells hrl hlt (Below.refl _ _)
        obtain ⟨e0, e1⟩ := boxed2_cell hblk
        have hpin := HIN.out l[k] (List.getElem_mem hlt)
        have hbin := HBI.out k hk
        have hst : bestTo xss l ⟨r, c⟩ (k + 1) = if cellS xss l[k] < cellS xss (bestTo xss l ⟨r, c⟩ k) then l[k] else bestTo xss l ⟨r, c⟩ k := by simp only [bestTo, List.getD_eq_getElem?_getD, List.getElem?_eq_getElem hlt, Option.getD_some]
        have hbw : b < wr.heap.size := hb
        generalize l[k] = p at *
        generalize bestTo xss l ⟨r, c⟩ k = q at *
        obtain ⟨gb, goff, gr, groff, gcr, hgA, hg1⟩ := HGC.out p hpin
        obtain ⟨gb', goff', gr', groff', gcr', hgA', hg2⟩ := HGC.out q hbin
        subst hgA
        injection hgA' with hgA'; injection hgA' with hz1 hz2; subst hz1 hz2
        obtain ⟨px, py⟩ := p
        obtain ⟨qx, qy⟩ := q
        simp only [SA2.boxed] at *
        obtain ⟨⟨px0, px1⟩, ⟨py0, py1⟩⟩ := hpin
        obtain ⟨⟨qx0, qx1⟩, ⟨qy0, qy1⟩⟩ := hbin
        have m0 := fun n : Later wr => later_cell d0 n
        have m1 := fun n : Later wr => later_cell d1 n
        have m2 := fun n : Later wr => later_cell e0 n
        have m3 := fun n : Later wr => later_cell e1 n
        have m4 := fun n : Later wr => (hg1 n.W (hbel.trans (n.h.mono hsz))).1
        have m5 := fun n : Later wr => (hg1 n.W (hbel.trans (n.h.mono hsz))).2
        have m6 := fun n : Later wr => (hg2 n.W (hbel.trans (n.h.mono hsz))).1
        have m7 := fun n : Later wr => (hg2 n.W (hbel.trans (n.h.mono hsz))).2
        have hdc := fun n : Later wr => And.intro (m0 n) (m1 n)
        have HDC := hide hdc
        have HOX := hide hown; have HKX := hide hblk; have HKB := hide hblkB; have HKX0 := hide hblk0
        generalize cellS xss ⟨px, py⟩ = hp at *
        generalize cellS xss ⟨qx, qy⟩ = hq at *
        clear hg1 hg2 hown hblk hblkB hblk0 hrl e0 e1 hdc
        have hlk' : (k : Int) < l.length := by omega
        by_cases hlow : hp < hq
        · rw [if_pos hlow] at hst
          have HST := hide hst; clear hst
          go_wp2_with fail
          (refine wp_region_later (by kernel_rfl) (by kernel_rfl) ?_; (repeat (go_big_quiet_step (fail))); refine wpQuiet_nil ?_; intro _ hw'; obtain ⟨nq, hw''⟩ := hw'; subst hw'')
          have B4 := hbel.trans (nq.h.mono hsz)
          have ho4 := HOX.out.below nq.h
          have hk4 := HKX.out.below nq.h hgl
          have hk5 := HKB.out.below nq.h HKB.out.lt
          have hk6 := HKX0.out.below nq.h HKX0.out.lt
          obtain ⟨f0, f1⟩ := HDC.out nq
          have g0 := hk4.some (i := 0) (show 0 < 2 by omega); have g1 := hk4.some (i := 1) (show 1 < 2 by omega)
          have hfz := hk4.frozen
          generalize nq.W = W5 at B4 ho4 hk4 hk5 hk6 f0 f1 g0 g1 hfz
          have HO4 := hide ho4; have HK4 := hide hk4; have HK5 := hide hk5; have HK6 := hide hk6
          clear nq ho4 hk4 hk5 hk6 m0 m1 m2 m3 m4 m5 m6 m7 d0 d1
          go_wp2_with fail
          go_round
          case measure => (simp [intOf] <;> omega)
          case rel =>
            exact ⟨k + 1, by omega, by go_num, (HO4.out.setCell (p := ⟨G, 0, none⟩) HXG.out _).setCell (p := ⟨G, 1, none⟩) HXG.out _, by rw [HST.out]; exact (HK4.out.set 0 _).set 1 _, (HK5.out.far (p := ⟨G, 0, none⟩) (by simp; omega) _).far (p := ⟨G, 1, none⟩) (by simp; omega) _, (HK6.out.far (p := ⟨G, 0, none⟩) (by simp; omega) _).far (p := ⟨G, 1, none⟩) (by simp; omega) _, (B4.setCell (p := ⟨G, 0, none⟩) (by simp; omega) _).setCell (p := ⟨G, 1, none⟩) (by simp; omega) _⟩
        · rw [if_neg hlow] at hst
          have HST := hide hst; clear hst
          go_wp2_with fail
          (refine wp_region_later (by kernel_rfl) (by kernel_rfl) ?_; (repeat (go_big_quiet_step (fail))); refine wpQuiet_nil ?_; intro _ hw'; obtain ⟨nq, hw''⟩ := hw'; subst hw'')
          have B4 := hbel.trans (nq.h.mono hsz)
          have ho4 := HOX.out.below nq.h
          have hk4 := HKX.out.below nq.h hgl
          have hk5 := HKB.out.below nq.h HKB.out.lt
          have hk6 := HKX0.out.below nq.h HKX0.out.lt
          generalize nq.W = W5 at B4 ho4 hk4 hk5 hk6
          have HO4 := hide ho4; have HK4 := hide hk4; have HK5 := hide hk5; have HK6 := hide hk6
          clear nq ho4 hk4 hk5 hk6 m0 m1 m2 m3 m4 m5 m6 m7 d0 d1
          go_wp2_with fail
          go_round
          case measure => (simp [intOf] <;> omega)
          case rel => exact ⟨k + 1, by omega, by go_num, HO4.out, by rw [HST.out]; exact HK4.out, HK5.out, HK6.out, B4⟩
      · have hkl : l.length = k := by omega
        obtain ⟨e0, e1⟩ := boxed2_cell hblk
        obtain ⟨b0, b1⟩ := boxed2_cell hblkB
        have g0 := hblk0.some (i := 0) (show 0 < 2 by omega); have g1 := hblk0.some (i := 1) (show 1 < 2 by omega)
        have hfz := hblk0.frozen
        have hne := neqP_run (xss := xss) (l := l) (r := r) (c := c) (k := k)
        have hqe : bestTo xss l ⟨r, c⟩ l.length = bestTo xss l ⟨r, c⟩ k := by rw [hkl]
        have hre : runTo xss l ⟨r, c⟩ l.length = runTo xss l ⟨r, c⟩ k := by rw [hkl]
        have HQE := hide hqe; have HRE := hide hre; have HNE := hide hne; have HKL := hide hkl; clear hqe hre hne hkl
        have n1 : G ≠ B + 1 := by omega
        have n2 : B + 1 ≠ G := by omega
        have HBEL := hide hbel; have HK0 := hide hblk0
        clear hblk hblkB hblk0 hown hbel
        generalize bestTo xss l ⟨r, c⟩ k = q at *
        generalize runTo xss l ⟨r, c⟩ k = rt at *
        obtain ⟨qx, qy⟩ := q
        simp only at *
        have hrun := fun W => SA2.neq_run qx qy r c W
        rw [HNE.out] at hrun
        go_wp2_with fail
        go_region_held3 (fun w' => w'.cell? ⟨G, 0, none⟩ = some (.int .i64 qx) ∧ w'.cell? ⟨G, 1, none⟩ = some (.int .i64 qy) ∧ w'.cell? ⟨B, 0, none⟩ = some (.int .i64 r) ∧ w'.cell? ⟨B, 1, none⟩ = some (.int .i64 c)) (go_keep) (fail)
        have hbf := ((HBEL.out.setCell (p := ⟨B + 1, 0, none⟩) (Nat.le_succ B) (.int .i64 qx)).setCell (p := ⟨B + 1, 1, none⟩) (Nat.le_succ B) (.int .i64 qy)).drew
        have hblf : Blk ((wr.setCell ⟨B + 1, 0, none⟩ (.int .i64 qx)).setCell ⟨B + 1, 1, none⟩ (.int .i64 qy)).drew (B + 1) 50 #[.int .i64 qx, .int .i64 qy] := (HK0.out.set 0 _).set 1 _
        generalize ((wr.setCell ⟨B + 1, 0, none⟩ (.int .i64 qx)).setCell ⟨B + 1, 1, none⟩ (.int .i64 qy)).drew = wf at hbf hblf ⊢
        have f0 : wf.cell? ⟨B + 1, 0, none⟩ = some (.int .i64 qx) := by rw [hblf.cell]; rfl
        have f1 : wf.cell? ⟨B + 1, 1, none⟩ = some (.int .i64 qy) := by rw [hblf.cell]; rfl
        go_wp2_with fail
        rw [HQE.out, HRE.out]
        exact bodyPost_ret (v := .tuple #[.agg #[.int .i64 qx, .int .i64 qy], .bool rt]) (by simp [results, Try.results71, go_sem, f0, f1]) rfl ⟨rfl, hbf⟩
end Go.Proofs.Ytomcdkkjknphpaa
