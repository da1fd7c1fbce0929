/- Contract of impl's lower: rounds of steps over heights of the call's own. Condition: claims for n marks. -/
import Derived.Test.YtijjecckfcbaoaaL8G
namespace Go.Proofs.Ytijjecckfcbaoaa
open Go.RowKit
set_option linter.unusedVariables false
def encBo (x : Bool) : Nat → Value := fun _ => .bool x
theorem encBo_one : ∀ (c : Bool) (j : Nat), (encBo c j).oneCell' = true := fun c j => rfl
theorem infoBo : (Try.prog.info? 4).map (fun i => (i.zero, i.size, i.bytes)) = some (some (.bool false), 1, 1) := by kernel_rfl
theorem Bools.cells {w : World} {B : Nat} {A : Option Addr} {xs : List Bool} (h : Row 1 encBo w B A xs) {i : Nat} (hi : i < xs.length) {wr : World} (hb : Below B w wr) :
    ∃ b off, A = some ⟨b, off, none⟩ ∧ b < B ∧ wr.cell? ⟨b, off + i, none⟩ = some (.bool xs[i]) := by
  obtain ⟨b, off, rfl, hl, hc⟩ := h.get hi
  have h0 := (hb.cell (p := ⟨b, off + i * 1 + 0, none⟩) hl).trans (hc 0 (by omega))
  rw [Nat.mul_one, Nat.add_zero] at h0
  exact ⟨b, off, rfl, hl, h0⟩
theorem own_ne8 {α β : Type} {k k' : Nat} {enc : α → Nat → Value} {enc' : β → Nat → Value} {e e' : TypeId} {w : World} {b b' : Nat} {v v' : Value} {xs : List α} {ys : List β} (h : Own k enc e w b v xs) (h' : Own k' enc' e' w b' v' ys) (hne : e ≠ e') : ∀ g, v.ownBlock = some g → v'.ownBlock ≠ some g := by
  intro g hg hg'
  rcases h with ⟨rfl, _⟩ | ⟨g1, cap, cs, rfl, _, hb, _⟩
  · simp [Value.ownBlock] at hg
  rcases h' with ⟨rfl, _⟩ | ⟨g2, cap2, cs2, rfl, _, hb2, _⟩
  · simp [Value.ownBlock] at hg'
  simp only [Value.ownBlock, Option.some.injEq] at hg hg'
  subst hg hg'
  unfold Blk at hb hb2
  rw [hb] at hb2
  injection hb2 with h1
  injection h1 with _ h2 _
  exact hne h2
theorem own_blk8 {α : Type} {k : Nat} {enc : α → Nat → Value} {e : TypeId} {w : World} {base : Nat} {v : Value} {xs : List α} (h : Own k enc e w base v xs) (hp : 0 < xs.length) :
    ∃ g cap cs, v = .slice (some ⟨g, 0, none⟩) xs.length cap ∧ base ≤ g ∧ Blk w g e cs ∧ xs.length ≤ cap ∧ cap ≤ maxLen ∧ cs.size = cap * k ∧ Filled k enc cs xs.length xs := by
  rcases h with ⟨_, rfl⟩ | h
  · simp at hp
  · exact h
theorem filled_set8 {α : Type} {enc : α → Nat → Value} {cs : Array Value} {xs : List α} (h : Filled 1 enc cs xs.length xs) {j : Nat} (hs : j < cs.size) (x : α) {u : Value} (hu : enc x 0 = u) : Filled 1 enc (cs.setIfInBounds j u) (xs.set j x).length (xs.set j x) := by
  subst hu
  intro i y hi hy c hc
  obtain rfl : c = 0 := by omega
  rw [Nat.mul_one, Nat.add_zero]
  rw [List.length_set] at hi
  by_cases hij : j = i
  · subst hij
    rw [List.getElem?_set_self hi] at hy
    injection hy with hy
    subst hy
    rw [Array.getElem?_setIfInBounds_self_of_lt hs]
  · rw [List.getElem?_set_ne hij] at hy
    rw [Array.getElem?_setIfInBounds_ne hij]
    have := h i y hi hy 0 (by omega)
    rw [Nat.mul_one, Nat.add_zero] at this
    exact this
theorem Own.setElem8 {α : Type} {enc : α → Nat → Value} {e : TypeId} {w : World} {base g cap n : Nat} {xs : List α} (h : Own 1 enc e w base (.slice (some ⟨g, 0, none⟩) n cap) xs) {j : Nat} (hj : j < xs.length) (x : α) {u : Value} (hu : enc x 0 = u) : Own 1 enc e (w.setCell ⟨g, j, none⟩ u) base (.slice (some ⟨g, 0, none⟩) n cap) (xs.set j x) := by
  obtain ⟨g', cap', cs, he, h1, h2, h3, h4, h5, h6⟩ := own_blk8 h (by omega)
  injection he with e1 e2 e3
  injection e1 with e1; injection e1 with e1 _
  subst e1 e2 e3
  exact .inr ⟨g, cap, _, by rw [List.length_set], h1, h2.set _ _, by rw [List.length_set]; exact h3, h4, by simpa using h5, filled_set8 h6 (by omega) x hu⟩
/-- a cell of an own row, and that it is not frozen -/
theorem Own.cell8 {α : Type} {enc : α → Nat → Value} {e : TypeId} {w : World} {base g cap n : Nat} {xs : List α} (h : Own 1 enc e w base (.slice (some ⟨g, 0, none⟩) n cap) xs) {j : Nat} (hj : j < xs.length) : base ≤ g ∧ g < w.heap.size ∧ w.cell? ⟨g, j, none⟩ = some (enc xs[j] 0) ∧ ∀ o, w.frozen? ⟨g, o, none⟩ = false := by
  obtain ⟨g', cap', cs, he, h1, h2, h3, h4, h5, h6⟩ := own_blk8 h (by omega)
  injection he with e1 e2 e3
  injection e1 with e1; injection e1 with e1 _
  subst e1 e2 e3
  refine ⟨h1, h2.lt, ?_, fun o => h2.frozen o⟩
  rw [h2.cell]
  have := h6 j _ hj (List.getElem?_eq_getElem hj) 0 (by omega)
  rw [Nat.mul_one, Nat.add_zero] at this
  exact this
/-- a step as it lies in memory -/
structure S3 where
  (a b c : Int)
def S3.enc (p : S3) : Nat → Value := fun j => match j with | 0 => .int .i64 p.a | 1 => .int .i64 p.b | _ => .int .i64 p.c
theorem S3.cells {w : World} {B : Nat} {A : Option Addr} {xs : List S3} (h : Row 3 S3.enc w B A xs) {i : Nat} (hi : i < xs.length) {wr : World} (hb : Below B w wr) :
    ∃ b off, A = some ⟨b, off, none⟩ ∧ b < B ∧ wr.cell? ⟨b, off + i * 3, none⟩ = some (.int .i64 xs[i].a) ∧ wr.cell? ⟨b, off + i * 3 + 1, none⟩ = some (.int .i64 xs[i].b) ∧ wr.cell? ⟨b, off + i * 3 + 2, none⟩ = some (.int .i64 xs[i].c) := by
  obtain ⟨b, off, rfl, hl, hc⟩ := h.get hi
  have hcell := fun j hj => (hb.cell (p := ⟨b, off + i * 3 + j, none⟩) hl).trans (hc j hj)
  exact ⟨b, off, rfl, hl, hcell 0 (by omega), hcell 1 (by omega), hcell 2 (by omega)⟩
def l3 (c : SClaim) : List S3 := [⟨c.low, c.high, c.most⟩, ⟨c.high, c.low, -c.least⟩]
def S3.step (p : S3) : Step := (p.a.toNat, p.b.toNat, p.c)
theorem l3_steps (c : SClaim) : (l3 c).map S3.step = stepsC c := rfl
theorem l3_len (c : SClaim) : (l3 c).length = 2 := rfl
/-- the heights and what is told, as they lie in memory -/
structure LowM (w : World) (base gh ch gt ct n : Nat) (s : Nat → Option Int) : Prop where
  hs : Own 1 encI 3 w base (.slice (some ⟨gh, 0, none⟩) n ch) (HsOf n s)
  ts : Own 1 encBo 4 w base (.slice (some ⟨gt, 0, none⟩) n ct) (TsOf n s)
section
variable {w w' : World} {base gh ch gt ct n : Nat} {s : Nat → Option Int}
theorem LowM.below (h : LowM w base gh ch gt ct n s) (hb : Below w.heap.size w w') : LowM w' base gh ch gt ct n s := ⟨h.hs.below hb, h.ts.below hb⟩
theorem LowM.ne (h : LowM w base gh ch gt ct n s) (hn : 0 < n) : gh ≠ gt := fun e => own_ne8 h.hs h.ts (by decide) gh rfl (by rw [e]; rfl)
theorem LowM.cells (h : LowM w base gh ch gt ct n s) {v : Nat} (hv : v < n) : (base ≤ gh ∧ gh < w.heap.size ∧ base ≤ gt ∧ gt < w.heap.size) ∧ (w.cell? ⟨gh, v, none⟩ = some (.int .i64 ((s v).getD 0)) ∧ w.cell? ⟨gt, v, none⟩ = some (.bool (s v).isSome)) ∧ (∀ o, w.frozen? ⟨gh, o, none⟩ = false) ∧ (∀ o, w.frozen? ⟨gt, o, none⟩ = false) := by
  obtain ⟨h1, h2, h3, h4⟩ := h.hs.cell8 (j := v) (by rw [HsOf_len]; exact hv)
  obtain ⟨k1, k2, k3, k4⟩ := h.ts.cell8 (j := v) (by rw [TsOf_len]; exact hv)
  rw [HsOf_get] at h3
  rw [TsOf_get] at k3
  exact ⟨⟨h1, h2, k1, k2⟩, ⟨h3, k3⟩, h4, k4⟩
theorem LowM.relax (h : LowM w base gh ch gt ct n s) {e : Step} {a : Int} (h0 : e.2.1 < n) (hf : fires s e = true) (ha : s e.1 = some a) :
    LowM ((w.setCell ⟨gh, e.2.1, none⟩ (.int .i64 (a + e.2.2))).setCell ⟨gt, e.2.1, none⟩ (.bool true)) base gh ch gt ct n (relax s e) := by
  have hne := h.ne (show 0 < n by omega)
  have h1 := h.hs.setElem8 (j := e.2.1) (by rw [HsOf_len]; exact h0) (a + e.2.2) rfl
  have h2 := (h.ts.setCell (p := ⟨gh, e.2.1, none⟩) (fun g hg => by have : gt = g := Option.some.inj hg; show g ≠ gh; omega) (.int .i64 (a + e.2.2))).setElem8 (j := e.2.1) (by rw [TsOf_len]; exact h0) true rfl
  rw [HsOf_relax hf ha] at h1
  rw [TsOf_relax hf ha] at h2
  exact ⟨h1.setCell (p := ⟨gt, e.2.1, none⟩) (fun g hg => by have : gh = g := Option.some.inj hg; show g ≠ gt; omega) _, h2⟩
end
theorem lowerF_succ (es : List Step) (k : Nat) (s : Nat → Option Int) : lowerF es (k + 1) s = if firedIn es s then lowerF es k (sweep es s) else (sweep es s, true) := rfl
set_option maxRecDepth 100000 in
set_option maxHeartbeats 4000000 in
theorem lower_is (n : Nat) (A : Option Addr) (cap : Nat) (xs : List SClaim) (gh ch gt ct base : Nat) (s0 : Nat → Option Int) (w : World) (hr : Row 4 SClaim.enc w base A xs) (hok : areB n xs = true) (hM : LowM w base gh ch gt ct n s0) (hbd : Bd n s0 0) (hbase : base ≤ w.heap.size) :
    Calls Try.prog 86 #[.int .i64 (n : Int), .slice A xs.length cap, .slice (some ⟨gh, 0, none⟩) n ch, .slice (some ⟨gt, 0, none⟩) n ct] w fun e w' => e = .returned (.bool (lowerF (stepsOf xs) (n + 1) s0).2) ∧ LowM w' base gh ch gt ct n (lowerF (stepsOf xs) (n + 1) s0).1 ∧ Below base w w' := by
  obtain ⟨hc1, ⟨hn1, hn10⟩, hx24⟩ := areB_iff.1 hok
  have hcl := fun i (hi : i < xs.length) => oneB_iff.1 (hc1 xs[i] (List.getElem_mem hi))
  have hne := hM.ne (show 0 < n by omega)
  have HR := hide hr; have HCL := hide hcl; have HM0 := hide hM; have HBD := hide hbd
  clear hr hok hM hbd hc1 hcl
  go_enter Try.func86, Try.ntmps86
  go_wp2_with fail
  go_loopw [19] (fun i wr => ∃ (k : Nat) (s : Nat → Option Int), k ≤ n + 1 ∧ i = .int .i64 (k : Int) ∧ lowerF (stepsOf xs) (n + 1 - k) s = lowerF (stepsOf xs) (n + 1) s0 ∧ Bd n s (48 * k) ∧ LowM wr base gh ch gt ct n s ∧ Below base w wr) (fun i _ => n + 1 - (intOf i).toNat)
  case atStart => exact ⟨0, s0, Nat.zero_le _, rfl, rfl, HBD.out, HM0.out, Below.refl _ _⟩
  case round =>
    obtain ⟨k, s, hk, rfl, hlow, hbd, hM, hbel⟩ := hrel
    have HLOW := hide hlow; have HM := hide hM; have HBDK := hide hbd; clear hlow hM hbd
    by_cases hlk : k < n + 1
    · have hlk' : (k : Int) < (n : Int) + 1 := by omega
      go_wp2_with fail
      go_loopw [9, 23] (fun b i wr => ∃ j : Nat, j ≤ xs.length ∧ i = .int .i64 (j : Int) ∧ b = .bool (sweepC (xs.take j) s).2 ∧ Bd n (sweepC (xs.take j) s).1 (48 * k + 2 * j) ∧ LowM wr base gh ch gt ct n (sweepC (xs.take j) s).1 ∧ Below base w wr) (fun _ i _ => xs.length - (intOf i).toNat)
      case atStart => exact ⟨0, Nat.zero_le _, rfl, rfl, HBDK.out, HM.out, hbel⟩
      case round =>
        clear hbel
        obtain ⟨j, hj, rfl, rfl, hbd, hM, hbel⟩ := hrel
        have HMJ := hide hM; have HBJ := hide hbd; clear hM hbd
        have hsz : base ≤ wr.heap.size := Nat.le_trans hbase hbel.size
        by_cases hlj : j < xs.length
        · have hlj' : (j : Int) < xs.length := by omega
          obtain ⟨b, off, rfl, hb, c0, c1, c2, c3⟩ := SClaim.cells HR.out hlj hbel
          have hcl := HCL.out j hlj
          have hst : sweepC (xs.take (j + 1)) s = (stepsC xs[j]).foldl relaxP (sweepC (xs.take j) s) := by rw [take_snoc' hlj, sweepC_snoc]; rfl
          generalize hgc : xs[j] = c at *
          obtain ⟨lo, hi, le, mo⟩ := c
          simp only at c0 c1 c2 c3 hcl
          obtain ⟨l0, l1, i0, i1, hlh, le0, le1, mo1⟩ := hcl
          generalize sweepC (xs.take j) s = S at *
          have BX := (hbel.alloc hsz (.cells #[.int .i64 lo, .int .i64 hi, .int .i64 le, .int .i64 mo] 23))
          have hfl : Filled 3 S3.enc #[.int .i64 lo, .int .i64 hi, .int .i64 mo, .int .i64 hi, .int .i64 lo, .int .i64 (-le)] (l3 ⟨lo, hi, le, mo⟩).length (l3 ⟨lo, hi, le, mo⟩) := by
            intro j x hj hx k hk
            have hj' : j = 0 ∨ j = 1 := by simp [l3] at hj; omega
            have hk' : k = 0 ∨ k = 1 ∨ k = 2 := by omega
            rcases hj' with rfl | rfl <;> simp [l3] at hx <;> subst hx <;> rcases hk' with rfl | rfl | rfl <;> rfl
          have hlit : Own 3 S3.enc 102 _ _ _ (l3 ⟨lo, hi, le, mo⟩) := Own.made (n := 2) rfl (Nat.le_refl _) (Blk.new (wr.alloc (.cells #[.int .i64 lo, .int .i64 hi, .int .i64 le, .int .i64 mo] 23)) 102 _) rfl (by simp only [maxLen, l3_len]; omega) hfl
          have hm2 := (HMJ.out.below (below_alloc wr (.cells #[.int .i64 lo, .int .i64 hi, .int .i64 le, .int .i64 mo] 23))).below (below_alloc _ (.cells #[.int .i64 lo, .int .i64 hi, .int .i64 mo, .int .i64 hi, .int .i64 lo, .int .i64 (-le)] 102))
          have B2 := BX.alloc (by simp; omega) (.cells #[.int .i64 lo, .int .i64 hi, .int .i64 mo, .int .i64 hi, .int .i64 lo, .int .i64 (-le)] 102)
          have hs1 : (wr.alloc (.cells #[.int .i64 lo, .int .i64 hi, .int .i64 le, .int .i64 mo] 23)).heap.size = wr.heap.size + 1 := by simp
          rw [hs1] at hlit
          have HLIT := hide hlit; have HM2 := hide hm2; have HST := hide hst
          clear hfl hlit hm2 hst BX hgc
          obtain ⟨⟨hgb, hgl, htb, htl⟩, _, _, _⟩ := HMJ.out.cells (v := 0) (by omega)
          have hfin : ((l3 ⟨lo, hi, le, mo⟩).take 2).foldl (fun a p => relaxP a p.step) S = (stepsC ⟨lo, hi, le, mo⟩).foldl relaxP S := rfl
          have hbnd : ∀ p ∈ l3 ⟨lo, hi, le, mo⟩, (0 ≤ p.a ∧ p.a < n) ∧ (0 ≤ p.b ∧ p.b < n) ∧ -9999 ≤ p.c ∧ p.c ≤ 9999 := fun p hp => by
            unfold l3 at hp
            rcases List.mem_cons.1 hp with rfl | hp
            · simp only; omega
            · rw [List.mem_singleton.1 hp]; simp only; omega
          have HFIN := hide hfin; have HBND := hide hbnd; have HL3 := hide (l3_len ⟨lo, hi, le, mo⟩)
          clear hfin hbnd HMJ
          go_wp2_with fail
          clear c0 c1 c2 c3
          generalize (wr.alloc (.cells #[.int .i64 lo, .int .i64 hi, .int .i64 le, .int .i64 mo] 23)).alloc (.cells #[.int .i64 lo, .int .i64 hi, .int .i64 mo, .int .i64 hi, .int .i64 lo, .int .i64 (-le)] 102) = W2 at *
          generalize hG0 : wr.heap.size = G0 at *
          generalize l3 ⟨lo, hi, le, mo⟩ = ps at *
          go_loopw [9, 44] (fun b i wx => ∃ t : Nat, t ≤ 2 ∧ i = .int .i64 (t : Int) ∧ b = .bool ((ps.take t).foldl (fun a p => relaxP a p.step) S).2 ∧ Bd n ((ps.take t).foldl (fun a p => relaxP a p.step) S).1 (48 * k + 2 * j + t) ∧ LowM wx base gh ch gt ct n ((ps.take t).foldl (fun a p => relaxP a p.step) S).1 ∧ Own 3 S3.enc 102 wx (G0 + 1) (.slice (some ⟨G0 + 1, 0, none⟩) 2 2) ps ∧ Below base w wx) (fun _ i _ => 2 - (intOf i).toNat)
          case atStart => exact ⟨0, Nat.zero_le _, rfl, rfl, HBJ.out, HM2.out, HLIT.out, B2⟩
          case round =>
            clear HBJ HM2 HLIT B2 hs1 hG0 hbel hsz
            obtain ⟨t, ht, rfl, rfl, hbd, hM, hol, hbel⟩ := hrel
            have hsz : base ≤ wr.heap.size := Nat.le_trans hbase hbel.size
            by_cases hlt : t < 2
            · have hlt' : (t : Int) < 2 := by omega
              have htp : t < ps.length := by rw [HL3.out]; exact hlt
              obtain ⟨A9, c9, he, hrow, _, _⟩ := hol.row
              injection he with he1 he2 he3; subst he1 he3
              obtain ⟨b9, off9, hA9, hb9, d0, d1, d2⟩ := S3.cells hrow htp (Below.refl _ _)
              injection hA9 with hA9; injection hA9 with hz1 hz2; subst hz1 hz2
              rw [Nat.zero_add] at d0 d1 d2
              have hbn := HBND.out ps[t] (List.getElem_mem htp)
              have hst2 : (ps.take (t + 1)).foldl (fun a p => relaxP a p.step) S = relaxP ((ps.take t).foldl (fun a p => relaxP a p.step) S) ps[t].step := by rw [take_snoc' htp, List.foldl_append]; rfl
              have hpe : ps[t].step = (ps[t].a.toNat, ps[t].b.toNat, ps[t].c) := rfl
              generalize ps[t] = p at *
              obtain ⟨pa, pb, pc⟩ := p
              simp only at d0 d1 d2 hbn hpe
              obtain ⟨⟨a0, a1⟩, ⟨b0, b1⟩, p0, p1⟩ := hbn
              rw [hpe] at hst2
              generalize (ps.take t).foldl (fun a p => relaxP a p.step) S = T at *
              obtain ⟨s1, ch1⟩ := T
              obtain ⟨U, hU⟩ : ∃ U, (ps.take (t + 1)).foldl (fun a p => relaxP a p.step) S = U := ⟨_, rfl⟩
              rw [hU] at hst2
              unfold relaxP at hst2
              simp only at hst2 hbd hM
              have hna : pa.toNat < n := by omega
              have hnb : pb.toNat < n := by omega
              have hbd2 := hbd.relax (e := (pa.toNat, pb.toNat, pc)) hna p0 p1
              have hga := fun a ha => hbd pa.toNat a hna ha
              have hgb2 := fun a ha => hbd pb.toNat a hnb ha
              have hmx := hM.below (below_alloc wr (.cells #[.int .i64 pa, .int .i64 pb, .int .i64 pc] 102))
              have hlx := hol.alloc (.cells #[.int .i64 pa, .int .i64 pb, .int .i64 pc] 102)
              have BX := hbel.alloc hsz (.cells #[.int .i64 pa, .int .i64 pb, .int .i64 pc] 102)
              have hnew := Blk.new wr 102 #[.int .i64 pa, .int .i64 pb, .int .i64 pc]
              have n0 : (wr.alloc (.cells #[.int .i64 pa, .int .i64 pb, .int .i64 pc] 102)).cell? ⟨wr.heap.size, 0, none⟩ = some (.int .i64 pa) := hnew.cell 0
              have n1 : (wr.alloc (.cells #[.int .i64 pa, .int .i64 pb, .int .i64 pc] 102)).cell? ⟨wr.heap.size, 1, none⟩ = some (.int .i64 pb) := hnew.cell 1
              have n2 : (wr.alloc (.cells #[.int .i64 pa, .int .i64 pb, .int .i64 pc] 102)).cell? ⟨wr.heap.size, 2, none⟩ = some (.int .i64 pc) := hnew.cell 2
              have m0 := fun n => later_cell n0 n; have m1 := fun n => later_cell n1 n; have m2 := fun n => later_cell n2 n
              have HST2 := hide hst2; have HU := hide hU; have HMX := hide hmx; have HLX := hide hlx; have HBX := hide BX; have HBD2 := hide hbd2; have HGA := hide hga; have HGB := hide hgb2; have HBD1 := hide hbd
              clear hst2 hU hmx hlx BX hbd2 hga hgb2 hM hol hnew n0 n1 n2 hrow hbd hpe he2
              go_wp2_with fail
              (refine wp_region_later (by kernel_rfl) (by kernel_rfl) ?_; (repeat (go_big_quiet_step (fail))); refine wpQuiet_nil ?_; intro _ hw'; obtain ⟨nq, hw''⟩ := hw'; subst hw'')
              have B7 := HBX.out.trans (nq.h.mono (by simp; omega))
              have hm7 := HMX.out.below nq.h
              have hl7 := HLX.out.below nq.h
              generalize nq.W = W7 at B7 hm7 hl7
              have hs7 : base ≤ W7.heap.size := Nat.le_trans hbase B7.size
              clear nq m0 m1 m2 d0 d1 d2
              obtain ⟨_, ⟨q0, q1⟩, _, _⟩ := hm7.cells hna
              obtain ⟨_, ⟨r0, r1⟩, _, _⟩ := hm7.cells hnb
              have HM7 := hide hm7; have HL7 := hide hl7; clear hm7 hl7 HMX HLX HBX
              cases hsa : s1 pa.toNat with
              | none =>
                have hf : fires s1 (pa.toNat, pb.toNat, pc) = false := by unfold fires; rw [hsa]
                rw [hsa] at q0 q1
                simp only [Option.isSome_none, Option.getD_none] at q0 q1
                have hst3 := HST2.out
                rw [relax_no hf, hf, Bool.or_false] at hst3
                have m0 := fun n => later_cell q0 n; have m1 := fun n => later_cell q1 n; have m2 := fun n => later_cell r0 n; have m3 := fun n => later_cell r1 n
                have HS3 := hide hst3
                clear hst3 q0 q1 r0 r1 hsa hf
                go_wp2_with fail
                (refine wp_region_later (by kernel_rfl) (by kernel_rfl) ?_; (repeat (go_big_quiet_step (fail))); refine wpQuiet_nil ?_; intro _ hw'; obtain ⟨nq, hw''⟩ := hw'; subst hw'')
                have B8 := B7.trans (nq.h.mono hs7)
                have hm8 := HM7.out.below nq.h
                have hl8 := HL7.out.below nq.h
                generalize nq.W = W8 at B8 hm8 hl8
                have HM8 := hide hm8; have HL8 := hide hl8
                clear nq m0 m1 m2 m3 hm8 hl8
                go_wp2_with fail
                go_round
                case measure => (simp [intOf] <;> omega)
                case rel => exact ⟨t + 1, by omega, by go_num, by rw [HU.out, HS3.out], by rw [HU.out, HS3.out]; exact HBD1.out.mono (by omega), by rw [HU.out, HS3.out]; exact HM8.out, HL8.out, B8⟩
              | some av =>
                have hav := HGA.out av hsa
                cases hsb : s1 pb.toNat with
                | none =>
                  have hf : fires s1 (pa.toNat, pb.toNat, pc) = true := by unfold fires; rw [hsa, hsb]
                  rw [hsa] at q0 q1
                  rw [hsb] at r0 r1
                  simp only [Option.isSome_none, Option.getD_none, Option.isSome_some, Option.getD_some] at q0 q1 r0 r1
                  have hst3 := HST2.out
                  rw [hf, Bool.or_true] at hst3
                  have m0 := fun n => later_cell q0 n; have m1 := fun n => later_cell q1 n; have m2 := fun n => later_cell r0 n; have m3 := fun n => later_cell r1 n
                  have HS3 := hide hst3; have HF := hide hf; have HSA := hide hsa
                  clear hst3 q0 q1 r0 r1 hsb hf
                  go_wp2_with fail
                  (refine wp_region_later (by kernel_rfl) (by kernel_rfl) ?_; (repeat (go_big_quiet_step (fail))); refine wpQuiet_nil ?_; intro _ hw'; obtain ⟨nq, hw''⟩ := hw'; subst hw'')
                  have B8 := B7.trans (nq.h.mono hs7)
                  have hm8 := HM7.out.below nq.h
                  have hl8 := HL7.out.below nq.h
                  generalize nq.W = W8 at B8 hm8 hl8
                  clear nq m0 m1 m2 m3
                  obtain ⟨⟨x1, x2, x3, x4⟩, ⟨q0, q1⟩, hfh, hft⟩ := hm8.cells hna
                  obtain ⟨_, ⟨r0, r1⟩, _, _⟩ := hm8.cells hnb
                  rw [hsa] at q0
                  simp only [Option.getD_some] at q0
                  have hrel := hm8.relax (e := (pa.toNat, pb.toNat, pc)) hnb HF.out hsa
                  have hneG : ∀ g, Value.ownBlock (.slice (some ⟨G0 + 1, 0, none⟩) 2 2) = some g → g ≠ gh ∧ g ≠ gt := fun g hg => by have : G0 + 1 = g := Option.some.inj hg; omega
                  have hl9 := (hl8.setCell (p := ⟨gh, pb.toNat, none⟩) (fun g hg => (hneG g hg).1) (.int .i64 (av + pc))).setCell (p := ⟨gt, pb.toNat, none⟩) (fun g hg => (hneG g hg).2) (.bool true)
                  have B9 := (B8.setCell (p := ⟨gh, pb.toNat, none⟩) hgb (.int .i64 (av + pc))).setCell (p := ⟨gt, pb.toNat, none⟩) htb (.bool true)
                  simp only at hrel
                  have HREL := hide hrel; have HL9 := hide hl9; have HB9 := hide B9
                  clear hrel hl9 hneG hm8 hl8 hsa B9
                  go_wp2_with fail
                  go_round
                  case measure => (simp [intOf] <;> omega)
                  case rel => exact ⟨t + 1, by omega, by go_num, by rw [HU.out, HS3.out], by rw [HU.out, HS3.out]; exact HBD2.out, by rw [HU.out, HS3.out]; exact HREL.out, HL9.out, HB9.out⟩
                | some bv =>
                  have hbv := HGB.out bv hsb
                  rw [hsa] at q0 q1
                  rw [hsb] at r0 r1
                  simp only [Option.isSome_some, Option.getD_some] at q0 q1 r0 r1
                  by_cases hlow : av + pc < bv
                  · have hf : fires s1 (pa.toNat, pb.toNat, pc) = true := by unfold fires; rw [hsa, hsb]; exact decide_eq_true hlow
                    have hst3 := HST2.out
                    rw [hf, Bool.or_true] at hst3
                    have m0 := fun n => later_cell q0 n; have m1 := fun n => later_cell q1 n; have m2 := fun n => later_cell r0 n; have m3 := fun n => later_cell r1 n
                    have HS3 := hide hst3; have HF := hide hf; have HSA := hide hsa
                    clear hst3 q0 q1 r0 r1 hsb hf
                    go_wp2_with fail
                    (refine wp_region_later (by kernel_rfl) (by kernel_rfl) ?_; (repeat (go_big_quiet_step (fail))); refine wpQuiet_nil ?_; intro _ hw'; obtain ⟨nq, hw''⟩ := hw'; subst hw'')
                    have B8 := B7.trans (nq.h.mono hs7)
                    have hm8 := HM7.out.below nq.h
                    have hl8 := HL7.out.below nq.h
                    generalize nq.W = W8 at B8 hm8 hl8
                    clear nq m0 m1 m2 m3
                    obtain ⟨⟨x1, x2, x3, x4⟩, ⟨q0, q1⟩, hfh, hft⟩ := hm8.cells hna
                    obtain ⟨_, ⟨r0, r1⟩, _, _⟩ := hm8.cells hnb
                    rw [hsa] at q0
                    simp only [Option.getD_some] at q0
                    have hrel := hm8.relax (e := (pa.toNat, pb.toNat, pc)) hnb HF.out hsa
                    have hneG : ∀ g, Value.ownBlock (.slice (some ⟨G0 + 1, 0, none⟩) 2 2) = some g → g ≠ gh ∧ g ≠ gt := fun g hg => by have : G0 + 1 = g := Option.some.inj hg; omega
                    have hl9 := (hl8.setCell (p := ⟨gh, pb.toNat, none⟩) (fun g hg => (hneG g hg).1) (.int .i64 (av + pc))).setCell (p := ⟨gt, pb.toNat, none⟩) (fun g hg => (hneG g hg).2) (.bool true)
                    have B9 := (B8.setCell (p := ⟨gh, pb.toNat, none⟩) hgb (.int .i64 (av + pc))).setCell (p := ⟨gt, pb.toNat, none⟩) htb (.bool true)
                    simp only at hrel
                    have HREL := hide hrel; have HL9 := hide hl9; have HB9 := hide B9
                    clear hrel hl9 hneG hm8 hl8 hsa B9
                    go_wp2_with fail
                    go_round
                    case measure => (simp [intOf] <;> omega)
                    case rel => exact ⟨t + 1, by omega, by go_num, by rw [HU.out, HS3.out], by rw [HU.out, HS3.out]; exact HBD2.out, by rw [HU.out, HS3.out]; exact HREL.out, HL9.out, HB9.out⟩
                  · have hf : fires s1 (pa.toNat, pb.toNat, pc) = false := by unfold fires; rw [hsa, hsb]; exact decide_eq_false hlow
                    have hst3 := HST2.out
                    rw [relax_no hf, hf, Bool.or_false] at hst3
                    have m0 := fun n => later_cell q0 n; have m1 := fun n => later_cell q1 n; have m2 := fun n => later_cell r0 n; have m3 := fun n => later_cell r1 n
                    have HS3 := hide hst3
                    clear hst3 q0 q1 r0 r1 hsa hsb hf
                    go_wp2_with fail
                    (refine wp_region_later (by kernel_rfl) (by kernel_rfl) ?_; (repeat (go_big_quiet_step (fail))); refine wpQuiet_nil ?_; intro _ hw'; obtain ⟨nq, hw''⟩ := hw'; subst hw'')
                    have B8 := B7.trans (nq.h.mono hs7)
                    have hm8 := HM7.out.below nq.h
                    have hl8 := HL7.out.below nq.h
                    generalize nq.W = W8 at B8 hm8 hl8
                    have HM8 := hide hm8; have HL8 := hide hl8
                    clear nq m0 m1 m2 m3 hm8 hl8
                    go_wp2_with fail
                    go_round
                    case measure => (simp [intOf] <;> omega)
                    case rel => exact ⟨t + 1, by omega, by go_num, by rw [HU.out, HS3.out], by rw [HU.out, HS3.out]; exact HBD1.out.mono (by omega), by rw [HU.out, HS3.out]; exact HM8.out, HL8.out, B8⟩
            · have ht2 : t = 2 := by omega
              subst ht2
              have hfs : (ps.take 2).foldl (fun a p => relaxP a p.step) S = sweepC (xs.take (j + 1)) s := by rw [HFIN.out, HST.out]
              rw [hfs] at hM hbd ⊢
              have HMX := hide hM; have HBX := hide hbd
              clear hM hbd hol hfs
              go_wp2_with fail
              go_round
              case measure => (simp [intOf] <;> omega)
              case rel => exact ⟨j + 1, by omega, by go_num, rfl, HBX.out.mono (by omega), HMX.out, hbel⟩
        · have hjx : xs.length = j := by omega
          have hfs : sweepC (xs.take j) s = (sweep (stepsOf xs) s, firedIn (stepsOf xs) s) := by rw [← hjx, List.take_length, sweepC_eq]
          rw [hfs] at HMJ HBJ ⊢
          simp only at HMJ HBJ ⊢
          have hlowx := HLOW.out
          rw [show n + 1 - k = (n - k) + 1 by omega] at hlowx
          rw [lowerF_succ] at hlowx
          have HJX := hide hjx; have HBEL := hide hbel; clear hjx hfs
          cases hfi : firedIn (stepsOf xs) s with
          | true =>
            rw [hfi, if_pos rfl] at hlowx
            have HLX := hide hlowx; clear hlowx hfi HLOW
            go_wp2_with fail
            go_round
            case measure => (simp [intOf] <;> omega)
            case rel => exact ⟨k + 1, sweep (stepsOf xs) s, by omega, by go_num, by rw [show n + 1 - (k + 1) = n - k by omega]; exact HLX.out, HBJ.out.mono (by omega), HMJ.out, HBEL.out⟩
          | false =>
            rw [hfi, if_neg (by simp)] at hlowx
            have HLX := hide hlowx; clear hlowx hfi HLOW
            go_wp2_with fail
            go_ret
            rw [← HLX.out]
            exact ⟨rfl, HMJ.out, HBEL.out⟩
    · have hkn : k = n + 1 := by omega
      have hlowx := HLOW.out
      rw [hkn, Nat.sub_self] at hlowx
      have HLX := hide hlowx; have HKN := hide hkn; clear hlowx hkn HLOW
      go_wp2_with fail
      go_ret
      rw [← HLX.out]
      exact ⟨rfl, HM.out, hbel⟩
end Go.Proofs.Ytijjecckfcbaoaa
