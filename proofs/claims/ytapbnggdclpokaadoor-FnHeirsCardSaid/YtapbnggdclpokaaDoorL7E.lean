/- Contracts of what is asked of a line: GapYears, KeeperIn, LineOf, in impl and spec. Condition: the names' sizes are those of memory. -/
import Derived.Test.YtapbnggdclpokaaDoorL7D
namespace Go.Proofs.YtapbnggdclpokaaDoor
open Go.RowKit Go.Lib
set_option linter.unusedVariables false
theorem SMaker.cellsAt {w : World} {B : Nat} {A : Option Addr} {xs : List SMaker} (h : Row 5 SMaker.enc w B A xs) {i : Nat} (hi : i < xs.length) :
    ∃ b off, A = some ⟨b, off, none⟩ ∧ b < B ∧ ∀ W, Below B w W → W.cell? ⟨b, off + i * 5, none⟩ = some (.int .i64 (SMaker.at xs i).ident) ∧ W.cell? ⟨b, off + i * 5 + 1, none⟩ = some (.string (SMaker.at xs i).name) ∧ W.cell? ⟨b, off + i * 5 + 2, none⟩ = some (.int .i64 (SMaker.at xs i).frm) ∧ W.cell? ⟨b, off + i * 5 + 3, none⟩ = some (.int .i64 (SMaker.at xs i).untl) ∧ W.cell? ⟨b, off + i * 5 + 4, none⟩ = some (.int .i64 (SMaker.at xs i).heir) := by
  obtain ⟨b, off, hA, hb, _⟩ := SMaker.cells h hi (Below.refl _ _)
  refine ⟨b, off, hA, hb, fun W hW => ?_⟩
  obtain ⟨b', off', hA', _, c⟩ := SMaker.cells h hi hW
  rw [hA] at hA'; injection hA' with hA'; injection hA' with h1 h2; subst h1 h2
  rw [SMaker.at_lt hi]; exact c
theorem Ints.cellsAt {w : World} {B : Nat} {A : Option Addr} {l : List Nat} (h : Row 1 encI w B A (ints l)) {i : Nat} (hi : i < l.length) :
    ∃ b off, A = some ⟨b, off, none⟩ ∧ b < B ∧ ∀ W, Below B w W → W.cell? ⟨b, off + i, none⟩ = some (.int .i64 (l[i] : Int)) := by
  obtain ⟨b, off, hA, hb, _⟩ := Ints.cells h (i := i) (by simpa [ints] using hi) (Below.refl _ _)
  refine ⟨b, off, hA, hb, fun W hW => ?_⟩
  obtain ⟨b', off', hA', _, c⟩ := Ints.cells h (i := i) (by simpa [ints] using hi) hW
  rw [hA] at hA'; injection hA' with hA'; injection hA' with h1 h2; subst h1 h2
  rw [c]; simp [ints]
theorem find_k {xs : List SMaker} {id : Int} (h : ¬ findM xs id = -1) : ∃ k, k < xs.length ∧ findM xs id = (k : Int) := by
  rcases findM_cases xs id with h1 | ⟨j, hj, hf, _⟩
  · exact absurd h1 h
  · exact ⟨j, hj, hf⟩
def listedB (xs : List SMaker) (id : Int) : Bool := goodB xs && decide (0 ≤ findM xs id)
theorem listed_yes {xs : List SMaker} {id : Int} {k : Nat} (hg : goodB xs = true) (hk : findM xs id = (k : Int)) : listedB xs id = true := by
  unfold listedB; rw [hg, hk]; simp
theorem listed_no1 {xs : List SMaker} {id : Int} (hg : goodB xs = false) : listedB xs id = false := by unfold listedB; rw [hg]; rfl
theorem listed_no2 {xs : List SMaker} {id : Int} (hk : findM xs id = -1) : listedB xs id = false := by unfold listedB; rw [hk]; simp
theorem isListed_is (v : Value) (xs : List SMaker) (id : Int) (w : World) (h : Is 5 SMaker.enc w v xs) (hw : ∀ z ∈ xs, z.wf) :
    Calls Tryd.prog 44 #[v, .int .i64 id] w fun e w' => e = .returned (.bool (listedB xs id)) ∧ Below w.heap.size w w' := by
  have hgood := AreMakers_is v xs w h hw
  have hfind := fun W (hb : Below w.heap.size w W) => makerAt_any v xs id W (h.below hb (Nat.le_refl _))
  unfold listedB
  generalize goodB xs = g at hgood
  generalize findM xs id = f at hfind
  have HG := hide hgood; have HF := hide hfind; clear hgood hfind
  cases g
  · go_enter Tryd.func44, Tryd.ntmps44
    go_wp2_with fail
    refine HG.out.mono ?_; rintro e w1 ⟨rfl, hb1⟩
    go_wp2_with fail
    go_ret
    exact ⟨rfl, hb1⟩
  · go_enter Tryd.func44, Tryd.ntmps44
    go_wp2_with fail
    refine HG.out.mono ?_; rintro e w1 ⟨rfl, hb1⟩
    go_wp2_with fail
    refine (HF.out _ hb1).mono ?_; rintro e w2 ⟨rfl, hb2⟩
    go_wp2_with fail
    go_ret
    exact ⟨by rfl, bstep hb1 hb2 hb1.size⟩
def idsOf (ms : List SMaker) : List Int := ms.map fun c => c.ident
theorem idsOf_take {ms : List SMaker} {i : Nat} (h : i < ms.length) : idsOf (ms.take (i + 1)) = idsOf (ms.take i) ++ [ms[i].ident] := by
  unfold idsOf; rw [take_snoc' h, List.map_append]; rfl
theorem makerIds_is (v : Value) (ms : List SMaker) (w : World) (h : Is 5 SMaker.enc w v ms) (hlen : ms.length ≤ 1048576) :
    Calls Tryd.prog 45 #[v] w fun e w' => ∃ r, e = .returned r ∧ Own 1 encI 3 w' w.heap.size r (idsOf ms) ∧ Below w.heap.size w w' := by
  obtain ⟨A, cap, rfl, hr, _, _⟩ := h
  generalize hB : w.heap.size = B at hr ⊢
  have HB := hide hB; clear hB
  have HR := hide hr; clear hr
  go_enter Tryd.func45, Tryd.ntmps45
  go_wp2_with fail
  go_loopw [3, 8] (fun s i wr => ∃ k : Nat, k ≤ ms.length ∧ i = .int .i64 k ∧ Own 1 encI 3 wr B s (idsOf (ms.take k)) ∧ Below B w wr) (fun _ i _ => ms.length - (intOf i).toNat)
  case atStart => exact ⟨0, Nat.zero_le _, rfl, Own.nil, Below.refl _ _⟩
  case round =>
    obtain ⟨i, hi, rfl, hown, hbel⟩ := hrel
    have hsz : B ≤ wr.heap.size := by have := hbel.size; rw [HB.out] at this; exact this
    have HOW := hide hown; clear hown
    by_cases hlt : i < ms.length
    · obtain ⟨b, off, rfl, hb, c0, c1, c2, c3, c4⟩ := SMaker.cells HR.out hlt hbel
      have hst := idsOf_take hlt
      have hdl : (idsOf (ms.take i)).length ≤ 16777216 := by simp [idsOf]; omega
      generalize ms[i].ident = y0 at *; generalize ms[i].name = y1 at *; generalize ms[i].frm = y2 at *; generalize ms[i].untl = y3 at *; generalize ms[i].heir = y4 at *
      have HST := hide hst; clear hst
      have ho2 := HOW.out.alloc (.cells #[.int .i64 y0, .string y1, .int .i64 y2, .int .i64 y3, .int .i64 y4] 27)
      have B2 := hbel.alloc hsz (.cells #[.int .i64 y0, .string y1, .int .i64 y2, .int .i64 y3, .int .i64 y4] 27)
      have HO2 := hide ho2; have HB2 := hide B2; clear ho2 B2
      go_wp2_with (at_builtin; refine wpList_push1s (k := 1) (enc := encI) _ rfl _ _ 38 rfl 3 (.int .i64 0) 8 Tryd.underlying38 infoI rfl (by omega) (by omega) encI_one B _ (idsOf (ms.take i)) rfl HO2.out y0 _ _ (by simp) rfl rfl hdl (by simp; omega) HB2.out (Nat.le_refl _) rfl ?_; intro v1 w1 ho1 hb1 hg1)
      refine ⟨⟨i + 1, by omega, by go_num, ?_, hb1⟩, by simp [intOf]; omega⟩
      rw [HST.out]; exact ho1
    · have hk : i = ms.length := by omega
      have HK := hide hk; clear hk
      go_wp2_with fail
      go_ret
      refine ⟨_, rfl, ?_, hbel⟩
      have := HOW.out; rw [HK.out, List.take_length] at this; exact this
/-- the years without anybody between the first n + 1 of a line -/
def gapTo (xs : List SMaker) (l : List Nat) : Nat → Int
  | 0 => 0
  | n + 1 => gapTo xs l n + (SMaker.at xs (l.getD (n + 1) 0)).frm - (SMaker.at xs (l.getD n 0)).untl - 1
theorem gapTo_bound {xs : List SMaker} (hg : goodB xs = true) {l : List Nat} (hl : ∀ i ∈ l, i < xs.length) : ∀ n, n + 1 ≤ l.length ∨ n = 0 → -(1000 * (n : Int)) ≤ gapTo xs l n ∧ gapTo xs l n ≤ 1000 * n
  | 0, _ => by simp [gapTo]
  | n + 1, h => by
    have h1 := gapTo_bound hg hl n (by omega)
    have hn : n + 1 < l.length := by omega
    have q1 := good_fine hg (hl (l.getD (n + 1) 0) (by rw [getD_lt _ hn]; exact List.getElem_mem hn))
    have q2 := good_fine hg (hl (l.getD n 0) (by rw [getD_lt _ (show n < l.length by omega)]; exact List.getElem_mem _))
    have := q1.f1; have := q1.f2; have := q1.f3; have := q2.f1; have := q2.f2; have := q2.f3
    simp only [gapTo]; omega
def gapV (xs : List SMaker) (id : Int) : Int × Bool := if listedB xs id then (gapTo xs (lineL xs (findM xs id).toNat) ((lineL xs (findM xs id).toNat).length - 1), true) else (0, false)
/-- the last of the first n of a line who has begun by a year -/
def keepTo (xs : List SMaker) (l : List Nat) (y : Int) : Nat → Int
  | 0 => 0
  | n + 1 => if (SMaker.at xs (l.getD n 0)).frm ≤ y then (SMaker.at xs (l.getD n 0)).ident else keepTo xs l y n
def keepV (xs : List SMaker) (id y : Int) : Int × Bool := if listedB xs id && inB y 1500 2100 then (keepTo xs (lineL xs (findM xs id).toNat) y (lineL xs (findM xs id).toNat).length, decide (0 < keepTo xs (lineL xs (findM xs id).toNat) y (lineL xs (findM xs id).toNat).length)) else (0, false)
def lineV (xs : List SMaker) (id : Int) : List Int × Bool := if listedB xs id then (idsOf (mks xs (lineL xs (findM xs id).toNat)), true) else ([], false)
theorem lineV_len (xs : List SMaker) (id : Int) : (lineV xs id).1.length ≤ 1048576 := by
  unfold lineV; split
  · have := lineL_len xs (findM xs id).toNat
    simp only [idsOf, mks, List.length_map]; omega
  · simp
theorem own_isI {w : World} {B : Nat} {r : Value} {l : List Nat} (h : Own 1 encI 3 w B r (ints l)) : ∃ A cap, r = .slice A l.length cap ∧ Row 1 encI w w.heap.size A (ints l) := by
  obtain ⟨A, cap, rfl, hr, _, _⟩ := h.row
  exact ⟨A, cap, by simp [ints], hr⟩
set_option maxHeartbeats 1000000 in
theorem specGapYears_any (v : Value) (xs : List SMaker) (id : Int) (w : World) (h : Is 5 SMaker.enc w v xs) (hw : ∀ z ∈ xs, z.wf) :
    Calls Tryd.prog 23 #[v, .int .i64 id] w fun e w' => e = .returned (.tuple #[.int .i64 (gapV xs id).1, .bool (gapV xs id).2]) ∧ Below w.heap.size w w' := by
  have hgood := fun W (hb : Below w.heap.size w W) => l7Good_is v xs W (h.below hb (Nat.le_refl _)) hw
  have hfind := l7Find_any v xs id w h
  have HFD := hide hfind; clear hfind
  have B0 := Below.refl w.heap.size w
  by_cases hg : goodB xs = true
  case neg =>
    rw [Bool.not_eq_true] at hg
    rw [show gapV xs id = (0, false) by unfold gapV; rw [listed_no1 hg]; rfl]
    rw [hg] at hgood
    have HG := hide hgood; clear hgood hg h
    generalize findM xs id = f at HFD
    go_enter Tryd.func23, Tryd.ntmps23
    go_wp2_with fail
    refine HFD.out.mono ?_; rintro e w' ⟨rfl, rfl⟩
    go_wp2_with fail
    refine (HG.out _ B0).mono ?_; rintro e w1 ⟨rfl, hb1⟩
    go_wp2_with fail
    go_ret2
    exact ⟨rfl, bstep B0 hb1 B0.size⟩
  rw [hg] at hgood
  have HG := hide hgood; have HGD := hide hg; clear hgood
  by_cases hf : findM xs id = -1
  · rw [show gapV xs id = (0, false) by unfold gapV; rw [listed_no2 hf]; rfl]
    rw [hf] at HFD
    clear hf h
    go_enter Tryd.func23, Tryd.ntmps23
    go_wp2_with fail
    refine HFD.out.mono ?_; rintro e w' ⟨rfl, rfl⟩
    go_wp2_with fail
    refine (HG.out _ B0).mono ?_; rintro e w1 ⟨rfl, hb1⟩
    go_wp2_with fail
    go_ret2
    exact ⟨rfl, bstep B0 hb1 B0.size⟩
  obtain ⟨k0, hk0, hf⟩ := find_k hf
  have hfrom := lineL_from hg hk0
  have hlen := lineL_len xs k0
  rw [show gapV xs id = (gapTo xs (lineL xs k0) ((lineL xs k0).length - 1), true) by unfold gapV; rw [listed_yes hg hf, hf, Int.toNat_natCast]; rfl]
  rw [hf] at HFD
  generalize lineL xs k0 = l at hfrom hlen
  have hlt := hfrom.lt
  have HFR := hide hfrom; have HLEN := hide hlen; have HLT := hide hlt; have HF := hide hf; clear hfrom hlen hlt hf hg
  have HI := hide h
  obtain ⟨A, cap, rfl, hr, _, _⟩ := h
  have HR := hide hr; clear hr
  go_enter Tryd.func23, Tryd.ntmps23
  go_wp2_with fail
  refine HFD.out.mono ?_; rintro e w' ⟨rfl, rfl⟩
  go_wp2_with fail
  refine (HG.out _ B0).mono ?_; rintro e w1 ⟨rfl, hb1⟩
  have B1 := bstep B0 hb1 B0.size
  go_wp2_with fail
  refine (l7Line_is _ xs k0 _ (HI.out.below B1 (Nat.le_refl _)) l HFR.out HLEN.out).mono ?_; rintro e w2 ⟨r, rfl, ho, hb2⟩
  have B2 := bstep B1 hb2 B1.size
  obtain ⟨A', cap', rfl, hrl⟩ := own_isI ho
  have s2 := B2.size
  clear hb1 hb2 ho B1
  generalize hB : w.heap.size = B at HR B2 s2 ⊢
  generalize hB2 : w2.heap.size = C at hrl s2
  have HB := hide hB; have HB2 := hide hB2; have HRL := hide hrl; clear hB hB2 hrl B0
  have BR := Below.refl C w2
  go_wp2_with fail
  go_loopw [8, 9] (fun s i wr => ∃ n : Nat, (n + 1 ≤ l.length ∨ n = 0) ∧ i = .int .i64 ((n : Int) + 1) ∧ s = .int .i64 (gapTo xs l n) ∧ Below C w2 wr) (fun _ i _ => l.length - (intOf i).toNat)
  case atStart => exact ⟨0, .inr rfl, rfl, rfl, BR⟩
  case round =>
    obtain ⟨n, hn, rfl, rfl, hbel⟩ := hrel
    obtain ⟨gb1, gb2⟩ := gapTo_bound HGD.out HLT.out n hn
    have hll := HLEN.out
    have hn7 : (n : Int) ≤ 701 := by omega
    by_cases hlt : n + 1 < l.length
    · have hlt' : (n : Int) + 1 < (l.length : Int) := by omega
      have p0 := HLT.out _ (List.getElem_mem hlt)
      have p1 := HLT.out _ (List.getElem_mem (show n < l.length by omega))
      obtain ⟨b, off, rfl, hb, hc0⟩ := Ints.cellsAt HRL.out hlt
      obtain ⟨b', off', hA, hb', hc1⟩ := Ints.cellsAt HRL.out (i := n) (by omega)
      injection hA with hA; injection hA with hA1 hA2; subst hA1 hA2
      obtain ⟨bx, offx, rfl, hbx, hd0⟩ := SMaker.cellsAt HR.out p0
      obtain ⟨b', off', hA, hb', hd1⟩ := SMaker.cellsAt HR.out p1
      injection hA with hA; injection hA with hA1 hA2; subst hA1 hA2
      have hbelB : Below B w wr := B2.trans (hbel.mono s2)
      have c0 := hc0 _ hbel; have c1 := hc1 _ hbel
      have d0 := (hd0 _ hbelB).2.2.1; have d1 := (hd1 _ hbelB).2.2.2.1
      have hst : gapTo xs l (n + 1) = gapTo xs l n + (SMaker.at xs l[n+1]).frm - (SMaker.at xs l[n]).untl - 1 := by simp only [gapTo, getD_lt _ hlt, getD_lt _ (show n < l.length by omega)]
      have q1 := good_fine HGD.out p0; have q2 := good_fine HGD.out p1
      have r1 := q1.f1; have r2 := q1.f2; have r3 := q1.f3; have r4 := q2.f1; have r5 := q2.f2; have r6 := q2.f3
      have HST := hide hst; clear hst q1 q2
      have p0' : (l[n+1] : Int) < xs.length := by omega
      have p1' : (l[n] : Int) < xs.length := by omega
      clear hd0 hd1 hc0 hc1
      generalize (SMaker.at xs l[n+1]).frm = fa at *; generalize (SMaker.at xs l[n+1]).untl = fb at *; generalize (SMaker.at xs l[n]).untl = fc at *; generalize (SMaker.at xs l[n]).frm = fd at *
      generalize gapTo xs l n = gs at *
      generalize l[n+1] = i1 at *; generalize l[n] = i0 at *
      have m0 := fun n => later_cell c0 n; have m1 := fun n => later_cell c1 n; have m2 := fun n => later_cell d0 n; have m3 := fun n => later_cell d1 n
      go_wp2_with fail
      (refine wp_region_later (by kernel_rfl) (by kernel_rfl) ?_; (repeat (go_big_quiet_step (fail))); refine wpQuiet_nil ?_; intro _ hw'; obtain ⟨nq, hw''⟩ := hw'; subst hw'')
      have B4 := bstep hbel nq.h (by have := hbel.size; rw [HB2.out] at this; exact this)
      generalize nq.W = W5 at B4
      clear nq
      go_wp2_with fail
      go_round
      case measure => (simp [intOf] <;> omega)
      case rel => exact ⟨n + 1, by omega, by go_num, by rw [HST.out], B4⟩
    · have hge : ¬ (n : Int) + 1 < (l.length : Int) := by omega
      have hnn : l.length - 1 = n := by rcases hn with h | h <;> omega
      have HNN := hide hnn; clear hnn
      go_wp2_with fail
      go_ret2
      rw [HB.out, HNN.out]
      exact ⟨rfl, B2.trans (hbel.mono s2)⟩
set_option maxHeartbeats 1000000 in
theorem implGapYears_any (v : Value) (xs : List SMaker) (id : Int) (w : World) (h : Is 5 SMaker.enc w v xs) (hw : ∀ z ∈ xs, z.wf) :
    Calls Tryd.prog 22 #[v, .int .i64 id] w fun e w' => e = .returned (.tuple #[.int .i64 (gapV xs id).1, .bool (gapV xs id).2]) ∧ Below w.heap.size w w' := by
  have hlist := isListed_is v xs id w h hw
  by_cases hl : listedB xs id = true
  case neg =>
    rw [Bool.not_eq_true] at hl
    rw [show gapV xs id = (0, false) by unfold gapV; rw [hl]; rfl]
    rw [hl] at hlist
    have HG := hide hlist; clear hlist hl h
    go_enter Tryd.func22, Tryd.ntmps22
    go_wp2_with fail
    refine HG.out.mono ?_; rintro e w1 ⟨rfl, hb1⟩
    go_wp2_with fail
    go_ret2
    exact ⟨rfl, hb1⟩
  have hl2 := hl
  unfold listedB at hl2
  rw [Bool.and_eq_true, decide_eq_true_eq] at hl2
  obtain ⟨hg, hf0⟩ := hl2
  obtain ⟨k0, hk0, hf⟩ := find_k (show ¬ findM xs id = -1 by omega)
  rw [hl] at hlist
  have HG := hide hlist; have HGD := hide hg; clear hlist hf0
  rw [show gapV xs id = (gapTo xs (lineL xs k0) ((lineL xs k0).length - 1), true) by unfold gapV; rw [hl, hf, Int.toNat_natCast]; rfl]
  have hfrom := lineL_from hg hk0
  have hlen := lineL_len xs k0
  generalize lineL xs k0 = l at hfrom hlen
  have hlt := hfrom.lt
  have HFR := hide hfrom; have HLEN := hide hlen; have HLT := hide hlt; have HF := hide hf; clear hfrom hlen hlt hf hg hl
  have HI := hide h
  clear h
  go_enter Tryd.func22, Tryd.ntmps22
  go_wp2_with fail
  refine HG.out.mono ?_; rintro e w1 ⟨rfl, hb1⟩
  go_wp2_with fail
  refine (line_is _ xs id k0 _ (HI.out.below hb1 (Nat.le_refl _)) HF.out l HFR.out HLEN.out).mono ?_; rintro e w2 ⟨r, rfl, ho, hb2⟩
  have B2 := bstep hb1 hb2 hb1.size
  obtain ⟨A', cap', rfl, hrl, _, _⟩ := ho.row
  rw [show (mks xs l).length = l.length by simp [mks]]
  have s2 := B2.size
  generalize hB : w.heap.size = B at B2 s2 ⊢
  generalize hB2 : w2.heap.size = C at hrl s2
  have HB := hide hB; have HB2 := hide hB2; have HRL := hide hrl; clear hB hB2 hrl hb1 hb2 ho
  have BR := Below.refl C w2
  go_wp2_with fail
  go_loopw [7, 8] (fun s i wr => ∃ n : Nat, (n + 1 ≤ l.length ∨ n = 0) ∧ i = .int .i64 ((n : Int) + 1) ∧ s = .int .i64 (gapTo xs l n) ∧ Below C w2 wr) (fun _ i _ => l.length - (intOf i).toNat)
  case atStart => exact ⟨0, .inr rfl, rfl, rfl, BR⟩
  case round =>
    obtain ⟨n, hn, rfl, rfl, hbel⟩ := hrel
    obtain ⟨gb1, gb2⟩ := gapTo_bound HGD.out HLT.out n hn
    have hll := HLEN.out
    have hn7 : (n : Int) ≤ 701 := by omega
    by_cases hlt : n + 1 < l.length
    · have hlt' : (n : Int) + 1 < (l.length : Int) := by omega
      have p0 := HLT.out _ (List.getElem_mem hlt)
      have p1 := HLT.out _ (List.getElem_mem (show n < l.length by omega))
      obtain ⟨b, off, rfl, hb, _, _, c0, _, _⟩ := SMaker.cells HRL.out (i := n + 1) (by simpa [mks] using hlt) hbel
      obtain ⟨b', off', hA, hb', _, _, _, c1, _⟩ := SMaker.cells HRL.out (i := n) (by simp [mks]; omega) hbel
      injection hA with hA; injection hA with hA1 hA2; subst hA1 hA2
      rw [show (mks xs l)[n+1]'(by simpa [mks] using hlt) = SMaker.at xs l[n+1] by simp [mks]] at c0
      rw [show (mks xs l)[n]'(by simp [mks]; omega) = SMaker.at xs l[n] by simp [mks]] at c1
      have hst : gapTo xs l (n + 1) = gapTo xs l n + ((SMaker.at xs l[n+1]).frm - (SMaker.at xs l[n]).untl - 1) := by simp only [gapTo, getD_lt _ hlt, getD_lt _ (show n < l.length by omega)]; omega
      have q1 := good_fine HGD.out p0; have q2 := good_fine HGD.out p1
      have r1 := q1.f1; have r2 := q1.f2; have r3 := q1.f3; have r4 := q2.f1; have r5 := q2.f2; have r6 := q2.f3
      have HST := hide hst; clear hst q1 q2 p0 p1
      generalize (SMaker.at xs l[n+1]).frm = fa at *; generalize (SMaker.at xs l[n+1]).untl = fb at *; generalize (SMaker.at xs l[n]).untl = fc at *; generalize (SMaker.at xs l[n]).frm = fd at *
      generalize gapTo xs l n = gs at *
      have m0 := fun n => later_cell c0 n; have m1 := fun n => later_cell c1 n
      go_wp2_with fail
      (refine wp_region_later (by kernel_rfl) (by kernel_rfl) ?_; (repeat (go_big_quiet_step (fail))); refine wpQuiet_nil ?_; intro _ hw'; obtain ⟨nq, hw''⟩ := hw'; subst hw'')
      have B4 := bstep hbel nq.h (by have := hbel.size; rw [HB2.out] at this; exact this)
      generalize nq.W = W5 at B4
      clear nq
      go_wp2_with fail
      go_round
      case measure => (simp [intOf] <;> omega)
      case rel => exact ⟨n + 1, by omega, by go_num, by rw [HST.out], B4⟩
    · have hge : ¬ (n : Int) + 1 < (l.length : Int) := by omega
      have hnn : l.length - 1 = n := by rcases hn with h | h <;> omega
      have HNN := hide hnn; clear hnn
      go_wp2_with fail
      go_ret2
      rw [HB.out, HNN.out]
      exact ⟨rfl, B2.trans (hbel.mono s2)⟩
set_option maxHeartbeats 1000000 in
theorem implLineOf_any (v : Value) (xs : List SMaker) (id : Int) (w : World) (h : Is 5 SMaker.enc w v xs) (hw : ∀ z ∈ xs, z.wf) :
    Calls Tryd.prog 14 #[v, .int .i64 id] w fun e w' => ∃ r, e = .returned (.tuple #[r, .bool (lineV xs id).2]) ∧ Own 1 encI 3 w' w.heap.size r (lineV xs id).1 ∧ Below w.heap.size w w' := by
  have hlist := isListed_is v xs id w h hw
  by_cases hl : listedB xs id = true
  case neg =>
    rw [Bool.not_eq_true] at hl
    rw [show lineV xs id = ([], false) by unfold lineV; rw [hl]; rfl]
    rw [hl] at hlist
    have HG := hide hlist; clear hlist hl h
    go_enter Tryd.func14, Tryd.ntmps14
    go_wp2_with fail
    refine HG.out.mono ?_; rintro e w1 ⟨rfl, hb1⟩
    go_wp2_with fail
    go_ret2
    exact ⟨_, rfl, Own.nil, hb1⟩
  have hl2 := hl
  unfold listedB at hl2
  rw [Bool.and_eq_true, decide_eq_true_eq] at hl2
  obtain ⟨hg, hf0⟩ := hl2
  obtain ⟨k0, hk0, hf⟩ := find_k (show ¬ findM xs id = -1 by omega)
  rw [hl] at hlist
  have HG := hide hlist; have HGD := hide hg; clear hlist hf0
  rw [show lineV xs id = (idsOf (mks xs (lineL xs k0)), true) by unfold lineV; rw [hl, hf, Int.toNat_natCast]; rfl]
  have hfrom := lineL_from hg hk0
  have hlen := lineL_len xs k0
  generalize lineL xs k0 = l at hfrom hlen
  have hlt := hfrom.lt
  have HFR := hide hfrom; have HLEN := hide hlen; have HLT := hide hlt; have HF := hide hf; clear hfrom hlen hlt hf hg hl
  have HI := hide h
  clear h
  go_enter Tryd.func14, Tryd.ntmps14
  go_wp2_with fail
  refine HG.out.mono ?_; rintro e w1 ⟨rfl, hb1⟩
  go_wp2_with fail
  refine (line_is _ xs id k0 _ (HI.out.below hb1 (Nat.le_refl _)) HF.out l HFR.out HLEN.out).mono ?_; rintro e w2 ⟨r, rfl, ho, hb2⟩
  have B2 := bstep hb1 hb2 hb1.size
  have hml : (mks xs l).length ≤ 1048576 := by have := HLEN.out; simp [mks]; omega
  have HO := hide ho; clear ho
  go_wp2_with fail
  refine (makerIds_is _ (mks xs l) _ HO.out.is hml).mono ?_; rintro e w3 ⟨r3, rfl, ho3, hb3⟩
  have B3 := bstep B2 hb3 B2.size
  have HO3 := hide (ho3.mono B2.size); clear ho3
  go_wp2_with fail
  go_ret2
  exact ⟨_, rfl, HO3.out, B3⟩
end Go.Proofs.YtapbnggdclpokaaDoor
