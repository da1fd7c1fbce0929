/- What StoreAll gives, in plain Lean: the loose flats, the greatest first, each into the tightest drawer that can take it. Contracts of LooseFlats and StoreAll in impl. Condition: small grams. -/
import Derived.Test.YtdbcilinoieabaaL6A
import Derived.Test.YtdbcilinoieabaaLSf
namespace Go.Proofs.Ytdbcilinoieabaa
open Go.RowKit Go.Lib Go.Sort
set_option linter.unusedVariables false
theorem idxs_mem {p : Nat → Bool} {n : Nat} {x : Int} : x ∈ idxs p n ↔ ∃ k, k < n ∧ p k = true ∧ x = (k : Int) := by
  constructor
  · intro h
    obtain ⟨j, hj, he⟩ := List.mem_iff_getElem.1 h
    obtain ⟨k, hk, hp, hkv, _⟩ := idxs_get hj
    exact ⟨k, hk, hp, by rw [← he, hkv]⟩
  · rintro ⟨k, hk, hp, rfl⟩
    unfold idxs
    exact List.mem_map.2 ⟨k, List.mem_filter.2 ⟨List.mem_range.2 hk, hp⟩, rfl⟩
theorem fold_mem (ds : List DrV) : ∀ (l : List Int) (b : Int), l.foldl (tstep ds) b = b ∨ l.foldl (tstep ds) b ∈ l
  | [], b => .inl rfl
  | a :: l, b => by
    rw [List.foldl_cons]
    rcases fold_mem ds l (tstep ds b a) with h | h
    · rw [h]
      unfold tstep
      split
      · exact .inr (List.mem_cons_self ..)
      · exact .inl rfl
    · exact .inr (List.mem_cons_of_mem _ h)
theorem fold_nonneg (ds : List DrV) : ∀ (l : List Int) (b : Int), 0 ≤ b → (∀ x ∈ l, 0 ≤ x) → 0 ≤ l.foldl (tstep ds) b
  | [], b, h, _ => h
  | a :: l, b, h, hl => by
    rw [List.foldl_cons]
    refine fold_nonneg ds l _ ?_ (fun x hx => hl x (List.mem_cons_of_mem _ hx))
    unfold tstep
    split
    · exact hl a (List.mem_cons_self ..)
    · exact h
theorem tiV_place (fs : List SFlat) (ds : List DrV) (flat : Int) : (tiV fs ds flat = -1 ∧ ∀ k, k < ds.length → canB fs ds flat k = false) ∨ ∃ k : Nat, k < ds.length ∧ canB fs ds flat k = true ∧ tiV fs ds flat = (k : Int) := by
  unfold tiV
  cases hl : idxs (canB fs ds flat) ds.length with
  | nil =>
    refine .inl ⟨rfl, fun k hk => ?_⟩
    cases hc : canB fs ds flat k with
    | false => rfl
    | true =>
      have : (k : Int) ∈ idxs (canB fs ds flat) ds.length := idxs_mem.2 ⟨k, hk, hc, rfl⟩
      rw [hl] at this
      cases this
  | cons a l =>
    refine .inr ?_
    have hm : ∀ x ∈ a :: l, ∃ k, k < ds.length ∧ canB fs ds flat k = true ∧ x = ((k : Nat) : Int) := fun x hx => idxs_mem.1 (by rw [hl]; exact hx)
    have ha : 0 ≤ a := by obtain ⟨k, _, _, rfl⟩ := hm a (List.mem_cons_self ..); omega
    have hf : (a :: l).foldl (tstep ds) (-1) = l.foldl (tstep ds) a := by
      rw [List.foldl_cons]; congr 1
    rw [hf]
    obtain ⟨k, h1, h2, h3⟩ : ∃ k, k < ds.length ∧ canB fs ds flat k = true ∧ l.foldl (tstep ds) a = ((k : Nat) : Int) := by
      rcases fold_mem ds l a with h | h
      · rw [h]; exact hm a (List.mem_cons_self ..)
      · exact hm _ (List.mem_cons_of_mem _ h)
    exact ⟨k, h1, h2, h3⟩
/-- one flat goes into the tightest drawer, where there is one -/
def stepV (fs : List SFlat) (d : List DrV) (z : SFlat) : List DrV := if 0 ≤ tiV fs d z.ident then putK d z.ident (tiV fs d z.ident).toNat else d
theorem stepV_cases (fs : List SFlat) (d : List DrV) (z : SFlat) : (stepV fs d z = d ∧ tiV fs d z.ident = -1 ∧ ∀ k, k < d.length → canB fs d z.ident k = false) ∨ ∃ k : Nat, k < d.length ∧ canB fs d z.ident k = true ∧ tiV fs d z.ident = (k : Int) ∧ stepV fs d z = putK d z.ident k := by
  rcases tiV_place fs d z.ident with ⟨h, h1⟩ | ⟨k, h1, h2, h3⟩
  · refine .inl ⟨?_, h, h1⟩
    unfold stepV; rw [h, if_neg (by decide)]
  · refine .inr ⟨k, h1, h2, h3, ?_⟩
    unfold stepV; rw [h3, if_pos (by omega), Int.toNat_natCast]
theorem stepV_good {fs : List SFlat} {d : List DrV} (h : goodDs fs d = true) (z : SFlat) : goodDs fs (stepV fs d z) = true := by
  rcases stepV_cases fs d z with ⟨h1, _⟩ | ⟨k, _, h1, _, h2⟩
  · rw [h1]; exact h
  · rw [h2]; exact h1
theorem fold_good {fs : List SFlat} : ∀ (l : List SFlat) {d : List DrV}, goodDs fs d = true → goodDs fs (l.foldl (stepV fs) d) = true
  | [], _, h => h
  | a :: l, _, h => fold_good l (stepV_good h a)
/-- the flats in the order in which they are stored -/
def orderV (fs : List SFlat) (ds : List DrV) : List SFlat := stD (ltOf Go.Proofs.Ytdbcilinoieabaa.cfF) (looseL fs ds)
def stV (fs : List SFlat) (ds : List DrV) : List DrV := (orderV fs ds).foldl (stepV fs) ds
def looseIds (fs : List SFlat) (ds : List DrV) : List Int := (looseL fs ds).map SFlat.ident
def stA (fs : List SFlat) (ds : List DrV) : List DrV × List Int × Bool := if goodDs fs ds = true then (stV fs ds, looseIds fs (stV fs ds), true) else ([], [], false)
def loA (fs : List SFlat) (ds : List DrV) : List Int × Bool := if goodDs fs ds = true then (looseIds fs ds, true) else ([], false)
theorem goodF_len {fs : List SFlat} (h : goodF fs = true) : fs.length ≤ 20 := by
  unfold goodF at h
  rw [Bool.and_eq_true] at h
  exact of_decide_eq_true h.2
theorem looseL_le (fs : List SFlat) (ds : List DrV) : (looseL fs ds).length ≤ fs.length := List.length_filter_le _ _
theorem LooseFlats_is (v u : Value) (fs : List SFlat) (ds : List DrV) (w : World) (hv : Is 4 SFlat.enc w v fs) (hu : IsD w u ds) (hf : fitG fs) :
    Calls Try.prog 64 #[v, u] w fun e w' => ∃ r, e = .returned (.tuple #[r, .bool (loA fs ds).2]) ∧ Is 1 encI w' r (loA fs ds).1 ∧ Below w.heap.size w w' := by
  have hA := AreDrawers_any v u fs ds w hv hu hf
  have HV := hide hv; have HU := hide hu; clear hv hu hf
  cases hg : goodDs fs ds with
  | false =>
    rw [hg] at hA
    rw [show loA fs ds = ([], false) from if_neg (by rw [hg]; simp)]
    have HA := hide hA; clear hA hg
    go_enter Try.func64, Try.ntmps64
    go_wp2_with fail
    refine HA.out.mono ?_; rintro e w1 ⟨rfl, hb⟩
    have HB := hide hb; clear hb
    go_wp2_with fail
    go_ret2
    exact ⟨_, rfl, Is.nil, HB.out⟩
  | true =>
    rw [hg] at hA
    rw [show loA fs ds = (looseIds fs ds, true) from if_pos hg]
    have hln := goodF_len (goodDs_F hg)
    have hle := looseL_le fs ds
    have HA := hide hA; clear hA hg
    go_enter Try.func64, Try.ntmps64
    go_wp2_with fail
    refine HA.out.mono ?_; rintro e w1 ⟨rfl, hb⟩
    have HL := hide (loose_any v u fs ds w1 (HV.out.below hb (Nat.le_refl _)) (HU.out.below hb (Nat.le_refl _)) (by omega))
    have HB := hide hb; clear hb
    go_wp2_with fail
    refine HL.out.mono ?_; rintro e w2 ⟨r2, rfl, ho, hb⟩
    have HI := hide (flatIds_any r2 (looseL fs ds) w2 ho.is (by omega))
    replace HB := hide (bstep HB.out hb HB.out.size); clear hb ho
    go_wp2_with fail
    refine HI.out.mono ?_; rintro e w3 ⟨r3, rfl, ho, hb⟩
    have HO := hide ho.is
    replace HB := hide (bstep HB.out hb HB.out.size); clear hb ho
    go_wp2_with fail
    go_ret2
    exact ⟨_, rfl, HO.out, HB.out⟩
theorem results_tmp3_s {fn : Func} {t u v : Tmp} (h : fn.results = #[.tmp t, .tmp u, .tmp v]) (tmps : Array Value) (P : Program) (w : World) :
    (results fn tmps).run P w = .ok (.tuple #[tmps.getD t undef, tmps.getD u undef, tmps.getD v undef]) w := by
  simp [results, h]
set_option maxHeartbeats 2000000 in
theorem StoreAllI_is (v u : Value) (fs : List SFlat) (ds : List DrV) (w : World) (hv : Is 4 SFlat.enc w v fs) (hu : IsD w u ds) (hf : fitG fs) :
    Calls Try.prog 62 #[v, u] w fun e w' => ∃ r q, e = .returned (.tuple #[r, q, .bool (stA fs ds).2.2]) ∧ IsD w' r (stA fs ds).1 ∧ Is 1 encI w' q (stA fs ds).2.1 ∧ Below w.heap.size w w' := by
  have hA := AreDrawers_any v u fs ds w hv hu hf
  have HV := hide hv; have HU := hide hu; have HF := hide hf; clear hv hu hf
  cases hg : goodDs fs ds with
  | false =>
    rw [hg] at hA
    rw [show stA fs ds = ([], [], false) from if_neg (by rw [hg]; simp)]
    have HA := hide hA; clear hA hg
    go_enter Try.func62, Try.ntmps62
    go_wp2_with fail
    refine HA.out.mono ?_; rintro e w1 ⟨rfl, hb⟩
    have HB := hide hb; clear hb
    go_wp2_with fail
    (try simp only [Exit.inBlock, Exit.then]); refine bodyPost_ret (results_tmp3_s rfl _ _ _) rfl ?_
    exact ⟨_, _, rfl, IsD.nil, Is.nil, HB.out⟩
  | true =>
    rw [hg] at hA
    rw [show stA fs ds = (stV fs ds, looseIds fs (stV fs ds), true) from if_pos hg]
    have hln := goodF_len (goodDs_F hg)
    have hle := looseL_le fs ds
    have hdl := goodDs_len hg
    have hol : (orderV fs ds).length = (looseL fs ds).length := stD_len _ _
    have HG := hide hg
    have HA := hide hA; clear hA hg
    go_enter Try.func62, Try.ntmps62
    go_wp2_with fail
    refine HA.out.mono ?_; rintro e w1 ⟨rfl, hb⟩
    have HB := hide hb
    have HL := hide (loose_any v u fs ds w1 (HV.out.below hb (Nat.le_refl _)) (HU.out.below hb (Nat.le_refl _)) (by omega)); clear hb
    go_wp2_with fail
    refine HL.out.mono ?_; rintro e w2 ⟨r2, rfl, ho, hb⟩
    have hs1 := HB.out.size
    replace HB := hide (bstep HB.out hb hs1)
    have HS := hide (sortStableF_is r2 (looseL fs ds) w2 ho (by omega))
    have HO := hide ho; clear hb ho
    obtain ⟨A2, c2, rfl, _, _, _⟩ := HO.out.is
    go_wp2_with fail
    refine HS.out.mono ?_; rintro e w3 ⟨rfl, ho, hg⟩
    have hs2 := HB.out.size
    have hb3 := HO.out.belowGrown HB.out hg hs1 hs2
    replace HB := hide hb3
    rw [show stD (ltOf Go.Proofs.Ytdbcilinoieabaa.cfF) (looseL fs ds) = orderV fs ds from rfl] at ho
    have hdo : ∀ d ∈ ds, d.fl.length ≤ 1000 := fun d hd => by have := (goodDs_fl HG.out d hd).1; omega
    have HC := hide (copyDrawers_any u ds w3 (HU.out.below hb3 (Nat.le_refl _)) (by omega) hdo)
    replace HO := hide ho; clear ho hg hb3 HS HL
    go_wp2_with fail
    refine HC.out.mono ?_; rintro e w4 ⟨r4, rfl, hb, rs, hmap, hown⟩
    have hd4 := hown.isD
    rw [hmap] at hd4
    replace HO := hide (HO.out.below hb)
    replace HB := hide (bstep HB.out hb HB.out.size)
    clear hb hown hmap HC
    have hor := HO.out.is
    rw [← hol] at hor ⊢
    obtain ⟨A5, c5, he5, hr5, _, _⟩ := hor
    injection he5 with e1 _ e3; subst e1 e3
    generalize hwl : orderV fs ds = ol at *
    have HOL := hide hwl
    have hs4 := HB.out.size
    generalize hB4 : w4.heap.size = B4 at hr5
    have HR := hide hr5; have HD4 := hide hd4; clear hr5 hd4 hwl HO
    go_wp2_with fail
    go_loopw [8, 25] (fun s i wr => ∃ (k : Nat) (d : List DrV), k ≤ ol.length ∧ i = .int .i64 (k : Int) ∧ IsD wr s d ∧ d = (ol.take k).foldl (stepV fs) ds ∧ goodDs fs d = true ∧ Below B4 w4 wr) (fun _ i _ => ol.length - (intOf i).toNat)
    case atStart => exact ⟨0, ds, Nat.zero_le _, rfl, HD4.out, rfl, HG.out, by rw [← hB4]; exact Below.refl _ _⟩
    case round =>
      obtain ⟨k, d, hk, rfl, hd, hdv, hgd, hbel⟩ := hrel
      have hsz : B4 ≤ wr.heap.size := by have := hbel.size; omega
      have hvw : Is 4 SFlat.enc wr v fs := HV.out.below (HB.out.trans (hbel.mono (by omega))) (Nat.le_refl _)
      by_cases hlt : k < ol.length
      · have hlt' : (k : Int) < ol.length := by omega
        obtain ⟨b, off, rfl, _, c0, c1, c2, c3⟩ := SFlat.cells HR.out hlt hbel
        have hst : (ol.take (k + 1)).foldl (stepV fs) ds = stepV fs d ol[k] := by rw [hdv]; exact foldl_take _ _ hlt
        generalize ol[k] = zz at *
        obtain ⟨y0, y1, y2, y3⟩ := zz
        simp only at c0 c1 c2 c3
        have hsv := stepV_cases fs d ⟨y0, y1, y2, y3⟩
        have hsg := stepV_good hgd (⟨y0, y1, y2, y3⟩ : SFlat)
        simp only at hsv
        have hk2 := Blk.new wr 68 #[.int .i64 y0, .int .i64 y1, .int .i64 y2, .int .i64 y3]
        have hbx := hbel.alloc hsz (.cells #[.int .i64 y0, .int .i64 y1, .int .i64 y2, .int .i64 y3] 68)
        have hb0 := below_alloc wr (.cells #[.int .i64 y0, .int .i64 y1, .int .i64 y2, .int .i64 y3] 68)
        have hsx : wr.heap.size < (wr.alloc (.cells #[.int .i64 y0, .int .i64 y1, .int .i64 y2, .int .i64 y3] 68)).heap.size := by simp
        have hv5 := hvw.below hb0 (Nat.le_refl _)
        have hd5 := hd.below hb0 (Nat.le_refl _)
        have HST := hide hst; have HSG := hide hsg; clear hst hdv hvw hd hbel hb0 hsg
        go_upto_region 9 with fail
        generalize wr.alloc (.cells #[.int .i64 y0, .int .i64 y1, .int .i64 y2, .int .i64 y3] 68) = w5 at *
        generalize hg4 : wr.heap.size = g4 at *
        obtain ⟨t0, t1, t2, t3⟩ := fl4 hk2
        have HT := hide (tightest_any v _ fs d y0 w5 hv5 hd5 HF.out hgd)
        have hs5 : B4 ≤ w5.heap.size := by omega
        have HK := hide hk2; have HBX := hide hbx; have HV5 := hide hv5; have HD5 := hide hd5
        clear c0 c1 c2 c3 hk2 hbx hv5 hd5
        go_wp2_with fail
        refine HT.out.mono ?_; rintro e w6 ⟨rfl, hb, _⟩
        have hk6 := HK.out.below hb hsx
        have hb6 := bstep HBX.out hb hs5
        have hv6 := HV5.out.below hb (Nat.le_refl _)
        have hd6 := HD5.out.below hb (Nat.le_refl _)
        have hs6 := hb.size
        clear t0 t1 t2 t3 hb
        rcases hsv with ⟨e1, e2, _⟩ | ⟨q, hq, hcan, e2, e1⟩
        · rw [e2]
          have HD6 := hide hd6; have HB6 := hide hb6; clear hd6 hb6 hv6 hk6
          go_wp2_with fail
          go_round
          case measure => (simp [intOf] <;> omega)
          case rel => exact ⟨k + 1, d, by omega, by go_num, HD6.out, by rw [HST.out, e1], hgd, HB6.out⟩
        · rw [e2]
          have HP := hide (putFlatK_is v _ fs d y0 q w6 hv6 hd6 HF.out hgd hq)
          obtain ⟨t0, t1, t2, t3⟩ := fl4 hk6
          have hcan2 : goodDs fs (putK d y0 q) = true := hcan
          have HCAN := hide hcan2
          have HB6 := hide hb6
          have hq0 : (0 : Int) ≤ (q : Int) := by omega
          have hs66 : B4 ≤ w6.heap.size := by omega
          clear hd6 hb6 hv6 hk6 hcan hcan2
          go_wp2_with fail
          refine HP.out.mono ?_; rintro e w7 ⟨r7, rfl, hd7, hb⟩
          rw [if_pos HCAN.out] at hd7
          have HD7 := hide hd7; have HB7 := hide (bstep HB6.out hb hs66); clear hd7 hb t0 t1 t2 t3
          go_wp2_with fail
          go_round
          case measure => (simp [intOf] <;> omega)
          case rel => exact ⟨k + 1, putK d y0 q, by omega, by go_num, HD7.out, by rw [HST.out, e1], HCAN.out, HB7.out⟩
      · have hkk : k = ol.length := by omega
        subst hkk
        rw [List.take_length] at hdv
        have hsv : stV fs ds = d := by rw [hdv]; unfold stV; rw [HOL.out]
        have HB9 := hide (HB.out.trans (hbel.mono (by omega)))
        have HL := hide (loose_any v _ fs d wr hvw hd (by omega))
        have hle2 := looseL_le fs d
        have HD := hide hd; have HSV := hide hsv; clear hd hdv hvw hbel hsv
        go_wp2_with fail
        refine HL.out.mono ?_; rintro e w8 ⟨r8, rfl, ho, hb⟩
        have HI := hide (flatIds_any r8 (looseL fs d) w8 ho.is (by omega))
        replace HD := hide (HD.out.below hb (Nat.le_refl _))
        replace HB9 := hide (bstep HB9.out hb HB9.out.size); clear ho hb HL
        go_wp2_with fail
        refine HI.out.mono ?_; rintro e w9 ⟨r9, rfl, ho, hb⟩
        replace HD := hide (HD.out.below hb (Nat.le_refl _))
        replace HB9 := hide (bstep HB9.out hb HB9.out.size)
        have HO9 := hide ho.is; clear ho hb HI
        go_wp2_with fail
        (try simp only [Exit.inBlock, Exit.then]); refine bodyPost_ret (results_tmp3_s rfl _ _ _) rfl ?_
        rw [HSV.out]
        exact ⟨_, _, rfl, HD.out, HO9.out, HB9.out⟩
end Go.Proofs.Ytdbcilinoieabaa
