/- Contract of StoreAll in spec: the same as impl's. Condition: small grams. (Printed by mk6e.py.) -/
import Derived.Test.YtdbcilinoieabaaL6D
namespace Go.Proofs.Ytdbcilinoieabaa
open Go.RowKit Go.Lib Go.Sort
set_option linter.unusedVariables false
/-- the order as far as the first k flats tell it -/
def ordV (fs : List SFlat) (ds : List DrV) (k : Nat) : List SFlat := stD (ltOf Go.Proofs.Ytdbcilinoieabaa.cfF) (looseL (fs.take k) ds)
theorem ordV_succ {fs : List SFlat} {ds : List DrV} {k : Nat} (h : k < fs.length) : ordV fs ds (k + 1) = if 0 ≤ whereD ds fs[k].ident then ordV fs ds k else insD (ltOf Go.Proofs.Ytdbcilinoieabaa.cfF) (ordV fs ds k) fs[k] := by
  unfold ordV looseL
  rw [take_snoc' h, List.filter_append]
  by_cases h0 : 0 ≤ whereD ds fs[k].ident
  · rw [if_pos h0, List.filter_cons_of_neg (by simpa using h0), List.filter_nil, List.append_nil]
  · rw [if_neg h0, List.filter_cons_of_pos (by simpa using h0), List.filter_nil, stD_snoc]
theorem ordV_le (fs : List SFlat) (ds : List DrV) (k : Nat) : (ordV fs ds k).length ≤ k := by
  unfold ordV; rw [stD_len]; exact Nat.le_trans (looseL_le _ _) (List.length_take_le _ _)
theorem SFlat.eta_at {fs : List SFlat} {i : Nat} (h : i < fs.length) : (⟨fs[i].ident, fs[i].wide, fs[i].high, fs[i].grams⟩ : SFlat) = fs[i] := rfl
theorem mem_insL_iff {xs : List Int} {x y : Int} (h : y ∈ insL xs x) : y = x ∨ y ∈ xs := by
  unfold insL at h
  rcases List.mem_append.1 h with h | h
  · exact .inr (List.mem_of_mem_take h)
  · rcases List.mem_cons.1 h with h | h
    · exact .inl h
    · exact .inr (List.mem_of_mem_drop h)
theorem where_none {ds : List DrV} {y : Int} (h : ∀ d ∈ ds, y ∉ d.fl) : whereD ds y < 0 := by
  rcases whereD_place ds y with ⟨h1, _⟩ | ⟨k, hk, _, h2, _⟩
  · omega
  · exact absurd h2 (h _ (List.getElem_mem hk))
theorem mem_putK {ds : List DrV} {x y : Int} {k : Nat} (hk : k < ds.length) {d : DrV} (hd : d ∈ putK ds x k) (hy : y ∈ d.fl) : y = x ∨ ∃ d' ∈ ds, y ∈ d'.fl := by
  obtain ⟨i, hi, rfl⟩ := List.mem_iff_getElem.1 hd
  have hi2 : i < ds.length := by rwa [putK_len] at hi
  rw [putK_get hi2] at hy
  split at hy
  · rw [DrV.at_lt hk] at hy
    rcases mem_insL_iff hy with h | h
    · exact .inl h
    · exact .inr ⟨_, List.getElem_mem hk, h⟩
  · exact .inr ⟨_, List.getElem_mem hi2, hy⟩
theorem loose_put {fs : List SFlat} {d : List DrV} {x y : Int} {k : Nat} (hk : k < d.length) (h : looseB fs d y = true) (hn : y ≠ x) (hg : goodDs fs (putK d x k) = true) : looseB fs (putK d x k) y = true := by
  obtain ⟨_, h2, h3⟩ := looseB_iff.1 h
  refine looseB_iff.2 ⟨hg, h2, where_none fun e he hy => ?_⟩
  rcases mem_putK hk he hy with h4 | ⟨d', hd', h4⟩
  · exact hn h4
  · exact notin_where h3 _ hd' h4
theorem loose_step {fs : List SFlat} {d : List DrV} {z : SFlat} {y : Int} (h : looseB fs d y = true) (hn : y ≠ z.ident) : looseB fs (stepV fs d z) y = true := by
  rcases stepV_cases fs d z with ⟨h1, _⟩ | ⟨k, hk, h1, _, h2⟩
  · rw [h1]; exact h
  · rw [h2]; exact loose_put hk h hn h1
theorem idents_apart {fs : List SFlat} (h : goodF fs = true) : fs.Pairwise fun a b => a.ident ≠ b.ident := by
  rw [List.pairwise_iff_getElem]
  intro i j hi hj hij
  have := flat_lt h hij hj
  rw [SFlat.at_lt hi, SFlat.at_lt hj] at this
  omega
theorem order_apart {fs : List SFlat} (h : goodF fs = true) (ds : List DrV) : (orderV fs ds).Pairwise fun a b => a.ident ≠ b.ident := by
  have h1 : (looseL fs ds).Pairwise fun a b => a.ident ≠ b.ident := (idents_apart h).sublist List.filter_sublist
  exact ((stD_perm (ltOf Go.Proofs.Ytdbcilinoieabaa.cfF) (looseL fs ds)).pairwise_iff (fun h => h.symm)).2 h1
theorem loose_mem {fs : List SFlat} {ds : List DrV} (hg : goodDs fs ds = true) {z : SFlat} (hz : z ∈ looseL fs ds) : looseB fs ds z.ident = true := by
  obtain ⟨h1, h2⟩ := List.mem_filter.1 hz
  obtain ⟨i, hi, rfl⟩ := List.mem_iff_getElem.1 h1
  have := findF_self (goodDs_F hg) hi
  exact looseB_iff.2 ⟨hg, by omega, by simpa using h2⟩
theorem order_loose {fs : List SFlat} {ds : List DrV} (hg : goodDs fs ds = true) : ∀ z ∈ orderV fs ds, looseB fs ds z.ident = true := fun z hz => loose_mem hg ((stD_perm _ _).mem_iff.1 hz)
theorem put_tight {fs : List SFlat} {d : List DrV} {x : Int} {q : Nat} (h : looseB fs d x = true) (hq : q < d.length) (hc : canB fs d x q = true) : putV fs d x (DrV.at d q).ident = (putK d x q, true) := by
  have hc2 : goodDs fs (putK d x q) = true := hc
  unfold putV
  rw [idxD_self (looseB_iff.1 h).1 hq, Int.toNat_natCast, if_pos ⟨⟨h, by omega⟩, hc2⟩]
theorem results_tmp3_t {fn : Func} {t u v : Tmp} (h : fn.results = #[.tmp t, .tmp u, .tmp v]) (tmps : Array Value) (P : Program) (w : World) :
    (results fn tmps).run P w = .ok (.tuple #[tmps.getD t undef, tmps.getD u undef, tmps.getD v undef]) w := by
  simp [results, h]
set_option maxHeartbeats 8000000 in
set_option maxRecDepth 10000 in
theorem StoreAllS_is (v u : Value) (fs : List SFlat) (ds : List DrV) (w : World) (hv : Is 4 SFlat.enc w v fs) (hu : IsD w u ds) (hf : fitG fs) :
    Calls Try.prog 63 #[v, u] w fun e w' => ∃ r q, e = .returned (.tuple #[r, q, .bool (stA fs ds).2.2]) ∧ IsD w' r (stA fs ds).1 ∧ Is 1 encI w' q (stA fs ds).2.1 ∧ Below w.heap.size w w' := by
  have hA := l5Good_any v u fs ds w hv hu hf
  have HV := hide hv; have HU := hide hu; have HF := hide hf; clear hv hu hf
  cases hg : goodDs fs ds with
  | false =>
    rw [hg] at hA
    rw [show stA fs ds = ([], [], false) from if_neg (by rw [hg]; simp)]
    have HA := hide hA; clear hA hg
    go_enter Try.func63, Try.ntmps63
    go_wp2_with fail
    refine HA.out.mono ?_; rintro e w1 ⟨rfl, hb⟩
    have HB := hide hb; clear hb
    go_wp2_with fail
    (try simp only [Exit.inBlock, Exit.then]); refine bodyPost_ret (results_tmp3_t rfl _ _ _) rfl ?_
    have h1 := (isD_empty w1).below (below_alloc _ (.cells #[] 3)) (Nat.le_refl _)
    have h2 := own_emptyI5 (w1.alloc (.cells #[] 70)) (Nat.le_refl _)
    rw [World.size_alloc] at h2
    exact ⟨_, _, rfl, h1, h2.is, (HB.out.alloc HB.out.size _).alloc (HB.out.alloc HB.out.size _).size _⟩
  | true =>
    rw [hg] at hA
    rw [show stA fs ds = (stV fs ds, looseIds fs (stV fs ds), true) from if_pos hg]
    have hln := goodF_len (goodDs_F hg)
    have hdl := goodDs_len hg
    have HG := hide hg; have HA := hide hA; clear hA hg
    have hv0 := HV.out
    obtain ⟨A, cap, rfl, hr, _, _⟩ := hv0
    generalize hB : w.heap.size = B at hr
    have HB := hide hB; have HR := hide hr; clear hr
    go_enter Try.func63, Try.ntmps63
    go_wp2_with fail
    refine HA.out.mono ?_; rintro e w1 ⟨rfl, hb1⟩
    rw [hB] at hb1
    have B1 := hide hb1; clear hb1 hB
    have hs1 : B ≤ w1.heap.size := by have := B1.out.size; have := HB.out; omega
    have HN1 := hide ((own_noneN (kk := 4) (enc := SFlat.enc) 68 w1 (Nat.le_refl w1.heap.size)).mono hs1)
    have B2 := hide (B1.out.alloc hs1 (.cells #[] 68))
    have hs2 : w1.heap.size < (w1.alloc (.cells #[] 68)).heap.size := by simp
    go_upto_region 4 with fail
    generalize hw2 : w1.alloc (.cells #[] 68) = w2 at *
    generalize hg1 : w1.heap.size = g1 at *
    clear hw2 hg1
    have hB2 : B ≤ w2.heap.size := by omega
    go_wp2_with fail
    go_loopw [7, 8] (fun o i wr => ∃ (k gq cq : Nat), k ≤ fs.length ∧ i = .int .i64 (k : Int) ∧ o = .slice (some ⟨gq, 0, none⟩) (ordV fs ds k).length cq ∧ Own 4 SFlat.enc 68 wr B o (ordV fs ds k) ∧ Below w2.heap.size w2 wr) (fun _ i _ => fs.length - (intOf i).toNat)
    case atStart => exact ⟨0, g1, 0, Nat.zero_le _, rfl, rfl, HN1.out, Below.refl _ _⟩
    case round =>
      obtain ⟨i, go, co, hi, rfl, rfl, hown, hbel⟩ := hrel
      have hsz : w2.heap.size ≤ wr.heap.size := hbel.size
      by_cases hlt : i < fs.length
      · have hlt' : (i : Int) < fs.length := by omega
        have hbw0 := B2.out.trans (hbel.mono hB2)
        obtain ⟨b, off, rfl, hb, c0, c1, c2, c3⟩ := SFlat.cells HR.out hlt hbw0
        have hsts := ordV_succ (ds := ds) hlt
        have hwc := fun W (hW : Below wr.heap.size wr W) => l5WhereD u ds fs[i].ident W (HU.out.below (hbw0.trans (hW.mono (by omega))) (by rw [HB.out]; exact Nat.le_refl _))
        have hol := ordV_le fs ds i
        generalize hnse : ordV fs ds (i + 1) = ns at *
        have HNSE := hide hnse; clear hnse
        generalize ordV fs ds i = os at *
        generalize fs[i] = yy at *
        obtain ⟨y0, y1, y2, y3⟩ := yy
        simp only at c0 c1 c2 c3 hsts hwc
        generalize wr = wo at *
        have hk1 := Blk.new wo 68 #[.int .i64 y0, .int .i64 y1, .int .i64 y2, .int .i64 y3]
        have hba := below_alloc wo (.cells #[.int .i64 y0, .int .i64 y1, .int .i64 y2, .int .i64 y3] 68)
        have hsa : wo.heap.size < (wo.alloc (.cells #[.int .i64 y0, .int .i64 y1, .int .i64 y2, .int .i64 y3] 68)).heap.size := by simp
        have hoa := hown.alloc (.cells #[.int .i64 y0, .int .i64 y1, .int .i64 y2, .int .i64 y3] 68)
        have hwa := hwc _ hba
        have hbel2 := hbel.trans (hba.mono hsz)
        clear hown hwc hbw0 hbel
        go_upto_region 8 with fail
        generalize hwa2 : wo.alloc (.cells #[.int .i64 y0, .int .i64 y1, .int .i64 y2, .int .i64 y3] 68) = wa at *
        generalize hg9 : wo.heap.size = g9 at *
        clear c0 c1 c2 c3 hwa2 hba hg9
        obtain ⟨e0, e1, e2, e3⟩ := fl4 hk1
        have HW := hide hwa; have HOWN := hide hoa; have HBEL := hide hbel2; have HSTS := hide hsts
        clear hwa hoa hbel2 hsts hk1
        by_cases hwh : 0 ≤ whereD ds y0
        · have hwn : ¬ whereD ds y0 < 0 := by omega
          have hse := HSTS.out
          rw [if_pos hwh] at hse
          have HSE := hide hse
          clear hse
          generalize whereD ds y0 = wh at *
          go_wp2_with fail
          refine HW.out.mono ?_; rintro e w3 ⟨rfl, rfl⟩
          go_wp2_with fail
          go_round
          case measure => (simp [intOf] <;> omega)
          case rel => exact ⟨i + 1, go, co, by omega, by go_num, by rw [HNSE.out, HSE.out], by rw [HNSE.out, HSE.out]; exact HOWN.out, HBEL.out⟩
        · have hse := HSTS.out
          rw [if_neg hwh] at hse
          have hns : ns.length = os.length + 1 := by rw [hse, insD_len]
          replace HSTS := hide hse
          clear hse
          have hwl : whereD ds y0 < 0 := by omega
          generalize whereD ds y0 = wh at *
          obtain ⟨Ao, cpo, heo, hro, hcmo, hleo⟩ := HOWN.out.row
          injection heo with q1 q2 q3; subst q1 q3; clear q2
          have HRO := hide hro; have HNS := hide hns
          have hoi : os.length ≤ 20 := by omega
          clear hro hns hol hwh
          go_wp2_with fail
          refine HW.out.mono ?_; rintro e w3 ⟨rfl, rfl⟩
          generalize wa = wo at *
          go_wp2_with fail
          go_loopw [10] (fun j wr2 => ∃ k : Nat, k ≤ os.length ∧ j = .int .i64 (k : Int) ∧ InsAt (ltOf Go.Proofs.Ytdbcilinoieabaa.cfF) os ⟨y0, y1, y2, y3⟩ k ∧ Below wo.heap.size wo wr2) (fun j _ => (intOf j).toNat)
          case atStart => exact ⟨os.length, Nat.le_refl _, rfl, insAt_start _ _ _, Below.refl _ _⟩
          case round =>
            obtain ⟨k, hk, rfl, hins, hb2⟩ := hrel
            have HI := hide hins; clear hins
            have hs2 := hb2.size
            have d0 := (hb2.cell (p := ⟨g9, 0, none⟩) hsa).trans e0
            have d1 := (hb2.cell (p := ⟨g9, 1, none⟩) hsa).trans e1
            have d2 := (hb2.cell (p := ⟨g9, 2, none⟩) hsa).trans e2
            have d3 := (hb2.cell (p := ⟨g9, 3, none⟩) hsa).trans e3
            have HC := hide (And.intro e0 (And.intro e1 (And.intro e2 e3)))
            clear e0 e1 e2 e3
            have n1 := fun n => later_cell d1 n; have n2 := fun n => later_cell d2 n
            by_cases hgo : 0 < k ∧ (ltOf Go.Proofs.Ytdbcilinoieabaa.cfF) ⟨y0, y1, y2, y3⟩ (SFlat.at os (k - 1)) = true
            · obtain ⟨hk0, hlv⟩ := hgo
              obtain ⟨q, rfl⟩ : ∃ q, k = q + 1 := ⟨k - 1, by omega⟩
              have hqo : q < os.length := by omega
              rw [show q + 1 - 1 = q by omega, SFlat.at_lt hqo] at hlv
              have hnext := insAt_step _ HI.out hqo hlv
              obtain ⟨bo, offo, hAo, _, p0, p1, p2, p3⟩ := SFlat.cells HRO.out hqo hb2
              injection hAo with hAo; injection hAo with hA1 hA2; subst hA1 hA2
              simp only [Nat.zero_add] at p1 p2
              rw [ltOf_cfF] at hlv
              have hlv2 := of_decide_eq_true hlv
              unfold areaF at hlv2
              simp only at hlv2
              generalize os[q].wide = z1 at *; generalize os[q].high = z2 at *
              have m1 := fun n => later_cell p1 n; have m2 := fun n => later_cell p2 n
              have HNX := hide hnext
              clear hnext hlv p0 p1 p2 p3 d0 d1 d2 d3 hk0
              have hqo' : (q : Int) < os.length := by omega
              go_wp2_with fail
              (refine wp_region_later (by kernel_rfl) (by kernel_rfl) ?_; (repeat (go_big_quiet_step (fail))); refine wpQuiet_nil ?_; intro _ hw'; obtain ⟨nq, hw''⟩ := hw'; subst hw'')
              have B5 := hide (bstep hb2 nq.h hs2)
              generalize nq.W = W5 at B5
              clear n1 n2 m1 m2
              go_wp2_with fail
              go_round
              case measure => (simp [intOf] <;> omega)
              case rel => exact ⟨q, by omega, by go_num, HNX.out, B5.out⟩
            · have hstop : insD (ltOf Go.Proofs.Ytdbcilinoieabaa.cfF) os ⟨y0, y1, y2, y3⟩ = os.take k ++ (⟨y0, y1, y2, y3⟩ : SFlat) :: os.drop k := by
                rcases Nat.eq_zero_or_pos k with hz | hpos
                · subst hz; rw [insAt_zero _ HI.out]; simp
                · obtain ⟨q, rfl⟩ : ∃ q, k = q + 1 := ⟨k - 1, by omega⟩
                  have hqo : q < os.length := by omega
                  refine insAt_stop _ HI.out hqo ?_
                  have := fun h => hgo ⟨hpos, h⟩
                  rw [show q + 1 - 1 = q by omega, SFlat.at_lt hqo] at this
                  simpa using this
              have HINS := hide hstop; clear hstop
              rcases Nat.eq_zero_or_pos k with hz | hpos
              · have hkz3 : ¬ 0 < k := by omega
                have hkz4 : decide (0 < k) = false := decide_eq_false hkz3
                have hkz5 : (k == 0) = true := by simpa using hz
                have HZ := hide hz
                clear d0 d1 d2 d3 hgo hz
                go_wp2_with fail
                (refine wp_region_later (by kernel_rfl) (by kernel_rfl) ?_; (repeat (go_big_quiet_step (fail))); refine wpQuiet_nil ?_; intro _ hw'; obtain ⟨nq, hw''⟩ := hw'; subst hw'')
                clear n1 n2 hkz3 hkz4 hkz5
                have hb5 := nq.h
                have hs5a := nq.h.size
                have hsz9 : w2.heap.size ≤ wo.heap.size := by omega
                have HB2 := hide (HBEL.out.trans ((bstep hb2 nq.h hs2).mono hsz9))
                generalize nq.W = W5 at *
                have hbr : Below wo.heap.size wo W5 := hb2.trans (hb5.mono hs2)
                obtain ⟨e0, e1, e2, e3⟩ := HC.out
                have d0 := (hbr.cell (p := ⟨g9, 0, none⟩) hsa).trans e0
                have d1 := (hbr.cell (p := ⟨g9, 1, none⟩) hsa).trans e1
                have d2 := (hbr.cell (p := ⟨g9, 2, none⟩) hsa).trans e2
                have d3 := (hbr.cell (p := ⟨g9, 3, none⟩) hsa).trans e3
                have HROWO := hide (HRO.out.below hbr (Nat.le_refl _) hbr.size)
                have hs5 : w2.heap.size ≤ W5.heap.size := by omega
                have hBW : B ≤ W5.heap.size := by omega
                have hkc0 : os.length ≤ co := by omega
                clear hb5 hbr e0 e1 e2 e3 hb2 HI HC
                have htl : (os.take k).length = k := by rw [List.length_take]; omega
                have hdl : (os.drop k).length = os.length - k := List.length_drop
                have hszg : ∀ (W : World) (o : Obj), (W.alloc o).heap.size = W.heap.size + 1 := fun W o => by simp
                have hrow := HROWO.out
                have hsrc := fun (W : World) (hW : Below W5.heap.size W5 W) => srcN (rowN_take (hrow.below hW (Nat.le_refl _) hW.size) k) (show 0 < 4 by omega)
                have hsrc2 := fun (W : World) (hW : Below W5.heap.size W5 W) => srcN (rowN_drop (hrow.below hW (Nat.le_refl _) hW.size) k) (show 0 < 4 by omega)
                simp only [Nat.zero_add] at hsrc2
                have ba1 := below_alloc W5 (.cells #[] 68)
                have ba := ba1.drew
                have bb1 := ba1.alloc ba1.size (.cells #[.int .i64 y0, .int .i64 y1, .int .i64 y2, .int .i64 y3] 68)
                have bb := bb1.drew
                have bc0 := below_alloc W5 (.cells #[.int .i64 y0, .int .i64 y1, .int .i64 y2, .int .i64 y3] 68)
                have bc1 := bc0.alloc bc0.size (.cells #[] 68)
                have bc := bc1.drew
                have hoa : Own 4 SFlat.enc 68 (W5.alloc (.cells #[] 68)).drew W5.heap.size (.slice (some ⟨W5.heap.size, 0, none⟩) 0 0) [] := own_noneN 68 W5 (Nat.le_refl _)
                have hob : Own 4 SFlat.enc 68 ((W5.alloc (.cells #[] 68)).alloc (.cells #[.int .i64 y0, .int .i64 y1, .int .i64 y2, .int .i64 y3] 68)).drew W5.heap.size (.slice (some ⟨W5.heap.size, 0, none⟩) 0 0) [] := (own_noneN 68 W5 (Nat.le_refl _)).alloc (.cells #[.int .i64 y0, .int .i64 y1, .int .i64 y2, .int .i64 y3] 68)
                have hoc : Own 4 SFlat.enc 68 ((W5.alloc (.cells #[.int .i64 y0, .int .i64 y1, .int .i64 y2, .int .i64 y3] 68)).alloc (.cells #[] 68)).drew W5.heap.size (.slice (some ⟨W5.heap.size + 1, 0, none⟩) 0 0) [] := by
                  have := own_noneN (kk := 4) (enc := SFlat.enc) 68 (W5.alloc (.cells #[.int .i64 y0, .int .i64 y1, .int .i64 y2, .int .i64 y3] 68)) (Nat.le_refl _)
                  rw [hszg] at this
                  exact this.mono (Nat.le_succ _)
                have hnb := fun (w1 : World) (hg : (((W5.alloc (.cells #[] 68)).alloc (.cells #[.int .i64 y0, .int .i64 y1, .int .i64 y2, .int .i64 y3] 68)).drew).grownBy w1 (Value.slice (some ⟨W5.heap.size, 0, none⟩) 0 0).ownBlock) => newN (w := ((W5.alloc (.cells #[] 68)).alloc (.cells #[.int .i64 y0, .int .i64 y1, .int .i64 y2, .int .i64 y3] 68)).drew) (g2 := W5.heap.size) (g := W5.heap.size + 1) (kk := 4) (enc := SFlat.enc) (ys := [⟨y0, y1, y2, y3⟩]) (by have := Blk.new (W5.alloc (.cells #[] 68)) 68 #[.int .i64 y0, .int .i64 y1, .int .i64 y2, .int .i64 y3]; rw [hszg] at this; exact this) hg (by omega) rfl
                have hnc := fun (w1 : World) (hg : (((W5.alloc (.cells #[.int .i64 y0, .int .i64 y1, .int .i64 y2, .int .i64 y3] 68)).alloc (.cells #[] 68)).drew).grownBy w1 (Value.slice (some ⟨W5.heap.size + 1, 0, none⟩) 0 0).ownBlock) => newN (w := ((W5.alloc (.cells #[.int .i64 y0, .int .i64 y1, .int .i64 y2, .int .i64 y3] 68)).alloc (.cells #[] 68)).drew) (g2 := W5.heap.size + 1) (g := W5.heap.size) (kk := 4) (enc := SFlat.enc) (ys := [⟨y0, y1, y2, y3⟩]) ((Blk.new W5 68 #[.int .i64 y0, .int .i64 y1, .int .i64 y2, .int .i64 y3]).alloc (.cells #[] 68)) hg (by omega) rfl
                have HOA := hide hoa; have HOB := hide hob; have HOC := hide hoc; have BA := hide ba; have BB := hide bb; have BC := hide bc
                have HSRC := hide hsrc; have HSRC2 := hide hsrc2; have HNB := hide hnb; have HNC := hide hnc; have HTL := hide htl; have HDL := hide hdl
                clear hoa hob hoc ba ba1 bb bb1 bc bc0 bc1 hsrc hsrc2 hnb hnc htl hdl hszg hrow
                by_cases hck : co = k
                · have hck2 := hck.symm
                  subst hck2
                  have hko : (k : Int) ≤ (os.length : Int) := by omega
                  go_wp2_with fail
                  go_region_held3 (fun w' => w'.cell? ⟨g9, 0, none⟩ = some (.int .i64 y0) ∧ w'.cell? ⟨g9, 1, none⟩ = some (.int .i64 y1) ∧ w'.cell? ⟨g9, 2, none⟩ = some (.int .i64 y2) ∧ w'.cell? ⟨g9, 3, none⟩ = some (.int .i64 y3)) (go_keep)
                    (first
                      | (refine step_pushN (k := 4) (enc := SFlat.enc) _ (by rfl) _ _ 57 (by rfl) 68 (.agg #[.int .i64 0, .int .i64 0, .int .i64 0, .int .i64 0]) 32 Try.underlying57 SFlat.info rfl (by omega) SFlat.one W5.heap.size _ ([] : List _) (by rfl) HOA.out ⟨go, 0, none⟩ k (os.take k) (by rw [HTL.out]; rfl) (HSRC.out _ BA.out) (by rw [HTL.out]; simp; omega) (by rw [HTL.out]; simp; omega) BA.out.size BA.out (Nat.le_refl _) ?_; intro v1 w1 ho1 hb1 hg1; have hk1 : ∀ o, w1.cell? ⟨g9, o, none⟩ = W5.cell? ⟨g9, o, none⟩ := (fun o => hb1.cell (p := ⟨g9, o, none⟩) (by show g9 < W5.heap.size; omega)); have HO1 := hide ho1; clear ho1 hg1)
                      | (refine step_pushN (k := 4) (enc := SFlat.enc) _ (by rfl) _ _ 57 (by rfl) 68 (.agg #[.int .i64 0, .int .i64 0, .int .i64 0, .int .i64 0]) 32 Try.underlying57 SFlat.info rfl (by omega) SFlat.one W5.heap.size _ ([] : List _) (by rfl) HOB.out ⟨go, 0, none⟩ k (os.take k) (by rw [HTL.out]; rfl) (HSRC.out _ BB.out) (by rw [HTL.out]; simp; omega) (by rw [HTL.out]; simp; omega) BB.out.size BB.out (Nat.le_refl _) ?_; intro v1 w1 ho1 hb1 hg1; have hk1 : ∀ o, w1.cell? ⟨g9, o, none⟩ = W5.cell? ⟨g9, o, none⟩ := (fun o => hb1.cell (p := ⟨g9, o, none⟩) (by show g9 < W5.heap.size; omega)); have HO1 := hide ho1; have HN := hide (HNB.out w1 hg1); clear ho1 hg1)
                      | (refine step_pushN (k := 4) (enc := SFlat.enc) _ (by rfl) _ _ 57 (by rfl) 68 (.agg #[.int .i64 0, .int .i64 0, .int .i64 0, .int .i64 0]) 32 Try.underlying57 SFlat.info rfl (by omega) SFlat.one W5.heap.size _ ([] : List _) (by rfl) HOC.out ⟨go, 0, none⟩ k (os.take k) (by rw [HTL.out]; rfl) (HSRC.out _ BC.out) (by rw [HTL.out]; simp; omega) (by rw [HTL.out]; simp; omega) BC.out.size BC.out (Nat.le_refl _) ?_; intro v1 w1 ho1 hb1 hg1; have hk1 : ∀ o, w1.cell? ⟨g9, o, none⟩ = W5.cell? ⟨g9, o, none⟩ := (fun o => hb1.cell (p := ⟨g9, o, none⟩) (by show g9 < W5.heap.size; omega)); have HO1 := hide ho1; have HN := hide (HNC.out w1 hg1); clear ho1 hg1)
                      | (refine step_pushN (k := 4) (enc := SFlat.enc) _ (by rfl) _ _ 57 (by rfl) 68 (.agg #[.int .i64 0, .int .i64 0, .int .i64 0, .int .i64 0]) 32 Try.underlying57 SFlat.info rfl (by omega) SFlat.one W5.heap.size _ ([] ++ os.take k) (by rfl) (HO1.out.alloc (.cells #[.int .i64 y0, .int .i64 y1, .int .i64 y2, .int .i64 y3] 68)) ⟨w1.heap.size, 0, none⟩ 1 [⟨y0, y1, y2, y3⟩] (by rfl) (src_new w1 rfl) (by simp [HTL.out]; omega) (by simp [HTL.out]; omega) (hb1.alloc hb1.size (.cells #[.int .i64 y0, .int .i64 y1, .int .i64 y2, .int .i64 y3] 68)).size (hb1.alloc hb1.size (.cells #[.int .i64 y0, .int .i64 y1, .int .i64 y2, .int .i64 y3] 68)) (Nat.le_refl _) ?_; intro v2 w2 ho2 hb2 hg2; have hk2 : ∀ o, w2.cell? ⟨g9, o, none⟩ = W5.cell? ⟨g9, o, none⟩ := (fun o => hb2.cell (p := ⟨g9, o, none⟩) (by show g9 < W5.heap.size; omega)); have HO2 := hide ho2; clear ho2 hg2)
                      | (refine step_pushN (k := 4) (enc := SFlat.enc) _ (by rfl) _ _ 57 (by rfl) 68 (.agg #[.int .i64 0, .int .i64 0, .int .i64 0, .int .i64 0]) 32 Try.underlying57 SFlat.info rfl (by omega) SFlat.one W5.heap.size _ ([] ++ os.take k) (by rfl) HO1.out ⟨W5.heap.size + 1, 0, none⟩ 1 [⟨y0, y1, y2, y3⟩] (by rfl) HN.out (by simp [HTL.out]; omega) (by simp [HTL.out]; omega) hb1.size hb1 (Nat.le_refl _) ?_; intro v2 w2 ho2 hb2 hg2; have hk2 : ∀ o, w2.cell? ⟨g9, o, none⟩ = W5.cell? ⟨g9, o, none⟩ := (fun o => hb2.cell (p := ⟨g9, o, none⟩) (by show g9 < W5.heap.size; omega)); have HO2 := hide ho2; clear ho2 hg2)
                      | (refine step_pushN (k := 4) (enc := SFlat.enc) _ (by rfl) _ _ 57 (by rfl) 68 (.agg #[.int .i64 0, .int .i64 0, .int .i64 0, .int .i64 0]) 32 Try.underlying57 SFlat.info rfl (by omega) SFlat.one W5.heap.size _ ([] ++ os.take k) (by rfl) HO1.out ⟨W5.heap.size, 0, none⟩ 1 [⟨y0, y1, y2, y3⟩] (by rfl) HN.out (by simp [HTL.out]; omega) (by simp [HTL.out]; omega) hb1.size hb1 (Nat.le_refl _) ?_; intro v2 w2 ho2 hb2 hg2; have hk2 : ∀ o, w2.cell? ⟨g9, o, none⟩ = W5.cell? ⟨g9, o, none⟩ := (fun o => hb2.cell (p := ⟨g9, o, none⟩) (by show g9 < W5.heap.size; omega)); have HO2 := hide ho2; clear ho2 hg2)
                      | (refine step_pushN (k := 4) (enc := SFlat.enc) _ (by rfl) _ _ 57 (by rfl) 68 (.agg #[.int .i64 0, .int .i64 0, .int .i64 0, .int .i64 0]) 32 Try.underlying57 SFlat.info rfl (by omega) SFlat.one W5.heap.size _ ([] ++ os.take k ++ [⟨y0, y1, y2, y3⟩]) (by rfl) HO2.out ⟨go, 0, none⟩ 0 (os.drop k) (by rw [HDL.out]; rw [show os.length - k = 0 by omega]; rfl) ((by rw [List.drop_of_length_le (by omega)]; intro j u hj; simp [flat] at hj)) (by simp [HTL.out, HDL.out]; omega) (by simp [HTL.out, HDL.out]; omega) hb2.size hb2 (Nat.le_refl _) ?_; intro v3 w3 ho3 hb3 hg3; have hk3 : ∀ o, w3.cell? ⟨g9, o, none⟩ = W5.cell? ⟨g9, o, none⟩ := (fun o => hb3.cell (p := ⟨g9, o, none⟩) (by show g9 < W5.heap.size; omega)); have HO3 := hide ho3; clear ho3 hg3))
                  all_goals
                    have hnew : insD (ltOf Go.Proofs.Ytdbcilinoieabaa.cfF) os ⟨y0, y1, y2, y3⟩ = [] ++ os.take k ++ [⟨y0, y1, y2, y3⟩] ++ os.drop k := by rw [HINS.out]; simp
                    have ho3 := HO3.out
                    rw [← hnew, ← HSTS.out] at ho3
                    have HO4 := hide (ho3.mono hBW)
                    have HB4 := hide (HB2.out.trans (hb3.mono hs5))
                    clear ho3 hnew
                    obtain ⟨g4, c4, cs4, rfl, _⟩ := own_blk5 HO4.out (by have := HNS.out; omega)
                    go_wp2_with fail
                    go_round
                    case measure => (simp [intOf] <;> omega)
                    case rel => exact ⟨i + 1, g4, c4, by omega, by go_num, by rw [HNSE.out], by rw [HNSE.out]; exact HO4.out, HB4.out⟩
                · have hkc : (k : Int) ≤ (co : Int) := by omega
                  have hko : (k : Int) ≤ (os.length : Int) := by omega
                  go_wp2_with fail
                  go_region_held3 (fun w' => w'.cell? ⟨g9, 0, none⟩ = some (.int .i64 y0) ∧ w'.cell? ⟨g9, 1, none⟩ = some (.int .i64 y1) ∧ w'.cell? ⟨g9, 2, none⟩ = some (.int .i64 y2) ∧ w'.cell? ⟨g9, 3, none⟩ = some (.int .i64 y3)) (go_keep)
                    (first
                      | (refine step_pushN (k := 4) (enc := SFlat.enc) _ (by rfl) _ _ 57 (by rfl) 68 (.agg #[.int .i64 0, .int .i64 0, .int .i64 0, .int .i64 0]) 32 Try.underlying57 SFlat.info rfl (by omega) SFlat.one W5.heap.size _ ([] : List _) (by rfl) HOA.out ⟨go, 0, none⟩ co (os.take k) (by rw [HTL.out]; rfl) (HSRC.out _ BA.out) (by rw [HTL.out]; simp; omega) (by rw [HTL.out]; simp; omega) BA.out.size BA.out (Nat.le_refl _) ?_; intro v1 w1 ho1 hb1 hg1; have hk1 : ∀ o, w1.cell? ⟨g9, o, none⟩ = W5.cell? ⟨g9, o, none⟩ := (fun o => hb1.cell (p := ⟨g9, o, none⟩) (by show g9 < W5.heap.size; omega)); have HO1 := hide ho1; clear ho1 hg1)
                      | (refine step_pushN (k := 4) (enc := SFlat.enc) _ (by rfl) _ _ 57 (by rfl) 68 (.agg #[.int .i64 0, .int .i64 0, .int .i64 0, .int .i64 0]) 32 Try.underlying57 SFlat.info rfl (by omega) SFlat.one W5.heap.size _ ([] : List _) (by rfl) HOB.out ⟨go, 0, none⟩ co (os.take k) (by rw [HTL.out]; rfl) (HSRC.out _ BB.out) (by rw [HTL.out]; simp; omega) (by rw [HTL.out]; simp; omega) BB.out.size BB.out (Nat.le_refl _) ?_; intro v1 w1 ho1 hb1 hg1; have hk1 : ∀ o, w1.cell? ⟨g9, o, none⟩ = W5.cell? ⟨g9, o, none⟩ := (fun o => hb1.cell (p := ⟨g9, o, none⟩) (by show g9 < W5.heap.size; omega)); have HO1 := hide ho1; have HN := hide (HNB.out w1 hg1); clear ho1 hg1)
                      | (refine step_pushN (k := 4) (enc := SFlat.enc) _ (by rfl) _ _ 57 (by rfl) 68 (.agg #[.int .i64 0, .int .i64 0, .int .i64 0, .int .i64 0]) 32 Try.underlying57 SFlat.info rfl (by omega) SFlat.one W5.heap.size _ ([] : List _) (by rfl) HOC.out ⟨go, 0, none⟩ co (os.take k) (by rw [HTL.out]; rfl) (HSRC.out _ BC.out) (by rw [HTL.out]; simp; omega) (by rw [HTL.out]; simp; omega) BC.out.size BC.out (Nat.le_refl _) ?_; intro v1 w1 ho1 hb1 hg1; have hk1 : ∀ o, w1.cell? ⟨g9, o, none⟩ = W5.cell? ⟨g9, o, none⟩ := (fun o => hb1.cell (p := ⟨g9, o, none⟩) (by show g9 < W5.heap.size; omega)); have HO1 := hide ho1; have HN := hide (HNC.out w1 hg1); clear ho1 hg1)
                      | (refine step_pushN (k := 4) (enc := SFlat.enc) _ (by rfl) _ _ 57 (by rfl) 68 (.agg #[.int .i64 0, .int .i64 0, .int .i64 0, .int .i64 0]) 32 Try.underlying57 SFlat.info rfl (by omega) SFlat.one W5.heap.size _ ([] ++ os.take k) (by rfl) (HO1.out.alloc (.cells #[.int .i64 y0, .int .i64 y1, .int .i64 y2, .int .i64 y3] 68)) ⟨w1.heap.size, 0, none⟩ 1 [⟨y0, y1, y2, y3⟩] (by rfl) (src_new w1 rfl) (by simp [HTL.out]; omega) (by simp [HTL.out]; omega) (hb1.alloc hb1.size (.cells #[.int .i64 y0, .int .i64 y1, .int .i64 y2, .int .i64 y3] 68)).size (hb1.alloc hb1.size (.cells #[.int .i64 y0, .int .i64 y1, .int .i64 y2, .int .i64 y3] 68)) (Nat.le_refl _) ?_; intro v2 w2 ho2 hb2 hg2; have hk2 : ∀ o, w2.cell? ⟨g9, o, none⟩ = W5.cell? ⟨g9, o, none⟩ := (fun o => hb2.cell (p := ⟨g9, o, none⟩) (by show g9 < W5.heap.size; omega)); have HO2 := hide ho2; clear ho2 hg2)
                      | (refine step_pushN (k := 4) (enc := SFlat.enc) _ (by rfl) _ _ 57 (by rfl) 68 (.agg #[.int .i64 0, .int .i64 0, .int .i64 0, .int .i64 0]) 32 Try.underlying57 SFlat.info rfl (by omega) SFlat.one W5.heap.size _ ([] ++ os.take k) (by rfl) HO1.out ⟨W5.heap.size + 1, 0, none⟩ 1 [⟨y0, y1, y2, y3⟩] (by rfl) HN.out (by simp [HTL.out]; omega) (by simp [HTL.out]; omega) hb1.size hb1 (Nat.le_refl _) ?_; intro v2 w2 ho2 hb2 hg2; have hk2 : ∀ o, w2.cell? ⟨g9, o, none⟩ = W5.cell? ⟨g9, o, none⟩ := (fun o => hb2.cell (p := ⟨g9, o, none⟩) (by show g9 < W5.heap.size; omega)); have HO2 := hide ho2; clear ho2 hg2)
                      | (refine step_pushN (k := 4) (enc := SFlat.enc) _ (by rfl) _ _ 57 (by rfl) 68 (.agg #[.int .i64 0, .int .i64 0, .int .i64 0, .int .i64 0]) 32 Try.underlying57 SFlat.info rfl (by omega) SFlat.one W5.heap.size _ ([] ++ os.take k) (by rfl) HO1.out ⟨W5.heap.size, 0, none⟩ 1 [⟨y0, y1, y2, y3⟩] (by rfl) HN.out (by simp [HTL.out]; omega) (by simp [HTL.out]; omega) hb1.size hb1 (Nat.le_refl _) ?_; intro v2 w2 ho2 hb2 hg2; have hk2 : ∀ o, w2.cell? ⟨g9, o, none⟩ = W5.cell? ⟨g9, o, none⟩ := (fun o => hb2.cell (p := ⟨g9, o, none⟩) (by show g9 < W5.heap.size; omega)); have HO2 := hide ho2; clear ho2 hg2)
                      | (refine step_pushN (k := 4) (enc := SFlat.enc) _ (by rfl) _ _ 57 (by rfl) 68 (.agg #[.int .i64 0, .int .i64 0, .int .i64 0, .int .i64 0]) 32 Try.underlying57 SFlat.info rfl (by omega) SFlat.one W5.heap.size _ ([] ++ os.take k ++ [⟨y0, y1, y2, y3⟩]) (by rfl) HO2.out ⟨go, k * 4, none⟩ (co - k) (os.drop k) (by rw [HDL.out]; rfl) (HSRC2.out _ hb2) (by simp [HTL.out, HDL.out]; omega) (by simp [HTL.out, HDL.out]; omega) hb2.size hb2 (Nat.le_refl _) ?_; intro v3 w3 ho3 hb3 hg3; have hk3 : ∀ o, w3.cell? ⟨g9, o, none⟩ = W5.cell? ⟨g9, o, none⟩ := (fun o => hb3.cell (p := ⟨g9, o, none⟩) (by show g9 < W5.heap.size; omega)); have HO3 := hide ho3; clear ho3 hg3))
                  all_goals
                    have hnew : insD (ltOf Go.Proofs.Ytdbcilinoieabaa.cfF) os ⟨y0, y1, y2, y3⟩ = [] ++ os.take k ++ [⟨y0, y1, y2, y3⟩] ++ os.drop k := by rw [HINS.out]; simp
                    have ho3 := HO3.out
                    rw [← hnew, ← HSTS.out] at ho3
                    have HO4 := hide (ho3.mono hBW)
                    have HB4 := hide (HB2.out.trans (hb3.mono hs5))
                    clear ho3 hnew
                    obtain ⟨g4, c4, cs4, rfl, _⟩ := own_blk5 HO4.out (by have := HNS.out; omega)
                    go_wp2_with fail
                    go_round
                    case measure => (simp [intOf] <;> omega)
                    case rel => exact ⟨i + 1, g4, c4, by omega, by go_num, by rw [HNSE.out], by rw [HNSE.out]; exact HO4.out, HB4.out⟩
              · obtain ⟨q, rfl⟩ : ∃ q, k = q + 1 := ⟨k - 1, by omega⟩
                have hqo : q < os.length := by omega
                have hlv := fun h => hgo ⟨hpos, h⟩
                rw [show q + 1 - 1 = q by omega, SFlat.at_lt hqo] at hlv
                obtain ⟨bo, offo, hAo, _, p0, p1, p2, p3⟩ := SFlat.cells HRO.out hqo hb2
                injection hAo with hAo; injection hAo with hA1 hA2; subst hA1 hA2
                simp only [Nat.zero_add] at p1 p2
                rw [ltOf_cfF] at hlv
                have hlv2 : ¬ wrap64 (os[q].wide * os[q].high) < wrap64 (y1 * y2) := fun h => hlv (decide_eq_true h)
                generalize os[q].wide = z1 at *; generalize os[q].high = z2 at *
                have hlv3 : decide (wrap64 (z1 * z2) < wrap64 (y1 * y2)) = false := decide_eq_false hlv2
                have m1 := fun n => later_cell p1 n; have m2 := fun n => later_cell p2 n
                have hqo' : (q : Int) < os.length := by omega
                clear hlv p0 p1 p2 p3 d0 d1 d2 d3 hgo hpos
                go_wp2_with fail
                (refine wp_region_later (by kernel_rfl) (by kernel_rfl) ?_; (repeat (go_big_quiet_step (fail))); refine wpQuiet_nil ?_; intro _ hw'; obtain ⟨nq, hw''⟩ := hw'; subst hw'')
                clear n1 n2 m1 m2 hlv2 hlv3
                have hb5 := nq.h
                have hs5a := nq.h.size
                have hsz9 : w2.heap.size ≤ wo.heap.size := by omega
                have HB2 := hide (HBEL.out.trans ((bstep hb2 nq.h hs2).mono hsz9))
                generalize nq.W = W5 at *
                have hbr : Below wo.heap.size wo W5 := hb2.trans (hb5.mono hs2)
                obtain ⟨e0, e1, e2, e3⟩ := HC.out
                have d0 := (hbr.cell (p := ⟨g9, 0, none⟩) hsa).trans e0
                have d1 := (hbr.cell (p := ⟨g9, 1, none⟩) hsa).trans e1
                have d2 := (hbr.cell (p := ⟨g9, 2, none⟩) hsa).trans e2
                have d3 := (hbr.cell (p := ⟨g9, 3, none⟩) hsa).trans e3
                have HROWO := hide (HRO.out.below hbr (Nat.le_refl _) hbr.size)
                have hs5 : w2.heap.size ≤ W5.heap.size := by omega
                have hBW : B ≤ W5.heap.size := by omega
                have hkc0 : os.length ≤ co := by omega
                clear hb5 hbr e0 e1 e2 e3 hb2 HI HC
                have htl : (os.take (q + 1)).length = (q + 1) := by rw [List.length_take]; omega
                have hdl : (os.drop (q + 1)).length = os.length - (q + 1) := List.length_drop
                have hszg : ∀ (W : World) (o : Obj), (W.alloc o).heap.size = W.heap.size + 1 := fun W o => by simp
                have hrow := HROWO.out
                have hsrc := fun (W : World) (hW : Below W5.heap.size W5 W) => srcN (rowN_take (hrow.below hW (Nat.le_refl _) hW.size) (q + 1)) (show 0 < 4 by omega)
                have hsrc2 := fun (W : World) (hW : Below W5.heap.size W5 W) => srcN (rowN_drop (hrow.below hW (Nat.le_refl _) hW.size) (q + 1)) (show 0 < 4 by omega)
                simp only [Nat.zero_add] at hsrc2
                have ba1 := below_alloc W5 (.cells #[] 68)
                have ba := ba1.drew
                have bb1 := ba1.alloc ba1.size (.cells #[.int .i64 y0, .int .i64 y1, .int .i64 y2, .int .i64 y3] 68)
                have bb := bb1.drew
                have bc0 := below_alloc W5 (.cells #[.int .i64 y0, .int .i64 y1, .int .i64 y2, .int .i64 y3] 68)
                have bc1 := bc0.alloc bc0.size (.cells #[] 68)
                have bc := bc1.drew
                have hoa : Own 4 SFlat.enc 68 (W5.alloc (.cells #[] 68)).drew W5.heap.size (.slice (some ⟨W5.heap.size, 0, none⟩) 0 0) [] := own_noneN 68 W5 (Nat.le_refl _)
                have hob : Own 4 SFlat.enc 68 ((W5.alloc (.cells #[] 68)).alloc (.cells #[.int .i64 y0, .int .i64 y1, .int .i64 y2, .int .i64 y3] 68)).drew W5.heap.size (.slice (some ⟨W5.heap.size, 0, none⟩) 0 0) [] := (own_noneN 68 W5 (Nat.le_refl _)).alloc (.cells #[.int .i64 y0, .int .i64 y1, .int .i64 y2, .int .i64 y3] 68)
                have hoc : Own 4 SFlat.enc 68 ((W5.alloc (.cells #[.int .i64 y0, .int .i64 y1, .int .i64 y2, .int .i64 y3] 68)).alloc (.cells #[] 68)).drew W5.heap.size (.slice (some ⟨W5.heap.size + 1, 0, none⟩) 0 0) [] := by
                  have := own_noneN (kk := 4) (enc := SFlat.enc) 68 (W5.alloc (.cells #[.int .i64 y0, .int .i64 y1, .int .i64 y2, .int .i64 y3] 68)) (Nat.le_refl _)
                  rw [hszg] at this
                  exact this.mono (Nat.le_succ _)
                have hnb := fun (w1 : World) (hg : (((W5.alloc (.cells #[] 68)).alloc (.cells #[.int .i64 y0, .int .i64 y1, .int .i64 y2, .int .i64 y3] 68)).drew).grownBy w1 (Value.slice (some ⟨W5.heap.size, 0, none⟩) 0 0).ownBlock) => newN (w := ((W5.alloc (.cells #[] 68)).alloc (.cells #[.int .i64 y0, .int .i64 y1, .int .i64 y2, .int .i64 y3] 68)).drew) (g2 := W5.heap.size) (g := W5.heap.size + 1) (kk := 4) (enc := SFlat.enc) (ys := [⟨y0, y1, y2, y3⟩]) (by have := Blk.new (W5.alloc (.cells #[] 68)) 68 #[.int .i64 y0, .int .i64 y1, .int .i64 y2, .int .i64 y3]; rw [hszg] at this; exact this) hg (by omega) rfl
                have hnc := fun (w1 : World) (hg : (((W5.alloc (.cells #[.int .i64 y0, .int .i64 y1, .int .i64 y2, .int .i64 y3] 68)).alloc (.cells #[] 68)).drew).grownBy w1 (Value.slice (some ⟨W5.heap.size + 1, 0, none⟩) 0 0).ownBlock) => newN (w := ((W5.alloc (.cells #[.int .i64 y0, .int .i64 y1, .int .i64 y2, .int .i64 y3] 68)).alloc (.cells #[] 68)).drew) (g2 := W5.heap.size + 1) (g := W5.heap.size) (kk := 4) (enc := SFlat.enc) (ys := [⟨y0, y1, y2, y3⟩]) ((Blk.new W5 68 #[.int .i64 y0, .int .i64 y1, .int .i64 y2, .int .i64 y3]).alloc (.cells #[] 68)) hg (by omega) rfl
                have HOA := hide hoa; have HOB := hide hob; have HOC := hide hoc; have BA := hide ba; have BB := hide bb; have BC := hide bc
                have HSRC := hide hsrc; have HSRC2 := hide hsrc2; have HNB := hide hnb; have HNC := hide hnc; have HTL := hide htl; have HDL := hide hdl
                clear hoa hob hoc ba ba1 bb bb1 bc bc0 bc1 hsrc hsrc2 hnb hnc htl hdl hszg hrow
                by_cases hck : co = (q + 1)
                · have hck2 := hck.symm
                  subst hck2
                  have hko : ((q : Int) + 1) ≤ (os.length : Int) := by omega
                  have hq0 : (0 : Int) ≤ (q : Int) + 1 := by omega
                  have hq1 : ((q : Int) + 1).toNat = q + 1 := by omega
                  have hq2 : 0 ≤ q + 1 := by omega
                  go_wp2_with fail
                  go_region_held3 (fun w' => w'.cell? ⟨g9, 0, none⟩ = some (.int .i64 y0) ∧ w'.cell? ⟨g9, 1, none⟩ = some (.int .i64 y1) ∧ w'.cell? ⟨g9, 2, none⟩ = some (.int .i64 y2) ∧ w'.cell? ⟨g9, 3, none⟩ = some (.int .i64 y3)) (go_keep)
                    (first
                      | (refine step_pushN (k := 4) (enc := SFlat.enc) _ (by rfl) _ _ 57 (by rfl) 68 (.agg #[.int .i64 0, .int .i64 0, .int .i64 0, .int .i64 0]) 32 Try.underlying57 SFlat.info rfl (by omega) SFlat.one W5.heap.size _ ([] : List _) (by rfl) HOA.out ⟨go, 0, none⟩ (q + 1) (os.take (q + 1)) (by rw [HTL.out]; rfl) (HSRC.out _ BA.out) (by rw [HTL.out]; simp; omega) (by rw [HTL.out]; simp; omega) BA.out.size BA.out (Nat.le_refl _) ?_; intro v1 w1 ho1 hb1 hg1; have hk1 : ∀ o, w1.cell? ⟨g9, o, none⟩ = W5.cell? ⟨g9, o, none⟩ := (fun o => hb1.cell (p := ⟨g9, o, none⟩) (by show g9 < W5.heap.size; omega)); have HO1 := hide ho1; clear ho1 hg1)
                      | (refine step_pushN (k := 4) (enc := SFlat.enc) _ (by rfl) _ _ 57 (by rfl) 68 (.agg #[.int .i64 0, .int .i64 0, .int .i64 0, .int .i64 0]) 32 Try.underlying57 SFlat.info rfl (by omega) SFlat.one W5.heap.size _ ([] : List _) (by rfl) HOB.out ⟨go, 0, none⟩ (q + 1) (os.take (q + 1)) (by rw [HTL.out]; rfl) (HSRC.out _ BB.out) (by rw [HTL.out]; simp; omega) (by rw [HTL.out]; simp; omega) BB.out.size BB.out (Nat.le_refl _) ?_; intro v1 w1 ho1 hb1 hg1; have hk1 : ∀ o, w1.cell? ⟨g9, o, none⟩ = W5.cell? ⟨g9, o, none⟩ := (fun o => hb1.cell (p := ⟨g9, o, none⟩) (by show g9 < W5.heap.size; omega)); have HO1 := hide ho1; have HN := hide (HNB.out w1 hg1); clear ho1 hg1)
                      | (refine step_pushN (k := 4) (enc := SFlat.enc) _ (by rfl) _ _ 57 (by rfl) 68 (.agg #[.int .i64 0, .int .i64 0, .int .i64 0, .int .i64 0]) 32 Try.underlying57 SFlat.info rfl (by omega) SFlat.one W5.heap.size _ ([] : List _) (by rfl) HOC.out ⟨go, 0, none⟩ (q + 1) (os.take (q + 1)) (by rw [HTL.out]; rfl) (HSRC.out _ BC.out) (by rw [HTL.out]; simp; omega) (by rw [HTL.out]; simp; omega) BC.out.size BC.out (Nat.le_refl _) ?_; intro v1 w1 ho1 hb1 hg1; have hk1 : ∀ o, w1.cell? ⟨g9, o, none⟩ = W5.cell? ⟨g9, o, none⟩ := (fun o => hb1.cell (p := ⟨g9, o, none⟩) (by show g9 < W5.heap.size; omega)); have HO1 := hide ho1; have HN := hide (HNC.out w1 hg1); clear ho1 hg1)
                      | (refine step_pushN (k := 4) (enc := SFlat.enc) _ (by rfl) _ _ 57 (by rfl) 68 (.agg #[.int .i64 0, .int .i64 0, .int .i64 0, .int .i64 0]) 32 Try.underlying57 SFlat.info rfl (by omega) SFlat.one W5.heap.size _ ([] ++ os.take (q + 1)) (by rfl) (HO1.out.alloc (.cells #[.int .i64 y0, .int .i64 y1, .int .i64 y2, .int .i64 y3] 68)) ⟨w1.heap.size, 0, none⟩ 1 [⟨y0, y1, y2, y3⟩] (by rfl) (src_new w1 rfl) (by simp [HTL.out]; omega) (by simp [HTL.out]; omega) (hb1.alloc hb1.size (.cells #[.int .i64 y0, .int .i64 y1, .int .i64 y2, .int .i64 y3] 68)).size (hb1.alloc hb1.size (.cells #[.int .i64 y0, .int .i64 y1, .int .i64 y2, .int .i64 y3] 68)) (Nat.le_refl _) ?_; intro v2 w2 ho2 hb2 hg2; have hk2 : ∀ o, w2.cell? ⟨g9, o, none⟩ = W5.cell? ⟨g9, o, none⟩ := (fun o => hb2.cell (p := ⟨g9, o, none⟩) (by show g9 < W5.heap.size; omega)); have HO2 := hide ho2; clear ho2 hg2)
                      | (refine step_pushN (k := 4) (enc := SFlat.enc) _ (by rfl) _ _ 57 (by rfl) 68 (.agg #[.int .i64 0, .int .i64 0, .int .i64 0, .int .i64 0]) 32 Try.underlying57 SFlat.info rfl (by omega) SFlat.one W5.heap.size _ ([] ++ os.take (q + 1)) (by rfl) HO1.out ⟨W5.heap.size + 1, 0, none⟩ 1 [⟨y0, y1, y2, y3⟩] (by rfl) HN.out (by simp [HTL.out]; omega) (by simp [HTL.out]; omega) hb1.size hb1 (Nat.le_refl _) ?_; intro v2 w2 ho2 hb2 hg2; have hk2 : ∀ o, w2.cell? ⟨g9, o, none⟩ = W5.cell? ⟨g9, o, none⟩ := (fun o => hb2.cell (p := ⟨g9, o, none⟩) (by show g9 < W5.heap.size; omega)); have HO2 := hide ho2; clear ho2 hg2)
                      | (refine step_pushN (k := 4) (enc := SFlat.enc) _ (by rfl) _ _ 57 (by rfl) 68 (.agg #[.int .i64 0, .int .i64 0, .int .i64 0, .int .i64 0]) 32 Try.underlying57 SFlat.info rfl (by omega) SFlat.one W5.heap.size _ ([] ++ os.take (q + 1)) (by rfl) HO1.out ⟨W5.heap.size, 0, none⟩ 1 [⟨y0, y1, y2, y3⟩] (by rfl) HN.out (by simp [HTL.out]; omega) (by simp [HTL.out]; omega) hb1.size hb1 (Nat.le_refl _) ?_; intro v2 w2 ho2 hb2 hg2; have hk2 : ∀ o, w2.cell? ⟨g9, o, none⟩ = W5.cell? ⟨g9, o, none⟩ := (fun o => hb2.cell (p := ⟨g9, o, none⟩) (by show g9 < W5.heap.size; omega)); have HO2 := hide ho2; clear ho2 hg2)
                      | (refine step_pushN (k := 4) (enc := SFlat.enc) _ (by rfl) _ _ 57 (by rfl) 68 (.agg #[.int .i64 0, .int .i64 0, .int .i64 0, .int .i64 0]) 32 Try.underlying57 SFlat.info rfl (by omega) SFlat.one W5.heap.size _ ([] ++ os.take (q + 1) ++ [⟨y0, y1, y2, y3⟩]) (by rfl) HO2.out ⟨go, 0, none⟩ 0 (os.drop (q + 1)) (by rw [HDL.out]; rw [show os.length - (q + 1) = 0 by omega]; rfl) ((by rw [List.drop_of_length_le (by omega)]; intro j u hj; simp [flat] at hj)) (by simp [HTL.out, HDL.out]; omega) (by simp [HTL.out, HDL.out]; omega) hb2.size hb2 (Nat.le_refl _) ?_; intro v3 w3 ho3 hb3 hg3; have hk3 : ∀ o, w3.cell? ⟨g9, o, none⟩ = W5.cell? ⟨g9, o, none⟩ := (fun o => hb3.cell (p := ⟨g9, o, none⟩) (by show g9 < W5.heap.size; omega)); have HO3 := hide ho3; clear ho3 hg3))
                  all_goals
                    have hnew : insD (ltOf Go.Proofs.Ytdbcilinoieabaa.cfF) os ⟨y0, y1, y2, y3⟩ = [] ++ os.take (q + 1) ++ [⟨y0, y1, y2, y3⟩] ++ os.drop (q + 1) := by rw [HINS.out]; simp
                    have ho3 := HO3.out
                    rw [← hnew, ← HSTS.out] at ho3
                    have HO4 := hide (ho3.mono hBW)
                    have HB4 := hide (HB2.out.trans (hb3.mono hs5))
                    clear ho3 hnew
                    obtain ⟨g4, c4, cs4, rfl, _⟩ := own_blk5 HO4.out (by have := HNS.out; omega)
                    go_wp2_with fail
                    go_round
                    case measure => (simp [intOf] <;> omega)
                    case rel => exact ⟨i + 1, g4, c4, by omega, by go_num, by rw [HNSE.out], by rw [HNSE.out]; exact HO4.out, HB4.out⟩
                · have hkc : ((q : Int) + 1) ≤ (co : Int) := by omega
                  have hko : ((q : Int) + 1) ≤ (os.length : Int) := by omega
                  have hq0 : (0 : Int) ≤ (q : Int) + 1 := by omega
                  have hq1 : ((q : Int) + 1).toNat = q + 1 := by omega
                  have hq2 : 0 ≤ q + 1 := by omega
                  go_wp2_with fail
                  go_region_held3 (fun w' => w'.cell? ⟨g9, 0, none⟩ = some (.int .i64 y0) ∧ w'.cell? ⟨g9, 1, none⟩ = some (.int .i64 y1) ∧ w'.cell? ⟨g9, 2, none⟩ = some (.int .i64 y2) ∧ w'.cell? ⟨g9, 3, none⟩ = some (.int .i64 y3)) (go_keep)
                    (first
                      | (refine step_pushN (k := 4) (enc := SFlat.enc) _ (by rfl) _ _ 57 (by rfl) 68 (.agg #[.int .i64 0, .int .i64 0, .int .i64 0, .int .i64 0]) 32 Try.underlying57 SFlat.info rfl (by omega) SFlat.one W5.heap.size _ ([] : List _) (by rfl) HOA.out ⟨go, 0, none⟩ co (os.take (q + 1)) (by rw [HTL.out]; rfl) (HSRC.out _ BA.out) (by rw [HTL.out]; simp; omega) (by rw [HTL.out]; simp; omega) BA.out.size BA.out (Nat.le_refl _) ?_; intro v1 w1 ho1 hb1 hg1; have hk1 : ∀ o, w1.cell? ⟨g9, o, none⟩ = W5.cell? ⟨g9, o, none⟩ := (fun o => hb1.cell (p := ⟨g9, o, none⟩) (by show g9 < W5.heap.size; omega)); have HO1 := hide ho1; clear ho1 hg1)
                      | (refine step_pushN (k := 4) (enc := SFlat.enc) _ (by rfl) _ _ 57 (by rfl) 68 (.agg #[.int .i64 0, .int .i64 0, .int .i64 0, .int .i64 0]) 32 Try.underlying57 SFlat.info rfl (by omega) SFlat.one W5.heap.size _ ([] : List _) (by rfl) HOB.out ⟨go, 0, none⟩ co (os.take (q + 1)) (by rw [HTL.out]; rfl) (HSRC.out _ BB.out) (by rw [HTL.out]; simp; omega) (by rw [HTL.out]; simp; omega) BB.out.size BB.out (Nat.le_refl _) ?_; intro v1 w1 ho1 hb1 hg1; have hk1 : ∀ o, w1.cell? ⟨g9, o, none⟩ = W5.cell? ⟨g9, o, none⟩ := (fun o => hb1.cell (p := ⟨g9, o, none⟩) (by show g9 < W5.heap.size; omega)); have HO1 := hide ho1; have HN := hide (HNB.out w1 hg1); clear ho1 hg1)
                      | (refine step_pushN (k := 4) (enc := SFlat.enc) _ (by rfl) _ _ 57 (by rfl) 68 (.agg #[.int .i64 0, .int .i64 0, .int .i64 0, .int .i64 0]) 32 Try.underlying57 SFlat.info rfl (by omega) SFlat.one W5.heap.size _ ([] : List _) (by rfl) HOC.out ⟨go, 0, none⟩ co (os.take (q + 1)) (by rw [HTL.out]; rfl) (HSRC.out _ BC.out) (by rw [HTL.out]; simp; omega) (by rw [HTL.out]; simp; omega) BC.out.size BC.out (Nat.le_refl _) ?_; intro v1 w1 ho1 hb1 hg1; have hk1 : ∀ o, w1.cell? ⟨g9, o, none⟩ = W5.cell? ⟨g9, o, none⟩ := (fun o => hb1.cell (p := ⟨g9, o, none⟩) (by show g9 < W5.heap.size; omega)); have HO1 := hide ho1; have HN := hide (HNC.out w1 hg1); clear ho1 hg1)
                      | (refine step_pushN (k := 4) (enc := SFlat.enc) _ (by rfl) _ _ 57 (by rfl) 68 (.agg #[.int .i64 0, .int .i64 0, .int .i64 0, .int .i64 0]) 32 Try.underlying57 SFlat.info rfl (by omega) SFlat.one W5.heap.size _ ([] ++ os.take (q + 1)) (by rfl) (HO1.out.alloc (.cells #[.int .i64 y0, .int .i64 y1, .int .i64 y2, .int .i64 y3] 68)) ⟨w1.heap.size, 0, none⟩ 1 [⟨y0, y1, y2, y3⟩] (by rfl) (src_new w1 rfl) (by simp [HTL.out]; omega) (by simp [HTL.out]; omega) (hb1.alloc hb1.size (.cells #[.int .i64 y0, .int .i64 y1, .int .i64 y2, .int .i64 y3] 68)).size (hb1.alloc hb1.size (.cells #[.int .i64 y0, .int .i64 y1, .int .i64 y2, .int .i64 y3] 68)) (Nat.le_refl _) ?_; intro v2 w2 ho2 hb2 hg2; have hk2 : ∀ o, w2.cell? ⟨g9, o, none⟩ = W5.cell? ⟨g9, o, none⟩ := (fun o => hb2.cell (p := ⟨g9, o, none⟩) (by show g9 < W5.heap.size; omega)); have HO2 := hide ho2; clear ho2 hg2)
                      | (refine step_pushN (k := 4) (enc := SFlat.enc) _ (by rfl) _ _ 57 (by rfl) 68 (.agg #[.int .i64 0, .int .i64 0, .int .i64 0, .int .i64 0]) 32 Try.underlying57 SFlat.info rfl (by omega) SFlat.one W5.heap.size _ ([] ++ os.take (q + 1)) (by rfl) HO1.out ⟨W5.heap.size + 1, 0, none⟩ 1 [⟨y0, y1, y2, y3⟩] (by rfl) HN.out (by simp [HTL.out]; omega) (by simp [HTL.out]; omega) hb1.size hb1 (Nat.le_refl _) ?_; intro v2 w2 ho2 hb2 hg2; have hk2 : ∀ o, w2.cell? ⟨g9, o, none⟩ = W5.cell? ⟨g9, o, none⟩ := (fun o => hb2.cell (p := ⟨g9, o, none⟩) (by show g9 < W5.heap.size; omega)); have HO2 := hide ho2; clear ho2 hg2)
                      | (refine step_pushN (k := 4) (enc := SFlat.enc) _ (by rfl) _ _ 57 (by rfl) 68 (.agg #[.int .i64 0, .int .i64 0, .int .i64 0, .int .i64 0]) 32 Try.underlying57 SFlat.info rfl (by omega) SFlat.one W5.heap.size _ ([] ++ os.take (q + 1)) (by rfl) HO1.out ⟨W5.heap.size, 0, none⟩ 1 [⟨y0, y1, y2, y3⟩] (by rfl) HN.out (by simp [HTL.out]; omega) (by simp [HTL.out]; omega) hb1.size hb1 (Nat.le_refl _) ?_; intro v2 w2 ho2 hb2 hg2; have hk2 : ∀ o, w2.cell? ⟨g9, o, none⟩ = W5.cell? ⟨g9, o, none⟩ := (fun o => hb2.cell (p := ⟨g9, o, none⟩) (by show g9 < W5.heap.size; omega)); have HO2 := hide ho2; clear ho2 hg2)
                      | (refine step_pushN (k := 4) (enc := SFlat.enc) _ (by rfl) _ _ 57 (by rfl) 68 (.agg #[.int .i64 0, .int .i64 0, .int .i64 0, .int .i64 0]) 32 Try.underlying57 SFlat.info rfl (by omega) SFlat.one W5.heap.size _ ([] ++ os.take (q + 1) ++ [⟨y0, y1, y2, y3⟩]) (by rfl) HO2.out ⟨go, (q + 1) * 4, none⟩ (co - (q + 1)) (os.drop (q + 1)) (by rw [HDL.out]; rfl) (HSRC2.out _ hb2) (by simp [HTL.out, HDL.out]; omega) (by simp [HTL.out, HDL.out]; omega) hb2.size hb2 (Nat.le_refl _) ?_; intro v3 w3 ho3 hb3 hg3; have hk3 : ∀ o, w3.cell? ⟨g9, o, none⟩ = W5.cell? ⟨g9, o, none⟩ := (fun o => hb3.cell (p := ⟨g9, o, none⟩) (by show g9 < W5.heap.size; omega)); have HO3 := hide ho3; clear ho3 hg3))
                  all_goals
                    have hnew : insD (ltOf Go.Proofs.Ytdbcilinoieabaa.cfF) os ⟨y0, y1, y2, y3⟩ = [] ++ os.take (q + 1) ++ [⟨y0, y1, y2, y3⟩] ++ os.drop (q + 1) := by rw [HINS.out]; simp
                    have ho3 := HO3.out
                    rw [← hnew, ← HSTS.out] at ho3
                    have HO4 := hide (ho3.mono hBW)
                    have HB4 := hide (HB2.out.trans (hb3.mono hs5))
                    clear ho3 hnew
                    obtain ⟨g4, c4, cs4, rfl, _⟩ := own_blk5 HO4.out (by have := HNS.out; omega)
                    go_wp2_with fail
                    go_round
                    case measure => (simp [intOf] <;> omega)
                    case rel => exact ⟨i + 1, g4, c4, by omega, by go_num, by rw [HNSE.out], by rw [HNSE.out]; exact HO4.out, HB4.out⟩
      · have hnn : i = fs.length := by omega
        subst hnn
        have hoe : ordV fs ds fs.length = orderV fs ds := by unfold ordV orderV; rw [List.take_length]
        rw [hoe] at hown ⊢
        have hql : (orderV fs ds).length ≤ 20 := by have := ordV_le fs ds fs.length; rw [hoe] at this; omega
        have hap := order_apart (goodDs_F HG.out) ds
        have hlo := order_loose HG.out
        have hB3 := B2.out.trans (hbel.mono hB2)
        have hs3 := hB3.size
        have hdo : ∀ d ∈ ds, d.fl.length ≤ 1000 := fun d hd => by have := (goodDs_fl HG.out d hd).1; omega
        have HWI := hide (fun W r (hW : Below B w W) (hz : Is 1 encI W r []) => l5WithD u ds (-1) r [] W (HU.out.below hW (by rw [HB.out]; exact Nat.le_refl _)) hz (by simp) (by omega) hdo)
        have hBw := HB.out
        generalize hos : orderV fs ds = os at *
        have HOS := hide hos
        have HO := hide hown; have HAP := hide hap; have HLO := hide hlo; have HB3 := hide hB3
        clear hown hap hlo hB3 hbel hos hoe hlt HN1 hdo hi
        have hs9 : B ≤ wr.heap.size := by omega
        have hbn := HB3.out.alloc hs9 (.cells #[] 3)
        have hin := own_emptyI5 wr (Nat.le_refl _)
        have hon := HO.out.alloc (.cells #[] 3)
        have hsn : wr.heap.size < (wr.alloc (.cells #[] 3)).heap.size := by simp
        have HBN := hide hbn; have HIN := hide hin; have HON := hide hon; clear hbn hin hon
        go_wp2_with fail
        refine (HWI.out _ _ HBN.out HIN.out.is).mono ?_; rintro e w5 ⟨r5, rfl, hb, rs, hmap, hd5⟩
        have hd5 := hd5.isD
        rw [hmap, setFl_none (by decide)] at hd5
        have hb5 := bstep HBN.out hb (by omega)
        have hor := (HON.out.below hb).is
        obtain ⟨A5, c5, he5, hr5, _, _⟩ := hor
        injection he5 with q1 _ q3; subst q1 q3
        generalize hB5 : w5.heap.size = B5 at hr5
        have HR5 := hide hr5; have HD5 := hide hd5; have HB5 := hide hb5
        have hs5 : B ≤ B5 := by have := hb5.size; omega
        clear hr5 hd5 hb5 hb hmap HWI HIN HON HO
        go_wp2_with fail
        go_loopw [11, 12] (fun s i wr => ∃ (k : Nat) (d : List DrV), k ≤ os.length ∧ i = .int .i64 (k : Int) ∧ IsD wr s d ∧ d = (os.take k).foldl (stepV fs) ds ∧ goodDs fs d = true ∧ (∀ z ∈ os.drop k, looseB fs d z.ident = true) ∧ Below B5 w5 wr) (fun _ i _ => os.length - (intOf i).toNat)
        case atStart => exact ⟨0, ds, Nat.zero_le _, rfl, HD5.out, rfl, HG.out, fun z hz => HLO.out z hz, by rw [← hB5]; exact Below.refl _ _⟩
        case round =>
          obtain ⟨k, d, hk, rfl, hd, hdv, hgd, hlos, hbel⟩ := hrel
          have hsz : B5 ≤ wr.heap.size := by have := hbel.size; omega
          have hvw : Is 4 SFlat.enc wr (.slice A fs.length cap) fs := HV.out.below (HB5.out.trans (hbel.mono hs5)) (by omega)
          by_cases hlt : k < os.length
          · have hlt' : (k : Int) < os.length := by omega
            obtain ⟨b, off, hAA, _, c0, _, _, _⟩ := SFlat.cells HR5.out hlt hbel
            injection hAA with hAA; injection hAA with hA1 hA2; subst hA1 hA2
            simp only [Nat.zero_add] at c0
            have hst : (os.take (k + 1)).foldl (stepV fs) ds = stepV fs d os[k] := by rw [hdv]; exact foldl_take _ _ hlt
            have hdr := List.drop_eq_getElem_cons hlt
            have hlk : looseB fs d os[k].ident = true := hlos _ (by rw [hdr]; exact List.mem_cons_self ..)
            have hnx : ∀ z ∈ os.drop (k + 1), looseB fs (stepV fs d os[k]) z.ident = true := fun z hz => by
              refine loose_step (hlos z (by rw [hdr]; exact List.mem_cons_of_mem _ hz)) ?_
              have hp := HAP.out.sublist (List.drop_sublist k os)
              rw [hdr, List.pairwise_cons] at hp
              exact (hp.1 z hz).symm
            have hsv := stepV_cases fs d os[k]
            have hsg := stepV_good hgd os[k]
            generalize os[k] = zz at *
            have HST := hide hst; have HNX := hide hnx; have HSG := hide hsg
            have HTF := hide (TightestForS_is _ _ fs d zz.ident wr hvw hd HF.out)
            have HD := hide hd; have HVW := hide hvw
            have HPT := hide (fun q hq hc => @put_tight fs d zz.ident q hlk hq hc)
            have hBB := hbel
            clear hst hnx hsg hdv hd hvw hlos hdr hbel
            rcases hsv with ⟨f1, f2, _⟩ | ⟨q, hq, hcan, f2, f1⟩
            · have htf : tiForV fs d zz.ident = (0, false) := if_neg (by rintro ⟨_, h⟩; rw [f2] at h; exact absurd h (by decide))
              rw [htf] at HTF
              rw [f1] at HNX HST
              generalize zz.ident = y0 at *
              have HBB := hide hBB
              clear htf f1 f2 hlk hBB
              go_wp2_with fail
              refine HTF.out.mono ?_; rintro e w6 ⟨rfl, hb⟩
              replace HD := hide (HD.out.below hb (Nat.le_refl _))
              replace HBB := hide (bstep HBB.out hb hsz); clear hb
              go_wp2_with fail
              go_round
              case measure => (simp [intOf] <;> omega)
              case rel => exact ⟨k + 1, d, by omega, by go_num, HD.out, by rw [HST.out], hgd, HNX.out, HBB.out⟩
            · have htf : tiForV fs d zz.ident = ((DrV.at d q).ident, true) := by unfold tiForV; rw [f2, if_pos ⟨hlk, by omega⟩, Int.toNat_natCast]
              rw [htf] at HTF
              rw [f1] at HNX HST
              have hpv := HPT.out q hq hcan
              have HCAN := hide (show goodDs fs (putK d zz.ident q) = true from hcan)
              generalize zz.ident = y0 at *
              have HBB := hide hBB
              clear htf f1 f2 hlk hBB hcan HPT
              generalize (DrV.at d q).ident = iq at *
              have HPV := hide hpv; clear hpv
              go_wp2_with fail
              refine HTF.out.mono ?_; rintro e w6 ⟨rfl, hb⟩
              have hPP := PutFlatS_is _ _ fs d y0 iq w6 (HVW.out.below hb (Nat.le_refl _)) (HD.out.below hb (Nat.le_refl _)) HF.out
              rw [HPV.out] at hPP
              have HPP := hide hPP
              have c00 := (hb.cell (p := ⟨go, k * 4, none⟩) (World.block_lt_of_cell? _ _ c0)).trans c0
              replace HBB := hide (bstep HBB.out hb hsz)
              have hs6 : B5 ≤ w6.heap.size := by have := hb.size; omega
              clear hb c0 hPP
              go_wp2_with fail
              refine HPP.out.mono ?_; rintro e w7 ⟨r7, rfl, hd7, hb⟩
              have HD7 := hide hd7
              replace HBB := hide (bstep HBB.out hb hs6); clear hb hd7
              go_wp2_with fail
              go_round
              case measure => (simp [intOf] <;> omega)
              case rel => exact ⟨k + 1, putK d y0 q, by omega, by go_num, HD7.out, by rw [HST.out], HCAN.out, HNX.out, HBB.out⟩
          · have hkk : k = os.length := by omega
            subst hkk
            rw [List.take_length] at hdv
            have hsv : stV fs ds = d := by rw [hdv]; unfold stV; rw [HOS.out]
            have HB9 := hide (HB5.out.trans (hbel.mono hs5))
            have HL := hide (l5Loose_any _ _ fs d wr hvw hd (by omega))
            have HD := hide hd; have HSV := hide hsv; clear hd hdv hvw hbel hsv hlos
            go_wp2_with fail
            refine HL.out.mono ?_; rintro e w8 ⟨r8, rfl, ho, hb⟩
            replace HD := hide (HD.out.below hb (Nat.le_refl _))
            replace HB9 := hide (bstep HB9.out hb (by omega))
            have HO9 := hide ho.is; clear ho hb HL
            go_wp2_with fail
            (try simp only [Exit.inBlock, Exit.then]); refine bodyPost_ret (results_tmp3_t rfl _ _ _) rfl ?_
            rw [HSV.out]
            exact ⟨_, _, rfl, HD.out, HO9.out, HB9.out⟩
end Go.Proofs.Ytdbcilinoieabaa
