/- Contracts of idsOf (over a predicate) and of NeighborsOf, in impl and spec: the Lean function nbV. Condition: small numbers. -/
import Derived.Test.YtdbcilinoieabaaL2B
import Derived.Test.YtdbcilinoieabaaStPush
namespace Go.Proofs.Ytdbcilinoieabaa
open Go.RowKit
set_option linter.unusedVariables false
/-- the predicate g with the captured values cp answers p at each of xs, in whatever world in which what lay below B stays -/
def PredIn (g : FuncId) (cp : Array Value) (p : SSheet → Bool) (xs : List SSheet) (B : Nat) (w : World) : Prop :=
  ∀ (W : World) (c : SSheet), c ∈ xs → Below B w W → Calls Try.prog g (#[.agg #[.int .i64 c.id, .int .i64 c.row, .int .i64 c.col, .int .i64 c.scale, .int .i64 c.year]] ++ cp) W fun e w' => e = .returned (.bool (p c)) ∧ Below W.heap.size W w'
theorem mk5S {w : World} {g : Nat} {t : TypeId} {a b c d e : Value} (h : Blk w g t #[a, b, c, d, e]) : w.cell? ⟨g, 0, none⟩ = some a ∧ w.cell? ⟨g, 1, none⟩ = some b ∧ w.cell? ⟨g, 2, none⟩ = some c ∧ w.cell? ⟨g, 3, none⟩ = some d ∧ w.cell? ⟨g, 4, none⟩ = some e :=
  ⟨by rw [h.cell]; rfl, by rw [h.cell]; rfl, by rw [h.cell]; rfl, by rw [h.cell]; rfl, by rw [h.cell]; rfl⟩
set_option maxHeartbeats 2000000 in
theorem idsOf_is (g : FuncId) (cp : Array Value) (p : SSheet → Bool) (v : Value) (xs : List SSheet) (w : World) (h : Is 5 SSheet.enc w v xs) (hl : xs.length ≤ 1000)
    (eg : ∀ args w, (callFunc g args).run Try.prog w = .ok (.enter g args) w) (hp : PredIn g cp p xs w.heap.size w) :
    Calls Try.prog 140 #[v, .func (.func g) #[] cp] w fun e w' => ∃ r, e = .returned r ∧ Own 1 encI 3 w' w.heap.size r (filtTo p xs xs.length) ∧ Below w.heap.size w w' := by
  obtain ⟨A, cap, rfl, hr, _, _⟩ := h
  generalize hB : w.heap.size = B at hr hp ⊢
  have HB := hide hB; have HR := hide hr; have HP := hide hp; clear hr hp
  go_enter Try.func140, Try.ntmps140
  go_wp2_with fail
  go_loopw [5, 10] (fun s i wr => ∃ n : Nat, n ≤ xs.length ∧ i = .int .i64 (n : Int) ∧ Own 1 encI 3 wr B s (filtTo p xs n) ∧ Below B w wr) (fun _ i _ => xs.length - (intOf i).toNat)
  case atStart => exact ⟨0, Nat.zero_le _, rfl, Own.nil, Below.refl _ _⟩
  case round =>
    obtain ⟨n, hn, rfl, hown, hbel⟩ := hrel
    have HOW := hide hown; clear hown
    have hsz : B ≤ wr.heap.size := by have := hbel.size; rw [HB.out] at this; exact this
    by_cases hlt : n < xs.length
    · have hlt' : (n : Int) < xs.length := by omega
      obtain ⟨b, off, rfl, hb, c0, c1, c2, c3, c4⟩ := SSheet.cells HR.out hlt hbel
      have hst := filtTo_succ (p := p) hlt
      have hdl : (filtTo p xs n).length ≤ 16777216 := by have := filtTo_le p xs n; omega
      have hmem := List.getElem_mem hlt
      generalize xs[n] = yy at *
      have HBK := hide (Blk.new wr 142 #[.int .i64 yy.id, .int .i64 yy.row, .int .i64 yy.col, .int .i64 yy.scale, .int .i64 yy.year])
      have HO1 := hide (HOW.out.below (below_alloc wr (.cells #[.int .i64 yy.id, .int .i64 yy.row, .int .i64 yy.col, .int .i64 yy.scale, .int .i64 yy.year] 142)))
      have BB := hide (hbel.alloc hsz (.cells #[.int .i64 yy.id, .int .i64 yy.row, .int .i64 yy.col, .int .i64 yy.scale, .int .i64 yy.year] 142))
      have hsa : wr.heap.size < (wr.alloc (.cells #[.int .i64 yy.id, .int .i64 yy.row, .int .i64 yy.col, .int .i64 yy.scale, .int .i64 yy.year] 142)).heap.size := by simp
      have HCALL := hide (HP.out (wr.alloc (.cells #[.int .i64 yy.id, .int .i64 yy.row, .int .i64 yy.col, .int .i64 yy.scale, .int .i64 yy.year] 142)) yy hmem BB.out)
      generalize p yy = rb at *
      have HST := hide hst
      clear hst HOW hbel hmem
      go_upto_region 5 with fail
      clear c0 c1 c2 c3 c4
      generalize wr.alloc (.cells #[.int .i64 yy.id, .int .i64 yy.row, .int .i64 yy.col, .int .i64 yy.scale, .int .i64 yy.year] 142) = w3 at *
      generalize wr.heap.size = gm at *
      obtain ⟨t0, t1, t2, t3, t4⟩ := mk5S HBK.out
      go_upto_if 16 with (go_at_fn g; refine HCALL.out.mono ?_; rintro e w4 ⟨rfl, hb4⟩)
      have hs3 : B ≤ w3.heap.size := by omega
      have HBK4 := hide (HBK.out.below hb4 hsa)
      have HO4 := hide (HO1.out.below hb4)
      have B4 := bstep BB.out hb4 hs3
      have hs4 : B ≤ w4.heap.size := Nat.le_trans hs3 hb4.size
      clear t0 t1 t2 t3 t4 hb4
      obtain ⟨t0, _, _, _, _⟩ := mk5S HBK4.out
      cases rb with
      | false =>
        go_wp2_with fail
        go_round
        case measure => (simp [intOf] <;> omega)
        case rel => exact ⟨n + 1, by omega, by go_num, by rw [HST.out]; simpa using HO4.out, B4⟩
      | true =>
        go_wp2_with ((at_builtin; refine wpList_push1 (k := 1) (enc := encI) _ rfl _ _ 52 rfl 3 (.int .i64 0) 8 Try.underlying52 infoI rfl (by omega) (by omega) encI_one (B) _ (filtTo p xs n) rfl (HO4.out) (yy.id) _ rfl rfl (hdl) (hs4) (B4) (Nat.le_refl _) rfl ?_; intro v1 w1 ho1 hb1 hg1))
        go_round
        case measure => (simp [intOf] <;> omega)
        case rel => exact ⟨n + 1, by omega, by go_num, by rw [HST.out]; exact ho1, hb1⟩
    · have hnn : n = xs.length := by omega
      have HNN := hide hnn; clear hnn
      go_wp2_with fail
      go_ret
      exact ⟨_, rfl, by rw [← HNN.out]; exact HOW.out, hbel⟩
set_option maxHeartbeats 1000000 in
theorem nb1_any (c : SSheet) (A : Option Addr) (cap : Nat) (xs : List SSheet) (k b1 b2 B : Nat) (w : World) (hr : Row 5 SSheet.enc w B A xs) (hB : B ≤ w.heap.size) (hk : k < xs.length)
    (h1 : w.cell? ⟨b1, 0, none⟩ = some (.slice A xs.length cap)) (h2 : w.cell? ⟨b2, 0, none⟩ = some (.int .i64 (k : Int))) (hc : c.Fit) (hx : (SSheet.at xs k).Fit) :
    Calls Try.prog 141 #[.agg #[.int .i64 c.id, .int .i64 c.row, .int .i64 c.col, .int .i64 c.scale, .int .i64 c.year], .pointer (some ⟨b1, 0, none⟩), .pointer (some ⟨b2, 0, none⟩)] w fun e w' => e = .returned (.bool (nbB c (SSheet.at xs k))) ∧ Below w.heap.size w w' := by
  have hk' : (k : Int) < xs.length := by omega
  obtain ⟨b, off, rfl, hb, c0, c1, c2, c3, c4⟩ := SSheet.cells hr hk (Below.refl _ _)
  rw [SSheet.at_lt hk] at hx ⊢
  obtain ⟨y0, y1, y2, y3, y4⟩ := c
  generalize xs[k] = yy at *
  obtain ⟨z0, z1, z2, z3, z4⟩ := yy
  simp only at c0 c1 c2 c3 c4 ⊢
  have HCALL := hide (fun W => areNeighbors_any y0 y1 y2 y3 y4 z0 z1 z2 z3 z4 W hc hx)
  have B1 := below_alloc w (.cells #[.int .i64 y0, .int .i64 y1, .int .i64 y2, .int .i64 y3, .int .i64 y4] 142)
  have up : ∀ (bb o : Nat) (u : Value), w.cell? ⟨bb, o, none⟩ = some u → (w.alloc (.cells #[.int .i64 y0, .int .i64 y1, .int .i64 y2, .int .i64 y3, .int .i64 y4] 142)).cell? ⟨bb, o, none⟩ = some u := fun bb o u hu => ((bcell B1).1 bb o (World.block_lt_of_cell? w _ hu)).trans hu
  have k1 := up _ _ _ h1; have k2 := up _ _ _ h2; have d0 := up _ _ _ c0; have d1 := up _ _ _ c1; have d2 := up _ _ _ c2; have d3 := up _ _ _ c3; have d4 := up _ _ _ c4
  obtain ⟨t0, t1, t2, t3, t4⟩ := mk5S (Blk.new w 142 #[.int .i64 y0, .int .i64 y1, .int .i64 y2, .int .i64 y3, .int .i64 y4])
  have HB1 := hide B1
  clear B1 up hr h1 h2 c0 c1 c2 c3 c4
  go_enter Try.func141, Try.ntmps141
  go_upto_region 1 with fail
  generalize hgm : w.heap.size = gm at *
  generalize w.alloc (.cells #[.int .i64 y0, .int .i64 y1, .int .i64 y2, .int .i64 y3, .int .i64 y4] 142) = w1 at *
  have n1 := fun n => later_cell k1 n; have n2 := fun n => later_cell k2 n
  have e0 := fun n => later_cell d0 n; have e1 := fun n => later_cell d1 n; have e2 := fun n => later_cell d2 n; have e3 := fun n => later_cell d3 n; have e4 := fun n => later_cell d4 n
  have f0 := fun n => later_cell t0 n; have f1 := fun n => later_cell t1 n; have f2 := fun n => later_cell t2 n; have f3 := fun n => later_cell t3 n; have f4 := fun n => later_cell t4 n
  (refine wp_region_later (by kernel_rfl) (by kernel_rfl) ?_; (repeat (go_big_quiet_step ((go_at_call 142; exact later_call (HCALL.out _))))); refine wpQuiet_nil ?_; intro _ hw'; obtain ⟨nq, hw''⟩ := hw'; subst hw'')
  have B3 := HB1.out.trans (nq.h.mono (by have := HB1.out.size; omega))
  generalize nq.W = W5 at B3
  go_wp2_with fail
  go_ret
  exact ⟨rfl, by rw [hgm]; exact B3⟩
theorem nbV_no {xs : List SSheet} {id : Int} (h : ¬ (goodS xs = true ∧ 0 ≤ findS xs id)) : nbV xs id = ([], false) := if_neg h
theorem nbV_yes {xs : List SSheet} {id : Int} (h1 : goodS xs = true) {k : Nat} (hk : findS xs id = (k : Int)) : nbV xs id = (filtTo (fun c => nbB c (SSheet.at xs k)) xs xs.length, true) := by
  unfold nbV; rw [if_pos ⟨h1, by omega⟩, hk, Int.toNat_natCast]
set_option maxHeartbeats 2000000 in
theorem NeighborsOf_is (v : Value) (xs : List SSheet) (id : Int) (w : World) (h : Is 5 SSheet.enc w v xs) (hf : ∀ z ∈ xs, z.Fit) :
    Calls Try.prog 51 #[v, .int .i64 id] w fun e w' => ∃ r, e = .returned (.tuple #[r, .bool (nbV xs id).2]) ∧ Own 1 encI 3 w' w.heap.size r (nbV xs id).1 ∧ Below w.heap.size w w' := by
  obtain ⟨nv, hnv⟩ : ∃ nv, nv = nbV xs id := ⟨_, rfl⟩
  rw [← hnv]
  have HNV := hide hnv; clear hnv
  have B1 := below_alloc w (.cells #[v] 76)
  have HI := hide (h.below B1 (Nat.le_refl _))
  have HV := hide (Blk.new w 76 #[v])
  have HB1 := hide B1
  have hlt1 : w.heap.size < (w.alloc (.cells #[v] 76)).heap.size := by simp
  have hgc := fun W hi => AreSheets_is v xs W hi
  have hat := fun W hi => sheetAt_any v xs id W hi
  have HSP := hide (findS_cases xs id)
  have HFI := hide hf
  obtain ⟨A, cap, rfl, hr, _, _⟩ := h
  clear B1 hf hr
  go_enter Try.func51, Try.ntmps51
  go_upto_region 1 with fail
  generalize hgm : w.heap.size = gm at *
  generalize w.alloc (.cells #[.slice A xs.length cap] 76) = w1 at *
  have c1 : w1.cell? ⟨gm, 0, none⟩ = some (.slice A xs.length cap) := HV.out.cell 0
  generalize hkk : findS xs id = kk at *
  have HAT := hide hat; clear hat
  have HKK := hide hkk; clear hkk
  go_wp2_with fail
  refine (HAT.out _ HI.out).mono ?_; rintro e w2 ⟨rfl, hb2⟩
  have HV2 := hide (HV.out.below hb2 hlt1)
  have HI2 := hide (HI.out.below hb2 (Nat.le_refl _))
  have hsz2 : gm ≤ w2.heap.size := by have := hb2.size; omega
  have B2 := hide (HB1.out.trans (hb2.mono (by omega)))
  clear hb2 c1
  have HV3 := hide (HV2.out.alloc (.cells #[.int .i64 kk] 3))
  have HK3 := hide (Blk.new w2 3 #[.int .i64 kk])
  have HI3 := hide (HI2.out.below (below_alloc w2 (.cells #[.int .i64 kk] 3)) (Nat.le_refl _))
  have B3 := hide (B2.out.alloc hsz2 (.cells #[.int .i64 kk] 3))
  have hsz3 : gm ≤ (w2.alloc (.cells #[.int .i64 kk] 3)).heap.size := by simp; omega
  go_upto_region 2 with fail
  generalize hgk : w2.heap.size = gk at *
  generalize w2.alloc (.cells #[.int .i64 kk] 3) = w3 at *
  have hlt3 : gk < w3.heap.size := HK3.out.lt
  have c1 : w3.cell? ⟨gm, 0, none⟩ = some (.slice A xs.length cap) := HV3.out.cell 0
  have c2 : w3.cell? ⟨gk, 0, none⟩ = some (.int .i64 kk) := HK3.out.cell 0
  have HG := hide (hgc w3 HI3.out)
  clear hgc
  cases hg : goodS xs with
  | false =>
    have hnv := HNV.out
    rw [nbV_no (by rw [hg]; simp)] at hnv
    subst hnv
    rw [hg] at HG
    clear hg
    go_wp2_with fail
    refine HG.out.mono ?_; rintro e w4 ⟨rfl, hb4⟩
    have B4 := hide (B3.out.trans (hb4.mono hsz3)); clear hb4
    go_wp2_with fail
    go_ret2
    exact ⟨_, rfl, Own.nil, by first | exact B4.out | (rw [hgm]; exact B4.out)⟩
  | true =>
    by_cases hk0 : kk < 0
    · have hnv := HNV.out
      rw [nbV_no (by rw [HKK.out]; omega)] at hnv
      subst hnv
      rw [hg] at HG
      clear hg
      go_wp2_with fail
      refine HG.out.mono ?_; rintro e w4 ⟨rfl, hb4⟩
      have B4 := hide (B3.out.trans (hb4.mono hsz3))
      have c2' := ((bcell hb4).1 gk 0 hlt3).trans c2
      clear hb4 c2 c1
      go_wp2_with fail
      go_ret2
      exact ⟨_, rfl, Own.nil, by first | exact B4.out | (rw [hgm]; exact B4.out)⟩
    · obtain ⟨k, hk, hke, hkid⟩ : ∃ k, k < xs.length ∧ kk = (k : Int) ∧ (SSheet.at xs k).id = id := by
        rcases HSP.out with ⟨h1, _⟩ | h1
        · omega
        · exact h1
      have hlen := goodS_len hg
      have hnv := HNV.out
      subst hke
      rw [nbV_yes hg HKK.out] at hnv
      subst hnv
      rw [hg] at HG
      clear hg hkid HKK HSP
      go_wp2_with fail
      refine HG.out.mono ?_; rintro e w4 ⟨rfl, hb4⟩
      have B4 := hide (B3.out.trans (hb4.mono hsz3))
      have d2 := ((bcell hb4).1 gk 0 hlt3).trans c2
      have d1 := ((bcell hb4).1 gm 0 (by omega)).trans c1
      have HI4 := hide (HI3.out.below hb4 (Nat.le_refl _))
      have hsz4 : gm ≤ w4.heap.size := by have := hb4.size; omega
      clear hb4 c2 c1
      have hp : PredIn 141 #[.pointer (some ⟨gm, 0, none⟩), .pointer (some ⟨gk, 0, none⟩)] (fun c => nbB c (SSheet.at xs k)) xs w4.heap.size w4 := fun W c hm hb => by
        obtain ⟨A', cap', he, hr, _, _⟩ := HI4.out
        injection he with e1 e2 e3; subst e1 e3; clear e2
        exact nb1_any c A cap xs k gm gk w4.heap.size W (hr.below hb (Nat.le_refl _) (Nat.le_refl _)) hb.size hk (((bcell hb).1 _ _ (World.block_lt_of_cell? w4 _ d1)).trans d1) (((bcell hb).1 _ _ (World.block_lt_of_cell? w4 _ d2)).trans d2) (HFI.out c hm) (HFI.out _ (by rw [SSheet.at_lt hk]; exact List.getElem_mem hk))
      have HC := hide (idsOf_is _ _ _ _ xs w4 HI4.out (by omega) (fun _ _ => by kernel_rfl) hp)
      clear hp
      go_wp2_with fail
      refine HC.out.mono ?_; rintro e w5 ⟨r, rfl, ho, hb5⟩
      have HO := hide (ho.mono hsz4); have B5 := hide (B4.out.trans (hb5.mono hsz4)); clear ho hb5
      go_wp2_with fail
      go_ret2
      exact ⟨_, rfl, by first | exact HO.out | (rw [hgm]; exact HO.out), by first | exact B5.out | (rw [hgm]; exact B5.out)⟩
end Go.Proofs.Ytdbcilinoieabaa
