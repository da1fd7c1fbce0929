/- Contract of LongestStrip in impl: the Lean function stripV. No condition. -/
import Derived.Test.YtdbcilinoieabaaL2K
import Derived.Lib.SliceRun
namespace Go.Proofs.Ytdbcilinoieabaa
open Go.RowKit
set_option linter.unusedVariables false
theorem wpList_pushO {P : Program} {α : Type} {k : Nat} {enc : α → Nat → Value} (w : World) {w0 : World} {cs : Array Value} {ops : Array Oper} {rest : List Oper} {o : Oper} {a : Act} {Q : Exit → Act → World → Prop} (hgd : o.guard = none) (s x : Operand) (t : TypeId)
    (ho : o.op = .call { callee := .builtin .append, args := #[s, x], argTypes := #[t, t] })
    (e : TypeId) (z : Value) (bytes : Nat) (ht : P.underlying t = some (.slice e)) (hi : (P.info? e).map (fun i => (i.zero, i.size, i.bytes)) = some (some z, k, bytes))
    (hzs : z.cells.size = k) (hk : 0 < k) (hby : bytes ≤ 4096) (hone : ∀ x j, (enc x j).oneCell' = true)
    (base : Nat) (v : Value) (xs : List α) (hs : a.eval s = v) (hown : Own k enc e w0 base v xs) (y : α) (c : Nat) (hx : a.eval x = .slice (some ⟨w0.heap.size, 0, none⟩) 1 c) (hcs : cs.toList = flat k enc [y])
    (hlen : xs.length ≤ 16777216) (hbase : base ≤ w0.heap.size) (hw : w = w0.alloc (.cells cs e))
    (h : ∀ v' w', Own k enc e w' base v' (xs ++ [y]) → (w0.alloc (.cells cs e)).grownBy w' v.ownBlock → (∀ g, v'.ownBlock = some g → v.ownBlock = some g ∨ w0.heap.size ≤ g) → wpList P ops Q rest (a.put o.dst v') w') : wpList P ops Q (o :: rest) a w := by
  subst hw
  obtain ⟨i, h1, h2, h3, h4⟩ := info_parts' hi
  have hb : (xs.length + 1) * bytes ≤ 16777217 * 4096 := Nat.mul_le_mul (by omega) hby
  obtain ⟨v', w', hr, g2, g3, g4⟩ := push_run (P := P) (w := w0.alloc (.cells cs e)) t o.type e i z bytes ht h1 h2 h3 h4 hzs hk hone base v xs (hown.alloc _) ⟨w0.heap.size, 0, none⟩ c [y] (src_new w0 hcs) (by simp only [List.length_singleton]; omega) (by simp only [maxLen, List.length_singleton]; omega) (by simp; omega)
  refine wpList_plain hgd fun _ hK => ?_
  unfold Oper.wp execOp
  rw [List.length_singleton] at hr
  simp only [ho, resolve, invoke, builtin, Sem.run_bind, Sem.run_pure, Result.andThen_ok, List.map_toArray, List.map_cons, List.map_nil, hs, hx, hr]
  exact hK _ _ (h v' w' g2 g3 fun g hg => (g4 g hg).imp id fun h => by simp at h; omega)
theorem own_emptyI9 (w : World) {B : Nat} (hB : B ≤ w.heap.size) : Own 1 encI 3 (w.alloc (.cells #[] 3)) B (.slice (some ⟨w.heap.size, 0, none⟩) 0 0) ([] : List Int) :=
  Own.made (cs := #[]) rfl hB (Blk.new _ _ _) rfl (Nat.zero_le _) Filled.zero
theorem src_row9 {α : Type} {k : Nat} {enc : α → Nat → Value} {w : World} {B b off : Nat} {xs : List α} (h : Row k enc w B (some ⟨b, off, none⟩) xs) (hk : 0 < k) : ∀ j u, (flat k enc xs)[j]? = some u → w.cell? ((⟨b, off, none⟩ : Addr).add j) = some u := by
  intro j u hu
  have hj : j < xs.length * k := by
    have := (List.getElem?_eq_some_iff.1 hu).1
    rwa [flat_length] at this
  have hi : j / k < xs.length := Nat.div_lt_of_lt_mul (by rw [Nat.mul_comm]; exact hj)
  have hm : j % k < k := Nat.mod_lt _ hk
  obtain ⟨b', off', hA, _, hc⟩ := h.get hi
  injection hA with hA; injection hA with h1 h2; subst h1 h2
  have h3 := flat_get (enc := enc) (List.getElem?_eq_getElem hi) hm
  rw [Nat.div_add_mod' j k] at h3
  rw [h3] at hu
  injection hu with hu
  subst hu
  have := hc (j % k) hm
  rw [Nat.add_assoc, Nat.div_add_mod' j k] at this
  rw [Addr.add_lit]
  exact this
theorem cloneI_any (A : Option Addr) (cap : Nat) (xs : List Int) (w : World) (hr : Row 1 encI w w.heap.size A xs) (h0 : 1 ≤ xs.length) (h1 : xs.length ≤ 1048576) :
    Calls Try.prog 148 #[.slice A xs.length cap] w fun e w' => ∃ r, e = .returned r ∧ Own 1 encI 3 w' w.heap.size r xs ∧ Below w.heap.size w w' := by
  obtain ⟨b, off, rfl, hb, _⟩ := hr.get (show 0 < xs.length by omega)
  have HR := hide hr; clear hr
  have hnil := fun W => Go.Lib.run_eql_slice_nil (P := Try.prog) W 52 3 (some ⟨b, off, none⟩) xs.length cap 0 0 Try.underlying52
  go_enter Try.func148, Try.ntmps148
  have HO := hide (own_emptyI9 w (Nat.le_refl w.heap.size))
  have B1 := below_alloc w (.cells #[] 3)
  go_wp2_with (at_builtin; refine wpList_push (k := 1) (enc := encI) _ rfl _ _ 52 rfl 3 (.int .i64 0) 8 Try.underlying52 infoI rfl (by omega) encI_one w.heap.size _ [] rfl HO.out ⟨b, off, none⟩ cap xs rfl (src_row9 (HR.out.below B1 (Nat.le_refl _) B1.size) (by omega)) (by simp; omega) (by simp; omega) B1.size ?_; intro v1 w1 ho1 hg1 _; have hb1 := HO.out.belowGrown B1 hg1 (Nat.le_refl _) B1.size; rw [List.nil_append] at ho1; have HO1 := hide ho1; clear ho1 hg1)
  go_ret
  exact ⟨_, rfl, HO1.out, hb1⟩
theorem stripTo_zero (ys : List SSheet) : stripTo ys 0 = ([], []) := rfl
theorem stripTo_len (ys : List SSheet) (n : Nat) : (stripTo ys n).1.length ≤ n ∧ (stripTo ys n).2.length ≤ n := by
  induction n with
  | zero => simp [stripTo_zero]
  | succ n ih =>
    rw [stripTo_succ]
    have h1 : (if flagS ys n = true then (stripTo ys n).1 else []).length ≤ n := by
      split
      · exact ih.1
      · simp
    simp only [stepL]
    generalize (if flagS ys n = true then (stripTo ys n).1 else []) = p at *
    have h2 : (p ++ [(SSheet.at ys n).id]).length ≤ n + 1 := by simp; omega
    refine ⟨h2, ?_⟩
    unfold updL
    split
    · exact h2
    · omega
theorem strip_scale {xs : List SSheet} {scale : Int} (hg : goodS xs = true) {c : SSheet} (hc : c ∈ xs) (hs : c.scale = scale) : inB scale 10 500 = true := by
  obtain ⟨j, hj, rfl⟩ := List.mem_iff_getElem.1 hc
  have hok := (goodS_ok hg hj).1
  rw [SSheet.at_lt hj] at hok
  have := SSheet.okB_iff.1 (show SSheet.okB ⟨xs[j].id, xs[j].row, xs[j].col, xs[j].scale, xs[j].year⟩ = true from hok)
  rw [inB_iff]; omega
/-- what spec finds, out of the sheets of the scale in order -/
theorem stripV_of {xs ys : List SSheet} {scale : Int} (hg : goodS xs = true) (hp : ys.Perm (xs.filter fun c => decide (c.scale = scale))) (hs : SortedS ys) : stripV xs scale = if ys = [] then ([], false) else ((stripTo ys ys.length).2, true) := by
  have h1 := strip_impl hg hp hs
  by_cases hy : ys = []
  · subst hy
    rw [if_pos rfl]
    unfold stripV
    by_cases hsc : goodS xs = true ∧ inB scale 10 500 = true
    · rw [if_pos hsc, ← h1]; rfl
    · rw [if_neg hsc]
  · rw [if_neg hy]
    have hm : ∃ c, c ∈ ys := by cases ys with | nil => exact absurd rfl hy | cons c l => exact ⟨c, by simp⟩
    obtain ⟨c, hc⟩ := hm
    have hc2 := hp.mem_iff.1 hc
    simp only [List.mem_filter, decide_eq_true_eq] at hc2
    rw [stripV_yes hg (strip_scale hg hc2.1 hc2.2), ← h1]
    have hpos : 0 < (stripTo ys ys.length).2.length := by
      obtain ⟨n, hn⟩ : ∃ n, ys.length = n + 1 := ⟨ys.length - 1, by have := List.length_pos_iff.2 hy; omega⟩
      rw [hn, stripTo_succ]
      exact Nat.lt_of_lt_of_le (by simp) (updL_len (stripTo ys n).2 ((if flagS ys n = true then (stripTo ys n).1 else []) ++ [(SSheet.at ys n).id])).2
    rw [decide_eq_true hpos]
set_option maxHeartbeats 4000000 in
theorem LongestStrip_is (v : Value) (xs : List SSheet) (scale : Int) (w : World) (h : Is 5 SSheet.enc w v xs) (hl : xs.length < 1000) :
    Calls Try.prog 56 #[v, .int .i64 scale] w fun e w' => ∃ r, e = .returned (.tuple #[r, .bool (stripV xs scale).2]) ∧ Own 1 encI 3 w' w.heap.size r (stripV xs scale).1 ∧ Below w.heap.size w w' := by
  obtain ⟨nv, hnv⟩ : ∃ nv, nv = stripV xs scale := ⟨_, rfl⟩
  rw [← hnv]
  have HNV := hide hnv; clear hnv
  have HI := hide h
  have HOF := hide (ofScale_is v xs scale w h hl)
  have hgc := fun W hi => AreSheets_is v xs W hi
  have HVO := hide (fun (ys : List SSheet) (hg : goodS xs = true) hp hs => @stripV_of xs ys scale hg hp hs)
  obtain ⟨A, cap, rfl, _, _, _⟩ := h
  generalize hgm : w.heap.size = gm at *
  go_enter Try.func56, Try.ntmps56
  go_wp2_with fail
  refine HOF.out.mono ?_; rintro e w1 ⟨r, ys, rfl, hp, hs, ho, hb1⟩
  have hb1' : Below w.heap.size w w1 := by rw [hgm]; exact hb1
  have HI1 := hide (HI.out.below hb1' (Nat.le_refl _))
  have hs1 : gm ≤ w1.heap.size := by have := hb1'.size; omega
  have HP := hide hp; have HS := hide hs; have HO := hide ho; have B1 := hide hb1
  clear hp hs ho hb1 hb1' HOF HI
  have HG := hide (hgc w1 HI1.out)
  clear hgc
  cases hg : goodS xs with
  | false =>
    have hnv := HNV.out
    rw [stripV_no (by rw [hg]; simp)] at hnv
    subst hnv
    rw [hg] at HG
    clear hg
    go_wp2_with fail
    refine HG.out.mono ?_; rintro e w4 ⟨rfl, hb4⟩
    have B4 := hide (B1.out.trans (hb4.mono hs1)); clear hb4
    go_wp2_with fail
    go_ret2
    exact ⟨_, rfl, Own.nil, B4.out⟩
  | true =>
    have hnv := HNV.out
    rw [HVO.out ys hg HP.out HS.out] at hnv
    rw [hg] at HG
    have hyl : ys.length < 1000 := by
      rw [HP.out.length_eq]; exact Nat.lt_of_le_of_lt (List.length_filter_le _ _) hl
    have HYB := hide (fun c (hc : c ∈ ys) => show 0 ≤ c.row ∧ c.row ≤ 99 ∧ 0 ≤ c.col ∧ c.col ≤ 99 from by
      have hm := HP.out.mem_iff.1 hc
      simp only [List.mem_filter] at hm
      obtain ⟨_, _, _, hb, _⟩ := good_bd hg hm.1
      exact hb)
    clear hg HNV HVO
    obtain ⟨A2, c2, rfl, _, _, _⟩ := HO.out.is
    by_cases hy : ys = []
    · subst hy
      rw [if_pos rfl] at hnv
      subst hnv
      rw [List.length_nil] at *
      go_wp2_with fail
      refine HG.out.mono ?_; rintro e w4 ⟨rfl, hb4⟩
      have B4 := hide (B1.out.trans (hb4.mono hs1)); clear hb4
      go_wp2_with fail
      go_ret2
      exact ⟨_, rfl, Own.nil, B4.out⟩
    · rw [if_neg hy] at hnv
      have hpos : 0 < ys.length := List.length_pos_iff.2 hy
      have hne : ((ys.length : Int) == 0) = false := by simp; omega
      subst hnv
      clear hy HP HS
      go_wp2_with fail
      refine HG.out.mono ?_; rintro e w4 ⟨rfl, hb4⟩
      have B4 := hide (B1.out.trans (hb4.mono hs1)); have HO4 := hide (HO.out.below hb4)
      have hs4 : gm ≤ w4.heap.size := by have := hb4.size; omega
      clear hb4 HO HG HI1 B1
      obtain ⟨A3, c3, he3, hr3, _, _⟩ := HO4.out.is
      injection he3 with e1 e2 e3; subst e1 e3; clear e2
      have HR := hide hr3; clear hr3 HO4
      generalize hB4 : w4.heap.size = B4s at *
      go_wp2_with fail
      go_loopw [7, 8, 24] (fun b s i wr => ∃ n : Nat, n ≤ ys.length ∧ i = .int .i64 (n : Int) ∧ Own 1 encI 3 wr B4s b (stripTo ys n).2 ∧ Own 1 encI 3 wr B4s s (stripTo ys n).1 ∧ (∀ g, s.ownBlock = some g → b.ownBlock ≠ some g) ∧ Below B4s w4 wr) (fun _ _ i _ => ys.length - (intOf i).toNat)
      case atStart => exact ⟨0, Nat.zero_le _, rfl, Own.nil, Own.nil, fun g hg => by simp [Value.ownBlock] at hg, Below.refl _ _⟩
      case round =>
        obtain ⟨n, hn, rfl, hob, hos, hd, hbel⟩ := hrel
        have HOB := hide hob; have HOS := hide hos; have HD := hide hd
        clear hob hos hd
        have hsz : B4s ≤ wr.heap.size := by have := hbel.size; omega
        by_cases hlt : n < ys.length
        · have hlt' : (n : Int) < ys.length := by omega
          obtain ⟨b, off, rfl, hb, c0, c1, c2', c3', c4⟩ := SSheet.cells HR.out hlt hbel
          have hat : SSheet.at ys n = ys[n] := SSheet.at_lt hlt
          have hsl := stripTo_len ys n
          have hst := stripTo_succ ys n
          have hfl : flagS ys n = decide (n ≠ 0 ∧ ys[n].row = (SSheet.at ys (n - 1)).row ∧ ys[n].col = (SSheet.at ys (n - 1)).col + 1) := by unfold flagS; rw [hat]
          rw [hat] at hst
          generalize ys[n].id = y0 at *; generalize ys[n].row = y1 at *; generalize ys[n].col = y2 at *; generalize ys[n].scale = y3 at *; generalize ys[n].year = y4 at *
          have HST := hide hst; have HFL := hide hfl
          clear hst hfl hat
          have HBK := hide (Blk.new wr 142 #[.int .i64 y0, .int .i64 y1, .int .i64 y2, .int .i64 y3, .int .i64 y4])
          have hbx := below_alloc wr (.cells #[.int .i64 y0, .int .i64 y1, .int .i64 y2, .int .i64 y3, .int .i64 y4] 142)
          have HOB1 := hide (HOB.out.below hbx)
          have HOS1 := hide (HOS.out.below hbx)
          have BB := hide (hbel.alloc hsz (.cells #[.int .i64 y0, .int .i64 y1, .int .i64 y2, .int .i64 y3, .int .i64 y4] 142))
          have hsa : B4s ≤ (wr.alloc (.cells #[.int .i64 y0, .int .i64 y1, .int .i64 y2, .int .i64 y3, .int .i64 y4] 142)).heap.size := Nat.le_trans hsz (by simp)
          clear HOB HOS hbx hbel
          go_upto_region 8 with fail
          clear c0 c1 c2' c3' c4
          generalize wr.alloc (.cells #[.int .i64 y0, .int .i64 y1, .int .i64 y2, .int .i64 y3, .int .i64 y4] 142) = w3 at *
          generalize hge : wr.heap.size = ge at *
          have hgs := HBK.out.lt
          generalize hpre : (if flagS ys n = true then (stripTo ys n).1 else []) = pre at *
          have HPRE := hide hpre; clear hpre
          -- ROUND
          obtain ⟨t0, t1, t2, t3, t4⟩ := mk5S HBK.out
          by_cases h0 : n = 0
          · have hz3 : ¬ 0 < n := by omega
            have hz4 : decide (0 < n) = false := decide_eq_false hz3
            clear hz3
            have HF := hide (show flagS ys n = false by rw [HFL.out, decide_eq_false_iff_not]; exact fun h => h.1 h0)
            have f1 := fun n => later_cell t1 n; have f2 := fun n => later_cell t2 n
            have H0 := hide h0; clear h0
            (refine wp_region_later (by kernel_rfl) (by kernel_rfl) ?_; (repeat (go_big_quiet_step (fail))); refine wpQuiet_nil ?_; intro _ hw'; obtain ⟨nq, hw''⟩ := hw'; subst hw'')
            have B5 := hide (BB.out.trans (nq.h.mono hsa)); have HOB5 := hide (HOB1.out.below nq.h); have HOS5 := hide (HOS1.out.below nq.h); have HBK5 := hide (HBK.out.below nq.h hgs)
            have hs5 : B4s ≤ nq.W.heap.size := Nat.le_trans hsa nq.h.size
            generalize nq.W = w5 at *
            go_upto_region 10 with fail
            have HS8 := hide (show Own 1 encI 3 w5 B4s u8 pre by have := HOS5.out; rw [← HPRE.out]; rw [H0.out] at this; rw [H0.out]; simpa [stripTo_zero] using this)
            have HD8 := HD
            have B8 := B5
            clear t0 t1 t2 t3 t4
            obtain ⟨k0, _, _, _, _⟩ := mk5S HBK5.out
            have hpl : pre.length ≤ 1000 := by
              rw [← HPRE.out]
              split
              · omega
              · simp
            clear B5 BB HOS5 HOB1 HOS1
            have hsd : w5.heap.size ≤ (w5.alloc (.cells #[.int .i64 y0] 3)).heap.size := by simp
            go_upto_region 11 with (at_builtin; refine wpList_pushO (k := 1) (enc := encI) _ rfl _ _ 52 rfl 3 (.int .i64 0) 8 Try.underlying52 infoI rfl (by omega) (by omega) encI_one B4s _ pre rfl HS8.out y0 _ rfl rfl (by omega) hs5 rfl ?_; intro v1 w6 ho1 hg1 hq1; have hbx := (HS8.out.alloc (.cells #[.int .i64 y0] 3)).belowGrown (B8.out.alloc hs5 (.cells #[.int .i64 y0] 3)) hg1 (Nat.le_refl _) (Nat.le_trans hs5 hsd); have HB6 := hide ((HOB5.out.alloc (.cells #[.int .i64 y0] 3)).grown hg1 (fun g hg e => HD8.out g e hg)); have HS6 := hide ho1; have B6 := hide hbx; have hd6 := fun g (hg : v1.ownBlock = some g) (hb : Value.ownBlock u7 = some g) => (hq1 g hg).elim (fun e => HD8.out g e hb) (fun e => by have := (HOB5.out.lt g hb).2; omega); have HD6 := hide hd6; clear ho1 hg1 hq1 hbx hd6 HOB5 HS8 HD8; obtain ⟨A8, c8, rfl, _, _, _⟩ := HS6.out.is; obtain ⟨A7, c7, rfl, hr7, _, _⟩ := HB6.out.is; clear hr7)
            simp only [List.length_append, List.length_singleton] at HS6 HD6
            have hst2 : stripTo ys (n + 1) = (pre ++ [y0], updL (stripTo ys n).2 (pre ++ [y0])) := by rw [HST.out]; simp only [stepL, HPRE.out]
            by_cases hll : (stripTo ys n).2.length < pre.length + 1
            · have hup : updL (stripTo ys n).2 (pre ++ [y0]) = pre ++ [y0] := if_pos (by simpa using hll)
              rw [hup] at hst2
              have HST2 := hide hst2
              have hll' : ((stripTo ys n).2.length : Int) < (pre.length : Int) + 1 := by omega
              have hll2 : ((stripTo ys n).2.length : Int) ≤ (pre.length : Int) := by omega
              have hll3 : (stripTo ys n).2.length ≤ pre.length := by omega
              have hcl := cloneI_any A8 c8 (pre ++ [y0]) w6
              have hr8 := HS6.out.is
              obtain ⟨A9, c9, he9, hr9, _, _⟩ := hr8
              injection he9 with e1 e2 e3; subst e1 e3; clear e2
              have hcl2 := hcl hr9 (by simp) (by simp; omega)
              simp only [List.length_append, List.length_singleton] at hcl2
              have HCL := hide hcl2; clear hcl2
              have hs6 : B4s ≤ w6.heap.size := by have := B6.out.size; omega
              clear hcl hr9 hst2 hup
              go_wp2_with fail
              refine HCL.out.mono ?_; rintro e w7 ⟨r, rfl, ho, hb7⟩
              have HB7 := hide (ho.mono hs6); have HS7 := hide (HS6.out.below hb7); have B7 := hide (B6.out.trans (hb7.mono hs6))
              have hd7 : ∀ g, Value.ownBlock (.slice A8 (pre.length + 1) c8) = some g → r.ownBlock ≠ some g := fun g hg hb => by
                have h1 := (HS6.out.lt g hg).2; have h2 := (ho.lt g hb).1; omega
              have HD7 := hide hd7
              clear ho hb7 hd7
              go_wp2_with fail
              go_round
              case measure => (simp [intOf] <;> omega)
              case rel => exact ⟨n + 1, by omega, by go_num, by rw [HST2.out]; exact HB7.out, by rw [HST2.out]; exact HS7.out, HD7.out, B7.out⟩
            · have hup : updL (stripTo ys n).2 (pre ++ [y0]) = (stripTo ys n).2 := if_neg (by simpa using hll)
              rw [hup] at hst2
              have HST2 := hide hst2
              have hll' : ¬ ((stripTo ys n).2.length : Int) < (pre.length : Int) + 1 := by omega
              have hll2 : ¬ ((stripTo ys n).2.length : Int) ≤ (pre.length : Int) := by omega
              have hll3 : ¬ (stripTo ys n).2.length ≤ pre.length := by omega
              have hll4 : (pre.length : Int) + 1 ≤ ((stripTo ys n).2.length : Int) := by omega
              have hll5 : decide (((stripTo ys n).2.length : Int) < (pre.length : Int) + 1) = false := decide_eq_false hll'
              clear hll' hll2 hll3
              clear hst2 hup
              go_wp2_with fail
              go_round
              case measure => (simp [intOf] <;> omega)
              case rel => exact ⟨n + 1, by omega, by go_num, by rw [HST2.out]; exact HB6.out, by rw [HST2.out]; exact HS6.out, HD6.out, B6.out⟩
          · obtain ⟨q, hq⟩ : ∃ q, n = q + 1 := ⟨n - 1, by omega⟩
            obtain ⟨b', off', hA, hb', p0, p1, p2, _, _⟩ := SSheet.cells HR.out (i := q) (by omega) BB.out
            injection hA with hA; injection hA with hA1 hA2; subst hA1 hA2
            have hfl := HFL.out
            subst hq
            rw [show q + 1 - 1 = q by omega, SSheet.at_lt (show q < ys.length by omega)] at hfl
            have hzb := HYB.out _ (List.getElem_mem (show q < ys.length by omega))
            generalize ys[q].row = z1 at *; generalize ys[q].col = z2 at *
            obtain ⟨_, _, hzb2, hzb3⟩ := hzb
            have HFL2 := hide hfl
            clear hfl p0
            have n1 := fun n => later_cell p1 n; have n2 := fun n => later_cell p2 n
            have f1 := fun n => later_cell t1 n; have f2 := fun n => later_cell t2 n
            by_cases g1 : y1 = z1
            · by_cases g2 : y2 = z2 + 1
              · skip
                have HF := hide (show flagS ys (q + 1) = true by rw [HFL2.out, decide_eq_true_iff]; exact ⟨by omega, g1, g2⟩)
                have g1b : (y1 != z1) = false := by simpa using g1
                have g2b : (y2 != z2 + 1) = false := by simpa using g2
                clear g1 g2
                (refine wp_region_later (by kernel_rfl) (by kernel_rfl) ?_; (repeat (go_big_quiet_step (fail))); refine wpQuiet_nil ?_; intro _ hw'; obtain ⟨nq, hw''⟩ := hw'; subst hw'')
                have B5 := hide (BB.out.trans (nq.h.mono hsa)); have HOB5 := hide (HOB1.out.below nq.h); have HOS5 := hide (HOS1.out.below nq.h); have HBK5 := hide (HBK.out.below nq.h hgs)
                have hs5 : B4s ≤ nq.W.heap.size := Nat.le_trans hsa nq.h.size
                generalize nq.W = w5 at *
                go_upto_region 10 with fail
                have HS8 := hide (show Own 1 encI 3 w5 B4s u8 pre by have := HOS5.out; rw [← HPRE.out]; rw [if_pos HF.out]; exact this)
                have HD8 := HD
                have B8 := B5
                clear t0 t1 t2 t3 t4
                obtain ⟨k0, _, _, _, _⟩ := mk5S HBK5.out
                have hpl : pre.length ≤ 1000 := by
                  rw [← HPRE.out]
                  split
                  · omega
                  · simp
                clear B5 BB HOS5 HOB1 HOS1
                have hsd : w5.heap.size ≤ (w5.alloc (.cells #[.int .i64 y0] 3)).heap.size := by simp
                go_upto_region 11 with (at_builtin; refine wpList_pushO (k := 1) (enc := encI) _ rfl _ _ 52 rfl 3 (.int .i64 0) 8 Try.underlying52 infoI rfl (by omega) (by omega) encI_one B4s _ pre rfl HS8.out y0 _ rfl rfl (by omega) hs5 rfl ?_; intro v1 w6 ho1 hg1 hq1; have hbx := (HS8.out.alloc (.cells #[.int .i64 y0] 3)).belowGrown (B8.out.alloc hs5 (.cells #[.int .i64 y0] 3)) hg1 (Nat.le_refl _) (Nat.le_trans hs5 hsd); have HB6 := hide ((HOB5.out.alloc (.cells #[.int .i64 y0] 3)).grown hg1 (fun g hg e => HD8.out g e hg)); have HS6 := hide ho1; have B6 := hide hbx; have hd6 := fun g (hg : v1.ownBlock = some g) (hb : Value.ownBlock u7 = some g) => (hq1 g hg).elim (fun e => HD8.out g e hb) (fun e => by have := (HOB5.out.lt g hb).2; omega); have HD6 := hide hd6; clear ho1 hg1 hq1 hbx hd6 HOB5 HS8 HD8; obtain ⟨A8, c8, rfl, _, _, _⟩ := HS6.out.is; obtain ⟨A7, c7, rfl, hr7, _, _⟩ := HB6.out.is; clear hr7)
                simp only [List.length_append, List.length_singleton] at HS6 HD6
                have hst2 : stripTo ys (q + 1 + 1) = (pre ++ [y0], updL (stripTo ys (q + 1)).2 (pre ++ [y0])) := by rw [HST.out]; simp only [stepL, HPRE.out]
                by_cases hll : (stripTo ys (q + 1)).2.length < pre.length + 1
                · have hup : updL (stripTo ys (q + 1)).2 (pre ++ [y0]) = pre ++ [y0] := if_pos (by simpa using hll)
                  rw [hup] at hst2
                  have HST2 := hide hst2
                  have hll' : ((stripTo ys (q + 1)).2.length : Int) < (pre.length : Int) + 1 := by omega
                  have hll2 : ((stripTo ys (q + 1)).2.length : Int) ≤ (pre.length : Int) := by omega
                  have hll3 : (stripTo ys (q + 1)).2.length ≤ pre.length := by omega
                  have hcl := cloneI_any A8 c8 (pre ++ [y0]) w6
                  have hr8 := HS6.out.is
                  obtain ⟨A9, c9, he9, hr9, _, _⟩ := hr8
                  injection he9 with e1 e2 e3; subst e1 e3; clear e2
                  have hcl2 := hcl hr9 (by simp) (by simp; omega)
                  simp only [List.length_append, List.length_singleton] at hcl2
                  have HCL := hide hcl2; clear hcl2
                  have hs6 : B4s ≤ w6.heap.size := by have := B6.out.size; omega
                  clear hcl hr9 hst2 hup
                  go_wp2_with fail
                  refine HCL.out.mono ?_; rintro e w7 ⟨r, rfl, ho, hb7⟩
                  have HB7 := hide (ho.mono hs6); have HS7 := hide (HS6.out.below hb7); have B7 := hide (B6.out.trans (hb7.mono hs6))
                  have hd7 : ∀ g, Value.ownBlock (.slice A8 (pre.length + 1) c8) = some g → r.ownBlock ≠ some g := fun g hg hb => by
                    have h1 := (HS6.out.lt g hg).2; have h2 := (ho.lt g hb).1; omega
                  have HD7 := hide hd7
                  clear ho hb7 hd7
                  go_wp2_with fail
                  go_round
                  case measure => (simp [intOf] <;> omega)
                  case rel => exact ⟨q + 1 + 1, by omega, by go_num, by rw [HST2.out]; exact HB7.out, by rw [HST2.out]; exact HS7.out, HD7.out, B7.out⟩
                · have hup : updL (stripTo ys (q + 1)).2 (pre ++ [y0]) = (stripTo ys (q + 1)).2 := if_neg (by simpa using hll)
                  rw [hup] at hst2
                  have HST2 := hide hst2
                  have hll' : ¬ ((stripTo ys (q + 1)).2.length : Int) < (pre.length : Int) + 1 := by omega
                  have hll2 : ¬ ((stripTo ys (q + 1)).2.length : Int) ≤ (pre.length : Int) := by omega
                  have hll3 : ¬ (stripTo ys (q + 1)).2.length ≤ pre.length := by omega
                  have hll4 : (pre.length : Int) + 1 ≤ ((stripTo ys (q + 1)).2.length : Int) := by omega
                  have hll5 : decide (((stripTo ys (q + 1)).2.length : Int) < (pre.length : Int) + 1) = false := decide_eq_false hll'
                  clear hll' hll2 hll3
                  clear hst2 hup
                  go_wp2_with fail
                  go_round
                  case measure => (simp [intOf] <;> omega)
                  case rel => exact ⟨q + 1 + 1, by omega, by go_num, by rw [HST2.out]; exact HB6.out, by rw [HST2.out]; exact HS6.out, HD6.out, B6.out⟩
              · skip
                have HG2 := hide g2
                have HG1 := hide (show ¬ ¬ True from fun h => h trivial)
                have g1b : (y1 != z1) = false := by simpa using g1
                have g2b : (y2 != z2 + 1) = true := by simpa using g2
                clear g1 g2
                have HF := hide (show flagS ys (q + 1) = false by rw [HFL2.out, decide_eq_false_iff_not]; rintro ⟨_, h1, h2⟩; first | exact HG1.out h1 | exact HG2.out h2)
                (refine wp_region_later (by kernel_rfl) (by kernel_rfl) ?_; (repeat (go_big_quiet_step (fail))); refine wpQuiet_nil ?_; intro _ hw'; obtain ⟨nq, hw''⟩ := hw'; subst hw'')
                have B5 := hide (BB.out.trans (nq.h.mono hsa)); have HOB5 := hide (HOB1.out.below nq.h); have HOS5 := hide (HOS1.out.below nq.h); have HBK5 := hide (HBK.out.below nq.h hgs)
                have hs5 : B4s ≤ nq.W.heap.size := Nat.le_trans hsa nq.h.size
                generalize nq.W = w5 at *
                go_upto_region 10 with fail
                have HS8 := hide (show Own 1 encI 3 w5 B4s (.slice none 0 0) pre by rw [← HPRE.out, if_neg (by simp [HF.out])]; exact Own.nil)
                have HD8 := hide (show ∀ g, Value.ownBlock (.slice none 0 0) = some g → Value.ownBlock u7 ≠ some g from fun g hg => by simp [Value.ownBlock] at hg)
                have B8 := B5
                clear t0 t1 t2 t3 t4
                obtain ⟨k0, _, _, _, _⟩ := mk5S HBK5.out
                have hpl : pre.length ≤ 1000 := by
                  rw [← HPRE.out]
                  split
                  · omega
                  · simp
                clear B5 BB HOS5 HOB1 HOS1
                have hsd : w5.heap.size ≤ (w5.alloc (.cells #[.int .i64 y0] 3)).heap.size := by simp
                go_upto_region 11 with (at_builtin; refine wpList_pushO (k := 1) (enc := encI) _ rfl _ _ 52 rfl 3 (.int .i64 0) 8 Try.underlying52 infoI rfl (by omega) (by omega) encI_one B4s _ pre rfl HS8.out y0 _ rfl rfl (by omega) hs5 rfl ?_; intro v1 w6 ho1 hg1 hq1; have hbx := (HS8.out.alloc (.cells #[.int .i64 y0] 3)).belowGrown (B8.out.alloc hs5 (.cells #[.int .i64 y0] 3)) hg1 (Nat.le_refl _) (Nat.le_trans hs5 hsd); have HB6 := hide ((HOB5.out.alloc (.cells #[.int .i64 y0] 3)).grown hg1 (fun g hg e => HD8.out g e hg)); have HS6 := hide ho1; have B6 := hide hbx; have hd6 := fun g (hg : v1.ownBlock = some g) (hb : Value.ownBlock u7 = some g) => (hq1 g hg).elim (fun e => HD8.out g e hb) (fun e => by have := (HOB5.out.lt g hb).2; omega); have HD6 := hide hd6; clear ho1 hg1 hq1 hbx hd6 HOB5 HS8 HD8; obtain ⟨A8, c8, rfl, _, _, _⟩ := HS6.out.is; obtain ⟨A7, c7, rfl, hr7, _, _⟩ := HB6.out.is; clear hr7)
                simp only [List.length_append, List.length_singleton] at HS6 HD6
                have hst2 : stripTo ys (q + 1 + 1) = (pre ++ [y0], updL (stripTo ys (q + 1)).2 (pre ++ [y0])) := by rw [HST.out]; simp only [stepL, HPRE.out]
                by_cases hll : (stripTo ys (q + 1)).2.length < pre.length + 1
                · have hup : updL (stripTo ys (q + 1)).2 (pre ++ [y0]) = pre ++ [y0] := if_pos (by simpa using hll)
                  rw [hup] at hst2
                  have HST2 := hide hst2
                  have hll' : ((stripTo ys (q + 1)).2.length : Int) < (pre.length : Int) + 1 := by omega
                  have hll2 : ((stripTo ys (q + 1)).2.length : Int) ≤ (pre.length : Int) := by omega
                  have hll3 : (stripTo ys (q + 1)).2.length ≤ pre.length := by omega
                  have hcl := cloneI_any A8 c8 (pre ++ [y0]) w6
                  have hr8 := HS6.out.is
                  obtain ⟨A9, c9, he9, hr9, _, _⟩ := hr8
                  injection he9 with e1 e2 e3; subst e1 e3; clear e2
                  have hcl2 := hcl hr9 (by simp) (by simp; omega)
                  simp only [List.length_append, List.length_singleton] at hcl2
                  have HCL := hide hcl2; clear hcl2
                  have hs6 : B4s ≤ w6.heap.size := by have := B6.out.size; omega
                  clear hcl hr9 hst2 hup
                  go_wp2_with fail
                  refine HCL.out.mono ?_; rintro e w7 ⟨r, rfl, ho, hb7⟩
                  have HB7 := hide (ho.mono hs6); have HS7 := hide (HS6.out.below hb7); have B7 := hide (B6.out.trans (hb7.mono hs6))
                  have hd7 : ∀ g, Value.ownBlock (.slice A8 (pre.length + 1) c8) = some g → r.ownBlock ≠ some g := fun g hg hb => by
                    have h1 := (HS6.out.lt g hg).2; have h2 := (ho.lt g hb).1; omega
                  have HD7 := hide hd7
                  clear ho hb7 hd7
                  go_wp2_with fail
                  go_round
                  case measure => (simp [intOf] <;> omega)
                  case rel => exact ⟨q + 1 + 1, by omega, by go_num, by rw [HST2.out]; exact HB7.out, by rw [HST2.out]; exact HS7.out, HD7.out, B7.out⟩
                · have hup : updL (stripTo ys (q + 1)).2 (pre ++ [y0]) = (stripTo ys (q + 1)).2 := if_neg (by simpa using hll)
                  rw [hup] at hst2
                  have HST2 := hide hst2
                  have hll' : ¬ ((stripTo ys (q + 1)).2.length : Int) < (pre.length : Int) + 1 := by omega
                  have hll2 : ¬ ((stripTo ys (q + 1)).2.length : Int) ≤ (pre.length : Int) := by omega
                  have hll3 : ¬ (stripTo ys (q + 1)).2.length ≤ pre.length := by omega
                  have hll4 : (pre.length : Int) + 1 ≤ ((stripTo ys (q + 1)).2.length : Int) := by omega
                  have hll5 : decide (((stripTo ys (q + 1)).2.length : Int) < (pre.length : Int) + 1) = false := decide_eq_false hll'
                  clear hll' hll2 hll3
                  clear hst2 hup
                  go_wp2_with fail
                  go_round
                  case measure => (simp [intOf] <;> omega)
                  case rel => exact ⟨q + 1 + 1, by omega, by go_num, by rw [HST2.out]; exact HB6.out, by rw [HST2.out]; exact HS6.out, HD6.out, B6.out⟩
            · skip
              have HG1 := hide g1
              have g1b : (y1 != z1) = true := by simpa using g1
              clear g1
              have HF := hide (show flagS ys (q + 1) = false by rw [HFL2.out, decide_eq_false_iff_not]; rintro ⟨_, h1, h2⟩; first | exact HG1.out h1 | exact HG2.out h2)
              (refine wp_region_later (by kernel_rfl) (by kernel_rfl) ?_; (repeat (go_big_quiet_step (fail))); refine wpQuiet_nil ?_; intro _ hw'; obtain ⟨nq, hw''⟩ := hw'; subst hw'')
              have B5 := hide (BB.out.trans (nq.h.mono hsa)); have HOB5 := hide (HOB1.out.below nq.h); have HOS5 := hide (HOS1.out.below nq.h); have HBK5 := hide (HBK.out.below nq.h hgs)
              have hs5 : B4s ≤ nq.W.heap.size := Nat.le_trans hsa nq.h.size
              generalize nq.W = w5 at *
              go_upto_region 10 with fail
              have HS8 := hide (show Own 1 encI 3 w5 B4s (.slice none 0 0) pre by rw [← HPRE.out, if_neg (by simp [HF.out])]; exact Own.nil)
              have HD8 := hide (show ∀ g, Value.ownBlock (.slice none 0 0) = some g → Value.ownBlock u7 ≠ some g from fun g hg => by simp [Value.ownBlock] at hg)
              have B8 := B5
              clear t0 t1 t2 t3 t4
              obtain ⟨k0, _, _, _, _⟩ := mk5S HBK5.out
              have hpl : pre.length ≤ 1000 := by
                rw [← HPRE.out]
                split
                · omega
                · simp
              clear B5 BB HOS5 HOB1 HOS1
              have hsd : w5.heap.size ≤ (w5.alloc (.cells #[.int .i64 y0] 3)).heap.size := by simp
              go_upto_region 11 with (at_builtin; refine wpList_pushO (k := 1) (enc := encI) _ rfl _ _ 52 rfl 3 (.int .i64 0) 8 Try.underlying52 infoI rfl (by omega) (by omega) encI_one B4s _ pre rfl HS8.out y0 _ rfl rfl (by omega) hs5 rfl ?_; intro v1 w6 ho1 hg1 hq1; have hbx := (HS8.out.alloc (.cells #[.int .i64 y0] 3)).belowGrown (B8.out.alloc hs5 (.cells #[.int .i64 y0] 3)) hg1 (Nat.le_refl _) (Nat.le_trans hs5 hsd); have HB6 := hide ((HOB5.out.alloc (.cells #[.int .i64 y0] 3)).grown hg1 (fun g hg e => HD8.out g e hg)); have HS6 := hide ho1; have B6 := hide hbx; have hd6 := fun g (hg : v1.ownBlock = some g) (hb : Value.ownBlock u7 = some g) => (hq1 g hg).elim (fun e => HD8.out g e hb) (fun e => by have := (HOB5.out.lt g hb).2; omega); have HD6 := hide hd6; clear ho1 hg1 hq1 hbx hd6 HOB5 HS8 HD8; obtain ⟨A8, c8, rfl, _, _, _⟩ := HS6.out.is; obtain ⟨A7, c7, rfl, hr7, _, _⟩ := HB6.out.is; clear hr7)
              simp only [List.length_append, List.length_singleton] at HS6 HD6
              have hst2 : stripTo ys (q + 1 + 1) = (pre ++ [y0], updL (stripTo ys (q + 1)).2 (pre ++ [y0])) := by rw [HST.out]; simp only [stepL, HPRE.out]
              by_cases hll : (stripTo ys (q + 1)).2.length < pre.length + 1
              · have hup : updL (stripTo ys (q + 1)).2 (pre ++ [y0]) = pre ++ [y0] := if_pos (by simpa using hll)
                rw [hup] at hst2
                have HST2 := hide hst2
                have hll' : ((stripTo ys (q + 1)).2.length : Int) < (pre.length : Int) + 1 := by omega
                have hll2 : ((stripTo ys (q + 1)).2.length : Int) ≤ (pre.length : Int) := by omega
                have hll3 : (stripTo ys (q + 1)).2.length ≤ pre.length := by omega
                have hcl := cloneI_any A8 c8 (pre ++ [y0]) w6
                have hr8 := HS6.out.is
                obtain ⟨A9, c9, he9, hr9, _, _⟩ := hr8
                injection he9 with e1 e2 e3; subst e1 e3; clear e2
                have hcl2 := hcl hr9 (by simp) (by simp; omega)
                simp only [List.length_append, List.length_singleton] at hcl2
                have HCL := hide hcl2; clear hcl2
                have hs6 : B4s ≤ w6.heap.size := by have := B6.out.size; omega
                clear hcl hr9 hst2 hup
                go_wp2_with fail
                refine HCL.out.mono ?_; rintro e w7 ⟨r, rfl, ho, hb7⟩
                have HB7 := hide (ho.mono hs6); have HS7 := hide (HS6.out.below hb7); have B7 := hide (B6.out.trans (hb7.mono hs6))
                have hd7 : ∀ g, Value.ownBlock (.slice A8 (pre.length + 1) c8) = some g → r.ownBlock ≠ some g := fun g hg hb => by
                  have h1 := (HS6.out.lt g hg).2; have h2 := (ho.lt g hb).1; omega
                have HD7 := hide hd7
                clear ho hb7 hd7
                go_wp2_with fail
                go_round
                case measure => (simp [intOf] <;> omega)
                case rel => exact ⟨q + 1 + 1, by omega, by go_num, by rw [HST2.out]; exact HB7.out, by rw [HST2.out]; exact HS7.out, HD7.out, B7.out⟩
              · have hup : updL (stripTo ys (q + 1)).2 (pre ++ [y0]) = (stripTo ys (q + 1)).2 := if_neg (by simpa using hll)
                rw [hup] at hst2
                have HST2 := hide hst2
                have hll' : ¬ ((stripTo ys (q + 1)).2.length : Int) < (pre.length : Int) + 1 := by omega
                have hll2 : ¬ ((stripTo ys (q + 1)).2.length : Int) ≤ (pre.length : Int) := by omega
                have hll3 : ¬ (stripTo ys (q + 1)).2.length ≤ pre.length := by omega
                have hll4 : (pre.length : Int) + 1 ≤ ((stripTo ys (q + 1)).2.length : Int) := by omega
                have hll5 : decide (((stripTo ys (q + 1)).2.length : Int) < (pre.length : Int) + 1) = false := decide_eq_false hll'
                clear hll' hll2 hll3
                clear hst2 hup
                go_wp2_with fail
                go_round
                case measure => (simp [intOf] <;> omega)
                case rel => exact ⟨q + 1 + 1, by omega, by go_num, by rw [HST2.out]; exact HB6.out, by rw [HST2.out]; exact HS6.out, HD6.out, B6.out⟩
        · have hnn : n = ys.length := by omega
          have HNN := hide hnn; clear hnn
          have hob := HOB.out
          rw [HNN.out] at hob
          have HOB2 := hide (hob.mono hs4); have B5 := hide (B4.out.trans (hbel.mono hs4))
          clear hob
          go_wp2_with fail
          go_ret2
          exact ⟨_, rfl, HOB2.out, B5.out⟩
end Go.Proofs.Ytdbcilinoieabaa
