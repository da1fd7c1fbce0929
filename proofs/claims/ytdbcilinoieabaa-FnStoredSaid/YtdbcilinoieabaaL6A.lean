/- Contracts of DeleteFunc and Clone at flats, and of impl's loose and flatIds. Condition: at most a million flats. (Printed by mkdel5.py.) -/
import Derived.Test.YtdbcilinoieabaaL5T
import Derived.Test.YtdbcilinoieabaaLIns
import Derived.Lib.SliceRun
namespace Go.Proofs.Ytdbcilinoieabaa
open Go.RowKit Go.Lib
set_option linter.unusedVariables false
theorem run_clear_cells {P : Program} (w : World) (t e ty : TypeId) (z : Value) (k : Nat) (ht : P.underlying t = some (.slice e)) (hv : ∀ w, (zeroValue e).run P w = .ok z w) (hk : z.cells.size = k) (h1 : ∀ u ∈ z.cells, u.oneCell' = true) (b o n c : Nat) (hn : 0 < n)
    (hc : ∀ j, j < n * k → (w.cell? ⟨b, o + j, none⟩).isSome = true) (hf : ∀ j, j < n * k → w.frozen? ⟨b, o + j, none⟩ = false) :
    (Builtin.clear_ #[t] ty #[.slice (some ⟨b, o, none⟩) n c]).run P w = .ok (.tuple #[]) (w.setCells b o (Builtin.zeroCells z.cells n).toList) := by
  have hlen : (Builtin.zeroCells z.cells n).toList.length = n * k := by simp [Builtin.zeroCells, hk]
  have hone : ∀ u ∈ (Builtin.zeroCells z.cells n).toList, u.oneCell' = true := by
    intro u hu
    simp only [Builtin.zeroCells, Array.toList_map, List.mem_map, Array.mem_toList_iff, Array.mem_range] at hu
    obtain ⟨i, hi, rfl⟩ := hu
    have h0 : 0 < z.cells.size := by
      rcases Nat.eq_zero_or_pos z.cells.size with h0 | h0
      · rw [h0] at hi; omega
      · exact h0
    rw [getElem!_pos z.cells _ (Nat.mod_lt _ h0)]
    exact h1 _ (Array.getElem_mem _)
  have hst := run_storeCells_cells (P := P) b o (Builtin.zeroCells z.cells n).toList 0 w (by rw [hlen]; simpa using hc) (by rw [hlen]; simpa using hf) hone
  simp only [Nat.add_zero] at hst
  obtain ⟨m, rfl⟩ : ∃ m, n = m + 1 := ⟨n - 1, by omega⟩
  simp [Builtin.clear_, run_underlying ht, hv, hst]
theorem zero_run {P : Program} {t : TypeId} {z : Value} {s b : Nat} (h : (P.info? t).map (fun i => (i.zero, i.size, i.bytes)) = some (some z, s, b)) (w : World) : (zeroValue t).run P w = .ok z w := by
  obtain ⟨i, h1, h2, _, _⟩ := info_parts' h
  simp [zeroValue, typeInfo, h1, h2]
theorem Blk.setCells {g : Nat} {t : TypeId} : ∀ (vs : List Value) (o : Nat) (w : World) (cs : Array Value), Blk w g t cs → ∃ cs', Blk (w.setCells g o vs) g t cs' ∧ cs'.size = cs.size ∧ ∀ m, m < o → cs'[m]? = cs[m]?
  | [], o, w, cs, h => ⟨cs, h, rfl, fun _ _ => rfl⟩
  | v :: r, o, w, cs, h => by
    obtain ⟨cs', h1, h2, h3⟩ := Blk.setCells r (o + 1) _ _ (h.set o v)
    exact ⟨cs', h1, by simpa using h2, fun m hm => by rw [h3 m (by omega), Array.getElem?_setIfInBounds_ne (by omega)]⟩
theorem below_setCells {B g : Nat} (hg : B ≤ g) : ∀ (vs : List Value) (o : Nat) (a w : World), Below B a w → Below B a (w.setCells g o vs)
  | [], o, a, w, h => h
  | v :: r, o, a, w, h => below_setCells hg r (o + 1) a _ (h.setCell (p := ⟨g, o, none⟩) hg v)
def kept (p : SFlat → Bool) (xs : List SFlat) (j : Nat) : List SFlat := (xs.take j).filter fun c => !p c
theorem kept_succ {p : SFlat → Bool} {xs : List SFlat} {j : Nat} (h : j < xs.length) : kept p xs (j + 1) = kept p xs j ++ if p xs[j] then [] else [xs[j]] := by
  unfold kept
  rw [take_snoc' h, List.filter_append]
  congr 1
  cases hp : p xs[j] <;> simp [hp]
theorem kept_le (p : SFlat → Bool) (xs : List SFlat) (j : Nat) : (kept p xs j).length ≤ j := by
  unfold kept
  exact Nat.le_trans (List.length_filter_le _ _) (by simp; omega)
theorem kept_all {p : SFlat → Bool} {xs : List SFlat} {j : Nat} (h : ∀ c ∈ xs.take j, p c = false) : kept p xs j = xs.take j := by
  unfold kept
  rw [List.filter_eq_self]
  intro c hc; rw [h c hc]; rfl
theorem idxF_cases {α : Type} (p : α → Bool) (xs : List α) : (idxF p xs = -1 ∧ ∀ c ∈ xs, p c = false) ∨ ∃ i, ∃ h : i < xs.length, idxF p xs = (i : Int) ∧ p xs[i] = true ∧ ∀ c ∈ xs.take i, p c = false := by
  unfold idxF
  rcases h : xs.findIdx? p with _ | i
  · exact .inl ⟨rfl, by simpa [List.findIdx?_eq_none_iff] using h⟩
  · rw [List.findIdx?_eq_some_iff_getElem] at h
    obtain ⟨hi, h1, h2⟩ := h
    refine .inr ⟨i, hi, rfl, h1, fun c hc => ?_⟩
    obtain ⟨j, hj, rfl⟩ := List.mem_iff_getElem.1 hc
    have hj2 : j < i := by simp at hj; omega
    rw [List.getElem_take]
    simpa using h2 j hj2
theorem filled_cells4 {w : World} {g : Nat} {cs : Array Value} {xs : List SFlat} (hb : Blk w g 68 cs) {i : Nat} (hi : i < xs.length) (hc : ∀ c, c < 4 → cs[i * 4 + c]? = some (SFlat.enc xs[i] c)) :
    w.cell? ⟨g, i * 4, none⟩ = some (.int .i64 xs[i].ident) ∧ w.cell? ⟨g, i * 4 + 1, none⟩ = some (.int .i64 xs[i].wide) ∧ w.cell? ⟨g, i * 4 + 2, none⟩ = some (.int .i64 xs[i].high) ∧ w.cell? ⟨g, i * 4 + 3, none⟩ = some (.int .i64 xs[i].grams) := by
  refine ⟨?_, ?_, ?_, ?_⟩
  · rw [hb.cell]; exact hc 0 (by omega)
  · rw [hb.cell]; exact hc 1 (by omega)
  · rw [hb.cell]; exact hc 2 (by omega)
  · rw [hb.cell]; exact hc 3 (by omega)
set_option maxHeartbeats 2000000 in
theorem DeleteFuncFlat_is (g : FuncId) (cp : Array Value) (p : SFlat → Bool) (base : Nat) (v : Value) (xs : List SFlat) (w : World) (ho : Own 4 SFlat.enc 68 w base v xs) (hm : xs.length ≤ 1048576) (hbase : base ≤ w.heap.size)
    (eg : ∀ args w, (callFunc g args).run Try.prog w = .ok (.enter g args) w)
    (hp : ∀ (W : World) (c : SFlat), Below base w W → Calls Try.prog g (#[.agg #[.int .i64 c.ident, .int .i64 c.wide, .int .i64 c.high, .int .i64 c.grams]] ++ cp) W fun e w' => e = .returned (.bool (p c)) ∧ Below W.heap.size W w') :
    Calls Try.prog 204 #[v, .func (.func g) #[] cp] w fun e w' => ∃ v', e = .returned v' ∧ Own 4 SFlat.enc 68 w' base v' (xs.filter fun c => !p c) ∧ Below base w w' := by
  obtain ⟨A, cap, rfl, hr, hcm, hle⟩ := ho.row
  have hpred : SFlat.Pred g cp p w.heap.size w := fun W c hb => (hp W c (hb.mono hbase)).mono fun e w' ⟨h1, h2⟩ => ⟨h1, bstep hb h2 hb.size⟩
  have hidx := IndexFuncFlat_any g cp p A cap xs w hr (by omega) eg hpred
  have HP := hide hp; have HO := hide ho; clear hp ho hpred hr
  rcases idxF_cases p xs with ⟨h1, h2⟩ | ⟨i0, hi0, h1, h2, h3⟩
  · rw [h1] at hidx
    have hfl : (xs.filter fun c => !p c) = xs := by rw [List.filter_eq_self]; intro c hc; rw [h2 c hc]; rfl
    rw [hfl]
    have HX := hide hidx; clear hidx h1 h2 hfl
    go_enter Try.func204, Try.ntmps204
    go_wp2_with (go_at_call 187; refine HX.out.mono ?_; rintro e w1 ⟨rfl, hb1⟩)
    go_ret
    exact ⟨_, rfl, HO.out.below hb1, hb1.mono hbase⟩
  · rw [h1] at hidx
    have hpos : 0 < xs.length := by omega
    have hne1 : ((i0 : Int) == -1) = false := beq_eq_false_iff_ne.2 (by omega)
    obtain ⟨bg, gc, cs0, hve, hgb, hblk0, hle2, hcm2, hs0, hf0⟩ := own_blk5 HO.out hpos
    injection hve with hA1 hA2 hA3; subst hA1 hA3
    have HX := hide hidx; have H2 := hide h2; have H3 := hide h3; have HBK := hide hblk0; have HF0 := hide hf0; clear hidx h1 h2 h3 hblk0 hf0
    go_enter Try.func204, Try.ntmps204
    go_wp2_with (go_at_call 187; refine HX.out.mono ?_; rintro e w1 ⟨rfl, hb1⟩)
    have hbk1 := HBK.out.below hb1 HBK.out.lt
    have B1 := hb1.mono hbase
    have HBK1 := hide hbk1; clear hbk1 hb1
    go_loopw [5, 6] (fun a c wr => ∃ (i j : Nat) (cs : Array Value), a = .int .i64 (i : Int) ∧ c = .int .i64 (j : Int) ∧ i < j ∧ j ≤ xs.length ∧ i = (kept p xs j).length ∧ Blk wr bg 68 cs ∧ cs.size = cs0.size ∧ Filled 4 SFlat.enc cs i (kept p xs j) ∧ (∀ t x, j ≤ t → xs[t]? = some x → ∀ c, c < 4 → cs[t * 4 + c]? = some (SFlat.enc x c)) ∧ Below base w wr) (fun _ c _ => xs.length - (intOf c).toNat)
    case atStart =>
      have hk0 : kept p xs (i0 + 1) = xs.take i0 := by
        rw [kept_succ hi0, H2.out, kept_all H3.out]; simp
      refine ⟨i0, i0 + 1, cs0, rfl, by go_num, by omega, by omega, by rw [hk0]; simp; omega, HBK1.out, rfl, ?_, ?_, B1⟩
      · rw [hk0]
        intro t x ht hx c hc
        rw [List.getElem?_take_of_lt ht] at hx
        exact HF0.out t x (by omega) hx c hc
      · intro t x ht hx c hc
        exact HF0.out t x (List.getElem?_eq_some_iff.1 hx).1 hx c hc
    case round =>
      obtain ⟨i, j, cs, rfl, rfl, hij, hj, hik, hblk, hsz, hfill, hrest, hbel⟩ := hrel
      have hgl := hblk.lt
      have hsb : base ≤ wr.heap.size := Nat.le_trans hbase hbel.size
      have HK := hide hik; have HB := hide hblk; have HS := hide hsz; have HF := hide hfill; have HR := hide hrest; clear hik hblk hsz hfill hrest
      by_cases hlt : j < xs.length
      · obtain ⟨c0, c1, c2, c3⟩ := filled_cells4 HB.out hlt (fun c hc => HR.out j _ (Nat.le_refl _) (List.getElem?_eq_getElem hlt) c hc)
        have hst := kept_succ (p := p) hlt
        have hcall := fun W (hb : Below base w W) => HP.out W xs[j] hb
        have hxe : xs[j] = ⟨xs[j].ident, xs[j].wide, xs[j].high, xs[j].grams⟩ := rfl
        generalize xs[j] = y at *
        obtain ⟨y0, y1, y2, y3⟩ := y
        simp only at c0 c1 c2 c3 hcall
        clear hxe
        have BX := hbel.alloc hsb (.cells #[.int .i64 y0, .int .i64 y1, .int .i64 y2, .int .i64 y3] 68)
        have hbk := HB.out.alloc (.cells #[.int .i64 y0, .int .i64 y1, .int .i64 y2, .int .i64 y3] 68)
        have hbx : Blk (wr.alloc (.cells #[.int .i64 y0, .int .i64 y1, .int .i64 y2, .int .i64 y3] 68)) wr.heap.size 68 #[.int .i64 y0, .int .i64 y1, .int .i64 y2, .int .i64 y3] := Blk.new wr _ _
        have hcl := hcall _ BX
        have hsbx : base ≤ (wr.alloc (.cells #[.int .i64 y0, .int .i64 y1, .int .i64 y2, .int .i64 y3] 68)).heap.size := Nat.le_trans hsb (by simp)
        have HSBX := hide hsbx; clear hsbx
        have HBX := hide BX; have HBK2 := hide hbk; have HBX2 := hide hbx; clear BX hbk hbx hcall
        cases hq : p ⟨y0, y1, y2, y3⟩ with
        | true =>
          rw [hq] at hcl hst
          have HST := hide hst; have HCL := hide hcl; clear hst hcl hq
          go_wp2_with (go_at_fn g; refine HCL.out.mono ?_; rintro e w5 ⟨rfl, hb5⟩)
          go_round
          case measure => (simp [intOf] <;> omega)
          case rel =>
          have hz : kept p xs (j + 1) = kept p xs j := by rw [HST.out]; simp
          exact ⟨i, j + 1, cs, rfl, by go_num, by omega, by omega, by rw [hz]; exact HK.out, HBK2.out.below hb5 (by simp; omega), HS.out, by rw [hz]; exact HF.out, fun t x ht => HR.out t x (by omega), bstep HBX.out hb5 HSBX.out⟩
        | false =>
          rw [hq] at hcl hst
          have HST := hide hst; have HCL := hide hcl; clear hst hcl hq
          have hil : (i : Int) < xs.length := by omega
          have hszi : i * 4 + 3 < cs.size := by rw [HS.out, hs0]; omega
          go_wp2_with (go_at_fn g; refine HCL.out.mono ?_; rintro e w5 ⟨rfl, hb5⟩; have hbk5 := HBK2.out.below hb5 (by simp; omega); have hbx5 := HBX2.out.below hb5 (by simp); obtain ⟨d0, d1, d2, d3⟩ := fl4 hbx5; have B5 := bstep HBX.out hb5 HSBX.out; have g0 := hbk5.some (i := i * 4) (by omega); have g1 := hbk5.some (i := i * 4 + 1) (by omega); have g2 := hbk5.some (i := i * 4 + 2) (by omega); have g3 := hbk5.some (i := i * 4 + 3) hszi; have hfz := hbk5.frozen; have HBK5 := hide hbk5; clear hb5 hbk5 hbx5)
          go_round
          case measure => (simp [intOf] <;> omega)
          case rel =>
          have hz : kept p xs (j + 1) = kept p xs j ++ [⟨y0, y1, y2, y3⟩] := by rw [HST.out]; simp
          have hfl : Filled 4 SFlat.enc ((((cs.setIfInBounds (i * 4) (.int .i64 y0)).setIfInBounds (i * 4 + 1) (.int .i64 y1)).setIfInBounds (i * 4 + 2) (.int .i64 y2)).setIfInBounds (i * 4 + 3) (.int .i64 y3)) (i + 1) (kept p xs j ++ [⟨y0, y1, y2, y3⟩]) := by
            have hF2 : Filled 4 SFlat.enc cs i (kept p xs j ++ [(⟨y0, y1, y2, y3⟩ : SFlat)]) := fun t x ht hx c hc => HF.out t x ht (by rw [List.getElem?_append_left (by rw [← HK.out]; exact ht)] at hx; exact hx) c hc
            refine hF2.step4' (by rw [List.length_append, ← HK.out]; simp) hszi ?_ ?_ ?_ ?_
            all_goals (rw [List.getElem_append_right (by rw [← HK.out]; exact Nat.le_refl _)]; simp [← HK.out]; rfl)
          refine ⟨i + 1, j + 1, _, by go_num, by go_num, by omega, by omega, by rw [hz, List.length_append, ← HK.out]; rfl, (((HBK5.out.set _ _).set _ _).set _ _).set _ _, by simp [HS.out], by rw [hz]; exact hfl, ?_, (((B5.setCell hgb _).setCell hgb _).setCell hgb _).setCell hgb _⟩
          intro t x ht hx c hc
          rw [Array.getElem?_setIfInBounds_ne (by omega), Array.getElem?_setIfInBounds_ne (by omega), Array.getElem?_setIfInBounds_ne (by omega), Array.getElem?_setIfInBounds_ne (by omega)]
          exact HR.out t x (by omega) hx c hc
      · have hjn : j = xs.length := by omega
        have hin : (i : Int) < xs.length := by omega
        have hkx : kept p xs j = xs.filter fun c => !p c := by rw [hjn]; unfold kept; rw [List.take_length]
        have hsz2 := HS.out
        have hng : ¬ cap = i := by omega
        have hile : i ≤ cap := by omega
        obtain ⟨W', cs', hclr, hbk', hsz', hpre, hbel'⟩ : ∃ W' cs', (∀ ty, (Builtin.clear_ #[57] ty #[.slice (some ⟨bg, i * 4, none⟩) (xs.length - i) (cap - i)]).run Try.prog wr = .ok (.tuple #[]) W') ∧ Blk W' bg 68 cs' ∧ cs'.size = cs0.size ∧ (∀ m, m < i * 4 → cs'[m]? = cs[m]?) ∧ Below base w W' := by
          obtain ⟨cs', q1, q2, q3⟩ := Blk.setCells (Builtin.zeroCells (Value.cells (.agg #[.int .i64 0, .int .i64 0, .int .i64 0, .int .i64 0])) (xs.length - i)).toList (i * 4) wr cs HB.out
          refine ⟨_, cs', fun ty => run_clear_cells wr 57 68 ty (.agg #[.int .i64 0, .int .i64 0, .int .i64 0, .int .i64 0]) 4 Try.underlying57 (fun w => zero_run SFlat.info w) rfl (fun u hu => List.all_eq_true.1 (show ((Value.cells (.agg #[.int .i64 0, .int .i64 0, .int .i64 0, .int .i64 0])).toList.all fun u => u.oneCell') = true from rfl) u (by simpa using hu)) bg (i * 4) (xs.length - i) (cap - i) (by omega) (fun t ht => ?_) (fun t _ => HB.out.frozen _), q1, by rw [q2, hsz2], q3, below_setCells hgb _ _ _ _ hbel⟩
          have hlt2 : i * 4 + t < cs.size := by rw [hsz2, hs0]; omega
          rw [HB.out.some hlt2]; rfl
        have HB2 := hide hbk'; have HPR := hide hpre; have HKX := hide hkx; clear hbk' hpre hkx hsz2
        go_wp2_with fail
        go_ret
        have hkl : (xs.filter fun c => !p c).length = i := by rw [← HKX.out]; exact HK.out.symm
        refine ⟨_, rfl, .inr ⟨bg, cap, cs', by rw [hkl]; rfl, hgb, HB2.out, by rw [hkl]; exact hile, hcm, by rw [hsz', hs0], ?_⟩, hbel'⟩
        intro t x ht hx c hc
        rw [hkl] at ht
        rw [HPR.out _ (by omega)]
        rw [← HKX.out] at hx
        exact HF.out t x ht hx c hc
theorem cloneFlat_any (A : Option Addr) (cap : Nat) (xs : List SFlat) (w : World) (hr : Row 4 SFlat.enc w w.heap.size A xs) (h1 : xs.length ≤ 1048576) :
    Calls Try.prog 205 #[.slice A xs.length cap] w fun e w' => ∃ r, e = .returned r ∧ Own 4 SFlat.enc 68 w' w.heap.size r xs ∧ Below w.heap.size w w' := by
  have HR := hide hr
  cases A with
  | none =>
    have hx : xs = [] := by
      rcases hr with h | ⟨b, off, h, _⟩
      · exact h
      · cases h
    subst hx
    clear hr
    have hnil := fun W => Go.Lib.run_eql_slice_nil (P := Try.prog) W 57 68 none 0 cap 0 0 Try.underlying57
    go_enter Try.func205, Try.ntmps205
    go_wp2_with fail
    go_ret
    exact ⟨_, rfl, Own.nil, Below.refl _ _⟩
  | some ad =>
    clear hr
    have hnil := fun W => Go.Lib.run_eql_slice_nil (P := Try.prog) W 57 68 (some ad) xs.length cap 0 0 Try.underlying57
    go_enter Try.func205, Try.ntmps205
    have HO := hide (own_noneN (kk := 4) (enc := SFlat.enc) 68 w (Nat.le_refl w.heap.size))
    have B1 := below_alloc w (.cells #[] 68)
    go_wp2_with (at_builtin; refine wpList_push (k := 4) (enc := SFlat.enc) _ rfl _ _ 57 rfl 68 (.agg #[.int .i64 0, .int .i64 0, .int .i64 0, .int .i64 0]) 32 Try.underlying57 SFlat.info rfl (by omega) SFlat.one w.heap.size _ [] rfl HO.out ad cap xs rfl (src_row5 (HR.out.below B1 (Nat.le_refl _) B1.size) (by omega)) (by simp; omega) (by simp; omega) B1.size ?_; intro v1 w1 ho1 hg1 _; have hb1 := HO.out.belowGrown B1 hg1 (Nat.le_refl _) B1.size; rw [List.nil_append] at ho1; have HO1 := hide ho1; clear ho1 hg1)
    go_ret
    exact ⟨_, rfl, HO1.out, hb1⟩
/-- the flats that lie in no drawer -/
def looseL (fs : List SFlat) (ds : List DrV) : List SFlat := fs.filter fun z => !decide (0 ≤ whereD ds z.ident)
theorem loose1_any (u : Value) (ds : List DrV) (a0 a1 a2 a3 : Int) (b : Nat) (w : World) (hc : w.cell? ⟨b, 0, none⟩ = some u) (hu : IsD w u ds) :
    Calls Try.prog 206 #[.agg #[.int .i64 a0, .int .i64 a1, .int .i64 a2, .int .i64 a3], .pointer (some ⟨b, 0, none⟩)] w fun e w' => e = .returned (.bool (decide (0 ≤ whereD ds a0))) ∧ Below w.heap.size w w' := by
  have hbl := World.block_lt_of_cell? w _ hc
  have B1 := below_alloc w (.cells #[.int .i64 a0, .int .i64 a1, .int .i64 a2, .int .i64 a3] 68)
  have hc2 : (w.alloc (.cells #[.int .i64 a0, .int .i64 a1, .int .i64 a2, .int .i64 a3] 68)).cell? ⟨b, 0, none⟩ = some u := ((bcell B1).1 b 0 hbl).trans hc
  have HC := hide (drawerWith_any u ds a0 _ (hu.below B1 (Nat.le_refl _)))
  have HB1 := hide B1
  have hs := B1.size
  generalize whereD ds a0 = wh at *
  clear B1 hu
  go_enter Try.func206, Try.ntmps206
  go_wp2_with fail
  refine HC.out.mono ?_; rintro e w1 ⟨rfl, hb⟩
  have HB2 := hide (bstep HB1.out hb hs); clear hb
  go_wp2_with fail
  go_ret
  exact ⟨rfl, HB2.out⟩
theorem loose_any (v u : Value) (fs : List SFlat) (ds : List DrV) (w : World) (hv : Is 4 SFlat.enc w v fs) (hu : IsD w u ds) (hl : fs.length ≤ 1048576) :
    Calls Try.prog 153 #[v, u] w fun e w' => ∃ r, e = .returned r ∧ Own 4 SFlat.enc 68 w' w.heap.size r (looseL fs ds) ∧ Below w.heap.size w w' := by
  obtain ⟨A, cap, rfl, hr, _, _⟩ := hv
  have hu2 := hu
  obtain ⟨rs, _, ⟨AU, cU, rfl, _, _, _⟩, _⟩ := hu2
  generalize rs.length = lU at *
  have B1 := below_alloc w (.cells #[.slice AU lU cU] 58)
  have hcell : (w.alloc (.cells #[.slice AU lU cU] 58)).cell? ⟨w.heap.size, 0, none⟩ = some (.slice AU lU cU) := by rw [(Blk.new w _ _).cell]; rfl
  have hs : w.heap.size < (w.alloc (.cells #[.slice AU lU cU] 58)).heap.size := by simp
  have HCL := hide (cloneFlat_any A cap fs _ (hr.below B1 (Nat.le_refl _) B1.size) hl)
  have HU := hide (hu.below B1 (Nat.le_refl _)); have HB := hide B1; have HC := hide hcell
  clear hr hu B1 hcell
  go_enter Try.func153, Try.ntmps153
  go_wp2_with fail
  refine HCL.out.mono ?_; rintro e w2 ⟨r2, rfl, ho, hb⟩
  have hsz2 := hb.size
  have hD := DeleteFuncFlat_is 206 #[.pointer (some ⟨w.heap.size, 0, none⟩)] (fun z => decide (0 ≤ whereD ds z.ident)) _ r2 fs w2 ho hl hsz2 (fun _ _ => by kernel_rfl)
    (fun W c hW => loose1_any _ ds _ _ _ _ w.heap.size W (((bcell (hb.trans hW)).1 _ _ hs).trans HC.out) (HU.out.below (hb.trans hW) (Nat.le_refl _)))
  have HD := hide hD; have HB2 := hide (bstep HB.out hb (Nat.le_of_lt hs)); clear hD hb ho
  go_wp2_with fail
  refine HD.out.mono ?_; rintro e w3 ⟨r3, rfl, ho, hb⟩
  have HO := hide ho; have HB3 := hide (HB2.out.trans (hb.mono (Nat.le_of_lt hs))); clear ho hb
  go_wp2_with fail
  go_ret
  exact ⟨_, rfl, HO.out.mono (Nat.le_of_lt hs), HB3.out⟩
theorem flatIds_any (v : Value) (fs : List SFlat) (w : World) (hv : Is 4 SFlat.enc w v fs) (hl : fs.length ≤ 1048576) :
    Calls Try.prog 158 #[v] w fun e w' => ∃ r, e = .returned r ∧ Own 1 encI 3 w' w.heap.size r (fs.map SFlat.ident) ∧ Below w.heap.size w w' := by
  obtain ⟨A, cap, rfl, hr, _, _⟩ := hv
  generalize hB : w.heap.size = B at hr ⊢
  have HBB := hide hB; clear hB
  have HR := hide hr; clear hr
  go_enter Try.func158, Try.ntmps158
  go_wp2_with fail
  go_loopw [3, 8] (fun s i wr => ∃ k : Nat, k ≤ fs.length ∧ i = .int .i64 (k : Int) ∧ Own 1 encI 3 wr B s ((fs.take k).map SFlat.ident) ∧ Below B w wr) (fun _ i _ => fs.length - (intOf i).toNat)
  case atStart => exact ⟨0, Nat.zero_le _, rfl, Own.nil, Below.refl _ _⟩
  case round =>
    obtain ⟨k, hk, rfl, hown, hbel⟩ := hrel
    have hsz : B ≤ wr.heap.size := by have := hbel.size; have := HBB.out; omega
    by_cases hlt : k < fs.length
    · have hlt' : (k : Int) < fs.length := by omega
      obtain ⟨b, off, rfl, _, c0, c1, c2, c3⟩ := SFlat.cells HR.out hlt hbel
      have hst : (fs.take (k + 1)).map SFlat.ident = (fs.take k).map SFlat.ident ++ [fs[k].ident] := by rw [take_snoc' hlt, List.map_append]; rfl
      have hdl : ((fs.take k).map SFlat.ident).length ≤ 16777216 := by simp; omega
      generalize fs[k].ident = y0 at *; generalize fs[k].wide = y1 at *; generalize fs[k].high = y2 at *; generalize fs[k].grams = y3 at *
      have hk2 := Blk.new wr 68 #[.int .i64 y0, .int .i64 y1, .int .i64 y2, .int .i64 y3]
      have hbx := hbel.alloc hsz (.cells #[.int .i64 y0, .int .i64 y1, .int .i64 y2, .int .i64 y3] 68)
      have ho2 := hown.alloc (.cells #[.int .i64 y0, .int .i64 y1, .int .i64 y2, .int .i64 y3] 68)
      have hsx : B ≤ (wr.alloc (.cells #[.int .i64 y0, .int .i64 y1, .int .i64 y2, .int .i64 y3] 68)).heap.size := Nat.le_trans hsz (by simp)
      have HST := hide hst; clear hst hown hbel
      go_upto_region 5 with fail
      generalize wr.alloc (.cells #[.int .i64 y0, .int .i64 y1, .int .i64 y2, .int .i64 y3] 68) = w4 at *
      generalize wr.heap.size = g4 at *
      obtain ⟨t0, t1, t2, t3⟩ := fl4 hk2
      have HO := hide ho2; clear ho2 c0 c1 c2 c3 hk2
      go_wp2_with ((at_builtin; refine wpList_push1 (k := 1) (enc := encI) _ rfl _ _ 52 rfl 3 (.int .i64 0) 8 Try.underlying52 infoI rfl (by omega) (by omega) encI_one (B) _ ((fs.take k).map SFlat.ident) rfl (HO.out) (y0) _ rfl rfl (hdl) (hsx) (hbx) (Nat.le_refl _) rfl ?_; intro v1 w1 ho1 hb1 hg1))
      go_round
      case measure => (simp [intOf] <;> omega)
      case rel => exact ⟨k + 1, by omega, by go_num, by rw [HST.out]; exact ho1, hb1⟩
    · have hkk : k = fs.length := by omega
      subst hkk
      have HO := hide hown; have HB := hide hbel; clear hown hbel
      go_wp2_with fail
      go_ret
      have := HO.out
      rw [List.take_length] at this
      exact ⟨_, rfl, this, HB.out⟩
end Go.Proofs.Ytdbcilinoieabaa
