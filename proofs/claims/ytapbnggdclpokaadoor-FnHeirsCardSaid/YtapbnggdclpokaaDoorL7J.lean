/- Contract of DeleteFunc over makers of the call's own: the list of those that stay. Conditions: the function answers p in whatever world in which what lay below base stays. -/
import Derived.Test.YtapbnggdclpokaaDoorL7I
import Derived.Lib.SliceRun
namespace Go.Proofs.YtapbnggdclpokaaDoor
open Go.RowKit Go.Lib
set_option linter.unusedVariables false
theorem run_clear_cells {P : Program} (w : World) (t e ty : TypeId) (z : Value) (k : Nat) (ht : P.underlying t = some (.slice e)) (hv : ∀ w, (zeroValue e).run P w = .ok z w) (hk : z.cells.size = k) (h1 : ∀ u ∈ z.cells, u.oneCell' = true) (b o n c : Nat) (hn : 0 < n)
    (hc : ∀ j, j < n * k → (w.cell? ⟨b, o + j, none⟩).isSome = true) (hf : ∀ j, j < n * k → w.frozen? ⟨b, o + j, none⟩ = false) :
    (Builtin.clear_ #[t] ty #[.slice (some ⟨b, o, none⟩) n c]).run P w = .ok (.tuple #[]) (w.setCells b o (Builtin.zeroCells z.cells n).toList) := by
  have hlen : (Builtin.zeroCells z.cells n).toList.length = n * k := by simp [Builtin.zeroCells, hk]
  have hone : ∀ u ∈ (Builtin.zeroCells z.cells n).toList, u.oneCell' = true := by
    intro u hu
    simp only [Builtin.zeroCells, Array.toList_map, List.mem_map, Array.mem_toList_iff, Array.mem_range] at hu
    obtain ⟨i, hi, rfl⟩ := hu
    have h0 : 0 < z.cells.size := by
      rcases Nat.eq_zero_or_pos z.cells.size with h0 | h0
      · rw [h0] at hi; omega
      · exact h0
    rw [getElem!_pos z.cells _ (Nat.mod_lt _ h0)]
    exact h1 _ (Array.getElem_mem _)
  have hst := run_storeCells_cells (P := P) b o (Builtin.zeroCells z.cells n).toList 0 w (by rw [hlen]; simpa using hc) (by rw [hlen]; simpa using hf) hone
  simp only [Nat.add_zero] at hst
  obtain ⟨m, rfl⟩ : ∃ m, n = m + 1 := ⟨n - 1, by omega⟩
  simp [Builtin.clear_, run_underlying ht, hv, hst]
theorem zero_run {P : Program} {t : TypeId} {z : Value} {s b : Nat} (h : (P.info? t).map (fun i => (i.zero, i.size, i.bytes)) = some (some z, s, b)) (w : World) : (zeroValue t).run P w = .ok z w := by
  obtain ⟨i, h1, h2, _, _⟩ := info_parts' h
  simp [zeroValue, typeInfo, h1, h2]
theorem Blk.setCells {g : Nat} {t : TypeId} : ∀ (vs : List Value) (o : Nat) (w : World) (cs : Array Value), Blk w g t cs → ∃ cs', Blk (w.setCells g o vs) g t cs' ∧ cs'.size = cs.size ∧ ∀ m, m < o → cs'[m]? = cs[m]?
  | [], o, w, cs, h => ⟨cs, h, rfl, fun _ _ => rfl⟩
  | v :: r, o, w, cs, h => by
    obtain ⟨cs', h1, h2, h3⟩ := Blk.setCells r (o + 1) _ _ (h.set o v)
    exact ⟨cs', h1, by simpa using h2, fun m hm => by rw [h3 m (by omega), Array.getElem?_setIfInBounds_ne (by omega)]⟩
theorem below_setCells {B g : Nat} (hg : B ≤ g) : ∀ (vs : List Value) (o : Nat) (a w : World), Below B a w → Below B a (w.setCells g o vs)
  | [], o, a, w, h => h
  | v :: r, o, a, w, h => below_setCells hg r (o + 1) a _ (h.setCell (p := ⟨g, o, none⟩) hg v)
def kept (p : SMaker → Bool) (xs : List SMaker) (j : Nat) : List SMaker := (xs.take j).filter fun c => !p c
theorem kept_succ {p : SMaker → Bool} {xs : List SMaker} {j : Nat} (h : j < xs.length) : kept p xs (j + 1) = kept p xs j ++ if p xs[j] then [] else [xs[j]] := by
  unfold kept
  rw [take_snoc' h, List.filter_append]
  congr 1
  cases hp : p xs[j] <;> simp [hp]
theorem kept_le (p : SMaker → Bool) (xs : List SMaker) (j : Nat) : (kept p xs j).length ≤ j := by
  unfold kept
  exact Nat.le_trans (List.length_filter_le _ _) (by simp; omega)
theorem kept_all {p : SMaker → Bool} {xs : List SMaker} {j : Nat} (h : ∀ c ∈ xs.take j, p c = false) : kept p xs j = xs.take j := by
  unfold kept
  rw [List.filter_eq_self]
  intro c hc; rw [h c hc]; rfl
theorem idxF_cases {α : Type} (p : α → Bool) (xs : List α) : (idxF p xs = -1 ∧ ∀ c ∈ xs, p c = false) ∨ ∃ i, ∃ h : i < xs.length, idxF p xs = (i : Int) ∧ p xs[i] = true ∧ ∀ c ∈ xs.take i, p c = false := by
  unfold idxF
  rcases h : xs.findIdx? p with _ | i
  · exact .inl ⟨rfl, by simpa [List.findIdx?_eq_none_iff] using h⟩
  · rw [List.findIdx?_eq_some_iff_getElem] at h
    obtain ⟨hi, h1, h2⟩ := h
    refine .inr ⟨i, hi, rfl, h1, fun c hc => ?_⟩
    obtain ⟨j, hj, rfl⟩ := List.mem_iff_getElem.1 hc
    have hj2 : j < i := by simp at hj; omega
    rw [List.getElem_take]
    simpa using h2 j hj2
theorem filled_cells {w : World} {g : Nat} {cs : Array Value} {n : Nat} {xs : List SMaker} (hb : Blk w g 27 cs) {i : Nat} (hi : i < xs.length) (hc : ∀ c, c < 5 → cs[i * 5 + c]? = some (SMaker.enc xs[i] c)) :
    w.cell? ⟨g, i * 5, none⟩ = some (.int .i64 xs[i].ident) ∧ w.cell? ⟨g, i * 5 + 1, none⟩ = some (.string xs[i].name) ∧ w.cell? ⟨g, i * 5 + 2, none⟩ = some (.int .i64 xs[i].frm) ∧ w.cell? ⟨g, i * 5 + 3, none⟩ = some (.int .i64 xs[i].untl) ∧ w.cell? ⟨g, i * 5 + 4, none⟩ = some (.int .i64 xs[i].heir) := by
  refine ⟨?_, ?_, ?_, ?_, ?_⟩
  · rw [hb.cell]; exact hc 0 (by omega)
  · rw [hb.cell]; exact hc 1 (by omega)
  · rw [hb.cell]; exact hc 2 (by omega)
  · rw [hb.cell]; exact hc 3 (by omega)
  · rw [hb.cell]; exact hc 4 (by omega)
set_option maxHeartbeats 2000000 in
theorem DeleteFunc_is (g : FuncId) (cp : Array Value) (p : SMaker → Bool) (base : Nat) (v : Value) (xs : List SMaker) (w : World) (ho : Own 5 SMaker.enc 27 w base v xs) (hm : xs.length ≤ 1048576) (hbase : base ≤ w.heap.size)
    (eg : ∀ args w, (callFunc g args).run Tryd.prog w = .ok (.enter g args) w)
    (hp : ∀ (W : World) (c : SMaker), Below base w W → Calls Tryd.prog g (#[.agg #[.int .i64 c.ident, .string c.name, .int .i64 c.frm, .int .i64 c.untl, .int .i64 c.heir]] ++ cp) W fun e w' => e = .returned (.bool (p c)) ∧ Below W.heap.size W w') :
    Calls Tryd.prog 50 #[v, .func (.func g) #[] cp] w fun e w' => ∃ v', e = .returned v' ∧ Own 5 SMaker.enc 27 w' base v' (xs.filter fun c => !p c) ∧ Below base w w' := by
  obtain ⟨A, cap, rfl, hr, hcm, hle⟩ := ho.row
  have hpred : SMaker.Pred g cp p w.heap.size w := fun W c hb => (hp W c (hb.mono hbase)).mono fun e w' ⟨h1, h2⟩ => ⟨h1, bstep hb h2 hb.size⟩
  have hidx := IndexFuncMaker_any g cp p A cap xs w hr (by omega) eg hpred
  have HP := hide hp; have HO := hide ho; clear hp ho hpred hr
  rcases idxF_cases p xs with ⟨h1, h2⟩ | ⟨i0, hi0, h1, h2, h3⟩
  · rw [h1] at hidx
    have hfl : (xs.filter fun c => !p c) = xs := by rw [List.filter_eq_self]; intro c hc; rw [h2 c hc]; rfl
    rw [hfl]
    have HX := hide hidx; clear hidx h1 h2 hfl
    go_enter Tryd.func50, Tryd.ntmps50
    go_wp2_with (go_at_call 68; refine HX.out.mono ?_; rintro e w1 ⟨rfl, hb1⟩)
    go_ret
    exact ⟨_, rfl, HO.out.below hb1, hb1.mono hbase⟩
  · rw [h1] at hidx
    have hpos : 0 < xs.length := by omega
    have hne1 : ((i0 : Int) == -1) = false := beq_eq_false_iff_ne.2 (by omega)
    obtain ⟨bg, gc, cs0, hve, hgb, hblk0, hle2, hcm2, hs0, hf0⟩ := own_some HO.out hpos
    injection hve with hA1 hA2 hA3; subst hA1 hA3
    have HX := hide hidx; have H2 := hide h2; have H3 := hide h3; have HBK := hide hblk0; have HF0 := hide hf0; clear hidx h1 h2 h3 hblk0 hf0
    go_enter Tryd.func50, Tryd.ntmps50
    go_wp2_with (go_at_call 68; refine HX.out.mono ?_; rintro e w1 ⟨rfl, hb1⟩)
    have hbk1 := HBK.out.below hb1 HBK.out.lt
    have B1 := hb1.mono hbase
    have HBK1 := hide hbk1; clear hbk1 hb1
    go_loopw [5, 6] (fun a c wr => ∃ (i j : Nat) (cs : Array Value), a = .int .i64 (i : Int) ∧ c = .int .i64 (j : Int) ∧ i < j ∧ j ≤ xs.length ∧ i = (kept p xs j).length ∧ Blk wr bg 27 cs ∧ cs.size = cs0.size ∧ Filled 5 SMaker.enc cs i (kept p xs j) ∧ (∀ t x, j ≤ t → xs[t]? = some x → ∀ c, c < 5 → cs[t * 5 + c]? = some (SMaker.enc x c)) ∧ Below base w wr) (fun _ c _ => xs.length - (intOf c).toNat)
    case atStart =>
      have hk0 : kept p xs (i0 + 1) = xs.take i0 := by
        rw [kept_succ hi0, H2.out, kept_all H3.out]; simp
      refine ⟨i0, i0 + 1, cs0, rfl, by go_num, by omega, by omega, by rw [hk0]; simp; omega, HBK1.out, rfl, ?_, ?_, B1⟩
      · rw [hk0]
        intro t x ht hx c hc
        rw [List.getElem?_take_of_lt ht] at hx
        exact HF0.out t x (by omega) hx c hc
      · intro t x ht hx c hc
        exact HF0.out t x (List.getElem?_eq_some_iff.1 hx).1 hx c hc
    case round =>
      obtain ⟨i, j, cs, rfl, rfl, hij, hj, hik, hblk, hsz, hfill, hrest, hbel⟩ := hrel
      have hgl := hblk.lt
      have hsb : base ≤ wr.heap.size := Nat.le_trans hbase hbel.size
      have HK := hide hik; have HB := hide hblk; have HS := hide hsz; have HF := hide hfill; have HR := hide hrest; clear hik hblk hsz hfill hrest
      by_cases hlt : j < xs.length
      · obtain ⟨c0, c1, c2, c3, c4⟩ := filled_cells (n := 0) HB.out hlt (fun c hc => HR.out j _ (Nat.le_refl _) (List.getElem?_eq_getElem hlt) c hc)
        have hst := kept_succ (p := p) hlt
        have hcall := fun W (hb : Below base w W) => HP.out W xs[j] hb
        have hxe : xs[j] = ⟨xs[j].ident, xs[j].name, xs[j].frm, xs[j].untl, xs[j].heir⟩ := rfl
        generalize xs[j] = y at *
        obtain ⟨y0, y1, y2, y3, y4⟩ := y
        simp only at c0 c1 c2 c3 c4 hcall
        clear hxe
        have BX := hbel.alloc hsb (.cells #[.int .i64 y0, .string y1, .int .i64 y2, .int .i64 y3, .int .i64 y4] 27)
        have hbk := HB.out.alloc (.cells #[.int .i64 y0, .string y1, .int .i64 y2, .int .i64 y3, .int .i64 y4] 27)
        have hbx : Blk (wr.alloc (.cells #[.int .i64 y0, .string y1, .int .i64 y2, .int .i64 y3, .int .i64 y4] 27)) wr.heap.size 27 (⟨y0, y1, y2, y3, y4⟩ : SMaker).boxed := Blk.new wr _ _
        have hcl := hcall _ BX
        have hsbx : base ≤ (wr.alloc (.cells #[.int .i64 y0, .string y1, .int .i64 y2, .int .i64 y3, .int .i64 y4] 27)).heap.size := Nat.le_trans hsb (by simp)
        have HSBX := hide hsbx; clear hsbx
        have HBX := hide BX; have HBK2 := hide hbk; have HBX2 := hide hbx; clear BX hbk hbx hcall
        cases hq : p ⟨y0, y1, y2, y3, y4⟩ with
        | true =>
          rw [hq] at hcl hst
          have HST := hide hst; have HCL := hide hcl; clear hst hcl hq
          go_wp2_with (go_at_fn g; refine HCL.out.mono ?_; rintro e w5 ⟨rfl, hb5⟩)
          go_round
          case measure => (simp [intOf] <;> omega)
          case rel =>
          have hz : kept p xs (j + 1) = kept p xs j := by rw [HST.out]; simp
          exact ⟨i, j + 1, cs, rfl, by go_num, by omega, by omega, by rw [hz]; exact HK.out, HBK2.out.below hb5 (by simp; omega), HS.out, by rw [hz]; exact HF.out, fun t x ht => HR.out t x (by omega), bstep HBX.out hb5 HSBX.out⟩
        | false =>
          rw [hq] at hcl hst
          have HST := hide hst; have HCL := hide hcl; clear hst hcl hq
          have hil : (i : Int) < xs.length := by omega
          have hszi : i * 5 + 4 < cs.size := by rw [HS.out, hs0]; omega
          go_wp2_with (go_at_fn g; refine HCL.out.mono ?_; rintro e w5 ⟨rfl, hb5⟩; have hbk5 := HBK2.out.below hb5 (by simp; omega); have hbx5 := HBX2.out.below hb5 (by simp); obtain ⟨d0, d1, d2, d3, d4⟩ := boxed_cell hbx5; have B5 := bstep HBX.out hb5 HSBX.out; have g0 := hbk5.some (i := i * 5) (by omega); have g1 := hbk5.some (i := i * 5 + 1) (by omega); have g2 := hbk5.some (i := i * 5 + 2) (by omega); have g3 := hbk5.some (i := i * 5 + 3) (by omega); have g4 := hbk5.some (i := i * 5 + 4) hszi; have hfz := hbk5.frozen; have HBK5 := hide hbk5; clear hb5 hbk5 hbx5)
          go_round
          case measure => (simp [intOf] <;> omega)
          case rel =>
          have hz : kept p xs (j + 1) = kept p xs j ++ [⟨y0, y1, y2, y3, y4⟩] := by rw [HST.out]; simp
          have hfl : Filled 5 SMaker.enc (((((cs.setIfInBounds (i * 5) (.int .i64 y0)).setIfInBounds (i * 5 + 1) (.string y1)).setIfInBounds (i * 5 + 2) (.int .i64 y2)).setIfInBounds (i * 5 + 3) (.int .i64 y3)).setIfInBounds (i * 5 + 4) (.int .i64 y4)) (i + 1) (kept p xs j ++ [⟨y0, y1, y2, y3, y4⟩]) := by
            have hF2 : Filled 5 SMaker.enc cs i (kept p xs j ++ [(⟨y0, y1, y2, y3, y4⟩ : SMaker)]) := fun t x ht hx c hc => HF.out t x ht (by rw [List.getElem?_append_left (by rw [← HK.out]; exact ht)] at hx; exact hx) c hc
            refine hF2.step5' (by rw [List.length_append, ← HK.out]; simp) hszi ?_ ?_ ?_ ?_ ?_
            all_goals (rw [List.getElem_append_right (by rw [← HK.out]; exact Nat.le_refl _)]; simp [← HK.out]; rfl)
          refine ⟨i + 1, j + 1, _, by go_num, by go_num, by omega, by omega, by rw [hz, List.length_append, ← HK.out]; rfl, ((((HBK5.out.set _ _).set _ _).set _ _).set _ _).set _ _, by simp [HS.out], by rw [hz]; exact hfl, ?_, ((((B5.setCell hgb _).setCell hgb _).setCell hgb _).setCell hgb _).setCell hgb _⟩
          intro t x ht hx c hc
          rw [Array.getElem?_setIfInBounds_ne (by omega), Array.getElem?_setIfInBounds_ne (by omega), Array.getElem?_setIfInBounds_ne (by omega), Array.getElem?_setIfInBounds_ne (by omega), Array.getElem?_setIfInBounds_ne (by omega)]
          exact HR.out t x (by omega) hx c hc
      · have hjn : j = xs.length := by omega
        have hin : (i : Int) < xs.length := by omega
        have hkx : kept p xs j = xs.filter fun c => !p c := by rw [hjn]; unfold kept; rw [List.take_length]
        have hsz2 := HS.out
        have hng : ¬ cap = i := by omega
        have hile : i ≤ cap := by omega
        obtain ⟨W', cs', hclr, hbk', hsz', hpre, hbel'⟩ : ∃ W' cs', (∀ ty, (Builtin.clear_ #[32] ty #[.slice (some ⟨bg, i * 5, none⟩) (xs.length - i) (cap - i)]).run Tryd.prog wr = .ok (.tuple #[]) W') ∧ Blk W' bg 27 cs' ∧ cs'.size = cs0.size ∧ (∀ m, m < i * 5 → cs'[m]? = cs[m]?) ∧ Below base w W' := by
          obtain ⟨cs', q1, q2, q3⟩ := Blk.setCells (Builtin.zeroCells (Value.cells (.agg #[.int .i64 0, .string ⟨#[]⟩, .int .i64 0, .int .i64 0, .int .i64 0])) (xs.length - i)).toList (i * 5) wr cs HB.out
          refine ⟨_, cs', fun ty => run_clear_cells wr 32 27 ty (.agg #[.int .i64 0, .string ⟨#[]⟩, .int .i64 0, .int .i64 0, .int .i64 0]) 5 Tryd.underlying32 (fun w => zero_run SMaker.info w) rfl (fun u hu => List.all_eq_true.1 (show ((Value.cells (.agg #[.int .i64 0, .string ⟨#[]⟩, .int .i64 0, .int .i64 0, .int .i64 0])).toList.all fun u => u.oneCell') = true from rfl) u (by simpa using hu)) bg (i * 5) (xs.length - i) (cap - i) (by omega) (fun t ht => ?_) (fun t _ => HB.out.frozen _), q1, by rw [q2, hsz2], q3, below_setCells hgb _ _ _ _ hbel⟩
          have hlt2 : i * 5 + t < cs.size := by rw [hsz2, hs0]; omega
          rw [HB.out.some hlt2]; rfl
        have HB2 := hide hbk'; have HPR := hide hpre; have HKX := hide hkx; clear hbk' hpre hkx hsz2
        go_wp2_with fail
        go_ret
        have hkl : (xs.filter fun c => !p c).length = i := by rw [← HKX.out]; exact HK.out.symm
        refine ⟨_, rfl, .inr ⟨bg, cap, cs', by rw [hkl]; rfl, hgb, HB2.out, by rw [hkl]; exact hile, hcm, by rw [hsz', hs0], ?_⟩, hbel'⟩
        intro t x ht hx c hc
        rw [hkl] at ht
        rw [HPR.out _ (by omega)]
        rw [← HKX.out] at hx
        exact HF.out t x ht hx c hc
end Go.Proofs.YtapbnggdclpokaaDoor
