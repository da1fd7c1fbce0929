/- Contract of Families in spec: the Lean function famV, as rows of the call's own. Conditions: the strings' lengths fit. -/
import Derived.Test.YtapbnggdclpokaaL7R
namespace Go.Proofs.Ytapbnggdclpokaa
open Go.RowKit Go.Lib
set_option linter.unusedVariables false
/-- append of one element, laid in a new block; the block is the row's, or a new one -/
theorem wpList_pushO {P : Program} {α : Type} {k : Nat} {enc : α → Nat → Value} (w : World) {w0 : World} {cs : Array Value} {ops : Array Oper} {rest : List Oper} {o : Oper} {a : Act} {Q : Exit → Act → World → Prop} (hgd : o.guard = none) (s x : Operand) (t : TypeId)
    (ho : o.op = .call { callee := .builtin .append, args := #[s, x], argTypes := #[t, t] })
    (e : TypeId) (z : Value) (bytes : Nat) (ht : P.underlying t = some (.slice e)) (hi : (P.info? e).map (fun i => (i.zero, i.size, i.bytes)) = some (some z, k, bytes))
    (hzs : z.cells.size = k) (hk : 0 < k) (hby : bytes ≤ 4096) (hone : ∀ x j, (enc x j).oneCell' = true)
    (base : Nat) (v : Value) (xs : List α) (hs : a.eval s = v) (hown : Own k enc e w0 base v xs) (y : α) (c : Nat) (hx : a.eval x = .slice (some ⟨w0.heap.size, 0, none⟩) 1 c) (hcs : cs.toList = flat k enc [y])
    (hlen : xs.length ≤ 16777216) (hbase : base ≤ w0.heap.size) (hw : w = w0.alloc (.cells cs e))
    (h : ∀ v' w', Own k enc e w' base v' (xs ++ [y]) → (w0.alloc (.cells cs e)).grownBy w' v.ownBlock → (∀ g, v'.ownBlock = some g → v.ownBlock = some g ∨ w0.heap.size ≤ g) → wpList P ops Q rest (a.put o.dst v') w') : wpList P ops Q (o :: rest) a w := by
  subst hw
  obtain ⟨i, h1, h2, h3, h4⟩ := info_parts' hi
  have hb : (xs.length + 1) * bytes ≤ 16777217 * 4096 := Nat.mul_le_mul (by omega) hby
  obtain ⟨v', w', hr, g2, g3, g4⟩ := push_run (P := P) (w := w0.alloc (.cells cs e)) t o.type e i z bytes ht h1 h2 h3 h4 hzs hk hone base v xs (hown.alloc _) ⟨w0.heap.size, 0, none⟩ c [y] (src_new w0 hcs) (by simp only [List.length_singleton]; omega) (by simp only [maxLen, List.length_singleton]; omega) (by simp; omega)
  refine wpList_plain hgd fun _ hK => ?_
  unfold Oper.wp execOp
  rw [List.length_singleton] at hr
  simp only [ho, resolve, invoke, builtin, Sem.run_bind, Sem.run_pure, Result.andThen_ok, List.map_toArray, List.map_cons, List.map_nil, hs, hx, hr]
  exact hK _ _ (h v' w' g2 g3 fun g hg => (g4 g hg).imp id fun h => by simp at h; omega)
theorem OwnG.aside {w w' : World} {lo hi : Nat} {v : Value} {rs : List SRow} {row : Option Nat} (h : OwnG w lo hi v rs) (hg : w.grownBy w' row) (h1 : ∀ g, row = some g → v.ownBlock ≠ some g) (h2 : ∀ g, row = some g → ∀ (i : Nat) (r : SRow), rs[i]? = some r → r.v.ownBlock ≠ some g) : OwnG w' lo hi v rs :=
  ⟨h.spine.grown hg (fun g hv e => h1 g e hv), h.spineHi, fun i r hr => (h.rows i r hr).grown hg (fun g hv e => h2 g e i r hr hv), h.rowHi, h.rowSpine, h.sep⟩
def atTo (gs : List (Nat × List Nat)) (e : Nat) : Nat → Int
  | 0 => -1
  | j + 1 => if (gs.getD j (0, [])).1 = e then (j : Int) else atTo gs e j
theorem atTo_bd (gs : List (Nat × List Nat)) (e : Nat) : ∀ j, -1 ≤ atTo gs e j ∧ atTo gs e j < j
  | 0 => by simp [atTo]
  | j + 1 => by have := atTo_bd gs e j; unfold atTo; split <;> omega
section
variable {xs : List SMaker}
theorem fam_at (hg : goodB xs = true) {n : Nat} (hn : n ≤ xs.length) {gs : List (Nat × List Nat)} (hI : GrI xs n gs) {rs : List SRow} (hm : rs.map (·.xs) = famL xs gs) :
    (atTo gs (endI xs n) gs.length = -1 ∧ addG gs (endI xs n) n = gs ++ [(endI xs n, [n])] ∧ famL xs (addG gs (endI xs n) n) = famL xs gs ++ [[idOf xs n]]) ∨
    (∃ k, k < rs.length ∧ atTo gs (endI xs n) gs.length = (k : Int) ∧ (addG gs (endI xs n) n).map (·.1) = gs.map (·.1) ∧ famL xs (addG gs (endI xs n) n) = (famL xs gs).set k ((famL xs gs).getD k [] ++ [idOf xs n])) := by
  have hlen : rs.length = gs.length := by have := congrArg List.length hm; simpa [famL] using this
  by_cases hany : gs.any (fun g => g.1 == endI xs n) = true
  · right
    obtain ⟨g0, hg0, he0⟩ := List.any_eq_true.1 hany
    obtain ⟨k, hk, rfl⟩ := List.getElem_of_mem hg0
    have he : gs[k].1 = endI xs n := by simpa using he0
    have hother : ∀ i (h : i < gs.length), i ≠ k → gs[i].1 ≠ endI xs n := fun i h hik e => by
      rcases Nat.lt_or_gt_of_ne hik with h1 | h1
      · exact List.pairwise_iff_getElem.1 hI.nd i k h hk h1 (by rw [e, he])
      · exact List.pairwise_iff_getElem.1 hI.nd k i hk h h1 (by rw [e, he])
    have hto : ∀ j, j ≤ gs.length → k < j → atTo gs (endI xs n) j = (k : Int) := by
      intro j
      induction j with
      | zero => intro _ h; omega
      | succ j ih =>
        intro hj hkj
        unfold atTo
        by_cases hjk : j = k
        · subst hjk
          rw [List.getD_eq_getElem?_getD, List.getElem?_eq_getElem hk, Option.getD_some, if_pos he]
        · rw [List.getD_eq_getElem?_getD, List.getElem?_eq_getElem (show j < gs.length by omega), Option.getD_some, if_neg (hother j (by omega) hjk)]
          exact ih (by omega) (by omega)
    refine ⟨k, by omega, hto _ (Nat.le_refl _) hk, ?_, ?_⟩
    · unfold addG
      rw [if_pos hany, List.map_map]
      apply List.map_congr_left
      intro g _
      show (if g.1 = endI xs n then (g.1, g.2 ++ [n]) else g).1 = g.1
      split <;> rfl
    · rcases fam_idx hg hn hI hm with ⟨hx, _⟩ | ⟨k2, hk2, hx2, hf2⟩
      · have hrow : rs[k]'(by omega) ∈ rs := List.getElem_mem _
        have h3 := congrArg (fun l => l[k]?) hm
        simp only [famL, List.getElem?_map, List.getElem?_eq_getElem (show k < rs.length by omega), List.getElem?_eq_getElem hk, Option.map_some] at h3
        have hp := (famP_row hg hn hI hn (List.getElem_mem hk)).1
        rw [← Option.some.inj h3, decide_eq_true he] at hp
        unfold idxF at hx
        split at hx
        · omega
        · rename_i hnn
          rw [List.findIdx?_eq_none_iff] at hnn
          have := hnn _ hrow
          rw [hp] at this; simp at this
      · have hkk : k2 = k := by
          refine Decidable.byContradiction fun hne => ?_
          have h3 := congrArg (fun l => l[k2]?) hm
          simp only [famL, List.getElem?_map, List.getElem?_eq_getElem hk2, List.getElem?_eq_getElem (show k2 < gs.length by omega), Option.map_some] at h3
          have hp := (famP_row hg hn hI hn (List.getElem_mem (show k2 < gs.length by omega))).1
          rw [← Option.some.inj h3, decide_eq_false (hother k2 (by omega) hne)] at hp
          unfold idxF at hx2
          split at hx2
          · rename_i i hi
            have hik : i = k2 := by have := Int.ofNat.inj hx2; exact this
            subst hik
            have := (List.findIdx?_eq_some_iff_getElem.1 hi).2.1
            rw [hp] at this; simp at this
          · omega
        rw [← hkk]; exact hf2
  · left
    rw [Bool.not_eq_true] at hany
    have hno : ∀ i (h : i < gs.length), gs[i].1 ≠ endI xs n := fun i h e => by
      rw [List.any_eq_false] at hany
      exact hany gs[i] (List.getElem_mem h) (by simpa using e)
    have hto : ∀ j, j ≤ gs.length → atTo gs (endI xs n) j = -1 := by
      intro j
      induction j with
      | zero => intro _; rfl
      | succ j ih =>
        intro hj
        unfold atTo
        rw [List.getD_eq_getElem?_getD, List.getElem?_eq_getElem (show j < gs.length by omega), Option.getD_some, if_neg (hno j (by omega))]
        exact ih (by omega)
    have ha : addG gs (endI xs n) n = gs ++ [(endI xs n, [n])] := by unfold addG; rw [if_neg (by rw [hany]; decide)]
    exact ⟨hto _ (Nat.le_refl _), ha, by rw [ha]; simp [famL]⟩
end
set_option maxRecDepth 100000 in
set_option maxHeartbeats 8000000 in
theorem specFamilies_is (v : Value) (xs : List SMaker) (w : World) (h : Is 5 SMaker.enc w v xs) (hw : ∀ z ∈ xs, z.wf) :
    Calls Try.prog 37 #[v] w fun e w' => ∃ r, e = .returned (.tuple #[r, .bool (famV xs).2]) ∧ OwnX w' w.heap.size w'.heap.size r (famV xs).1 ∧ Below w.heap.size w w' := by
  have hm := h.len
  have hv : famV xs = if goodB xs then (famL xs (grTo xs xs.length), true) else ([], false) := rfl
  have hgood := fun W hi => l7Good_is v xs W hi hw
  have hb10 := fun (hg : goodB xs = true) => good_len hg
  generalize hB : w.heap.size = B
  have hi0 : Is 5 SMaker.enc (w.alloc (.cells #[] 39)) v xs := h.below (below_alloc w _) (Nat.le_refl _)
  have hbe : Below B w (w.alloc (.cells #[] 39)) := by subst hB; exact below_alloc w _
  have hsz : (w.alloc (.cells #[] 39)).heap.size = B + 1 := by subst hB; simp
  have hg0 : OwnG (w.alloc (.cells #[] 39)) B (B + 1) (.slice (some ⟨B, 0, none⟩) 0 0) [] := by
    subst hB
    exact ⟨Own.made (cs := #[]) rfl (Nat.le_refl _) (Blk.new _ _ _) rfl (Nat.zero_le _) Filled.zero, fun g hg => by have : w.heap.size = g := Option.some.inj hg; omega, by simp, by simp, by simp, by simp⟩
  have HORIG := hide h
  obtain ⟨AL, cl, rfl, _, _, _⟩ := h
  generalize famV xs = fv at *
  generalize hgb : goodB xs = gb at *
  have HGD := hide hgood; have HGB := hide hgb; have HB10 := hide hb10; clear hgood hgb hb10
  have HB := hide hB
  go_enter Try.func37, Try.ntmps37
  go_upto_region 2 with fail
  generalize w.alloc (.cells #[] 39) = W0 at *
  have HBE := hide hbe; have HI := hide hi0; have HG0 := hide hg0; clear hbe hi0 hg0
  go_wp2_with fail
  refine (HGD.out _ HI.out).mono ?_; rintro e w1 ⟨rfl, hb1⟩
  have B1 := hide (bstep HBE.out hb1 (by omega))
  have G1 := hide (HG0.out.below hb1)
  have hs1 := hb1.size
  clear HBE HI hb1 HG0
  cases gb with
  | false =>
    have HV := hide hv; clear hv
    go_wp2_with fail
    go_ret2
    exact ⟨_, by rw [HV.out]; rfl, ⟨[], by rw [HV.out]; rfl, G1.out.mono (Nat.le_refl _) (by omega)⟩, B1.out⟩
  | true =>
    simp only [if_true] at hv
    have HV := hide hv; clear hv
    have hln := HB10.out (by trivial)
    have hG := HGB.out
    have E1 := hide (own_emptyI w1 (show B ≤ w1.heap.size by omega))
    have G2 := hide (G1.out.below (below_alloc w1 (.cells #[] 3)))
    have B2 := hide (B1.out.alloc (show B ≤ w1.heap.size by omega) (.cells #[] 3))
    have hs2 : (w1.alloc (.cells #[] 3)).heap.size = w1.heap.size + 1 := by simp
    clear G1 B1
    go_upto_region 6 with fail
    generalize w1.alloc (.cells #[] 3) = W2 at *
    generalize w1.heap.size = g1 at *
    go_wp2_with fail
    go_loopw [4, 5, 6] (fun s e i wr => ∃ (n : Nat) (rs : List SRow) (hi : Nat), n ≤ xs.length ∧ i = .int .i64 (n : Int) ∧ rs.map (·.xs) = famL xs (grTo xs n) ∧ OwnG wr B hi s rs ∧ hi ≤ wr.heap.size ∧ B ≤ hi ∧ Own 1 encI 3 wr B e (ints ((grTo xs n).map (·.1))) ∧ (∀ g, e.ownBlock = some g → ∀ (i : Nat) (r : SRow), rs[i]? = some r → r.v.ownBlock ≠ some g) ∧ Below B w wr) (fun _ _ i _ => xs.length - (intOf i).toNat)
    case atStart => exact ⟨0, [], B + 1, Nat.zero_le _, rfl, rfl, G2.out, by omega, by omega, E1.out, by simp, B2.out⟩
    case round =>
      clear E1 G2 B2
      obtain ⟨n, rs, hi, hn, rfl, hmap, hG0, hhi, hlo, hE, hsep, hbel⟩ := hrel
      have his := HORIG.out.below hbel (by omega)
      have hlen := famL_len hmap
      have hBr : B ≤ wr.heap.size := by omega
      by_cases hlt : n < xs.length
      · have hlt' : (n : Int) < xs.length := by omega
        have hl := lineL_from hG hlt
        have hll := lineL_len xs n
        have hcall := l7Line_is _ xs n wr his (lineL xs n) hl hll
        have hfa := fam_at hG hn (grTo_I n) hmap
        have hst : grTo xs (n + 1) = addG (grTo xs n) (endI xs n) n := rfl
        have hne := hl.ne
        have hpos : 0 < (lineL xs n).length := by cases hh : lineL xs n with | nil => exact absurd hh hne | cons a b => simp
        have hend : (lineL xs n)[(lineL xs n).length - 1]? = some (endI xs n) := by rw [List.getElem?_eq_getElem (by omega), end_last xs n (m := (lineL xs n).length - 1) (by omega) (by omega)]
        have hcn := (grTo_I (xs := xs) n).cnt
        clear his
        obtain ⟨A8, c8, he8, hr8, _, _⟩ := HORIG.out
        injection he8 with e1 e2 e3; subst e1 e3; clear e2
        obtain ⟨b, off, rfl, hbw, c0, _⟩ := SMaker.cells hr8 hlt (Below.refl _ _)
        rw [hB] at hbw
        have hid : idOf xs n = xs[n].ident := by unfold idOf; rw [SMaker.at_lt hlt]
        rw [← hid] at c0
        generalize grTo xs n = gs at *
        have hel : (ints (gs.map (·.1))).length = gs.length := by simp [ints]
        obtain ⟨AG, cG, rfl, _, _, _⟩ := hG0.spine.is
        obtain ⟨AE, cE, rfl, _, _, _⟩ := hE.is
        rw [hel] at hE hsep ⊢
        generalize lineL xs n = l at *
        generalize endI xs n = ee at *
        generalize idOf xs n = y0 at *
        have HFA := hide hfa; have HST := hide hst; have HMAP := hide hmap; have HC := hide hcall; have HG0 := hide hG0; have HE := hide hE; have HSEP := hide hsep; have HBL := hide hbel; have HEND := hide hend
        clear hfa hst hmap hcall hG0 hE hsep hbel hr8 hid hl hne hend
        go_wp2_with fail
        refine HC.out.mono ?_; rintro e w2 ⟨r, rfl, ho, hb2⟩
        replace HG0 := hide (HG0.out.below hb2); replace HE := hide (HE.out.below hb2); replace HBL := hide (bstep HBL.out hb2 hBr)
        have hs3 := hb2.size
        obtain ⟨Ar, cr, rfl, hr, _, _⟩ := ho.is
        have hil : (ints l).length = l.length := by simp [ints]
        rw [hil]
        obtain ⟨br, or', rfl, hbr, hc⟩ := hr.get (i := l.length - 1) (by omega)
        have d0 := hc 0 (by omega)
        have hiv : (ints l)[l.length - 1]'(by omega) = (ee : Int) := by
          have h1 : (ints l)[l.length - 1]? = some (ee : Int) := by simp [ints, HEND.out]
          rw [List.getElem?_eq_getElem (by omega)] at h1
          exact Option.some.inj h1
        rw [hiv] at d0
        simp only [encI, Nat.mul_one, Nat.add_zero] at d0
        have hidx : ((l.length : Int) - 1).toNat = l.length - 1 := by omega
        have ix0 : (0 : Int) ≤ (l.length : Int) - 1 := by omega
        have ix1 : (l.length : Int) - 1 < (l.length : Int) := by omega
        have c1 := (HBL.out.cell (p := ⟨b, off + n * 5, none⟩) hbw).trans c0
        have HC0 := hide c0
        clear c0 ho hr hc hiv hb2 HC HEND
        obtain ⟨AE2, cE2, heE, hrE, _, _⟩ := HE.out.is
        rw [hel] at heE
        injection heE with e1 e2 e3; subst e1 e3; clear e2
        have HRE := hide hrE; clear hrE
        go_upto_region 12 with fail
        go_wp2_with fail
        go_loop [9, 10] (fun t j => ∃ k : Nat, k ≤ gs.length ∧ j = .int .i64 (k : Int) ∧ t = .int .i64 (atTo gs ee k)) (fun _ j => gs.length - (intOf j).toNat)
        case atStart => exact ⟨0, Nat.zero_le _, rfl, rfl⟩
        case round =>
          obtain ⟨j, hj, rfl, rfl⟩ := hrel
          by_cases hjl : j < gs.length
          · have hjl' : (j : Int) < gs.length := by omega
            obtain ⟨be, oe, rfl, hbe2, hce⟩ := HRE.out.get (i := j) (by rw [hel]; exact hjl)
            have f0 := hce 0 (by omega)
            have hiv : (ints (gs.map (·.1)))[j]'(by rw [hel]; exact hjl) = (gs[j].1 : Int) := by simp [ints]
            rw [hiv] at f0
            simp only [encI, Nat.mul_one, Nat.add_zero] at f0
            have hat : atTo gs ee (j + 1) = if gs[j].1 = ee then (j : Int) else atTo gs ee j := by
              show (if (gs.getD j (0, [])).1 = ee then (j : Int) else atTo gs ee j) = _
              rw [List.getD_eq_getElem?_getD, List.getElem?_eq_getElem hjl]; rfl
            have HAT := hide hat; clear hat hce hiv
            by_cases hq : gs[j].1 = ee
            · rw [hq] at f0
              have HQ := hide hq
              go_wp2_with fail
              go_round
              case measure => simp [intOf]; omega
              case rel => exact ⟨j + 1, by omega, by go_num, by rw [HAT.out, if_pos HQ.out]⟩
            · have hq2 : ¬ (gs[j].1 : Int) = (ee : Int) := by omega
              have hq3 : ((gs[j].1 : Int) == (ee : Int)) = false := by simpa using hq2
              have HQ := hide hq
              go_wp2_with fail
              go_round
              case measure => simp [intOf]; omega
              case rel => exact ⟨j + 1, by omega, by go_num, by rw [HAT.out, if_neg HQ.out]⟩
          · have hjg : j = gs.length := by omega
            subst hjg
            rcases HFA.out with ⟨ha, had, hft⟩ | ⟨k, hk, ha, hmf, hft⟩
            · rw [ha]
              have HAD := hide had; have HFT := hide hft; clear ha had hft
              have hgsl : gs.length ≤ 10 := by omega
              have hAEB : ∀ g, Value.ownBlock (.slice AE gs.length cE) = some g → B ≤ g := fun g hg => (HE.out.lt g hg).1
              have HNE := hide (own_neF HE.out HG0.out.spine (by decide))
              go_wp2_with (first | (at_builtin; refine wpList_pushO (k := 1) (enc := encI) _ rfl _ _ 39 rfl 3 (.int .i64 0) 8 Try.underlying39 infoI rfl (by omega) (by omega) encI_one B _ (ints (gs.map (·.1))) rfl HE.out (ee : Int) _ rfl rfl (by omega) (by omega) rfl ?_; intro v1 w3 ho1 hg1 hnb; have HNB := hide hnb; have hs4 := hg1.size; simp at hs4; have HG3 := hide ((HG0.out.below (below_alloc w2 (.cells #[.int .i64 (ee : Int)] 3))).aside hg1 (fun g e e2 => HNE.out g e e2) (fun g e i r hr => HSEP.out g e i r hr)); have HBL3 := hide ((HBL.out.alloc (show B ≤ w2.heap.size by omega) (.cells #[.int .i64 (ee : Int)] 3)).grown hg1 (by simp <;> omega) (fun g e => hAEB g e)); have c3 := (HBL3.out.cell (p := ⟨b, off + n * 5, none⟩) hbw).trans HC0.out; have HO3 := hide ho1; have HSP := hide (HG3.out.below (below_alloc w3 (.cells #[.int .i64 y0] 3))).spine; have hsz31 : (w3.alloc (.cells #[.int .i64 y0] 3)).heap.size = w3.heap.size + 1 := (by simp); obtain ⟨g9, c9, cs9, rfl, hb9, _, _, _, _, _⟩ := own_blk ho1 (by simp); clear ho1 hg1 hnb) | (at_builtin; refine wpList_push1s (k := 1) (enc := SRow.enc) _ rfl _ _ 45 rfl 39 (.slice none 0 0) 24 Try.underlying45 SRow.info rfl (by omega) (by omega) SRow.one B _ rs rfl HSP.out (⟨[y0], some ⟨w3.heap.size, 0, none⟩, 1⟩ : SRow) _ _ hsz31.symm rfl (by simp [flat, SRow.enc]) (by omega) (by omega) (HBL3.out.alloc (show B ≤ w3.heap.size by omega) (.cells #[.int .i64 y0] 3)) (by omega) rfl ?_; intro v2 w4 ho2 hb2 hg2))
              have HP := hide ((HG3.out.below ((below_alloc w3 (.cells #[.int .i64 y0] 3)).trans (below_alloc (w3.alloc (.cells #[.int .i64 y0] 3)) (.cells #[SRow.v ⟨[y0], some ⟨w3.heap.size, 0, none⟩, 1⟩] 39) |>.mono (by simp)))).pushF (r := ⟨[y0], some ⟨w3.heap.size, 0, none⟩, 1⟩) hlo (by simp; omega) (((own_oneI w3 (Nat.le_refl w3.heap.size) y0).alloc (.cells #[SRow.v ⟨[y0], some ⟨w3.heap.size, 0, none⟩, 1⟩] 39)).mono (by omega)) hg2 ho2)
              have HO4 := hide ((((HO3.out.alloc (.cells #[.int .i64 y0] 3)).alloc (.cells #[SRow.v ⟨[y0], some ⟨w3.heap.size, 0, none⟩, 1⟩] 39))).grown hg2 (fun g h1 h2 => own_neF HO3.out HG3.out.spine (by decide) g h1 h2))
              have hs5 := hg2.size
              simp at hs5
              have hlt9 := (HO3.out.lt g9 rfl).2
              have HSP4 := hide (show ∀ g, Value.ownBlock (.slice (some ⟨g9, 0, none⟩) (ints (gs.map (·.1)) ++ [(ee : Int)]).length c9) = some g → ∀ (i : Nat) (r : SRow), (rs ++ [(⟨[y0], some ⟨w3.heap.size, 0, none⟩, 1⟩ : SRow)])[i]? = some r → r.v.ownBlock ≠ some g from fun g hg i r hr e => by
                have hgg : g9 = g := Option.some.inj hg
                by_cases hil : i < rs.length
                · rw [List.getElem?_append_left hil] at hr
                  rcases HNB.out g (by rw [← hgg]; rfl) with h1 | h1
                  · exact HSEP.out g h1 i r hr e
                  · have := HG0.out.rowHi i r hr g e; omega
                · have h1 := (List.getElem?_eq_some_iff.1 hr).1
                  have hkl : i = rs.length := by simp at h1; omega
                  subst hkl
                  simp at hr
                  subst hr
                  have h2 : w3.heap.size = g := Option.some.inj e
                  omega)
              have HB4 := hide hb2; clear ho2 hb2 hg2
              go_wp2_with fail
              go_roundw
              case measure => simp [intOf]; omega
              case rel => exact ⟨n + 1, _, _, by omega, by go_num, by rw [List.map_append, HMAP.out, HST.out, HFT.out]; rfl, HP.out, Nat.le_refl _, by omega, by rw [HST.out, HAD.out, List.map_append]; simpa [ints] using HO4.out, HSP4.out, HB4.out⟩
            · rw [ha]
              have HMF := hide hmf; have HFT := hide hft; clear ha hmf hft
              have hk' : (k : Int) < rs.length := by omega
              have hk0 : ¬ (k : Int) < 0 := by omega
              obtain ⟨gs0, cap0, cs0, hve, _, hbs, _, _, _, hfs⟩ := own_blk HG0.out.spine (by omega)
              injection hve with e1 e2 e3; subst e1 e3; clear e2
              have hget := List.getElem?_eq_getElem hk
              have hck : cs0[k]? = some (.slice rs[k].A rs[k].xs.length rs[k].cap) := by
                have := hfs k _ hk hget 0 (by omega)
                rw [Nat.mul_one, Nat.add_zero] at this
                exact this
              have q0 : w2.cell? ⟨gs0, k, none⟩ = some (.slice rs[k].A rs[k].xs.length rs[k].cap) := by rw [hbs.cell]; exact hck
              have qf := fun o => hbs.frozen o
              have q1 := ((below_alloc w2 (.cells #[.int .i64 y0] 3)).cell (p := ⟨gs0, k, none⟩) hbs.lt).trans q0
              have c2 := ((below_alloc w2 (.cells #[.int .i64 y0] 3)).cell (p := ⟨b, off + n * 5, none⟩) (by simp only; omega)).trans c1
              have HBS := hide (hbs.alloc (.cells #[.int .i64 y0] 3))
              have R2d := (HG0.out.below (below_alloc w2 (.cells #[.int .i64 y0] 3))).below (Below.refl _ (w2.alloc (.cells #[.int .i64 y0] 3))).drew
              have hrowk := R2d.rows k _ hget
              have HR2 := hide R2d; have HRK := hide hrowk
              have hgse : gs0 < hi := HG0.out.spineHi gs0 rfl
              have hgsB : B ≤ gs0 := (HG0.out.spine.lt gs0 rfl).1
              have hlk := hlen.2 _ (List.getElem_mem hk)
              have hrs := HR2.out.rowSpine k _ hget gs0
              clear R2d hrowk hfs hbs
              go_wp2_with fail
              go_region_law (refine step_push (k := 1) (enc := encI) rfl (.tmp 65) (.tmp 71) 39 rfl 3 (.int .i64 0) 8 Try.underlying39 infoI rfl (by omega) encI_one B _ rs[k].xs (by simp [Act.eval, Act.put]; rfl) HRK.out ⟨w2.heap.size, 0, none⟩ 1 [y0] (by simp [Act.eval, Act.put]) (src_new w2 rfl) (by simp; omega) (by simp; omega) (by simp; omega) ?_; intro v' w' ho1 hg1 hnb; have hq := (hg1.block gs0 (by simp; omega) (fun e => hrs e.symm rfl)).trans HBS.out; have z0 := (show Blk w' gs0 39 cs0 from hq).cell k; rw [hck] at z0; have zf := fun o => (show Blk w' gs0 39 cs0 from hq).frozen o; have HNB := hide hnb; have HG1 := hide hg1; obtain ⟨g9, c9, cs9, rfl, hb9, hbk9, hl9, hm9, hs9, hf9⟩ := own_blk ho1 (by simp); have HO1 := hide ho1; clear ho1 hg1 hnb hq hbk9 hf9)
              all_goals
                go_wp2_with fail
                have hgr : ∀ g, rs[k].v.ownBlock = some g → B ≤ g := fun g hg => (HRK.out.lt g hg).1
                have hsz9 := HG1.out.size
                simp at hsz9
                have hRe := HR2.out.reRow (r' := ⟨rs[k].xs ++ [y0], some ⟨g9, 0, none⟩, c9⟩) hk (by simp; omega) (by simp; omega) HG1.out HO1.out HNB.out
                have hvv : SRow.v ⟨rs[k].xs ++ [y0], some ⟨g9, 0, none⟩, c9⟩ = .slice (some ⟨g9, 0, none⟩) (rs[k].xs.length + 1) c9 := by simp [SRow.v]
                rw [hvv] at hRe
                have hmapk : (rs.set k ⟨rs[k].xs ++ [y0], some ⟨g9, 0, none⟩, c9⟩).map (·.xs) = famL xs (grTo xs (n + 1)) := by
                  rw [HST.out, HFT.out, List.map_set, HMAP.out]
                  congr 1
                  have h3 := congrArg (fun l => l[k]?) HMAP.out
                  simp only [List.getElem?_map, List.getElem?_eq_getElem hk, Option.map_some] at h3
                  rw [List.getD_eq_getElem?_getD, ← h3]; rfl
                have hE3 : Own 1 encI 3 w' B (.slice AE gs.length cE) (ints (gs.map (·.1))) := ((HE.out.alloc (.cells #[.int .i64 y0] 3)).below (Below.refl _ (w2.alloc (.cells #[.int .i64 y0] 3))).drew).grown HG1.out (fun g hg e => HSEP.out g hg k _ hget e)
                have hEs : ∀ g, Value.ownBlock (.slice AE gs.length cE) = some g → g ≠ gs0 := fun g hg e => own_neF HE.out HG0.out.spine (by decide) g hg (by rw [e]; rfl)
                have hlE : ∀ g, Value.ownBlock (.slice AE gs.length cE) = some g → g < w2.heap.size := fun g hg => (HE.out.lt g hg).2
                have hsep2 : ∀ g, Value.ownBlock (.slice AE gs.length cE) = some g → ∀ (i : Nat) (r : SRow), (rs.set k ⟨rs[k].xs ++ [y0], some ⟨g9, 0, none⟩, c9⟩)[i]? = some r → r.v.ownBlock ≠ some g := fun g hg i r hr e => by
                  by_cases hik : k = i
                  · subst hik
                    rw [List.getElem?_set_self hk] at hr
                    have hr2 := (Option.some.inj hr).symm
                    subst hr2
                    rcases HNB.out g e with h1 | h1
                    · exact HSEP.out g hg k _ hget h1
                    · have := hlE g hg; simp at h1; omega
                  · rw [List.getElem?_set_ne hik] at hr
                    exact HSEP.out g hg i r hr e
                have hbw3 : Below B w w' := ((HBL.out.alloc (show B ≤ w2.heap.size by omega) (.cells #[.int .i64 y0] 3)).drew).grown HG1.out (by simp <;> omega) (fun g e => hgr g e)
                refine ⟨⟨n + 1, _, _, by omega, by go_num, hmapk, hRe, by simp, by omega, by rw [HST.out, HMF.out]; exact hE3.setCell (p := ⟨gs0, k, none⟩) hEs _, hsep2, hbw3.setCell (p := ⟨gs0, k, none⟩) hgsB _⟩, by simp [intOf]; omega⟩
      · have hnl : n = xs.length := by omega
        have HX := hide (show OwnX wr B wr.heap.size _ fv.1 from ⟨rs, by rw [hmap, hnl, HV.out], hG0.mono (Nat.le_refl _) hhi⟩)
        have HBL := hide hbel; clear hG0 hbel hE hsep his
        go_wp2_with fail
        go_ret2
        exact ⟨_, by rw [HV.out]; rfl, HX.out, HBL.out⟩
end Go.Proofs.Ytapbnggdclpokaa
