/- Contract of Families in impl: the Lean function famV, as rows of the call's own. Conditions: the strings' lengths fit. -/
import Derived.Test.YtapbnggdclpokaaL7Q
import Derived.Deep.RegionLaw
namespace Go.Proofs.Ytapbnggdclpokaa
open Go.RowKit Go.Lib
set_option linter.unusedVariables false
theorem push_run {P : Program} {α : Type} {k : Nat} {enc : α → Nat → Value} {w : World} (t ty e : TypeId) (i : TypeInfo) (z : Value) (bytes : Nat) (h1 : P.underlying t = some (.slice e)) (h2 : P.info? e = some i) (h3 : i.zero = some z) (h4 : i.size = k) (h5 : i.bytes = bytes)
    (hzs : z.cells.size = k) (hk : 0 < k) (hone : ∀ x j, (enc x j).oneCell' = true) (base : Nat) (v : Value) (xs : List α) (hown : Own k enc e w base v xs)
    (ad : Addr) (c : Nat) (ys : List α) (hsrc : ∀ j u, (flat k enc ys)[j]? = some u → w.cell? (ad.add j) = some u)
    (hbytes : (xs.length + ys.length) * bytes ≤ 140737488355328) (h63 : xs.length + ys.length ≤ maxLen) (hbase : base ≤ w.heap.size) :
    ∃ v' w', (Builtin.append_ #[t, t] ty #[v, .slice (some ad) ys.length c]).run P w = .ok v' w' ∧ Own k enc e w' base v' (xs ++ ys) ∧ w.grownBy w' v.ownBlock ∧ (∀ g, v'.ownBlock = some g → v.ownBlock = some g ∨ w.heap.size ≤ g) := by
  obtain ⟨v', w', hr, g2, g3, g4⟩ := run_append_own (P := P) w base t ty e i z k bytes h1 h2 h3 h4 h5 hzs hk v xs.length (flat k enc xs) hown.ownsRow ad ys.length c (flat k enc ys) flat_length hsrc (one_cells hone ys) h63 hbytes hbase
  refine ⟨v', w', hr, ?_, g3, ?_⟩
  · rw [← flat_append] at g2
    exact Own.of_ownsRow g2 (by simp)
  rcases hown with ⟨rfl, rfl⟩ | ⟨g, cap, cs, rfl, hb, hblk, hlc, hcm, hsz, hf⟩
  · obtain ⟨v2, w2, hr2, q2, _, _⟩ := run_append_own (P := P) w w.heap.size t ty e i z k bytes h1 h2 h3 h4 h5 hzs hk (.slice none 0 0) 0 [] (World.ownsRow_nil w _ e k) ad ys.length c (flat k enc ys) flat_length hsrc (one_cells hone ys) (by simpa using h63) (by simpa using hbytes) (Nat.le_refl _)
    have he := hr.symm.trans hr2
    injection he with e1 e2
    subst e1 e2
    have hO : Own k enc e w' w.heap.size v' ys := Own.of_ownsRow (by simpa using q2) (by simp)
    exact fun g hg => .inr (hO.lt g hg).1
  · by_cases hroom : xs.length + ys.length ≤ cap
    · have hin : ∀ j, j < (flat k enc ys).length → xs.length * k + j < cs.size := fun j hj => by
        rw [flat_length] at hj
        have hm : (xs.length + ys.length) * k ≤ cap * k := Nat.mul_le_mul_right k hroom
        rw [Nat.add_mul] at hm
        rw [hsz]; omega
      have hrun := run_append_room_cells (P := P) w t ty e i h1 h2 g 0 xs.length cap ad ys.length c (flat k enc ys) (by rw [h4]; exact flat_length) hsrc (one_cells hone ys) hroom
        (fun j hj => by rw [h4, Nat.zero_add, hblk.some (hin j hj)]; rfl) (fun j hj => hblk.frozen _)
      have he := hr.symm.trans hrun
      injection he with e1 e2
      intro g' hg'
      rw [e1] at hg'
      exact .inl hg'
    · obtain ⟨v2, w2, hr2, q2, _⟩ := run_append_arg_grows (P := P) w t ty e i z k bytes h1 h2 h3 h4 h5 hzs hk ⟨g, 0, none⟩ xs.length cap (flat k enc xs) flat_length (fun j u hu => by
          rw [Addr.add_lit, Nat.zero_add, hblk.cell]
          have := flat_of_filled (by rw [hsz]; exact Nat.mul_le_mul_right k hlc) hf
          have hj : j < xs.length * k := by have := (List.getElem?_eq_some_iff.1 hu).1; rwa [flat_length] at this
          rw [← this, List.getElem?_take, if_pos hj] at hu
          simpa using hu) ad ys.length c (flat k enc ys) flat_length hsrc (by omega) h63 hbytes
      have he := hr.symm.trans hr2
      injection he with e1 e2
      subst e1 e2
      rw [← flat_append] at q2
      have hO : Own k enc e w' w.heap.size v' (xs ++ ys) := Own.of_ownsRow q2 (by simp)
      exact fun g hg => .inr (hO.lt g hg).1
/-- append of elements to a row of the call's own, as one step of a region that draws; the block is the row's, or a new one -/
theorem step_push {P : Program} {α : Type} {k : Nat} {enc : α → Nat → Value} {ops : Array Oper} {o : Oper} {a : Act} {w : World} {K : Act → World → Prop} {Q : Exit → Act → World → Prop} {E : Prop} (hgd : o.guard = none) (s x : Operand) (t : TypeId)
    (ho : o.op = .call { callee := .builtin .append, args := #[s, x], argTypes := #[t, t] })
    (e : TypeId) (z : Value) (bytes : Nat) (ht : P.underlying t = some (.slice e)) (hi : (P.info? e).map (fun i => (i.zero, i.size, i.bytes)) = some (some z, k, bytes))
    (hzs : z.cells.size = k) (hk : 0 < k) (hone : ∀ x j, (enc x j).oneCell' = true)
    (base : Nat) (v : Value) (xs : List α) (hs : a.eval s = v) (hown : Own k enc e w base v xs)
    (ad : Addr) (c : Nat) (ys : List α) (hx : a.eval x = .slice (some ad) ys.length c) (hsrc : ∀ j u, (flat k enc ys)[j]? = some u → w.cell? (ad.add j) = some u)
    (hbytes : (xs.length + ys.length) * bytes ≤ 140737488355328) (h63 : xs.length + ys.length ≤ 9223372036854775807) (hbase : base ≤ w.heap.size)
    (h : ∀ v' w', Own k enc e w' base v' (xs ++ ys) → w.grownBy w' v.ownBlock → (∀ g, v'.ownBlock = some g → v.ownBlock = some g ∨ w.heap.size ≤ g) → K (a.put o.dst v') w') : if Region.wanted o (yielded ops a.tmps) = true then Oper.wp P o a w K Q else E := by
  have hw : Region.wanted o (yielded ops a.tmps) = true := by simp [Region.wanted, hgd]
  rw [if_pos hw]
  obtain ⟨i, h1, h2, h3, h4⟩ := info_parts' hi
  obtain ⟨v', w', hr, g2, g3, g4⟩ := push_run (P := P) t o.type e i z bytes ht h1 h2 h3 h4 hzs hk hone base v xs hown ad c ys hsrc hbytes (by simp only [maxLen]; omega) hbase
  unfold Oper.wp execOp
  simp only [ho, resolve, invoke, builtin, Sem.run_bind, Sem.run_pure, Result.andThen_ok, List.map_toArray, List.map_cons, List.map_nil, hs, hx, hr]
  exact h v' w' g2 g3 g4
theorem own_oneI (w : World) {B : Nat} (hB : B ≤ w.heap.size) (x : Int) : Own 1 encI 3 (w.alloc (.cells #[.int .i64 x] 3)) B (.slice (some ⟨w.heap.size, 0, none⟩) 1 1) [x] :=
  Own.made (cs := #[.int .i64 x]) rfl hB (Blk.new _ _ _) rfl (by simp only [maxLen, List.length_singleton]; omega) (by
    intro j z hj hz c hc
    have hj0 : j = 0 := by simpa using hj
    subst hj0
    simp at hz
    subst hz
    obtain rfl : c = 0 := by omega
    rfl)
theorem famL_len {xs : List SMaker} {n : Nat} {rs : List SRow} (h : rs.map (·.xs) = famL xs (grTo xs n)) : rs.length ≤ n ∧ ∀ r ∈ rs, r.xs.length ≤ n := by
  have hI := grTo_I (xs := xs) n
  have h1 := congrArg List.length h
  simp only [famL, List.length_map] at h1
  refine ⟨by have := hI.cnt; omega, fun r hr => ?_⟩
  have h2 : r.xs ∈ famL xs (grTo xs n) := by rw [← h]; exact List.mem_map_of_mem hr
  unfold famL at h2
  obtain ⟨g, hg, he⟩ := List.mem_map.1 h2
  rw [← he, List.length_map]
  exact hI.len g hg
set_option maxRecDepth 100000 in
set_option maxHeartbeats 4000000 in
theorem implFamilies_is (v : Value) (xs : List SMaker) (w : World) (h : Is 5 SMaker.enc w v xs) (hw : ∀ z ∈ xs, z.wf) :
    Calls Try.prog 38 #[v] w fun e w' => ∃ r, e = .returned (.tuple #[r, .bool (famV xs).2]) ∧ OwnX w' w.heap.size w'.heap.size r (famV xs).1 ∧ Below w.heap.size w w' := by
  have hm := h.len
  have hv : famV xs = if goodB xs then (famL xs (grTo xs xs.length), true) else ([], false) := rfl
  have hgood := fun W hi => AreMakers_is v xs W hi hw
  have hb10 := fun (hg : goodB xs = true) => good_len hg
  generalize hB : w.heap.size = B
  have hi0 : Is 5 SMaker.enc (w.alloc (.cells #[v] 26)) v xs := h.below (below_alloc w _) (Nat.le_refl _)
  have hk0 : Blk (w.alloc (.cells #[v] 26)) B 26 #[v] := by subst hB; exact Blk.new w _ _
  have hbe : Below B w (w.alloc (.cells #[v] 26)) := by subst hB; exact below_alloc w _
  have hsz : (w.alloc (.cells #[v] 26)).heap.size = B + 1 := by subst hB; simp
  have HORIG := hide h
  obtain ⟨AL, cl, rfl, _, _, _⟩ := h
  generalize famV xs = fv at *
  generalize hgb : goodB xs = gb at *
  have HGD := hide hgood; have HGB := hide hgb; have HB10 := hide hb10; clear hgood hgb hb10
  have HB := hide hB
  go_enter Try.func38, Try.ntmps38
  go_upto_region 1 with fail
  generalize w.alloc (.cells #[.slice AL xs.length cl] 26) = W0 at *
  have HK0 := hide hk0; have HBE := hide hbe; have HI := hide hi0; clear hk0 hbe hi0
  have k0 := HK0.out.cell 0
  simp at k0
  go_wp2_with fail
  refine (HGD.out _ HI.out).mono ?_; rintro e w1 ⟨rfl, hb1⟩
  have K1 := hide (HK0.out.below hb1 (by omega))
  have B1 := hide (bstep HBE.out hb1 (by omega))
  have I1 := hide (HI.out.below hb1 (Nat.le_refl _))
  have hs1 := hb1.size
  clear HK0 HBE HI hb1 k0
  cases gb with
  | false =>
    have HV := hide hv; clear hv
    go_wp2_with fail
    go_ret2
    exact ⟨_, by rw [HV.out]; rfl, ⟨[], by rw [HV.out]; rfl, own_nilF _ _ _⟩, B1.out⟩
  | true =>
    simp only [if_true] at hv
    have HV := hide hv; clear hv
    have hln := HB10.out (by trivial)
    have hG := HGB.out
    have k1 := K1.out.cell 0
    simp at k1
    go_upto_region 5 with fail
    clear k1
    go_wp2_with fail
    go_loopw [4, 13] (fun s i wr => ∃ (n : Nat) (rs : List SRow) (hi : Nat), n ≤ xs.length ∧ i = .int .i64 (n : Int) ∧ rs.map (·.xs) = famL xs (grTo xs n) ∧ OwnG wr (B + 1) hi s rs ∧ hi ≤ wr.heap.size ∧ B + 1 ≤ hi ∧ Blk wr B 26 #[.slice AL xs.length cl] ∧ Below B w wr) (fun _ i _ => xs.length - (intOf i).toNat)
    case atStart => exact ⟨0, [], B + 1, Nat.zero_le _, rfl, rfl, own_nilF _ _ _, by omega, Nat.le_refl _, K1.out, B1.out⟩
    case round =>
      clear K1 I1 B1
      obtain ⟨n, rs, hi, hn, rfl, hmap, hG0, hhi, hlo, hkB, hbel⟩ := hrel
      have his := HORIG.out.below hbel (by omega)
      have hlen := famL_len hmap
      by_cases hlt : n < xs.length
      · have hlt' : (n : Int) < xs.length := by omega
        obtain ⟨A8, c8, he8, hr8, _, _⟩ := his
        injection he8 with e1 e2 e3; subst e1 e3; clear e2
        obtain ⟨b, off, rfl, hbw, c0, c1, c2, c3, c4⟩ := SMaker.cells hr8 hlt (Below.refl _ _)
        have his2 : Is 5 SMaker.enc wr (.slice (some ⟨b, off, none⟩) xs.length cl) xs := ⟨_, _, rfl, hr8, by assumption, by assumption⟩
        have hid : idOf xs n = xs[n].ident := by unfold idOf; rw [SMaker.at_lt hlt]
        have hfi := fam_idx hG hn (grTo_I n) hmap
        have hfr := fun r (hr : r ∈ rs) => (show ∃ g ∈ grTo xs n, r.xs = g.2.map (idOf xs) by
          have h2 : r.xs ∈ famL xs (grTo xs n) := by rw [← hmap]; exact List.mem_map_of_mem hr
          unfold famL at h2
          obtain ⟨g, hg, he⟩ := List.mem_map.1 h2
          exact ⟨g, hg, he.symm⟩)
        have hst : grTo xs (n + 1) = addG (grTo xs n) (endI xs n) n := rfl
        have hM0 : idOf xs n = xs[n].ident := hid
        have HFI := hide hfi; have HFR := hide hfr; have HST := hide hst; have HMAP := hide hmap; clear hfi hfr hst hmap hid
        generalize xs[n].ident = y0 at *; generalize xs[n].name = y1 at *; generalize xs[n].frm = y2 at *; generalize xs[n].untl = y3 at *; generalize xs[n].heir = y4 at *
        have J0 := hkB.alloc (.cells #[.int .i64 y0, .string y1, .int .i64 y2, .int .i64 y3, .int .i64 y4] 60)
        have J1 := Blk.new wr 60 #[.int .i64 y0, .string y1, .int .i64 y2, .int .i64 y3, .int .i64 y4]
        have J2 := hG0.below (below_alloc wr (.cells #[.int .i64 y0, .string y1, .int .i64 y2, .int .i64 y3, .int .i64 y4] 60))
        have J3 := his2.below (below_alloc wr (.cells #[.int .i64 y0, .string y1, .int .i64 y2, .int .i64 y3, .int .i64 y4] 60)) (Nat.le_refl _)
        have J4 := hbel.alloc (show B ≤ wr.heap.size by omega) (.cells #[.int .i64 y0, .string y1, .int .i64 y2, .int .i64 y3, .int .i64 y4] 60)
        have HHK := hide hkB; clear hkB hbel his2 hr8
        obtain ⟨AG, cG, rfl, hrG, _, _⟩ := hG0.spine.is
        clear hG0
        have HJ0 := hide J0; have HJ1 := hide J1; have HJ2 := hide J2; have HJ3 := hide J3; have HJ4 := hide J4; clear J0 J1 J2 J3 J4 hrG
        go_upto_region 7 with fail
        have hs5 : (wr.alloc (.cells #[.int .i64 y0, .string y1, .int .i64 y2, .int .i64 y3, .int .i64 y4] 60)).heap.size = wr.heap.size + 1 := by simp
        clear c0 c1 c2 c3 c4 HHK
        generalize wr.alloc (.cells #[.int .i64 y0, .string y1, .int .i64 y2, .int .i64 y3, .int .i64 y4] 60) = W5 at *
        have hgm : wr.heap.size < W5.heap.size := by omega
        generalize hgmE : wr.heap.size = gm at *
        have hcall := IndexFuncR_any 77 #[.pointer (some ⟨B, 0, none⟩), .pointer (some ⟨gm, 0, none⟩)] (famP xs n) AG cG rs W5 (by
            obtain ⟨A9, c9, he9, hr9, _, _⟩ := HJ2.out.spine.is
            injection he9 with e1 e2 e3; subst e1; exact hr9) (by omega) (fun _ _ => by kernel_rfl) (fun W r hbW hr => by
            obtain ⟨g, hgm1, hgx⟩ := HFR.out r hr
            obtain ⟨_, j, hj, hjh⟩ := famP_row hG hn (grTo_I n) hn hgm1
            obtain ⟨ir, hir, rfl⟩ := List.getElem_of_mem hr
            have hrow := (HJ2.out.rows ir _ (List.getElem?_eq_getElem hir)).is
            obtain ⟨A7, c7, he7, hr7, _, _⟩ := hrow
            unfold SRow.v at he7
            injection he7 with e1 e2 e3
            rw [← e1] at hr7
            have k0 := HJ0.out.cell 0; have m0 := HJ1.out.cell 0
            refine (fam1_any xs n j B gm (some ⟨b, off, none⟩) cl rs[ir].A rs[ir].cap rs[ir].xs W hlt hj hG ?_ (HJ3.out.below hbW (Nat.le_refl _)) ?_ (hr7.below hbW (Nat.le_refl _) hbW.size) (by rw [hgx]; exact hjh) (by have := hlen.2 _ (List.getElem_mem hir); omega)).mono fun e w' ⟨h1, h2⟩ => ⟨h1, bstep hbW h2 hbW.size⟩
            · exact (hbW.cell (p := ⟨B, 0, none⟩) HJ0.out.lt).trans k0
            · rw [hM0]; exact (hbW.cell (p := ⟨gm, 0, none⟩) HJ1.out.lt).trans m0)
        rcases HFI.out with ⟨hfm, hft⟩ | ⟨k, hk, hfk, hft⟩
        · rw [hfm] at hcall
          have HC := hide hcall; have HFT := hide hft; clear hcall hft hfm
          go_wp2_with fail
          refine HC.out.mono ?_; rintro e w2 ⟨rfl, hb2⟩
          have K0 := HJ0.out.below hb2 HJ0.out.lt
          have K1 := HJ1.out.below hb2 HJ1.out.lt
          have K2 := HJ2.out.below hb2
          have K3 := HJ3.out.below hb2 (Nat.le_refl _)
          have K4 := bstep HJ4.out hb2 (by omega)
          have hs2 := hb2.size
          have m0 := K1.cell 0
          simp at m0
          have hown := own_oneI w2 (Nat.le_refl w2.heap.size) y0
          have hown2 := hown.alloc (.cells #[SRow.v ⟨[y0], some ⟨w2.heap.size, 0, none⟩, 1⟩] 39)
          have L2 := K2.below (below_alloc w2 (.cells #[.int .i64 y0] 3))
          have L2b := L2.below (below_alloc (w2.alloc (.cells #[.int .i64 y0] 3)) (.cells #[SRow.v ⟨[y0], some ⟨w2.heap.size, 0, none⟩, 1⟩] 39))
          have L4 := (K4.alloc (show B ≤ w2.heap.size by omega) (.cells #[.int .i64 y0] 3))
          have HL2 := hide L2.spine; have HL2b := hide L2b; have HOW := hide hown2; have HK0 := hide K0; have HK3 := hide K3; have HL4 := hide L4; have HK1 := hide K1
          clear K0 K1 K2 K3 K4 L2 L2b L4 hown hown2 hb2 HJ0 HJ1 HJ2 HJ3 HJ4 HC
          have hsz31 : (w2.alloc (.cells #[.int .i64 y0] 3)).heap.size = w2.heap.size + 1 := by simp
          go_wp2_with (at_builtin; refine wpList_push1s (k := 1) (enc := SRow.enc) _ rfl _ _ 45 rfl 39 (.slice none 0 0) 24 Try.underlying45 SRow.info rfl (by omega) (by omega) SRow.one (B + 1) _ rs rfl HL2.out (⟨[y0], some ⟨w2.heap.size, 0, none⟩, 1⟩ : SRow) _ _ hsz31.symm rfl (by simp [flat, SRow.enc]) (by omega) (by omega) HL4.out (by omega) rfl ?_; intro v1 w3 ho1 hb1 hg1)
          have hP := HL2b.out.pushF (r := ⟨[y0], some ⟨w2.heap.size, 0, none⟩, 1⟩) hlo (by simp; omega) (HOW.out.mono (by omega)) hg1 ho1
          have hs3 := hg1.size
          simp at hs3
          have X0 := (HK0.out.alloc (.cells #[.int .i64 y0] 3)).alloc (.cells #[SRow.v ⟨[y0], some ⟨w2.heap.size, 0, none⟩, 1⟩] 39)
          have hgB : (Value.slice AG rs.length cG).ownBlock ≠ some B := fun e => by have := (HL2.out.lt B e).1; omega
          have X1 : Blk w3 B 26 #[.slice (some ⟨b, off, none⟩) xs.length cl] := (hg1.block B X0.lt (fun e => hgB e.symm)).trans X0
          have HX1 := hide X1; have HP := hide hP; have HB3 := hide hb1; clear X0 X1 hP ho1 hb1 hg1
          go_wp2_with fail
          go_roundw
          case measure => simp [intOf]; omega
          case rel => exact ⟨n + 1, _, _, by omega, by go_num, by rw [List.map_append, HMAP.out, HST.out, HFT.out, ← hM0]; rfl, HP.out, Nat.le_refl _, by omega, HX1.out, HB3.out⟩
        · rw [hfk] at hcall
          have HC := hide hcall; have HFT := hide hft; clear hcall hft hfk
          have hk' : (k : Int) < rs.length := by omega
          have hk0 : ¬ (k : Int) < 0 := by omega
          go_wp2_with fail
          refine HC.out.mono ?_; rintro e w2 ⟨rfl, hb2⟩
          have K0 := HJ0.out.below hb2 HJ0.out.lt
          have K1 := HJ1.out.below hb2 HJ1.out.lt
          have K2 := HJ2.out.below hb2
          have K3 := HJ3.out.below hb2 (Nat.le_refl _)
          have K4 := bstep HJ4.out hb2 (by omega)
          have hs2 := hb2.size
          have m0 := K1.cell 0
          simp at m0
          have HK0 := hide K0; have HK3 := hide K3; have HK4 := hide K4; have HK1 := hide K1; have HK2 := hide K2
          obtain ⟨gs, cap, cs, hve, _, hbs, _, _, _, hfs⟩ := own_blk K2.spine (by omega)
          injection hve with e1 e2 e3; subst e1 e3; clear e2
          have hget := List.getElem?_eq_getElem hk
          have q0 : w2.cell? ⟨gs, k, none⟩ = some (.slice rs[k].A rs[k].xs.length rs[k].cap) := by
            rw [hbs.cell]
            have := hfs k _ hk hget 0 (by omega)
            rw [Nat.mul_one, Nat.add_zero] at this
            exact this
          have qf := fun o => hbs.frozen o
          have q1 := ((below_alloc w2 (.cells #[.int .i64 y0] 3)).cell (p := ⟨gs, k, none⟩) hbs.lt).trans q0
          have m1 := ((below_alloc w2 (.cells #[.int .i64 y0] 3)).cell (p := ⟨gm, 0, none⟩) HK1.out.lt).trans m0
          have HBS := hide ((hbs.alloc (.cells #[.int .i64 y0] 3)))
          have hck : cs[k]? = some (.slice rs[k].A rs[k].xs.length rs[k].cap) := by
            have := hfs k _ hk hget 0 (by omega)
            rw [Nat.mul_one, Nat.add_zero] at this
            exact this
          clear K0 K1 K2 K3 K4 hb2 HJ0 HJ1 HJ2 HJ3 HJ4 HC hfs hbs
          go_wp2_with fail
          have R2 := HK2.out.below (below_alloc w2 (.cells #[.int .i64 y0] 3))
          have R2d := R2.below (Below.refl _ (w2.alloc (.cells #[.int .i64 y0] 3))).drew
          have hrowk := R2d.rows k _ hget
          have HR2 := hide R2d; have HRK := hide hrowk; clear R2 R2d hrowk
          have hgse : gs < hi := HK2.out.spineHi gs rfl
          have hlk := hlen.2 _ (List.getElem_mem hk)
          have hrs := HR2.out.rowSpine k _ hget gs
          go_region_law (refine step_push (k := 1) (enc := encI) rfl (.tmp 33) (.tmp 36) 39 rfl 3 (.int .i64 0) 8 Try.underlying39 infoI rfl (by omega) encI_one (B + 1) _ rs[k].xs (by simp [Act.eval, Act.put]; rfl) HRK.out ⟨w2.heap.size, 0, none⟩ 1 [y0] (by simp [Act.eval, Act.put]) (src_new w2 rfl) (by simp; omega) (by simp; omega) (by simp; omega) ?_; intro v' w' ho1 hg1 hnb; have hq := (hg1.block gs (by simp; omega) (fun e => hrs e.symm rfl)).trans HBS.out; have z0 := (show Blk w' gs 39 cs from hq).cell k; rw [hck] at z0; have zf := fun o => (show Blk w' gs 39 cs from hq).frozen o; have HNB := hide hnb; have HG1 := hide hg1; obtain ⟨g9, c9, cs9, rfl, hb9, hbk9, hl9, hm9, hs9, hf9⟩ := own_blk ho1 (by simp); have HO1 := hide ho1; clear ho1 hg1 hnb hq hbk9 hf9)
          all_goals
            go_wp2_with fail
            have hgr : ∀ g, rs[k].v.ownBlock = some g → B + 1 ≤ g := fun g hg => (HRK.out.lt g hg).1
            have hsz9 := HG1.out.size
            simp at hsz9
            have hRe := HR2.out.reRow (r' := ⟨rs[k].xs ++ [y0], some ⟨g9, 0, none⟩, c9⟩) hk (by simp; omega) (by simp; omega) HG1.out HO1.out HNB.out
            have hvv : SRow.v ⟨rs[k].xs ++ [y0], some ⟨g9, 0, none⟩, c9⟩ = .slice (some ⟨g9, 0, none⟩) (rs[k].xs.length + 1) c9 := by simp [SRow.v]
            rw [hvv] at hRe
            have hmapk : (rs.set k ⟨rs[k].xs ++ [y0], some ⟨g9, 0, none⟩, c9⟩).map (·.xs) = famL xs (grTo xs (n + 1)) := by
              rw [HST.out, HFT.out, List.map_set, HMAP.out, ← hM0]
              congr 1
              have h3 := congrArg (fun l => l[k]?) HMAP.out
              simp only [List.getElem?_map, List.getElem?_eq_getElem hk, Option.map_some] at h3
              rw [List.getD_eq_getElem?_getD, ← h3]; rfl
            have hbl : Blk w' B 26 #[.slice (some ⟨b, off, none⟩) xs.length cl] := (HG1.out.block B (by simp; have := HK0.out.lt; omega) (fun e => by have := hgr B e.symm; omega)).trans (HK0.out.alloc (.cells #[.int .i64 y0] 3))
            have hbw3 : Below B w w' := ((HK4.out.alloc (show B ≤ w2.heap.size by omega) (.cells #[.int .i64 y0] 3)).drew).grown HG1.out (by simp; omega) (fun g e => by have := hgr g e; omega)
            refine ⟨⟨n + 1, _, _, by omega, by go_num, hmapk, hRe, by simp, by omega, hbl.far (p := ⟨gs, k, none⟩) (by simp only; have := (HK2.out.spine.lt gs rfl).1; omega) _, hbw3.setCell (p := ⟨gs, k, none⟩) (by simp only; have := (HK2.out.spine.lt gs rfl).1; omega) _⟩, by simp [intOf]; omega⟩
      · have hnl : n = xs.length := by omega
        have HX := hide (show OwnX wr B wr.heap.size _ fv.1 from ⟨rs, by rw [hmap, hnl, HV.out], hG0.mono (by omega) hhi⟩)
        have HBL := hide hbel; clear hG0 hbel hkB
        go_wp2_with fail
        go_ret2
        exact ⟨_, by rw [HV.out]; rfl, HX.out, HBL.out⟩
end Go.Proofs.Ytapbnggdclpokaa
