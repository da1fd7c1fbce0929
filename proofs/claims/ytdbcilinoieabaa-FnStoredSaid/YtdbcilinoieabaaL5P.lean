/- Contract of l1Put in spec. Condition: at most a thousand long. (Printed by mk5p.py; its first part is L8L's.) -/
import Derived.Test.YtdbcilinoieabaaL5O
import Derived.Deep.RegionHeld3
namespace Go.Proofs.Ytdbcilinoieabaa
open Go.RowKit
set_option linter.unusedVariables false
theorem step_pushP {P : Program} {α : Type} {k : Nat} {enc : α → Nat → Value} (w : World) {ops : Array Oper} {o : Oper} {a : Act} {K : Act → World → Prop} {Q : Exit → Act → World → Prop} {E : Prop} (hgd : o.guard = none) (s x : Operand) (t : TypeId)
    (ho : o.op = .call { callee := .builtin .append, args := #[s, x], argTypes := #[t, t] })
    (e : TypeId) (z : Value) (bytes : Nat) (ht : P.underlying t = some (.slice e)) (hi : (P.info? e).map (fun i => (i.zero, i.size, i.bytes)) = some (some z, k, bytes))
    (hzs : z.cells.size = k) (hk : 0 < k) (hone : ∀ x j, (enc x j).oneCell' = true)
    (base : Nat) (v : Value) (xs : List α) (hs : a.eval s = v) (hown : Own k enc e w base v xs)
    (ad : Addr) (c : Nat) (ys : List α) (hx : a.eval x = .slice (some ad) ys.length c) (hsrc : ∀ j u, (flat k enc ys)[j]? = some u → w.cell? (ad.add j) = some u)
    (hbytes : (xs.length + ys.length) * bytes ≤ 140737488355328) (h63 : xs.length + ys.length ≤ 9223372036854775807) (hbase : base ≤ w.heap.size)
    {B : Nat} {a0 : World} (hbel : Below B a0 w) (hB : B ≤ base)
    (h : ∀ v' w', Own k enc e w' base v' (xs ++ ys) → Below B a0 w' → w.grownBy w' v.ownBlock → K (a.put o.dst v') w') :
    if Region.wanted o (yielded ops a.tmps) = true then Oper.wp P o a w K Q else E := by
  have hwd : Region.wanted o (yielded ops a.tmps) = true := by simp [Region.wanted, hgd]
  rw [if_pos hwd]
  obtain ⟨i, h1, h2, h3, h4⟩ := info_parts' hi
  refine wp_append_own w s x t ho base e i z k bytes ht h1 h2 h3 h4 hzs hk v xs.length (flat k enc xs) hs hown.ownsRow ad ys.length c (flat k enc ys) hx flat_length hsrc (one_cells hone ys) (by simp only [maxLen]; omega) hbytes hbase ?_
  intro v' w' h2 h3 h4
  rw [← flat_append] at h2
  exact h v' w' (Own.of_ownsRow h2 (by simp)) (hown.belowGrown hbel h3 hB (by omega)) h3
/-- x put into a rising list -/
def putL (xs : List Int) (x : Int) : List Int := xs.takeWhile (fun c => decide (c < x)) ++ if (xs.dropWhile fun c => decide (c < x)).head? = some x then xs.dropWhile (fun c => decide (c < x)) else x :: xs.dropWhile (fun c => decide (c < x))
theorem split_at_first {xs : List Int} {x : Int} {k : Nat} (hk : k ≤ xs.length) (hl : ∀ c ∈ xs.take k, c < x) (hn : ∀ (h : k < xs.length), ¬ xs[k] < x) : xs.takeWhile (fun c => decide (c < x)) = xs.take k ∧ xs.dropWhile (fun c => decide (c < x)) = xs.drop k := by
  have h1 : xs = xs.take k ++ xs.drop k := (List.take_append_drop k xs).symm
  have h2 : ∀ c ∈ xs.take k, (fun c => decide (c < x)) c = true := fun c hc => by simpa using hl c hc
  have h3 : (xs.drop k).takeWhile (fun c => decide (c < x)) = [] ∧ (xs.drop k).dropWhile (fun c => decide (c < x)) = xs.drop k := by
    by_cases hlt : k < xs.length
    · rw [List.drop_eq_getElem_cons hlt]
      have := hn hlt
      exact ⟨List.takeWhile_cons_of_neg (by simpa using this), List.dropWhile_cons_of_neg (by simpa using this)⟩
    · rw [List.drop_eq_nil_of_le (by omega)]; simp
  constructor
  · conv => lhs; rw [h1]
    rw [List.takeWhile_append_of_pos h2, h3.1, List.append_nil]
  · conv => lhs; rw [h1]
    rw [List.dropWhile_append_of_pos h2, h3.2]
theorem src_rowI {w : World} {B b off : Nat} {xs : List Int} (h : Row 1 encI w B (some ⟨b, off, none⟩) xs) (j : Nat) (ys : List Int) (hys : ∀ i y, ys[i]? = some y → xs[j + i]? = some y) {w' : World} (hb : ∀ o, w'.cell? ⟨b, o, none⟩ = w.cell? ⟨b, o, none⟩) : ∀ i u, (flat 1 encI ys)[i]? = some u → w'.cell? ((⟨b, off + j, none⟩ : Addr).add i) = some u := by
  intro i u hu
  have hi : i < ys.length := by
    have := (List.getElem?_eq_some_iff.1 hu).1
    rw [flat_length] at this; omega
  have h1 := flat_get (enc := encI) (List.getElem?_eq_getElem hi) (show 0 < 1 by omega)
  rw [Nat.mul_one, Nat.add_zero] at h1
  rw [h1] at hu
  have h2 := hys i _ (List.getElem?_eq_getElem hi)
  rcases h with rfl | ⟨b', off', hA, _, hc⟩
  · simp at h2
  · injection hA with hA; injection hA with e1 e2; subst e1 e2
    have h3 := hc (j + i) _ h2 0 (by omega)
    rw [Nat.mul_one, Nat.add_zero] at h3
    rw [Addr.add_lit, hb, Nat.add_assoc, h3, hu]
set_option maxHeartbeats 4000000 in
theorem l1Put_is (b off cap : Nat) (xs : List Int) (x : Int) (w : World) (hr : Row 1 encI w w.heap.size (some ⟨b, off, none⟩) xs) (h0 : 1 ≤ xs.length) (h1 : xs.length ≤ 1000) (hcap : xs.length ≤ cap) (hcm : cap ≤ maxLen) :
    Calls Try.prog 116 #[.slice (some ⟨b, off, none⟩) xs.length cap, .int .i64 x] w fun e w' => ∃ r, e = .returned r ∧ Is 1 encI w' r (putL xs x) ∧ Below w.heap.size w w' := by
  have HR := hide hr; clear hr
  have hc63 : cap ≤ 9223372036854775807 := by simp only [maxLen] at hcm; omega
  go_enter Try.func116, Try.ntmps116
  go_wp2_with fail
  go_loop [5] (fun i => ∃ k : Nat, k ≤ xs.length ∧ i = .int .i64 (k : Int) ∧ ∀ c ∈ xs.take k, c < x) (fun i => xs.length - (intOf i).toNat)
  case atStart => exact ⟨0, Nat.zero_le _, rfl, by simp⟩
  case round =>
    obtain ⟨k, hk, rfl, hlow⟩ := hrel
    have HL := hide hlow; clear hlow
    by_cases hlt : k < xs.length
    · have hlt' : (k : Int) < xs.length := by omega
      obtain ⟨b', off', hA, hb, c0⟩ := Ints.cells HR.out hlt (Below.refl _ _)
      injection hA with hA; injection hA with e1 e2; subst e1 e2
      have htk := take_snoc' hlt
      have hget := List.getElem?_eq_getElem hlt
      have hsp : ¬ xs[k] < x → _ := fun h => split_at_first hk HL.out (fun _ => h)
      have hdr := List.drop_eq_getElem_cons hlt
      have HT := hide htk; have HG := hide hget; have HSP := hide hsp; have HDR := hide hdr; clear htk hget hsp hdr
      generalize hy : xs[k] = y at *
      have HY := hide hy; clear hy
      by_cases hq : y < x
      · go_wp2_with fail
        go_round
        case measure => (simp [intOf] <;> omega)
        case rel =>
          refine ⟨k + 1, by omega, by go_num, ?_⟩
          rw [HT.out]
          intro c hc
          rcases List.mem_append.1 hc with h | h
          · exact HL.out c h
          · rw [List.mem_singleton.1 h]; exact hq
      · by_cases he : y = x
        · have hb1 : (y == x) = true := beq_iff_eq.2 he
          obtain ⟨p1, p2⟩ := HSP.out hq
          have hput : putL xs x = xs := by
            unfold putL
            rw [p1, p2, HDR.out, he, List.head?_cons, if_pos rfl, ← he, ← HDR.out, List.take_append_drop]
          have HP := hide hput; clear hput p1 p2 he
          go_wp2_with fail
          go_ret
          rw [HP.out]
          exact ⟨_, rfl, ⟨_, _, rfl, HR.out, hcap, hcm⟩, Below.refl _ _⟩
        · have hb1 : (y == x) = false := beq_false_of_ne he
          obtain ⟨p1, p2⟩ := HSP.out hq
          have hput : putL xs x = xs.take k ++ [x] ++ xs.drop k := by
            unfold putL
            rw [p1, p2, HDR.out, List.head?_cons, if_neg (by intro h; injection h with h; exact he h), List.append_assoc]
            rfl
          have HP := hide hput; clear hput p1 p2 he
          have htl : (xs.take k).length = k := by rw [List.length_take]; omega
          have hdl : (xs.drop k).length = xs.length - k := List.length_drop
          have hszg : ∀ (W : World) (o : Obj), (W.alloc o).heap.size = W.heap.size + 1 := fun W o => by simp
          have ba1 := below_alloc w (.cells #[] 3)
          have ba := ba1.drew
          have hoa : Own 1 encI 3 (w.alloc (.cells #[] 3)).drew w.heap.size (.slice (some ⟨w.heap.size, 0, none⟩) 0 0) ([] : List Int) := Own.made (cs := #[]) rfl (Nat.le_refl _) (Blk.new w _ _) rfl (Nat.zero_le _) Filled.zero
          have bb := (ba1.alloc ba1.size (.cells #[.int .i64 x] 3)).drew
          have hob : Own 1 encI 3 ((w.alloc (.cells #[] 3)).alloc (.cells #[.int .i64 x] 3)).drew w.heap.size (.slice (some ⟨w.heap.size, 0, none⟩) 0 0) ([] : List Int) := Own.made (cs := #[]) rfl (Nat.le_refl _) ((Blk.new w _ _).alloc _) rfl (Nat.zero_le _) Filled.zero
          have bc1 := below_alloc w (.cells #[.int .i64 x] 3)
          have bc := (bc1.alloc bc1.size (.cells #[] 3)).drew
          have hz1 := hszg w (.cells #[.int .i64 x] 3)
          have hz2 := hszg w (.cells #[] 3)
          have hoc : Own 1 encI 3 ((w.alloc (.cells #[.int .i64 x] 3)).alloc (.cells #[] 3)).drew w.heap.size (.slice (some ⟨w.heap.size + 1, 0, none⟩) 0 0) ([] : List Int) := by
            have := Blk.new (w.alloc (.cells #[.int .i64 x] 3)) 3 #[]
            rw [hz1] at this
            exact Own.made (cs := #[]) rfl (Nat.le_succ _) this rfl (Nat.zero_le _) Filled.zero
          have hsrc := fun (W : World) (hW : Below w.heap.size w W) => src_rowI HR.out 0 (xs.take k) (fun i y h => by
            have h1 := (List.getElem?_eq_some_iff.1 h).1
            rw [htl] at h1
            rw [List.getElem?_take_of_lt h1] at h
            rwa [Nat.zero_add]) (w' := W) (fun o => (bcell hW).1 b o hb)
          have hsrc2 := fun (W : World) (hW : Below w.heap.size w W) => src_rowI HR.out k (xs.drop k) (fun i y h => by rwa [List.getElem?_drop] at h) (w' := W) (fun o => (bcell hW).1 b o hb)
          have hnb : ∀ (w1 : World) (g : Nat), (((w.alloc (.cells #[] 3)).alloc (.cells #[.int .i64 x] 3)).drew).grownBy w1 (Value.slice (some ⟨w.heap.size, 0, none⟩) 0 0).ownBlock → ∀ j u, (flat 1 encI [x])[j]? = some u → w1.cell? ((⟨w.heap.size + 1, 0, none⟩ : Addr).add j) = some u := fun w1 g hg j u hu => by
            have h1 := src_new (w.alloc (.cells #[] 3)) (k := 1) (enc := encI) (ys := [x]) (cs := #[.int .i64 x]) (e := 3) rfl j u hu
            rw [hz2, Addr.add_lit, Nat.zero_add] at h1
            rw [Addr.add_lit, Nat.zero_add]
            rw [World.cell?_of_block (a := ⟨w.heap.size + 1, j, none⟩) (hg.block (w.heap.size + 1) (by show w.heap.size + 1 < ((w.alloc _).alloc _).heap.size; rw [hszg, hszg]; omega) (fun e => by have e' : w.heap.size + 1 = w.heap.size := Option.some.inj e; omega))]
            exact h1
          have hnc : ∀ (w1 : World) (g : Nat), (((w.alloc (.cells #[.int .i64 x] 3)).alloc (.cells #[] 3)).drew).grownBy w1 (Value.slice (some ⟨w.heap.size + 1, 0, none⟩) 0 0).ownBlock → ∀ j u, (flat 1 encI [x])[j]? = some u → w1.cell? ((⟨w.heap.size, 0, none⟩ : Addr).add j) = some u := fun w1 g hg j u hu => by
            have h1 := src_new w (k := 1) (enc := encI) (ys := [x]) (cs := #[.int .i64 x]) (e := 3) rfl j u hu
            rw [Addr.add_lit, Nat.zero_add] at h1 ⊢
            rw [World.cell?_of_block (a := ⟨w.heap.size, j, none⟩) (hg.block w.heap.size (by show w.heap.size < ((w.alloc _).alloc _).heap.size; rw [hszg, hszg]; omega) (fun e => by have e' : w.heap.size = w.heap.size + 1 := Option.some.inj e; omega))]
            have h2 := (below_alloc (w.alloc (.cells #[.int .i64 x] 3)) (.cells #[] 3)).block w.heap.size (by rw [hz1]; omega)
            rw [show ((w.alloc (.cells #[.int .i64 x] 3)).alloc (.cells #[] 3)).drew.cell? ⟨w.heap.size, j, none⟩ = ((w.alloc (.cells #[.int .i64 x] 3)).alloc (.cells #[] 3)).cell? ⟨w.heap.size, j, none⟩ from rfl, World.cell?_of_block (a := ⟨w.heap.size, j, none⟩) h2]
            exact h1
          have HOA := hide hoa; have HOB := hide hob; have HOC := hide hoc; have BA := hide ba; have BB := hide bb; have BC := hide bc
          have HSRC := hide hsrc; have HSRC2 := hide hsrc2; have HNB := hide hnb; have HNC := hide hnc
          have HTL := hide htl; have HDL := hide hdl
          clear hoa hob hoc ba ba1 bb bc bc1 hsrc hsrc2 hnb hnc htl hdl hz1 hz2 hszg
          have hck : ¬ cap = k := by omega
          have hckk : (k : Int) ≤ cap := by omega
          have hkx : (k : Int) ≤ xs.length := by omega
          go_wp2_with fail
          go_region_held3 (fun _ => True) (trivial)
            (first
              | (refine step_pushP (k := 1) (enc := encI) _ (by rfl) _ _ 52 (by rfl) 3 (.int .i64 0) 8 Try.underlying52 infoI rfl (by omega) encI_one w.heap.size _ ([] : List Int) (by rfl) HOA.out ⟨b, off + 0, none⟩ cap (xs.take k) (by rw [HTL.out]; rfl) (HSRC.out _ BA.out) (by rw [HTL.out]; simp; omega) (by rw [HTL.out]; simp; omega) BA.out.size BA.out (Nat.le_refl _) ?_; intro v1 w1 ho1 hb1 hg1; have HO1 := hide ho1; clear ho1 hg1)
              | (refine step_pushP (k := 1) (enc := encI) _ (by rfl) _ _ 52 (by rfl) 3 (.int .i64 0) 8 Try.underlying52 infoI rfl (by omega) encI_one w.heap.size _ ([] : List Int) (by rfl) HOB.out ⟨b, off + 0, none⟩ cap (xs.take k) (by rw [HTL.out]; rfl) (HSRC.out _ BB.out) (by rw [HTL.out]; simp; omega) (by rw [HTL.out]; simp; omega) BB.out.size BB.out (Nat.le_refl _) ?_; intro v1 w1 ho1 hb1 hg1; have HO1 := hide ho1; have HN := hide (HNB.out w1 0 hg1); clear ho1 hg1)
              | (refine step_pushP (k := 1) (enc := encI) _ (by rfl) _ _ 52 (by rfl) 3 (.int .i64 0) 8 Try.underlying52 infoI rfl (by omega) encI_one w.heap.size _ ([] : List Int) (by rfl) HOC.out ⟨b, off + 0, none⟩ cap (xs.take k) (by rw [HTL.out]; rfl) (HSRC.out _ BC.out) (by rw [HTL.out]; simp; omega) (by rw [HTL.out]; simp; omega) BC.out.size BC.out (Nat.le_refl _) ?_; intro v1 w1 ho1 hb1 hg1; have HO1 := hide ho1; have HN := hide (HNC.out w1 0 hg1); clear ho1 hg1)
              | (refine step_pushP (k := 1) (enc := encI) _ (by rfl) _ _ 52 (by rfl) 3 (.int .i64 0) 8 Try.underlying52 infoI rfl (by omega) encI_one w.heap.size _ ([] ++ xs.take k) (by rfl) (HO1.out.alloc (.cells #[.int .i64 x] 3)) ⟨w1.heap.size, 0, none⟩ 1 [x] (by rfl) (src_new w1 rfl) (by simp [HTL.out]; omega) (by simp [HTL.out]; omega) (hb1.alloc hb1.size (.cells #[.int .i64 x] 3)).size (hb1.alloc hb1.size (.cells #[.int .i64 x] 3)) (Nat.le_refl _) ?_; intro v2 w2 ho2 hb2 hg2; have HO2 := hide ho2; clear ho2 hg2)
              | (refine step_pushP (k := 1) (enc := encI) _ (by rfl) _ _ 52 (by rfl) 3 (.int .i64 0) 8 Try.underlying52 infoI rfl (by omega) encI_one w.heap.size _ ([] ++ xs.take k) (by rfl) HO1.out ⟨w.heap.size + 1, 0, none⟩ 1 [x] (by rfl) HN.out (by simp [HTL.out]; omega) (by simp [HTL.out]; omega) hb1.size hb1 (Nat.le_refl _) ?_; intro v2 w2 ho2 hb2 hg2; have HO2 := hide ho2; clear ho2 hg2)
              | (refine step_pushP (k := 1) (enc := encI) _ (by rfl) _ _ 52 (by rfl) 3 (.int .i64 0) 8 Try.underlying52 infoI rfl (by omega) encI_one w.heap.size _ ([] ++ xs.take k) (by rfl) HO1.out ⟨w.heap.size, 0, none⟩ 1 [x] (by rfl) HN.out (by simp [HTL.out]; omega) (by simp [HTL.out]; omega) hb1.size hb1 (Nat.le_refl _) ?_; intro v2 w2 ho2 hb2 hg2; have HO2 := hide ho2; clear ho2 hg2)
              | (refine step_pushP (k := 1) (enc := encI) _ (by rfl) _ _ 52 (by rfl) 3 (.int .i64 0) 8 Try.underlying52 infoI rfl (by omega) encI_one w.heap.size _ ([] ++ xs.take k ++ [x]) (by rfl) HO2.out ⟨b, off + k, none⟩ (cap - k) (xs.drop k) (by rw [HDL.out]; rfl) (HSRC2.out _ hb2) (by simp [HTL.out, HDL.out]; omega) (by simp [HTL.out, HDL.out]; omega) hb2.size hb2 (Nat.le_refl _) ?_; intro v3 w3 ho3 hb3 hg3; have HO3 := hide ho3; clear ho3 hg3))
          all_goals
            go_wp2_with fail
            go_ret
            rw [HP.out]
            exact ⟨_, rfl, HO3.out.is, hb3⟩
    · have hkn : k = xs.length := by omega
      obtain ⟨b', off', hA, hb, c0⟩ := Ints.cells HR.out (show 0 < xs.length by omega) (Below.refl _ _)
      injection hA with hA; injection hA with e1 e2; subst e1 e2
      obtain ⟨p1, p2⟩ := split_at_first hk HL.out (fun h => absurd h hlt)
      have hput : putL xs x = xs.take k ++ [x] ++ xs.drop k := by
        unfold putL
        rw [p1, p2, List.drop_eq_nil_of_le (by omega)]
        simp
      have hkx2 : ¬ (k : Int) < xs.length := by omega
      have HP := hide hput; have HKN := hide hkn; clear hput p1 p2 c0
      have htl : (xs.take k).length = k := by rw [List.length_take]; omega
      have hdl : (xs.drop k).length = xs.length - k := List.length_drop
      have hszg : ∀ (W : World) (o : Obj), (W.alloc o).heap.size = W.heap.size + 1 := fun W o => by simp
      have ba1 := below_alloc w (.cells #[] 3)
      have ba := ba1.drew
      have hoa : Own 1 encI 3 (w.alloc (.cells #[] 3)).drew w.heap.size (.slice (some ⟨w.heap.size, 0, none⟩) 0 0) ([] : List Int) := Own.made (cs := #[]) rfl (Nat.le_refl _) (Blk.new w _ _) rfl (Nat.zero_le _) Filled.zero
      have bb := (ba1.alloc ba1.size (.cells #[.int .i64 x] 3)).drew
      have hob : Own 1 encI 3 ((w.alloc (.cells #[] 3)).alloc (.cells #[.int .i64 x] 3)).drew w.heap.size (.slice (some ⟨w.heap.size, 0, none⟩) 0 0) ([] : List Int) := Own.made (cs := #[]) rfl (Nat.le_refl _) ((Blk.new w _ _).alloc _) rfl (Nat.zero_le _) Filled.zero
      have bc1 := below_alloc w (.cells #[.int .i64 x] 3)
      have bc := (bc1.alloc bc1.size (.cells #[] 3)).drew
      have hz1 := hszg w (.cells #[.int .i64 x] 3)
      have hz2 := hszg w (.cells #[] 3)
      have hoc : Own 1 encI 3 ((w.alloc (.cells #[.int .i64 x] 3)).alloc (.cells #[] 3)).drew w.heap.size (.slice (some ⟨w.heap.size + 1, 0, none⟩) 0 0) ([] : List Int) := by
        have := Blk.new (w.alloc (.cells #[.int .i64 x] 3)) 3 #[]
        rw [hz1] at this
        exact Own.made (cs := #[]) rfl (Nat.le_succ _) this rfl (Nat.zero_le _) Filled.zero
      have hsrc := fun (W : World) (hW : Below w.heap.size w W) => src_rowI HR.out 0 (xs.take k) (fun i y h => by
        have h1 := (List.getElem?_eq_some_iff.1 h).1
        rw [htl] at h1
        rw [List.getElem?_take_of_lt h1] at h
        rwa [Nat.zero_add]) (w' := W) (fun o => (bcell hW).1 b o hb)
      have hsrc2 := fun (W : World) (hW : Below w.heap.size w W) => src_rowI HR.out k (xs.drop k) (fun i y h => by rwa [List.getElem?_drop] at h) (w' := W) (fun o => (bcell hW).1 b o hb)
      have hnb : ∀ (w1 : World) (g : Nat), (((w.alloc (.cells #[] 3)).alloc (.cells #[.int .i64 x] 3)).drew).grownBy w1 (Value.slice (some ⟨w.heap.size, 0, none⟩) 0 0).ownBlock → ∀ j u, (flat 1 encI [x])[j]? = some u → w1.cell? ((⟨w.heap.size + 1, 0, none⟩ : Addr).add j) = some u := fun w1 g hg j u hu => by
        have h1 := src_new (w.alloc (.cells #[] 3)) (k := 1) (enc := encI) (ys := [x]) (cs := #[.int .i64 x]) (e := 3) rfl j u hu
        rw [hz2, Addr.add_lit, Nat.zero_add] at h1
        rw [Addr.add_lit, Nat.zero_add]
        rw [World.cell?_of_block (a := ⟨w.heap.size + 1, j, none⟩) (hg.block (w.heap.size + 1) (by show w.heap.size + 1 < ((w.alloc _).alloc _).heap.size; rw [hszg, hszg]; omega) (fun e => by have e' : w.heap.size + 1 = w.heap.size := Option.some.inj e; omega))]
        exact h1
      have hnc : ∀ (w1 : World) (g : Nat), (((w.alloc (.cells #[.int .i64 x] 3)).alloc (.cells #[] 3)).drew).grownBy w1 (Value.slice (some ⟨w.heap.size + 1, 0, none⟩) 0 0).ownBlock → ∀ j u, (flat 1 encI [x])[j]? = some u → w1.cell? ((⟨w.heap.size, 0, none⟩ : Addr).add j) = some u := fun w1 g hg j u hu => by
        have h1 := src_new w (k := 1) (enc := encI) (ys := [x]) (cs := #[.int .i64 x]) (e := 3) rfl j u hu
        rw [Addr.add_lit, Nat.zero_add] at h1 ⊢
        rw [World.cell?_of_block (a := ⟨w.heap.size, j, none⟩) (hg.block w.heap.size (by show w.heap.size < ((w.alloc _).alloc _).heap.size; rw [hszg, hszg]; omega) (fun e => by have e' : w.heap.size = w.heap.size + 1 := Option.some.inj e; omega))]
        have h2 := (below_alloc (w.alloc (.cells #[.int .i64 x] 3)) (.cells #[] 3)).block w.heap.size (by rw [hz1]; omega)
        rw [show ((w.alloc (.cells #[.int .i64 x] 3)).alloc (.cells #[] 3)).drew.cell? ⟨w.heap.size, j, none⟩ = ((w.alloc (.cells #[.int .i64 x] 3)).alloc (.cells #[] 3)).cell? ⟨w.heap.size, j, none⟩ from rfl, World.cell?_of_block (a := ⟨w.heap.size, j, none⟩) h2]
        exact h1
      have HOA := hide hoa; have HOB := hide hob; have HOC := hide hoc; have BA := hide ba; have BB := hide bb; have BC := hide bc
      have HSRC := hide hsrc; have HSRC2 := hide hsrc2; have HNB := hide hnb; have HNC := hide hnc
      have HTL := hide htl; have HDL := hide hdl
      clear hoa hob hoc ba ba1 bb bc bc1 hsrc hsrc2 hnb hnc htl hdl hz1 hz2 hszg
      by_cases hck : cap = k
      · have hckk : (k : Int) ≤ cap := by omega
        have hkx : (k : Int) ≤ xs.length := by omega
        clear hkn
        have hck' := hck.symm
        subst hck'
        go_wp2_with fail
        go_region_held3 (fun _ => True) (trivial)
          (first
            | (refine step_pushP (k := 1) (enc := encI) _ (by rfl) _ _ 52 (by rfl) 3 (.int .i64 0) 8 Try.underlying52 infoI rfl (by omega) encI_one w.heap.size _ ([] : List Int) (by rfl) HOA.out ⟨b, off + 0, none⟩ k (xs.take k) (by rw [HTL.out]; rfl) (HSRC.out _ BA.out) (by rw [HTL.out]; simp; omega) (by rw [HTL.out]; simp; omega) BA.out.size BA.out (Nat.le_refl _) ?_; intro v1 w1 ho1 hb1 hg1; have HO1 := hide ho1; clear ho1 hg1)
            | (refine step_pushP (k := 1) (enc := encI) _ (by rfl) _ _ 52 (by rfl) 3 (.int .i64 0) 8 Try.underlying52 infoI rfl (by omega) encI_one w.heap.size _ ([] : List Int) (by rfl) HOB.out ⟨b, off + 0, none⟩ k (xs.take k) (by rw [HTL.out]; rfl) (HSRC.out _ BB.out) (by rw [HTL.out]; simp; omega) (by rw [HTL.out]; simp; omega) BB.out.size BB.out (Nat.le_refl _) ?_; intro v1 w1 ho1 hb1 hg1; have HO1 := hide ho1; have HN := hide (HNB.out w1 0 hg1); clear ho1 hg1)
            | (refine step_pushP (k := 1) (enc := encI) _ (by rfl) _ _ 52 (by rfl) 3 (.int .i64 0) 8 Try.underlying52 infoI rfl (by omega) encI_one w.heap.size _ ([] : List Int) (by rfl) HOC.out ⟨b, off + 0, none⟩ k (xs.take k) (by rw [HTL.out]; rfl) (HSRC.out _ BC.out) (by rw [HTL.out]; simp; omega) (by rw [HTL.out]; simp; omega) BC.out.size BC.out (Nat.le_refl _) ?_; intro v1 w1 ho1 hb1 hg1; have HO1 := hide ho1; have HN := hide (HNC.out w1 0 hg1); clear ho1 hg1)
            | (refine step_pushP (k := 1) (enc := encI) _ (by rfl) _ _ 52 (by rfl) 3 (.int .i64 0) 8 Try.underlying52 infoI rfl (by omega) encI_one w.heap.size _ ([] ++ xs.take k) (by rfl) (HO1.out.alloc (.cells #[.int .i64 x] 3)) ⟨w1.heap.size, 0, none⟩ 1 [x] (by rfl) (src_new w1 rfl) (by simp [HTL.out]; omega) (by simp [HTL.out]; omega) (hb1.alloc hb1.size (.cells #[.int .i64 x] 3)).size (hb1.alloc hb1.size (.cells #[.int .i64 x] 3)) (Nat.le_refl _) ?_; intro v2 w2 ho2 hb2 hg2; have HO2 := hide ho2; clear ho2 hg2)
            | (refine step_pushP (k := 1) (enc := encI) _ (by rfl) _ _ 52 (by rfl) 3 (.int .i64 0) 8 Try.underlying52 infoI rfl (by omega) encI_one w.heap.size _ ([] ++ xs.take k) (by rfl) HO1.out ⟨w.heap.size + 1, 0, none⟩ 1 [x] (by rfl) HN.out (by simp [HTL.out]; omega) (by simp [HTL.out]; omega) hb1.size hb1 (Nat.le_refl _) ?_; intro v2 w2 ho2 hb2 hg2; have HO2 := hide ho2; clear ho2 hg2)
            | (refine step_pushP (k := 1) (enc := encI) _ (by rfl) _ _ 52 (by rfl) 3 (.int .i64 0) 8 Try.underlying52 infoI rfl (by omega) encI_one w.heap.size _ ([] ++ xs.take k) (by rfl) HO1.out ⟨w.heap.size, 0, none⟩ 1 [x] (by rfl) HN.out (by simp [HTL.out]; omega) (by simp [HTL.out]; omega) hb1.size hb1 (Nat.le_refl _) ?_; intro v2 w2 ho2 hb2 hg2; have HO2 := hide ho2; clear ho2 hg2)
            | (refine step_pushP (k := 1) (enc := encI) _ (by rfl) _ _ 52 (by rfl) 3 (.int .i64 0) 8 Try.underlying52 infoI rfl (by omega) encI_one w.heap.size _ ([] ++ xs.take k ++ [x]) (by rfl) HO2.out ⟨b, off, none⟩ 0 ([] : List Int) (by rfl) (fun i u hu => by simp [flat] at hu) (by simp [HTL.out]; omega) (by simp [HTL.out]; omega) hb2.size hb2 (Nat.le_refl _) ?_; intro v3 w3 ho3 hb3 hg3; have HO3 := hide ho3; clear ho3 hg3))
        all_goals
          go_wp2_with fail
          go_ret
          rw [HP.out, List.drop_eq_nil_of_le (show xs.length ≤ k by omega)]
          exact ⟨_, rfl, HO3.out.is, hb3⟩
      · have hckk : (k : Int) ≤ cap := by omega
        have hkx : (k : Int) ≤ xs.length := by omega
        clear hkn
        go_wp2_with fail
        go_region_held3 (fun _ => True) (trivial)
          (first
            | (refine step_pushP (k := 1) (enc := encI) _ (by rfl) _ _ 52 (by rfl) 3 (.int .i64 0) 8 Try.underlying52 infoI rfl (by omega) encI_one w.heap.size _ ([] : List Int) (by rfl) HOA.out ⟨b, off + 0, none⟩ cap (xs.take k) (by rw [HTL.out]; rfl) (HSRC.out _ BA.out) (by rw [HTL.out]; simp; omega) (by rw [HTL.out]; simp; omega) BA.out.size BA.out (Nat.le_refl _) ?_; intro v1 w1 ho1 hb1 hg1; have HO1 := hide ho1; clear ho1 hg1)
            | (refine step_pushP (k := 1) (enc := encI) _ (by rfl) _ _ 52 (by rfl) 3 (.int .i64 0) 8 Try.underlying52 infoI rfl (by omega) encI_one w.heap.size _ ([] : List Int) (by rfl) HOB.out ⟨b, off + 0, none⟩ cap (xs.take k) (by rw [HTL.out]; rfl) (HSRC.out _ BB.out) (by rw [HTL.out]; simp; omega) (by rw [HTL.out]; simp; omega) BB.out.size BB.out (Nat.le_refl _) ?_; intro v1 w1 ho1 hb1 hg1; have HO1 := hide ho1; have HN := hide (HNB.out w1 0 hg1); clear ho1 hg1)
            | (refine step_pushP (k := 1) (enc := encI) _ (by rfl) _ _ 52 (by rfl) 3 (.int .i64 0) 8 Try.underlying52 infoI rfl (by omega) encI_one w.heap.size _ ([] : List Int) (by rfl) HOC.out ⟨b, off + 0, none⟩ cap (xs.take k) (by rw [HTL.out]; rfl) (HSRC.out _ BC.out) (by rw [HTL.out]; simp; omega) (by rw [HTL.out]; simp; omega) BC.out.size BC.out (Nat.le_refl _) ?_; intro v1 w1 ho1 hb1 hg1; have HO1 := hide ho1; have HN := hide (HNC.out w1 0 hg1); clear ho1 hg1)
            | (refine step_pushP (k := 1) (enc := encI) _ (by rfl) _ _ 52 (by rfl) 3 (.int .i64 0) 8 Try.underlying52 infoI rfl (by omega) encI_one w.heap.size _ ([] ++ xs.take k) (by rfl) (HO1.out.alloc (.cells #[.int .i64 x] 3)) ⟨w1.heap.size, 0, none⟩ 1 [x] (by rfl) (src_new w1 rfl) (by simp [HTL.out]; omega) (by simp [HTL.out]; omega) (hb1.alloc hb1.size (.cells #[.int .i64 x] 3)).size (hb1.alloc hb1.size (.cells #[.int .i64 x] 3)) (Nat.le_refl _) ?_; intro v2 w2 ho2 hb2 hg2; have HO2 := hide ho2; clear ho2 hg2)
            | (refine step_pushP (k := 1) (enc := encI) _ (by rfl) _ _ 52 (by rfl) 3 (.int .i64 0) 8 Try.underlying52 infoI rfl (by omega) encI_one w.heap.size _ ([] ++ xs.take k) (by rfl) HO1.out ⟨w.heap.size + 1, 0, none⟩ 1 [x] (by rfl) HN.out (by simp [HTL.out]; omega) (by simp [HTL.out]; omega) hb1.size hb1 (Nat.le_refl _) ?_; intro v2 w2 ho2 hb2 hg2; have HO2 := hide ho2; clear ho2 hg2)
            | (refine step_pushP (k := 1) (enc := encI) _ (by rfl) _ _ 52 (by rfl) 3 (.int .i64 0) 8 Try.underlying52 infoI rfl (by omega) encI_one w.heap.size _ ([] ++ xs.take k) (by rfl) HO1.out ⟨w.heap.size, 0, none⟩ 1 [x] (by rfl) HN.out (by simp [HTL.out]; omega) (by simp [HTL.out]; omega) hb1.size hb1 (Nat.le_refl _) ?_; intro v2 w2 ho2 hb2 hg2; have HO2 := hide ho2; clear ho2 hg2)
            | (refine step_pushP (k := 1) (enc := encI) _ (by rfl) _ _ 52 (by rfl) 3 (.int .i64 0) 8 Try.underlying52 infoI rfl (by omega) encI_one w.heap.size _ ([] ++ xs.take k ++ [x]) (by rfl) HO2.out ⟨b, off + k, none⟩ (cap - k) (xs.drop k) (by rw [HDL.out]; rfl) (HSRC2.out _ hb2) (by simp [HTL.out, HDL.out]; omega) (by simp [HTL.out, HDL.out]; omega) hb2.size hb2 (Nat.le_refl _) ?_; intro v3 w3 ho3 hb3 hg3; have HO3 := hide ho3; clear ho3 hg3))
        all_goals
          go_wp2_with fail
          go_ret
          rw [HP.out]
          exact ⟨_, rfl, HO3.out.is, hb3⟩
theorem run_append_0 {P : Program} {α : Type} {k : Nat} {enc : α → Nat → Value} (w : World) (t ty e : TypeId) (i : TypeInfo) (ht : P.underlying t = some (.slice e)) (hi : P.info? e = some i)
    (base : Nat) (v : Value) (xs : List α) (hown : Own k enc e w base v xs) (A : Option Addr) (c : Nat) :
    (Builtin.append_ #[t, t] ty #[v, .slice A 0 c]).run P w = .ok v w := by
  rcases hown with ⟨rfl, _⟩ | ⟨g, cap, cs, rfl, _, _, hle, _⟩
  · cases A <;> simp [Builtin.append_, run_underlying ht, sizeOf, typeInfo, hi, Builtin.lenOf, Builtin.firstCells, loadCells, loadCellsFrom]
  · cases A <;> simp [Builtin.append_, run_underlying ht, sizeOf, typeInfo, hi, Builtin.lenOf, Builtin.firstCells, loadCells, loadCellsFrom, hle, storeCells]
theorem step_push0 {P : Program} {α : Type} {k : Nat} {enc : α → Nat → Value} (w : World) {ops : Array Oper} {o : Oper} {a : Act} {K : Act → World → Prop} {Q : Exit → Act → World → Prop} {E : Prop} (hgd : o.guard = none) (s x : Operand) (t : TypeId)
    (ho : o.op = .call { callee := .builtin .append, args := #[s, x], argTypes := #[t, t] })
    (e : TypeId) (z : Value) (bytes : Nat) (ht : P.underlying t = some (.slice e)) (hi : (P.info? e).map (fun i => (i.zero, i.size, i.bytes)) = some (some z, k, bytes))
    (base : Nat) (v : Value) (xs : List α) (hs : a.eval s = v) (hown : Own k enc e w base v xs)
    (A : Option Addr) (c : Nat) (hx : a.eval x = .slice A 0 c) (h : K (a.put o.dst v) w) :
    if Region.wanted o (yielded ops a.tmps) = true then Oper.wp P o a w K Q else E := by
  have hwd : Region.wanted o (yielded ops a.tmps) = true := by simp [Region.wanted, hgd]
  rw [if_pos hwd]
  obtain ⟨i, h1, h2, h3, h4⟩ := info_parts' hi
  have hr := run_append_0 (P := P) w t o.type e i ht h1 base v xs hown A c
  unfold Oper.wp execOp
  simp only [ho, resolve, invoke, builtin, Sem.run_bind, Sem.run_pure, Result.andThen_ok, List.map_toArray, List.map_cons, List.map_nil, hs, hx, hr]
  exact h
theorem srcB {w : World} {g : Nat} {e : TypeId} {cs : Array Value} {α : Type} {kk : Nat} {enc : α → Nat → Value} {ys : List α} (hb : Blk w g e cs) (h : cs.toList = flat kk enc ys) : ∀ j u, (flat kk enc ys)[j]? = some u → w.cell? ((⟨g, 0, none⟩ : Addr).add j) = some u := by
  intro j u hu
  rw [Addr.add_lit, Nat.zero_add, hb.cell, ← hu, ← h]
  simp
set_option maxHeartbeats 4000000 in
theorem l1Put_any (A : Option Addr) (cap : Nat) (xs : List Int) (x : Int) (w : World) (hr : Row 1 encI w w.heap.size A xs) (h1 : xs.length ≤ 1000) (hcap : xs.length ≤ cap) (hcm : cap ≤ maxLen) :
    Calls Try.prog 116 #[.slice A xs.length cap, .int .i64 x] w fun e w' => ∃ r, e = .returned r ∧ Is 1 encI w' r (putL xs x) ∧ Below w.heap.size w w' := by
  rcases Nat.eq_zero_or_pos xs.length with h0 | h0
  · have hx : xs = [] := List.eq_nil_of_length_eq_zero h0
    subst hx
    have hput : putL [] x = [] ++ [x] := rfl
    have HP := hide hput
    clear hr hput h0 h1 hcap
    have hc63 : cap ≤ 9223372036854775807 := by simp only [maxLen] at hcm; omega
    have hszg : ∀ (W : World) (o : Obj), (W.alloc o).heap.size = W.heap.size + 1 := fun W o => by simp
    have ba1 := below_alloc w (.cells #[] 3)
    have hoa : Own 1 encI 3 (w.alloc (.cells #[] 3)).drew w.heap.size (.slice (some ⟨w.heap.size, 0, none⟩) 0 0) ([] : List Int) := Own.made (cs := #[]) rfl (Nat.le_refl _) (Blk.new w _ _) rfl (Nat.zero_le _) Filled.zero
    have bb := (ba1.alloc ba1.size (.cells #[.int .i64 x] 3)).drew
    have hob : Own 1 encI 3 ((w.alloc (.cells #[] 3)).alloc (.cells #[.int .i64 x] 3)).drew w.heap.size (.slice (some ⟨w.heap.size, 0, none⟩) 0 0) ([] : List Int) := Own.made (cs := #[]) rfl (Nat.le_refl _) ((Blk.new w _ _).alloc _) rfl (Nat.zero_le _) Filled.zero
    have bd := ba1.drew.alloc ba1.drew.size (.cells #[.int .i64 x] 3)
    have hod : Own 1 encI 3 ((w.alloc (.cells #[] 3)).drew.alloc (.cells #[.int .i64 x] 3)) w.heap.size (.slice (some ⟨w.heap.size, 0, none⟩) 0 0) ([] : List Int) := hoa.alloc (.cells #[.int .i64 x] 3)
    have bc1 := below_alloc w (.cells #[.int .i64 x] 3)
    have bc := (bc1.alloc bc1.size (.cells #[] 3)).drew
    have hz1 := hszg w (.cells #[.int .i64 x] 3)
    have hz2 := hszg w (.cells #[] 3)
    have hoc : Own 1 encI 3 ((w.alloc (.cells #[.int .i64 x] 3)).alloc (.cells #[] 3)).drew w.heap.size (.slice (some ⟨w.heap.size + 1, 0, none⟩) 0 0) ([] : List Int) := by
      have := Blk.new (w.alloc (.cells #[.int .i64 x] 3)) 3 #[]
      rw [hz1] at this
      exact Own.made (cs := #[]) rfl (Nat.le_succ _) this rfl (Nat.zero_le _) Filled.zero
    have hnb := srcB (w := ((w.alloc (.cells #[] 3)).alloc (.cells #[.int .i64 x] 3)).drew) (g := w.heap.size + 1) (kk := 1) (enc := encI) (ys := [x]) (by have := Blk.new (w.alloc (.cells #[] 3)) 3 #[.int .i64 x]; rw [hz2] at this; exact this) rfl
    have hnd := srcB (w := ((w.alloc (.cells #[] 3)).drew.alloc (.cells #[.int .i64 x] 3))) (g := w.heap.size + 1) (kk := 1) (enc := encI) (ys := [x]) (by have := Blk.new (w.alloc (.cells #[] 3)).drew 3 #[.int .i64 x]; rw [show (w.alloc (.cells #[] 3)).drew.heap.size = w.heap.size + 1 from hz2] at this; exact this) rfl
    have hnc := srcB (w := ((w.alloc (.cells #[.int .i64 x] 3)).alloc (.cells #[] 3)).drew) (g := w.heap.size) (kk := 1) (enc := encI) (ys := [x]) ((Blk.new w 3 #[.int .i64 x]).alloc (.cells #[] 3)) rfl
    have HOA := hide hoa; have HOB := hide hob; have HOC := hide hoc; have HOD := hide hod; have BB := hide bb; have BC := hide bc; have BD := hide bd
    have HNB := hide hnb; have HNC := hide hnc; have HND := hide hnd
    clear hoa hob hoc hod ba1 bb bc bc1 bd hnb hnc hnd hz1 hz2 hszg
    cases A with
    | none =>
      go_enter Try.func116, Try.ntmps116
      go_wp2_with fail
      go_loop [5] (fun i => i = .int .i64 0) (fun _ => 0)
      case atStart => rfl
      case round =>
        subst hrel
        go_wp2_with fail
        go_region_held3 (fun _ => True) (trivial)
          (first
            | (refine step_push0 (k := 1) (enc := encI) _ (by rfl) _ _ 52 (by rfl) 3 (.int .i64 0) 8 Try.underlying52 infoI w.heap.size _ ([] : List Int) (by rfl) HOA.out _ _ (by rfl) ?_)
            | (refine step_push0 (k := 1) (enc := encI) _ (by rfl) _ _ 52 (by rfl) 3 (.int .i64 0) 8 Try.underlying52 infoI w.heap.size _ ([] : List Int) (by rfl) HOB.out _ _ (by rfl) ?_)
            | (refine step_push0 (k := 1) (enc := encI) _ (by rfl) _ _ 52 (by rfl) 3 (.int .i64 0) 8 Try.underlying52 infoI w.heap.size _ ([] : List Int) (by rfl) HOC.out _ _ (by rfl) ?_)
            | (refine step_pushP (k := 1) (enc := encI) _ (by rfl) _ _ 52 (by rfl) 3 (.int .i64 0) 8 Try.underlying52 infoI rfl (by omega) encI_one w.heap.size _ ([] : List Int) (by rfl) HOB.out ⟨w.heap.size + 1, 0, none⟩ 1 [x] (by rfl) HNB.out (by simp) (by simp) BB.out.size BB.out (Nat.le_refl _) ?_; intro v2 w2 ho2 hb2 hg2; have HO2 := hide ho2; clear ho2 hg2)
            | (refine step_pushP (k := 1) (enc := encI) _ (by rfl) _ _ 52 (by rfl) 3 (.int .i64 0) 8 Try.underlying52 infoI rfl (by omega) encI_one w.heap.size _ ([] : List Int) (by rfl) HOC.out ⟨w.heap.size, 0, none⟩ 1 [x] (by rfl) HNC.out (by simp) (by simp) BC.out.size BC.out (Nat.le_refl _) ?_; intro v2 w2 ho2 hb2 hg2; have HO2 := hide ho2; clear ho2 hg2)
            | (refine step_pushP (k := 1) (enc := encI) _ (by rfl) _ _ 52 (by rfl) 3 (.int .i64 0) 8 Try.underlying52 infoI rfl (by omega) encI_one w.heap.size _ ([] : List Int) (by rfl) HOD.out ⟨w.heap.size + 1, 0, none⟩ 1 [x] (by rfl) HND.out (by simp) (by simp) BD.out.size BD.out (Nat.le_refl _) ?_; intro v2 w2 ho2 hb2 hg2; have HO2 := hide ho2; clear ho2 hg2)
            | (refine step_push0 (k := 1) (enc := encI) _ (by rfl) _ _ 52 (by rfl) 3 (.int .i64 0) 8 Try.underlying52 infoI w.heap.size _ ([] ++ [x]) (by rfl) HO2.out _ _ (by rfl) ?_))
        all_goals
          go_wp2_with fail
          go_ret
          rw [HP.out]
          exact ⟨_, rfl, HO2.out.is, hb2⟩
    | some ad =>
      go_enter Try.func116, Try.ntmps116
      go_wp2_with fail
      go_loop [5] (fun i => i = .int .i64 0) (fun _ => 0)
      case atStart => rfl
      case round =>
        subst hrel
        go_wp2_with fail
        go_region_held3 (fun _ => True) (trivial)
          (first
            | (refine step_push0 (k := 1) (enc := encI) _ (by rfl) _ _ 52 (by rfl) 3 (.int .i64 0) 8 Try.underlying52 infoI w.heap.size _ ([] : List Int) (by rfl) HOA.out _ _ (by rfl) ?_)
            | (refine step_push0 (k := 1) (enc := encI) _ (by rfl) _ _ 52 (by rfl) 3 (.int .i64 0) 8 Try.underlying52 infoI w.heap.size _ ([] : List Int) (by rfl) HOB.out _ _ (by rfl) ?_)
            | (refine step_push0 (k := 1) (enc := encI) _ (by rfl) _ _ 52 (by rfl) 3 (.int .i64 0) 8 Try.underlying52 infoI w.heap.size _ ([] : List Int) (by rfl) HOC.out _ _ (by rfl) ?_)
            | (refine step_pushP (k := 1) (enc := encI) _ (by rfl) _ _ 52 (by rfl) 3 (.int .i64 0) 8 Try.underlying52 infoI rfl (by omega) encI_one w.heap.size _ ([] : List Int) (by rfl) HOB.out ⟨w.heap.size + 1, 0, none⟩ 1 [x] (by rfl) HNB.out (by simp) (by simp) BB.out.size BB.out (Nat.le_refl _) ?_; intro v2 w2 ho2 hb2 hg2; have HO2 := hide ho2; clear ho2 hg2)
            | (refine step_pushP (k := 1) (enc := encI) _ (by rfl) _ _ 52 (by rfl) 3 (.int .i64 0) 8 Try.underlying52 infoI rfl (by omega) encI_one w.heap.size _ ([] : List Int) (by rfl) HOC.out ⟨w.heap.size, 0, none⟩ 1 [x] (by rfl) HNC.out (by simp) (by simp) BC.out.size BC.out (Nat.le_refl _) ?_; intro v2 w2 ho2 hb2 hg2; have HO2 := hide ho2; clear ho2 hg2)
            | (refine step_pushP (k := 1) (enc := encI) _ (by rfl) _ _ 52 (by rfl) 3 (.int .i64 0) 8 Try.underlying52 infoI rfl (by omega) encI_one w.heap.size _ ([] : List Int) (by rfl) HOD.out ⟨w.heap.size + 1, 0, none⟩ 1 [x] (by rfl) HND.out (by simp) (by simp) BD.out.size BD.out (Nat.le_refl _) ?_; intro v2 w2 ho2 hb2 hg2; have HO2 := hide ho2; clear ho2 hg2)
            | (refine step_push0 (k := 1) (enc := encI) _ (by rfl) _ _ 52 (by rfl) 3 (.int .i64 0) 8 Try.underlying52 infoI w.heap.size _ ([] ++ [x]) (by rfl) HO2.out _ _ (by rfl) ?_))
        all_goals
          go_wp2_with fail
          go_ret
          rw [HP.out]
          exact ⟨_, rfl, HO2.out.is, hb2⟩
  · rcases hr with h | ⟨b, off, rfl, hb, hc⟩
    · subst h; simp at h0
    · exact l1Put_is b off cap xs x w (.inr ⟨b, off, rfl, hb, hc⟩) h0 h1 hcap hcm
end Go.Proofs.Ytdbcilinoieabaa
