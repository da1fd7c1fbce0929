/- Contracts of the library's Grow and Concat on claims, and of Culprits in impl and spec: the Lean function culV. Conditions of the first two: lengths up to 1000, something to lay. (Printed by mkcul.py.) -/
import Derived.Test.YtijjecckfcbaoaaL8Q
import Derived.Lib.AppendZerosOnto
import Derived.IntWalk
namespace Go.Proofs.Ytijjecckfcbaoaa
open Go.RowKit Go.Lib
set_option linter.unusedVariables false
set_option maxRecDepth 100000 in
theorem growCl_any (n : Nat) (w : World) (h0 : 0 < n) (h1 : n ≤ 1048576) :
    Calls Try.prog 90 #[.slice none 0 0, .int .i64 n] w fun e w' => ∃ r, e = .returned r ∧ Own 4 SClaim.enc 23 w' w.heap.size r ([] : List SClaim) ∧ Below w.heap.size w w' := by
  obtain ⟨i, hi, hz, hs, hb⟩ := info_parts' SClaim.info
  have hG := grownCap_ge w (0 + n) 0 23
  have hM := grownCap_le_maxLen w (0 + n) 0 23 (by unfold maxLen; omega)
  have hrz : ∀ ty, (Builtin.append_ #[34, 3] ty #[.slice none 0 0, .int .i64 (n : Int)]).run Try.prog w =
      .ok (.slice (some ⟨w.heap.size, 0, none⟩) n (grownCap w (0 + n) 0 23)) (w.drew.alloc (.cells (#[] ++ Builtin.zeroCells (Value.agg #[.int .i64 0, .int .i64 0, .int .i64 0, .int .i64 0]).cells n ++ Builtin.zeroCells (Value.agg #[.int .i64 0, .int .i64 0, .int .i64 0, .int .i64 0]).cells (grownCap w (0 + n) 0 23 - (0 + n))) 23)) := fun ty => by
    have h := Lib.run_append_grow_zeros w 34 3 ty 23 i _ .i64 .i64 Try.underlying34 Try.underlying3 hi hz none 0 0 [] (run_firstCells_none w.drew i.size 0 0 0) n h0 (by omega) (by omega) (by omega) (by rw [hb]; omega) (growslice_fits (by omega) (by rw [hb]; omega))
    rw [Nat.zero_add] at h
    rw [Nat.zero_add]
    exact h
  have hown : Own 4 SClaim.enc 23 (w.drew.alloc (.cells (#[] ++ Builtin.zeroCells (Value.agg #[.int .i64 0, .int .i64 0, .int .i64 0, .int .i64 0]).cells n ++ Builtin.zeroCells (Value.agg #[.int .i64 0, .int .i64 0, .int .i64 0, .int .i64 0]).cells (grownCap w (0 + n) 0 23 - (0 + n))) 23)) w.heap.size (.slice (some ⟨w.heap.size, 0, none⟩) 0 (grownCap w (0 + n) 0 23)) ([] : List SClaim) := by
    refine .inr ⟨_, _, _, rfl, Nat.le_refl _, Blk.new w.drew _ _, Nat.zero_le _, hM, ?_, Filled.zero⟩
    rw [Array.size_append, Array.size_append, size_zeroCells, size_zeroCells]
    show 0 + n * 4 + _ * 4 = _
    omega
  have hbel : Below w.heap.size w (w.drew.alloc (.cells (#[] ++ Builtin.zeroCells (Value.agg #[.int .i64 0, .int .i64 0, .int .i64 0, .int .i64 0]).cells n ++ Builtin.zeroCells (Value.agg #[.int .i64 0, .int .i64 0, .int .i64 0, .int .i64 0]).cells (grownCap w (0 + n) 0 23 - (0 + n))) 23)) := (Below.refl _ _).drew.alloc (Nat.le_refl _) _
  rw [Nat.zero_add] at hG hM
  generalize #[] ++ Builtin.zeroCells (Value.agg #[.int .i64 0, .int .i64 0, .int .i64 0, .int .i64 0]).cells n ++ Builtin.zeroCells (Value.agg #[.int .i64 0, .int .i64 0, .int .i64 0, .int .i64 0]).cells (grownCap w (0 + n) 0 23 - (0 + n)) = cs at hrz hown hbel
  rw [Nat.zero_add] at hrz hown
  generalize grownCap w n 0 23 = G at hrz hown hG hM
  have hG63 : G ≤ 9223372036854775807 := hM
  have HR := hide hrz; have HO := hide hown; have HB := hide hbel; clear hrz hown hbel
  go_enter Try.func90, Try.ntmps90
  go_wp2_with (at_builtin; refine Lib.wpList_append_run _ rfl _ _ _ _ rfl _ _ rfl rfl _ _ (HR.out _) ?_)
  go_ret
  exact ⟨_, rfl, HO.out, HB.out⟩

def slotV (p : Value × List SClaim) : Nat → Value := fun _ => p.1
def cat (ps : List (Value × List SClaim)) : List SClaim := ps.flatMap (·.2)
theorem cat_succ {ps : List (Value × List SClaim)} {i : Nat} (h : i < ps.length) : cat (ps.take (i + 1)) = cat (ps.take i) ++ ps[i].2 := by
  rw [take_snoc' h]; unfold cat; rw [List.flatMap_append]; simp
theorem cat_bd {ps : List (Value × List SClaim)} {M : Nat} (h : ∀ p ∈ ps, p.2.length ≤ M) (i : Nat) (hi : i ≤ ps.length) : (cat (ps.take i)).length ≤ i * M := by
  induction i with
  | zero => simp [cat]
  | succ i ih =>
    rw [cat_succ hi, List.length_append, Nat.add_mul]
    have := ih (by omega)
    have := h _ (List.getElem_mem hi)
    omega
set_option maxRecDepth 100000 in
set_option maxHeartbeats 1000000 in
theorem concatCl_any (v : Value) (ps : List (Value × List SClaim)) (w : World) (h : Is 1 slotV w v ps) (hp : ∀ p ∈ ps, p.2.length ≤ 1000 ∧ ∃ ad cap, p.1 = .slice (some ad) p.2.length cap ∧ ∀ W, Below w.heap.size w W → ∀ j u, (flat 4 SClaim.enc p.2)[j]? = some u → W.cell? (ad.add j) = some u) (hpos : 1 ≤ (cat ps).length) (h0 : 1 ≤ ps.length) (h1 : ps.length ≤ 100) :
    Calls Try.prog 73 #[v] w fun e w' => ∃ r, e = .returned r ∧ Own 4 SClaim.enc 23 w' w.heap.size r (cat ps) ∧ Below w.heap.size w w' := by
  obtain ⟨A, cap, rfl, hr, _, _⟩ := h
  have hbd := cat_bd (M := 1000) (fun p h => (hp p h).1)
  have HBD := hide hbd; clear hbd
  have HP := hide hp; clear hp
  generalize hB : w.heap.size = B at hr ⊢
  have HB := hide hB; clear hB
  have HR := hide hr; clear hr
  go_enter Try.func73, Try.ntmps73
  go_wp2_with fail
  go_loop [3, 11] (fun s i => ∃ k : Nat, k ≤ ps.length ∧ i = .int .i64 k ∧ s = .int .i64 ((cat (ps.take k)).length : Nat)) (fun _ i => ps.length - (intOf i).toNat)
  case atStart => exact ⟨0, by omega, rfl, by simp [cat]⟩
  case round =>
    obtain ⟨i, hi, rfl, rfl⟩ := hrel
    by_cases hlt : i < ps.length
    · obtain ⟨b, off, hA, hb, hc⟩ := HR.out.get hlt
      have c0 := hc 0 (by omega)
      rw [Nat.mul_one, Nat.add_zero] at c0
      change _ = some ps[i].1 at c0
      subst hA
      obtain ⟨q2, ad', cap', hv, _⟩ := HP.out _ (List.getElem_mem hlt)
      rw [hv] at c0
      clear hc
      have hst : (cat (ps.take (i + 1))).length = (cat (ps.take i)).length + ps[i].2.length := by rw [cat_succ hlt, List.length_append]
      have hb0 := HBD.out i (by omega)
      generalize (cat (ps.take i)).length = S at hst hb0
      generalize ps[i].2.length = L at hst q2 c0
      have HST := hide hst; clear hst
      have hS : S ≤ 100000 := by omega
      clear hb0
      go_wp2_with fail
      go_round
      case rel => exact ⟨i + 1, by omega, by go_num, by rw [HST.out]; go_num⟩
      case measure => simp [intOf]; omega
    · have hk : i = ps.length := by omega
      subst hk
      rw [List.take_length]
      have hmax := HBD.out ps.length (Nat.le_refl _)
      rw [List.take_length] at hmax
      go_wp2_with fail
      refine (growCl_any (cat ps).length w hpos (by omega)).mono ?_; rintro e w1 ⟨r, rfl, ho, hb1⟩
      rw [HB.out] at ho hb1
      have HO := hide ho; clear ho
      go_wp2_with fail
      go_loopw [6, 27] (fun s i wr => ∃ k : Nat, k ≤ ps.length ∧ i = .int .i64 k ∧ Own 4 SClaim.enc 23 wr B s (cat (ps.take k)) ∧ Below B w wr) (fun _ i _ => ps.length - (intOf i).toNat)
      case atStart => exact ⟨0, by omega, rfl, HO.out, hb1⟩
      case round =>
        obtain ⟨i, hi, rfl, hown, hbel⟩ := hrel
        have hsz : B ≤ wr.heap.size := by have := hbel.size; rw [HB.out] at this; exact this
        have HOW := hide hown; clear hown
        by_cases hlt : i < ps.length
        · obtain ⟨b, off, hA, hb, hc⟩ := (HR.out.below hbel (Nat.le_refl _) (Nat.le_refl _)).get hlt
          have c0 := hc 0 (by omega)
          rw [Nat.mul_one, Nat.add_zero] at c0
          change _ = some ps[i].1 at c0
          subst hA
          obtain ⟨q2, ad', cap', hv, hsrc⟩ := HP.out _ (List.getElem_mem hlt)
          have hsrc2 := hsrc wr (by rw [HB.out]; exact hbel)
          have hst := cat_succ hlt
          have hl1 := HBD.out i hi
          rw [hv] at c0
          generalize ps[i].2 = ys at hst q2 c0 hsrc2
          have HST := hide hst; have HSRC := hide hsrc2; clear hst hsrc2 hsrc hc hv
          have hb'' : b < wr.heap.size := by omega
          go_wp2_with (at_builtin; refine wpList_push (k := 4) (enc := SClaim.enc) _ rfl _ _ 34 rfl 23 (.agg #[.int .i64 0, .int .i64 0, .int .i64 0, .int .i64 0]) 32 Try.underlying34 SClaim.info rfl (by omega) SClaim.one B _ (cat (ps.take i)) rfl HOW.out ad' cap' ys rfl HSRC.out (by omega) (by omega) hsz ?_; intro v1 w1 ho1 hg1 _; have hb2 := HOW.out.belowGrown hbel hg1 (Nat.le_refl _) hsz; have HO1 := hide ho1; clear ho1 hg1)
          refine ⟨⟨i + 1, by omega, by go_num, by rw [HST.out]; exact HO1.out, hb2⟩, by simp [intOf]; omega⟩
        · have hk : i = ps.length := by omega
          subst hk
          have hL := List.take_length (l := ps)
          have HL := hide hL; clear hL
          go_wp2_with fail
          go_ret
          exact ⟨_, rfl, by have := HOW.out; rw [HL.out] at this; exact this, hbel⟩

/-! ### culprits -/
def wo (xs : List SClaim) (k : Nat) : List SClaim := xs.take k ++ xs.drop (k + 1)
theorem areB_wo {n : Nat} {xs : List SClaim} (h : areB n xs = true) (k : Nat) : areB n (wo xs k) = true := by
  obtain ⟨h1, h2, h3⟩ := areB_iff.1 h
  refine areB_iff.2 ⟨fun c hc => ?_, h2, ?_⟩
  · unfold wo at hc
    rcases List.mem_append.1 hc with h | h
    · exact h1 c (List.mem_of_mem_take h)
    · exact h1 c (List.mem_of_mem_drop h)
  · unfold wo
    rw [List.length_append, List.length_take, List.length_drop]; omega
theorem sound_few {n : Nat} {xs : List SClaim} (h : areB n xs = true) (hs : soundB n xs = false) : 2 ≤ xs.length := by
  refine Classical.byContradiction fun hl => ?_
  have hp : Pot (stepsOf xs) := by
    match xs, hl with
    | [], _ => exact ⟨fun _ => 0, fun e he => by simp [stepsOf] at he⟩
    | [c], _ =>
      have h1 := oneB_iff.1 ((areB_iff.1 h).1 c List.mem_cons_self)
      refine ⟨fun v => if v = c.high.toNat then c.most else 0, fun e he => ?_⟩
      have hne : c.low.toNat ≠ c.high.toNat := by omega
      have he2 : e = (c.low.toNat, c.high.toNat, c.most) ∨ e = (c.high.toNat, c.low.toNat, -c.least) := by simpa [stepsOf, stepsC] using he
      rcases he2 with rfl | rfl
      · simp [hne]
      · simp [hne]; omega
    | c :: d :: l, hl => exact absurd hl (by simp)
  rw [(soundB_pot h).2 hp] at hs
  exact absurd hs (by simp)
def culP (n : Nat) (xs : List SClaim) (i : Nat) : Bool := soundB n (wo xs i)
def culV (n : Int) (xs : List SClaim) : List Int × Bool := if areB n xs && !soundB n.toNat xs then (idxs (culP n.toNat xs) xs.length, true) else ([], false)
theorem culV_len (n : Int) (xs : List SClaim) : (culV n xs).1.length ≤ 1048576 := by
  unfold culV; split
  · rename_i h
    rw [Bool.and_eq_true] at h
    have h1 := (areB_iff.1 h.1).2.2
    have h2 := idxs_le (culP n.toNat xs) xs.length
    show (idxs _ _).length ≤ _
    omega
  · simp
theorem src_rowC {w : World} {b off : Nat} {xs : List SClaim} (h : Row 4 SClaim.enc w w.heap.size (some ⟨b, off, none⟩) xs) (hb : b < w.heap.size) (j : Nat) (ys : List SClaim) (hys : ∀ i y, ys[i]? = some y → xs[j + i]? = some y) {w' : World} (hw : Below w.heap.size w w') : ∀ i u, (flat 4 SClaim.enc ys)[i]? = some u → w'.cell? ((⟨b, off + j * 4, none⟩ : Addr).add i) = some u := by
  intro i u hu
  have hi : i < ys.length * 4 := by
    have := (List.getElem?_eq_some_iff.1 hu).1
    rwa [flat_length] at this
  have hq : i / 4 < ys.length := by omega
  have hm : i % 4 < 4 := Nat.mod_lt _ (by omega)
  have h1 := flat_get (enc := SClaim.enc) (List.getElem?_eq_getElem hq) hm
  rw [Nat.div_add_mod' i 4] at h1
  rw [h1] at hu
  have h2 := hys _ _ (List.getElem?_eq_getElem hq)
  rcases h with rfl | ⟨b', off', hA, _, hc⟩
  · simp at h2
  · injection hA with hA; injection hA with e1 e2; subst e1 e2
    have h3 := hc (j + i / 4) _ h2 (i % 4) hm
    rw [Addr.add_lit, (bcell hw).1 b _ hb]
    rw [show off + j * 4 + i = off + (j + i / 4) * 4 + i % 4 by have := Nat.div_add_mod' i 4; rw [Nat.add_mul]; omega]
    rw [h3, hu]
theorem wo_cat (xs : List SClaim) (k : Nat) (v v' : Value) : cat [(v, xs.take k), (v', xs.drop (k + 1))] = wo xs k := by simp [cat, wo]
set_option maxRecDepth 100000 in
set_option maxHeartbeats 4000000 in
theorem implCulprits_any (n : Int) (v : Value) (xs : List SClaim) (w : World) (h : Is 4 SClaim.enc w v xs) :
    Calls Try.prog 35 #[.int .i64 n, v] w fun e w' => ∃ r, e = .returned (.tuple #[r, .bool (culV n xs).2]) ∧ Own 1 encI 3 w' w.heap.size r (culV n xs).1 ∧ Below w.heap.size w w' := by
  have B0 := Below.refl w.heap.size w
  have HE := hide (show Own 1 encI 3 w w.heap.size (.slice none 0 0) ([] : List Int) from Own.nil)
  have hok := implAreClaims_is n v xs w h
  by_cases ha : areB n xs = true
  case neg =>
    rw [Bool.not_eq_true] at ha
    rw [show culV n xs = ([], false) by unfold culV; rw [ha]; rfl]
    rw [ha] at hok
    have HOK := hide hok; clear hok ha h
    go_enter Try.func35, Try.ntmps35
    go_wp2_with fail
    refine HOK.out.mono ?_; rintro e w1 ⟨rfl, hb1⟩
    go_wp2_with fail
    go_ret2
    exact ⟨_, rfl, Own.nil, bstep B0 hb1 B0.size⟩
  have hnn := areB_nat ha
  obtain ⟨hc1, ⟨hn1, hn10⟩, hx24⟩ := areB_iff.1 ha
  rw [ha] at hok
  have hV : culV n xs = if soundB n.toNat xs then ([], false) else (idxs (culP n.toNat xs) xs.length, true) := by
    unfold culV; rw [ha]; cases soundB n.toNat xs <;> rfl
  rw [hV]
  clear hV
  generalize n.toNat = m at hnn ⊢
  subst hnn
  have hsd := fun W (hb : Below w.heap.size w W) => isSound_is m v xs W (h.below hb (Nat.le_refl _)) ha
  have hsw := fun k V W (i : Is 4 SClaim.enc W V (wo xs k)) => isSound_is m V (wo xs k) W i (areB_wo ha k)
  cases hs : soundB m xs with
  | true =>
    rw [if_pos rfl]
    rw [hs] at hsd
    have HOK := hide hok; have HSD := hide hsd; clear hok ha h hsd hsw hs hc1
    go_enter Try.func35, Try.ntmps35
    go_wp2_with fail
    refine HOK.out.mono ?_; rintro e w1 ⟨rfl, hb1⟩
    have B1 := bstep B0 hb1 B0.size
    go_wp2_with fail
    refine (HSD.out _ B1).mono ?_; rintro e w2 ⟨rfl, hb2⟩
    have B2 := bstep B1 hb2 B1.size
    go_wp2_with fail
    go_ret2
    exact ⟨_, rfl, Own.nil, B2⟩
  | false =>
    rw [if_neg (by simp)]
    rw [hs] at hsd
    have hfew := sound_few ha hs
    have hsu := fun k => idxs_succ (culP m xs) k
    have hle := fun k => idxs_le (culP m xs) k
    have h0 : idxs (culP m xs) 0 = [] := rfl
    obtain ⟨A, cap, rfl, hr, hcl, hcm⟩ := h
    obtain ⟨b, off, rfl, hb, _⟩ := hr.get (show 0 < xs.length by omega)
    have hc63 : cap ≤ 9223372036854775807 := by simp only [maxLen] at hcm; omega
    have HOK := hide hok; have HSD := hide hsd; have HSW := hide hsw; have HR := hide hr; have HSU := hide hsu; have HLE := hide hle; have H0 := hide h0
    clear hok ha hr hsd hsw hs hc1 hsu hle h0
    generalize hB : w.heap.size = B at *
    have HB := hide hB
    go_enter Try.func35, Try.ntmps35
    go_wp2_with fail
    refine HOK.out.mono ?_; rintro e w1 ⟨rfl, hb1⟩
    have B1 := hb1
    go_wp2_with fail
    refine (HSD.out _ B1).mono ?_; rintro e w2 ⟨rfl, hb2⟩
    have B2 := bstep B1 hb2 (by rw [← hB]; exact B1.size)
    have HE2 := hide (show Own 1 encI 3 w2 B (.slice none 0 0) ([] : List Int) from Own.nil)
    clear hb1 hb2 HE B0 B1
    go_wp2_with fail
    go_loopw [6, 19] (fun s i wr => ∃ k : Nat, k ≤ xs.length ∧ i = .int .i64 (k : Int) ∧ Own 1 encI 3 wr B s (idxs (culP m xs) k) ∧ Below B w wr) (fun _ i _ => xs.length - (intOf i).toNat)
    case atStart => exact ⟨0, Nat.zero_le _, rfl, by rw [H0.out]; exact HE2.out, B2⟩
    case round =>
      clear B2 HE2
      obtain ⟨k, hk, rfl, hown, hbel⟩ := hrel
      have HOW := hide hown; clear hown
      have hsz : B ≤ wr.heap.size := by have := hbel.size; rw [HB.out] at this; exact this
      by_cases hlt : k < xs.length
      · have hlt' : (k : Int) < xs.length := by omega
        have hsu := HSU.out k
        have hdl : (idxs (culP m xs) k).length ≤ 16777216 := by have := HLE.out k; omega
        have hcall := HSW.out k
        rw [show soundB m (wo xs k) = culP m xs k from rfl] at hcall
        generalize culP m xs k = cp at *
        have htl : (xs.take k).length = k := by rw [List.length_take]; omega
        have hdr : (xs.drop (k + 1)).length = xs.length - (k + 1) := List.length_drop
        have hs1 := fun (W : World) (hW : Below wr.heap.size wr W) => src_rowC (w := wr) (b := b) (off := off) (xs := xs) (HR.out.below hbel (by omega) hsz) (by omega) 0 (xs.take k) (fun i y hh => by
          have h1 := (List.getElem?_eq_some_iff.1 hh).1
          rw [htl] at h1
          rw [List.getElem?_take_of_lt h1] at hh
          rwa [Nat.zero_add]) hW
        have hs2 := fun (W : World) (hW : Below wr.heap.size wr W) => src_rowC (w := wr) (b := b) (off := off) (xs := xs) (HR.out.below hbel (by omega) hsz) (by omega) (k + 1) (xs.drop (k + 1)) (fun i y hh => by rwa [List.getElem?_drop] at hh) hW
        rw [Nat.zero_mul, Nat.add_zero] at hs1
        have q1 : (k : Int) ≤ cap := by omega
        have q2 : (k : Int) + 1 ≤ xs.length := by omega
        have q3 : (k : Int) + 1 ≤ cap := by omega
        have q4 : IntKind.i64.wrap ((k : Int) + 1) = (k : Int) + 1 := IntWalk.i64_in _ (by omega)
        have q5 : (0 : Int) ≤ k := by omega
        have q7 : (0 : Int) ≤ (k : Int) + 1 := by omega
        have HSUK := hide hsu; have HC := hide hcall; have HTL := hide htl; have HDR := hide hdr; have HS1 := hide hs1; have HS2 := hide hs2
        clear hsu hcall htl hdr hs1 hs2
        by_cases hck : cap = k + 1
        · have hxe : xs.length = k + 1 := by omega
          have hnil : xs.drop (k + 1) = [] := List.drop_eq_nil_of_le (by omega)
          have q6 : ((k : Int) + 1).toNat = cap := by omega
          have q8 : xs.length - cap = 0 := by omega
          have HNIL := hide hnil; have HXE := hide hxe; have HCK := hide hck; clear hnil hxe hck
          have hps : ∀ p ∈ [((.slice (some ⟨b, off, none⟩) k cap : Value), xs.take k), (.slice (some ⟨b, off, none⟩) 0 0, xs.drop (k + 1))], p.2.length ≤ 1000 ∧ ∃ ad ca, p.1 = .slice (some ad) p.2.length ca ∧ ∀ W, Below (wr.alloc (.cells #[(.slice (some ⟨b, off, none⟩) k cap : Value), .slice (some ⟨b, off, none⟩) 0 0] 34)).drew.heap.size (wr.alloc (.cells #[(.slice (some ⟨b, off, none⟩) k cap : Value), .slice (some ⟨b, off, none⟩) 0 0] 34)).drew W → ∀ j u, (flat 4 SClaim.enc p.2)[j]? = some u → W.cell? (ad.add j) = some u := by
            have hba := (below_alloc wr (.cells #[(.slice (some ⟨b, off, none⟩) k cap : Value), .slice (some ⟨b, off, none⟩) 0 0] 34)).drew
            intro p hp
            rcases List.mem_cons.1 hp with rfl | hp
            · exact ⟨by show (xs.take k).length ≤ _; rw [HTL.out]; omega, ⟨b, off, none⟩, cap, by show _ = Value.slice _ (xs.take k).length _; rw [HTL.out], fun W hW => HS1.out W (bstep hba hW hba.size)⟩
            · rw [List.mem_singleton.1 hp]
              exact ⟨by show (xs.drop (k + 1)).length ≤ _; rw [HNIL.out]; simp, ⟨b, off, none⟩, 0, by show _ = Value.slice _ (xs.drop (k + 1)).length _; rw [HNIL.out]; rfl, fun W hW => by rw [HNIL.out]; intro j u hu; simp [flat] at hu⟩
          have hisp : Is 1 slotV (wr.alloc (.cells #[(.slice (some ⟨b, off, none⟩) k cap : Value), .slice (some ⟨b, off, none⟩) 0 0] 34)).drew (.slice (some ⟨wr.heap.size, 0, none⟩) 2 2) [((.slice (some ⟨b, off, none⟩) k cap : Value), xs.take k), (.slice (some ⟨b, off, none⟩) 0 0, xs.drop (k + 1))] :=
            Is.lit (w := wr) (e := 34) (cs := #[(.slice (some ⟨b, off, none⟩) k cap : Value), .slice (some ⟨b, off, none⟩) 0 0]) rfl (by simp [maxLen]) (by
              intro j x hj hx c hc
              obtain rfl : c = 0 := by omega
              have hj' : j = 0 ∨ j = 1 := by simp at hj; omega
              rcases hj' with rfl | rfl <;> simp at hx <;> subst hx <;> rfl)
          have hcat := concatCl_any _ _ _ hisp hps (by rw [wo_cat]; unfold wo; rw [List.length_append, HTL.out, HNIL.out]; simp; omega) (by simp) (by simp)
          rw [wo_cat] at hcat
          have ba := (below_alloc wr (.cells #[(.slice (some ⟨b, off, none⟩) k cap : Value), .slice (some ⟨b, off, none⟩) 0 0] 34)).drew
          have HCAT := hide hcat; have BA := hide ba; clear hcat ba hps hisp
          go_wp2_with fail
          go_region_held3 (fun _ => True) (trivial)
            (first
              | (go_at_call 73; refine HCAT.out.mono ?_; rintro e w4 ⟨r4, rfl, ho2, hb4'⟩; have hb4 := bstep BA.out hb4' BA.out.size; have HO2 := hide ho2; have B4 := bstep hbel hb4 hsz; clear ho2 hb4')
              | (go_at_call 70; refine (HC.out _ _ HO2.out.is).mono ?_; rintro e w6 ⟨rfl, hb6⟩; have B6 := bstep B4 hb6 (by rw [← hB]; exact B4.size); have HOW6 := hide ((HOW.out.below hb4).below hb6); have hs6 : B ≤ w6.heap.size := (by rw [← hB]; exact B6.size)))
          all_goals
            cases cp with
            | true =>
              rw [if_pos rfl] at HSUK
              go_wp2_with ((at_builtin; refine wpList_push1 (k := 1) (enc := encI) _ rfl _ _ 42 rfl 3 (.int .i64 0) 8 Try.underlying42 infoI rfl (by omega) (by omega) encI_one (B) _ (idxs (culP m xs) k) rfl (HOW6.out) ((k : Int)) _ rfl rfl (hdl) (hs6) (B6) (Nat.le_refl _) rfl ?_; intro v1 w1 ho1 hb1 hg1))
              go_round
              case measure => (simp [intOf] <;> omega)
              case rel => exact ⟨k + 1, by omega, by go_num, by rw [HSUK.out]; exact ho1, hb1⟩
            | false =>
              rw [if_neg (by simp)] at HSUK
              go_wp2_with fail
              go_round
              case measure => (simp [intOf] <;> omega)
              case rel => exact ⟨k + 1, by omega, by go_num, by rw [HSUK.out, List.append_nil]; exact HOW6.out, B6⟩
        · have hck2 : ¬ cap = k + 1 := hck
          have q6 : ((k : Int) + 1).toNat = k + 1 := by omega
          have hps : ∀ p ∈ [((.slice (some ⟨b, off, none⟩) k cap : Value), xs.take k), (.slice (some ⟨b, off + (k + 1) * 4, none⟩) (xs.length - (k + 1)) (cap - (k + 1)), xs.drop (k + 1))], p.2.length ≤ 1000 ∧ ∃ ad ca, p.1 = .slice (some ad) p.2.length ca ∧ ∀ W, Below (wr.alloc (.cells #[(.slice (some ⟨b, off, none⟩) k cap : Value), .slice (some ⟨b, off + (k + 1) * 4, none⟩) (xs.length - (k + 1)) (cap - (k + 1))] 34)).drew.heap.size (wr.alloc (.cells #[(.slice (some ⟨b, off, none⟩) k cap : Value), .slice (some ⟨b, off + (k + 1) * 4, none⟩) (xs.length - (k + 1)) (cap - (k + 1))] 34)).drew W → ∀ j u, (flat 4 SClaim.enc p.2)[j]? = some u → W.cell? (ad.add j) = some u := by
            have hba := (below_alloc wr (.cells #[(.slice (some ⟨b, off, none⟩) k cap : Value), .slice (some ⟨b, off + (k + 1) * 4, none⟩) (xs.length - (k + 1)) (cap - (k + 1))] 34)).drew
            intro p hp
            rcases List.mem_cons.1 hp with rfl | hp
            · exact ⟨by show (xs.take k).length ≤ _; rw [HTL.out]; omega, ⟨b, off, none⟩, cap, by show _ = Value.slice _ (xs.take k).length _; rw [HTL.out], fun W hW => HS1.out W (bstep hba hW hba.size)⟩
            · rw [List.mem_singleton.1 hp]
              exact ⟨by show (xs.drop (k + 1)).length ≤ _; rw [HDR.out]; omega, ⟨b, off + (k + 1) * 4, none⟩, (cap - (k + 1)), by show _ = Value.slice _ (xs.drop (k + 1)).length _; rw [HDR.out], fun W hW => HS2.out W (bstep hba hW hba.size)⟩
          have hisp : Is 1 slotV (wr.alloc (.cells #[(.slice (some ⟨b, off, none⟩) k cap : Value), .slice (some ⟨b, off + (k + 1) * 4, none⟩) (xs.length - (k + 1)) (cap - (k + 1))] 34)).drew (.slice (some ⟨wr.heap.size, 0, none⟩) 2 2) [((.slice (some ⟨b, off, none⟩) k cap : Value), xs.take k), (.slice (some ⟨b, off + (k + 1) * 4, none⟩) (xs.length - (k + 1)) (cap - (k + 1)), xs.drop (k + 1))] :=
            Is.lit (w := wr) (e := 34) (cs := #[(.slice (some ⟨b, off, none⟩) k cap : Value), .slice (some ⟨b, off + (k + 1) * 4, none⟩) (xs.length - (k + 1)) (cap - (k + 1))]) rfl (by simp [maxLen]) (by
              intro j x hj hx c hc
              obtain rfl : c = 0 := by omega
              have hj' : j = 0 ∨ j = 1 := by simp at hj; omega
              rcases hj' with rfl | rfl <;> simp at hx <;> subst hx <;> rfl)
          have hcat := concatCl_any _ _ _ hisp hps (by rw [wo_cat]; unfold wo; rw [List.length_append, HTL.out, HDR.out]; omega) (by simp) (by simp)
          rw [wo_cat] at hcat
          have ba := (below_alloc wr (.cells #[(.slice (some ⟨b, off, none⟩) k cap : Value), .slice (some ⟨b, off + (k + 1) * 4, none⟩) (xs.length - (k + 1)) (cap - (k + 1))] 34)).drew
          have HCAT := hide hcat; have BA := hide ba; clear hcat ba hps hisp
          go_wp2_with fail
          go_region_held3 (fun _ => True) (trivial)
            (first
              | (go_at_call 73; refine HCAT.out.mono ?_; rintro e w4 ⟨r4, rfl, ho2, hb4'⟩; have hb4 := bstep BA.out hb4' BA.out.size; have HO2 := hide ho2; have B4 := bstep hbel hb4 hsz; clear ho2 hb4')
              | (go_at_call 70; refine (HC.out _ _ HO2.out.is).mono ?_; rintro e w6 ⟨rfl, hb6⟩; have B6 := bstep B4 hb6 (by rw [← hB]; exact B4.size); have HOW6 := hide ((HOW.out.below hb4).below hb6); have hs6 : B ≤ w6.heap.size := (by rw [← hB]; exact B6.size)))
          all_goals
            cases cp with
            | true =>
              rw [if_pos rfl] at HSUK
              go_wp2_with ((at_builtin; refine wpList_push1 (k := 1) (enc := encI) _ rfl _ _ 42 rfl 3 (.int .i64 0) 8 Try.underlying42 infoI rfl (by omega) (by omega) encI_one (B) _ (idxs (culP m xs) k) rfl (HOW6.out) ((k : Int)) _ rfl rfl (hdl) (hs6) (B6) (Nat.le_refl _) rfl ?_; intro v1 w1 ho1 hb1 hg1))
              go_round
              case measure => (simp [intOf] <;> omega)
              case rel => exact ⟨k + 1, by omega, by go_num, by rw [HSUK.out]; exact ho1, hb1⟩
            | false =>
              rw [if_neg (by simp)] at HSUK
              go_wp2_with fail
              go_round
              case measure => (simp [intOf] <;> omega)
              case rel => exact ⟨k + 1, by omega, by go_num, by rw [HSUK.out, List.append_nil]; exact HOW6.out, B6⟩
      · have hkx : xs.length = k := by omega
        have HK := hide hkx; clear hkx
        go_wp2_with fail
        go_ret2
        have h1 := HOW.out
        rw [← HK.out] at h1
        exact ⟨_, rfl, h1, hbel⟩
set_option maxRecDepth 100000 in
set_option maxHeartbeats 4000000 in
theorem specCulprits_any (n : Int) (v : Value) (xs : List SClaim) (w : World) (h : Is 4 SClaim.enc w v xs) :
    Calls Try.prog 36 #[.int .i64 n, v] w fun e w' => ∃ r, e = .returned (.tuple #[r, .bool (culV n xs).2]) ∧ Own 1 encI 3 w' w.heap.size r (culV n xs).1 ∧ Below w.heap.size w w' := by
  have B0 := below_alloc w (.cells #[] 3)
  have HE := hide (own_empty8 w (Nat.le_refl w.heap.size))
  have hok := l8Good_is n v xs _ (h.below B0 (Nat.le_refl _))
  by_cases ha : areB n xs = true
  case neg =>
    rw [Bool.not_eq_true] at ha
    rw [show culV n xs = ([], false) by unfold culV; rw [ha]; rfl]
    rw [ha] at hok
    have HOK := hide hok; clear hok ha h
    go_enter Try.func36, Try.ntmps36
    go_wp2_with fail
    refine HOK.out.mono ?_; rintro e w1 ⟨rfl, hb1⟩
    go_wp2_with fail
    go_ret2
    exact ⟨_, rfl, HE.out.below hb1, bstep B0 hb1 B0.size⟩
  have hnn := areB_nat ha
  obtain ⟨hc1, ⟨hn1, hn10⟩, hx24⟩ := areB_iff.1 ha
  rw [ha] at hok
  have hV : culV n xs = if soundB n.toNat xs then ([], false) else (idxs (culP n.toNat xs) xs.length, true) := by
    unfold culV; rw [ha]; cases soundB n.toNat xs <;> rfl
  rw [hV]
  clear hV
  generalize n.toNat = m at hnn ⊢
  subst hnn
  have hsd := fun W (hb : Below w.heap.size w W) => l8Sound_is m v xs W (h.below hb (Nat.le_refl _)) ha
  have hsw := fun k V W (i : Is 4 SClaim.enc W V (wo xs k)) => l8Sound_is m V (wo xs k) W i (areB_wo ha k)
  cases hs : soundB m xs with
  | true =>
    rw [if_pos rfl]
    rw [hs] at hsd
    have HOK := hide hok; have HSD := hide hsd; clear hok ha h hsd hsw hs hc1
    go_enter Try.func36, Try.ntmps36
    go_wp2_with fail
    refine HOK.out.mono ?_; rintro e w1 ⟨rfl, hb1⟩
    have B1 := bstep B0 hb1 B0.size
    go_wp2_with fail
    refine (HSD.out _ B1).mono ?_; rintro e w2 ⟨rfl, hb2⟩
    have B2 := bstep B1 hb2 B1.size
    go_wp2_with fail
    go_ret2
    exact ⟨_, rfl, (HE.out.below hb1).below hb2, B2⟩
  | false =>
    rw [if_neg (by simp)]
    rw [hs] at hsd
    have hfew := sound_few ha hs
    have hsu := fun k => idxs_succ (culP m xs) k
    have hle := fun k => idxs_le (culP m xs) k
    have h0 : idxs (culP m xs) 0 = [] := rfl
    obtain ⟨A, cap, rfl, hr, hcl, hcm⟩ := h
    obtain ⟨b, off, rfl, hb, _⟩ := hr.get (show 0 < xs.length by omega)
    have hc63 : cap ≤ 9223372036854775807 := by simp only [maxLen] at hcm; omega
    have HOK := hide hok; have HSD := hide hsd; have HSW := hide hsw; have HR := hide hr; have HSU := hide hsu; have HLE := hide hle; have H0 := hide h0
    clear hok ha hr hsd hsw hs hc1 hsu hle h0
    generalize hB : w.heap.size = B at *
    have HB := hide hB
    go_enter Try.func36, Try.ntmps36
    go_wp2_with fail
    refine HOK.out.mono ?_; rintro e w1 ⟨rfl, hb1⟩
    have B1 := bstep B0 hb1 (by rw [← hB]; exact B0.size)
    go_wp2_with fail
    refine (HSD.out _ B1).mono ?_; rintro e w2 ⟨rfl, hb2⟩
    have B2 := bstep B1 hb2 (by rw [← hB]; exact B1.size)
    have HE2 := hide ((HE.out.below hb1).below hb2)
    clear hb1 hb2 HE B0 B1
    go_wp2_with fail
    go_loopw [6, 7] (fun s i wr => ∃ k : Nat, k ≤ xs.length ∧ i = .int .i64 (k : Int) ∧ Own 1 encI 3 wr B s (idxs (culP m xs) k) ∧ Below B w wr) (fun _ i _ => xs.length - (intOf i).toNat)
    case atStart => exact ⟨0, Nat.zero_le _, rfl, by rw [H0.out]; exact HE2.out, B2⟩
    case round =>
      clear B2 HE2
      obtain ⟨k, hk, rfl, hown, hbel⟩ := hrel
      have HOW := hide hown; clear hown
      have hsz : B ≤ wr.heap.size := by have := hbel.size; rw [HB.out] at this; exact this
      by_cases hlt : k < xs.length
      · have hlt' : (k : Int) < xs.length := by omega
        have hsu := HSU.out k
        have hdl : (idxs (culP m xs) k).length ≤ 16777216 := by have := HLE.out k; omega
        have hcall := HSW.out k
        rw [show soundB m (wo xs k) = culP m xs k from rfl] at hcall
        generalize culP m xs k = cp at *
        have htl : (xs.take k).length = k := by rw [List.length_take]; omega
        have hdr : (xs.drop (k + 1)).length = xs.length - (k + 1) := List.length_drop
        have hs1 := fun (W : World) (hW : Below wr.heap.size wr W) => src_rowC (w := wr) (b := b) (off := off) (xs := xs) (HR.out.below hbel (by omega) hsz) (by omega) 0 (xs.take k) (fun i y hh => by
          have h1 := (List.getElem?_eq_some_iff.1 hh).1
          rw [htl] at h1
          rw [List.getElem?_take_of_lt h1] at hh
          rwa [Nat.zero_add]) hW
        have hs2 := fun (W : World) (hW : Below wr.heap.size wr W) => src_rowC (w := wr) (b := b) (off := off) (xs := xs) (HR.out.below hbel (by omega) hsz) (by omega) (k + 1) (xs.drop (k + 1)) (fun i y hh => by rwa [List.getElem?_drop] at hh) hW
        rw [Nat.zero_mul, Nat.add_zero] at hs1
        have q1 : (k : Int) ≤ cap := by omega
        have q2 : (k : Int) + 1 ≤ xs.length := by omega
        have q3 : (k : Int) + 1 ≤ cap := by omega
        have q4 : IntKind.i64.wrap ((k : Int) + 1) = (k : Int) + 1 := IntWalk.i64_in _ (by omega)
        have q5 : (0 : Int) ≤ k := by omega
        have q7 : (0 : Int) ≤ (k : Int) + 1 := by omega
        have HSUK := hide hsu; have HC := hide hcall; have HTL := hide htl; have HDR := hide hdr; have HS1 := hide hs1; have HS2 := hide hs2
        clear hsu hcall htl hdr hs1 hs2
        by_cases hck : cap = k + 1
        · have hxe : xs.length = k + 1 := by omega
          have hnil : xs.drop (k + 1) = [] := List.drop_eq_nil_of_le (by omega)
          have q6 : ((k : Int) + 1).toNat = cap := by omega
          have q8 : xs.length - cap = 0 := by omega
          have HNIL := hide hnil; have HXE := hide hxe; have HCK := hide hck; clear hnil hxe hck
          have hoa : Own 4 SClaim.enc 23 (wr.alloc (.cells #[] 23)).drew wr.heap.size (.slice (some ⟨wr.heap.size, 0, none⟩) 0 0) ([] : List SClaim) := Own.made (cs := #[]) rfl (Nat.le_refl _) (Blk.new wr _ _) rfl (Nat.zero_le _) Filled.zero
          have ba := (below_alloc wr (.cells #[] 23)).drew
          have HOA := hide hoa; have BA := hide ba; clear hoa ba
          go_wp2_with fail
          go_region_held3 (fun _ => True) (trivial)
            (first
              | (refine step_push (k := 4) (enc := SClaim.enc) _ (by rfl) _ _ 34 (by rfl) 23 (.agg #[.int .i64 0, .int .i64 0, .int .i64 0, .int .i64 0]) 32 Try.underlying34 SClaim.info rfl (by omega) SClaim.one wr.heap.size _ ([] : List SClaim) (by rfl) HOA.out ⟨b, off, none⟩ cap (xs.take k) (by rw [HTL.out]; rfl) (HS1.out _ BA.out) (by simp [HTL.out]; omega) (by simp [HTL.out]; omega) BA.out.size BA.out (Nat.le_refl _) ?_; intro v1 w1 ho1 hb1 hg1; have HO1 := hide ho1; clear ho1 hg1)
              | (refine step_push (k := 4) (enc := SClaim.enc) _ (by rfl) _ _ 34 (by rfl) 23 (.agg #[.int .i64 0, .int .i64 0, .int .i64 0, .int .i64 0]) 32 Try.underlying34 SClaim.info rfl (by omega) SClaim.one wr.heap.size _ ([] ++ xs.take k) (by rfl) HO1.out ⟨b, off, none⟩ 0 ([] : List SClaim) (by rfl) (fun i u hu => by simp [flat] at hu) (by simp [HTL.out]; omega) (by simp [HTL.out]; omega) hb1.size hb1 (Nat.le_refl _) ?_; intro v2 w4 ho2 hb4 hg2; have HO2 := hide (show Own 4 SClaim.enc 23 w4 wr.heap.size v2 (wo xs k) from by unfold wo; rw [HNIL.out]; exact ho2); have B4 := bstep hbel hb4 hsz; clear ho2 hg2)
              | (go_at_call 71; refine (HC.out _ _ HO2.out.is).mono ?_; rintro e w6 ⟨rfl, hb6⟩; have B6 := bstep B4 hb6 (by rw [← hB]; exact B4.size); have HOW6 := hide ((HOW.out.below hb4).below hb6); have hs6 : B ≤ w6.heap.size := (by rw [← hB]; exact B6.size)))
          all_goals
            cases cp with
            | true =>
              rw [if_pos rfl] at HSUK
              go_wp2_with ((at_builtin; refine wpList_push1 (k := 1) (enc := encI) _ rfl _ _ 42 rfl 3 (.int .i64 0) 8 Try.underlying42 infoI rfl (by omega) (by omega) encI_one (B) _ (idxs (culP m xs) k) rfl (HOW6.out) ((k : Int)) _ rfl rfl (hdl) (hs6) (B6) (Nat.le_refl _) rfl ?_; intro v1 w1 ho1 hb1 hg1))
              go_round
              case measure => (simp [intOf] <;> omega)
              case rel => exact ⟨k + 1, by omega, by go_num, by rw [HSUK.out]; exact ho1, hb1⟩
            | false =>
              rw [if_neg (by simp)] at HSUK
              go_wp2_with fail
              go_round
              case measure => (simp [intOf] <;> omega)
              case rel => exact ⟨k + 1, by omega, by go_num, by rw [HSUK.out, List.append_nil]; exact HOW6.out, B6⟩
        · have hck2 : ¬ cap = k + 1 := hck
          have q6 : ((k : Int) + 1).toNat = k + 1 := by omega
          have hoa : Own 4 SClaim.enc 23 (wr.alloc (.cells #[] 23)).drew wr.heap.size (.slice (some ⟨wr.heap.size, 0, none⟩) 0 0) ([] : List SClaim) := Own.made (cs := #[]) rfl (Nat.le_refl _) (Blk.new wr _ _) rfl (Nat.zero_le _) Filled.zero
          have ba := (below_alloc wr (.cells #[] 23)).drew
          have HOA := hide hoa; have BA := hide ba; clear hoa ba
          go_wp2_with fail
          go_region_held3 (fun _ => True) (trivial)
            (first
              | (refine step_push (k := 4) (enc := SClaim.enc) _ (by rfl) _ _ 34 (by rfl) 23 (.agg #[.int .i64 0, .int .i64 0, .int .i64 0, .int .i64 0]) 32 Try.underlying34 SClaim.info rfl (by omega) SClaim.one wr.heap.size _ ([] : List SClaim) (by rfl) HOA.out ⟨b, off, none⟩ cap (xs.take k) (by rw [HTL.out]; rfl) (HS1.out _ BA.out) (by simp [HTL.out]; omega) (by simp [HTL.out]; omega) BA.out.size BA.out (Nat.le_refl _) ?_; intro v1 w1 ho1 hb1 hg1; have HO1 := hide ho1; clear ho1 hg1)
              | (refine step_push (k := 4) (enc := SClaim.enc) _ (by rfl) _ _ 34 (by rfl) 23 (.agg #[.int .i64 0, .int .i64 0, .int .i64 0, .int .i64 0]) 32 Try.underlying34 SClaim.info rfl (by omega) SClaim.one wr.heap.size _ ([] ++ xs.take k) (by rfl) HO1.out ⟨b, off + (k + 1) * 4, none⟩ (cap - (k + 1)) (xs.drop (k + 1)) (by rw [HDR.out]; rfl) (HS2.out _ hb1) (by simp [HTL.out, HDR.out]; omega) (by simp [HTL.out, HDR.out]; omega) hb1.size hb1 (Nat.le_refl _) ?_; intro v2 w4 ho2 hb4 hg2; have HO2 := hide (show Own 4 SClaim.enc 23 w4 wr.heap.size v2 (wo xs k) from by exact ho2); have B4 := bstep hbel hb4 hsz; clear ho2 hg2)
              | (go_at_call 71; refine (HC.out _ _ HO2.out.is).mono ?_; rintro e w6 ⟨rfl, hb6⟩; have B6 := bstep B4 hb6 (by rw [← hB]; exact B4.size); have HOW6 := hide ((HOW.out.below hb4).below hb6); have hs6 : B ≤ w6.heap.size := (by rw [← hB]; exact B6.size)))
          all_goals
            cases cp with
            | true =>
              rw [if_pos rfl] at HSUK
              go_wp2_with ((at_builtin; refine wpList_push1 (k := 1) (enc := encI) _ rfl _ _ 42 rfl 3 (.int .i64 0) 8 Try.underlying42 infoI rfl (by omega) (by omega) encI_one (B) _ (idxs (culP m xs) k) rfl (HOW6.out) ((k : Int)) _ rfl rfl (hdl) (hs6) (B6) (Nat.le_refl _) rfl ?_; intro v1 w1 ho1 hb1 hg1))
              go_round
              case measure => (simp [intOf] <;> omega)
              case rel => exact ⟨k + 1, by omega, by go_num, by rw [HSUK.out]; exact ho1, hb1⟩
            | false =>
              rw [if_neg (by simp)] at HSUK
              go_wp2_with fail
              go_round
              case measure => (simp [intOf] <;> omega)
              case rel => exact ⟨k + 1, by omega, by go_num, by rw [HSUK.out, List.append_nil]; exact HOW6.out, B6⟩
      · have hkx : xs.length = k := by omega
        have HK := hide hkx; clear hkx
        go_wp2_with fail
        go_ret2
        have h1 := HOW.out
        rw [← HK.out] at h1
        exact ⟨_, rfl, h1, hbel⟩
end Go.Proofs.Ytijjecckfcbaoaa
