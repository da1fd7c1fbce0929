/- Contracts of the library's Grow (from nil) and Concat on corners. Conditions: lengths up to 1000, no part of the concatenation empty. -/
import Derived.Test.YtefnmfkndepfgaaL10I
import Derived.Lib.AppendZerosOnto
namespace Go.Proofs.Ytefnmfkndepfgaa
open Go.RowKit Go.Lib
set_option linter.unusedVariables false
theorem growC_any (n : Nat) (w : World) (h0 : 0 < n) (h1 : n ≤ 1048576) :
    Calls Try.prog 82 #[.slice none 0 0, .int .i64 n] w fun e w' => ∃ r, e = .returned r ∧ Own 2 SCorner.enc 58 w' w.heap.size r ([] : List SCorner) ∧ Below w.heap.size w w' := by
  obtain ⟨i, hi, hz, hs, hb⟩ := info_parts' SCorner.info
  have hG := grownCap_ge w (0 + n) 0 58
  have hM := grownCap_le_maxLen w (0 + n) 0 58 (by unfold maxLen; omega)
  have hrz : ∀ ty, (Builtin.append_ #[25, 3] ty #[.slice none 0 0, .int .i64 (n : Int)]).run Try.prog w =
      .ok (.slice (some ⟨w.heap.size, 0, none⟩) n (grownCap w (0 + n) 0 58)) (w.drew.alloc (.cells (#[] ++ Builtin.zeroCells (Value.agg #[.int .i64 0, .int .i64 0]).cells n ++ Builtin.zeroCells (Value.agg #[.int .i64 0, .int .i64 0]).cells (grownCap w (0 + n) 0 58 - (0 + n))) 58)) := fun ty => by
    have h := Lib.run_append_grow_zeros w 25 3 ty 58 i _ .i64 .i64 Try.underlying25 Try.underlying3 hi hz none 0 0 [] (run_firstCells_none w.drew i.size 0 0 0) n h0 (by omega) (by omega) (by omega) (by rw [hb]; omega) (growslice_fits (by omega) (by rw [hb]; omega))
    rw [Nat.zero_add] at h
    rw [Nat.zero_add]
    exact h
  have hown : Own 2 SCorner.enc 58 (w.drew.alloc (.cells (#[] ++ Builtin.zeroCells (Value.agg #[.int .i64 0, .int .i64 0]).cells n ++ Builtin.zeroCells (Value.agg #[.int .i64 0, .int .i64 0]).cells (grownCap w (0 + n) 0 58 - (0 + n))) 58)) w.heap.size (.slice (some ⟨w.heap.size, 0, none⟩) 0 (grownCap w (0 + n) 0 58)) ([] : List SCorner) := by
    refine .inr ⟨_, _, _, rfl, Nat.le_refl _, Blk.new w.drew _ _, Nat.zero_le _, hM, ?_, Filled.zero⟩
    rw [Array.size_append, Array.size_append, size_zeroCells, size_zeroCells]
    show 0 + n * 2 + _ * 2 = _
    omega
  have hbel : Below w.heap.size w (w.drew.alloc (.cells (#[] ++ Builtin.zeroCells (Value.agg #[.int .i64 0, .int .i64 0]).cells n ++ Builtin.zeroCells (Value.agg #[.int .i64 0, .int .i64 0]).cells (grownCap w (0 + n) 0 58 - (0 + n))) 58)) := (Below.refl _ _).drew.alloc (Nat.le_refl _) _
  rw [Nat.zero_add] at hG hM
  generalize #[] ++ Builtin.zeroCells (Value.agg #[.int .i64 0, .int .i64 0]).cells n ++ Builtin.zeroCells (Value.agg #[.int .i64 0, .int .i64 0]).cells (grownCap w (0 + n) 0 58 - (0 + n)) = cs at hrz hown hbel
  rw [Nat.zero_add] at hrz hown
  generalize grownCap w n 0 58 = G at hrz hown hG hM
  have hG63 : G ≤ 9223372036854775807 := hM
  have HR := hide hrz; have HO := hide hown; have HB := hide hbel; clear hrz hown hbel
  go_enter Try.func82, Try.ntmps82
  go_wp2_with (at_builtin; refine Lib.wpList_append_run _ rfl _ _ _ _ rfl _ _ rfl rfl _ _ (HR.out _) ?_)
  go_ret
  exact ⟨_, rfl, HO.out, HB.out⟩

def slotV (p : Value × List SCorner) : Nat → Value := fun _ => p.1
def cat (ps : List (Value × List SCorner)) : List SCorner := ps.flatMap (·.2)
theorem cat_succ {ps : List (Value × List SCorner)} {i : Nat} (h : i < ps.length) : cat (ps.take (i + 1)) = cat (ps.take i) ++ ps[i].2 := by
  rw [take_snoc' h]; unfold cat; rw [List.flatMap_append]; simp
theorem cat_bd {ps : List (Value × List SCorner)} {M : Nat} (h : ∀ p ∈ ps, p.2.length ≤ M) (i : Nat) (hi : i ≤ ps.length) : (cat (ps.take i)).length ≤ i * M := by
  induction i with
  | zero => simp [cat]
  | succ i ih =>
    rw [cat_succ hi, List.length_append, Nat.add_mul]
    have := ih (by omega)
    have := h _ (List.getElem_mem hi)
    omega
theorem concatC_any (v : Value) (ps : List (Value × List SCorner)) (w : World) (h : Is 1 slotV w v ps) (hp : ∀ p ∈ ps, Is 2 SCorner.enc w p.1 p.2 ∧ 1 ≤ p.2.length ∧ p.2.length ≤ 1000) (h0 : 1 ≤ ps.length) (h1 : ps.length ≤ 100) :
    Calls Try.prog 65 #[v] w fun e w' => ∃ r, e = .returned r ∧ Own 2 SCorner.enc 58 w' w.heap.size r (cat ps) ∧ Below w.heap.size w w' := by
  obtain ⟨A, cap, rfl, hr, _, _⟩ := h
  have hbd := cat_bd (M := 1000) (fun p h => (hp p h).2.2)
  have HBD := hide hbd; clear hbd
  have HP := hide hp; clear hp
  generalize hB : w.heap.size = B at hr ⊢
  have HB := hide hB; clear hB
  have HR := hide hr; clear hr
  go_enter Try.func65, Try.ntmps65
  go_wp2_with fail
  go_loop [3, 11] (fun s i => ∃ k : Nat, k ≤ ps.length ∧ i = .int .i64 k ∧ s = .int .i64 ((cat (ps.take k)).length : Nat)) (fun _ i => ps.length - (intOf i).toNat)
  case atStart => exact ⟨0, by omega, rfl, by simp [cat]⟩
  case round =>
    obtain ⟨i, hi, rfl, rfl⟩ := hrel
    by_cases hlt : i < ps.length
    · obtain ⟨b, off, hA, hb, hc⟩ := HR.out.get hlt
      have c0 := hc 0 (by omega)
      rw [Nat.mul_one, Nat.add_zero] at c0
      change _ = some ps[i].1 at c0
      subst hA
      obtain ⟨⟨A', cap', hv, hr', _, _⟩, q1, q2⟩ := HP.out _ (List.getElem_mem hlt)
      rw [hv] at c0
      clear hr' hc
      have hst : (cat (ps.take (i + 1))).length = (cat (ps.take i)).length + ps[i].2.length := by rw [cat_succ hlt, List.length_append]
      have hb0 := HBD.out i (by omega)
      generalize (cat (ps.take i)).length = S at hst hb0
      generalize ps[i].2.length = L at hst q1 q2 c0
      have HST := hide hst; clear hst
      have hS : S ≤ 100000 := by omega
      clear hb0
      go_wp2_with fail
      go_round
      case rel => exact ⟨i + 1, by omega, by go_num, by rw [HST.out]; go_num⟩
      case measure => simp [intOf]; omega
    · have hk : i = ps.length := by omega
      subst hk
      rw [List.take_length]
      have hpos : 1 ≤ (cat ps).length := by
        have hs := cat_succ (ps := ps) (i := 0) (by omega)
        have h2 := (HP.out _ (List.getElem_mem (show 0 < ps.length by omega))).2.1
        have h3 : (cat (ps.take 1)).length ≤ (cat ps).length := by
          conv => rhs; rw [← List.take_append_drop 1 ps]
          unfold cat; rw [List.flatMap_append, List.length_append]; omega
        rw [hs, List.length_append] at h3
        omega
      have hmax := HBD.out ps.length (Nat.le_refl _)
      rw [List.take_length] at hmax
      go_wp2_with fail
      refine (growC_any (cat ps).length w hpos (by omega)).mono ?_; rintro e w1 ⟨r, rfl, ho, hb1⟩
      rw [HB.out] at ho hb1
      have HO := hide ho; clear ho
      go_wp2_with fail
      go_loopw [6, 27] (fun s i wr => ∃ k : Nat, k ≤ ps.length ∧ i = .int .i64 k ∧ Own 2 SCorner.enc 58 wr B s (cat (ps.take k)) ∧ Below B w wr) (fun _ i _ => ps.length - (intOf i).toNat)
      case atStart => exact ⟨0, by omega, rfl, HO.out, hb1⟩
      case round =>
        obtain ⟨i, hi, rfl, hown, hbel⟩ := hrel
        have hsz : B ≤ wr.heap.size := by have := hbel.size; rw [HB.out] at this; exact this
        have HOW := hide hown; clear hown
        by_cases hlt : i < ps.length
        · obtain ⟨b, off, hA, hb, hc⟩ := (HR.out.below hbel (Nat.le_refl _) (Nat.le_refl _)).get hlt
          have c0 := hc 0 (by omega)
          rw [Nat.mul_one, Nat.add_zero] at c0
          change _ = some ps[i].1 at c0
          subst hA
          obtain ⟨hIs, q1, q2⟩ := HP.out _ (List.getElem_mem hlt)
          have hst := cat_succ hlt
          have hl1 := HBD.out i hi
          obtain ⟨A', cap', hv, hr', _, _⟩ := hIs.below hbel (by rw [HB.out]; exact Nat.le_refl _)
          obtain ⟨b', off', rfl, _, _⟩ := hr'.get (show 0 < _ from q1)
          rw [hv] at c0
          generalize ps[i].2 = ys at hst q1 q2 c0 hr'
          have HST := hide hst; have HR' := hide hr'; clear hst hr' hc hIs hv
          have hb'' : b < wr.heap.size := by omega
          go_wp2_with (at_builtin; refine wpList_push (k := 2) (enc := SCorner.enc) _ rfl _ _ 25 rfl 58 (.agg #[.int .i64 0, .int .i64 0]) 16 Try.underlying25 SCorner.info rfl (by omega) SCorner.one B _ (cat (ps.take i)) rfl HOW.out ⟨b', off', none⟩ cap' ys rfl (src_row HR'.out (by omega)) (by omega) (by omega) hsz ?_; intro v1 w1 ho1 hg1 _; have hb2 := HOW.out.belowGrown hbel hg1 (Nat.le_refl _) hsz; have HO1 := hide ho1; clear ho1 hg1)
          refine ⟨⟨i + 1, by omega, by go_num, by rw [HST.out]; exact HO1.out, hb2⟩, by simp [intOf]; omega⟩
        · have hk : i = ps.length := by omega
          subst hk
          have hL := List.take_length (l := ps)
          have HL := hide hL; clear hL
          go_wp2_with fail
          go_ret
          exact ⟨_, rfl, by have := HOW.out; rw [HL.out] at this; exact this, hbel⟩
end Go.Proofs.Ytefnmfkndepfgaa
