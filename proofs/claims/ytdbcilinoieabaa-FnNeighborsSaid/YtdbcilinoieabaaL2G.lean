/- Contract of LongestStrip in spec: the Lean function stripV. No condition. -/
import Derived.Test.YtdbcilinoieabaaL2D
import Derived.Test.YtdbcilinoieabaaL2Q
namespace Go.Proofs.Ytdbcilinoieabaa
open Go.RowKit
set_option linter.unusedVariables false
theorem foldK_succ (g : Nat → Option Int) (n : Nat) : foldK g (n + 1) = updL (foldK g n) (runK g (100 - n % 100) n) := rfl
theorem runK_len (g : Nat → Option Int) : ∀ (f k : Nat), (runK g f k).length ≤ f := by
  intro f
  induction f with
  | zero => intro k; simp [runK]
  | succ f ih =>
    intro k
    simp only [runK]
    cases g k with
    | none => simp
    | some x => simp; exact ih _
theorem foldK_len (g : Nat → Option Int) : ∀ n, (foldK g n).length ≤ 100 := by
  intro n
  rcases foldK_run g n with h | ⟨k, h⟩
  · rw [h]; simp
  · rw [h]; exact Nat.le_trans (runK_len _ _ _) (by omega)
/-- what is found at a place of a good list -/
theorem gS_at {xs : List SSheet} (hg : goodS xs = true) (scale : Int) (r c : Nat) (hr : r ≤ 99) : (atV xs (r : Int) (c : Int) scale < 0 ∧ (c ≤ 99 → gS xs scale (r * 100 + c) = none)) ∨ ∃ j, ∃ hj : j < xs.length, c ≤ 99 ∧ atV xs (r : Int) (c : Int) scale = (j : Int) ∧ gS xs scale (r * 100 + c) = some xs[j].id := by
  rcases atV_cases xs (r : Int) (c : Int) scale with ⟨h1, _⟩ | ⟨j, hj, h1, h2, h3, h4⟩
  · refine .inl ⟨by omega, fun hc => ?_⟩
    unfold gS
    rw [show (r * 100 + c) / 100 = r by omega, show (r * 100 + c) % 100 = c by omega, h1, if_pos (by omega)]
  · obtain ⟨m, hm, hat, hb, _⟩ := good_bd hg (c := SSheet.at xs j) (by rw [SSheet.at_lt hj]; exact List.getElem_mem hj)
    have hc : c ≤ 99 := by omega
    refine .inr ⟨j, hj, hc, h1, ?_⟩
    unfold gS
    rw [show (r * 100 + c) / 100 = r by omega, show (r * 100 + c) % 100 = c by omega, h1, if_neg (by omega), Int.toNat_natCast, SSheet.at_lt hj]
theorem stripV_no {xs : List SSheet} {scale : Int} (h : ¬ (goodS xs = true ∧ inB scale 10 500 = true)) : stripV xs scale = ([], false) := if_neg h
theorem stripV_yes {xs : List SSheet} {scale : Int} (h1 : goodS xs = true) (h2 : inB scale 10 500 = true) : stripV xs scale = (foldK (gS xs scale) 10000, decide (0 < (foldK (gS xs scale) 10000).length)) := if_pos ⟨h1, h2⟩
def lenS : Value → Nat
  | .slice _ n _ => n
  | _ => 0
set_option maxHeartbeats 4000000 in
theorem l2LongestStrip_is (v : Value) (xs : List SSheet) (scale : Int) (w : World) (h : Is 5 SSheet.enc w v xs) :
    Calls Try.prog 57 #[v, .int .i64 scale] w fun e w' => ∃ r, e = .returned (.tuple #[r, .bool (stripV xs scale).2]) ∧ Own 1 encI 3 w' w.heap.size r (stripV xs scale).1 ∧ Below w.heap.size w w' := by
  obtain ⟨nv, hnv⟩ : ∃ nv, nv = stripV xs scale := ⟨_, rfl⟩
  rw [← hnv]
  have HNV := hide hnv; clear hnv
  have B1 := below_alloc w (.cells #[] 3)
  have HI := hide (h.below B1 (Nat.le_refl _))
  have HE := hide (own_noI w (Nat.le_refl w.heap.size))
  have HB1 := hide B1
  have hgc := fun W hi => l2Sheets_is v xs W hi
  have HIS := hide h
  obtain ⟨A, cap, rfl, hr, _, _⟩ := h
  have HR := hide hr
  clear B1 hr
  go_enter Try.func57, Try.ntmps57
  go_upto_region 2 with fail
  generalize hgm : w.heap.size = gm at *
  generalize w.alloc (.cells #[] 3) = w1 at *
  have hs1 : gm ≤ w1.heap.size := by have := HB1.out.size; omega
  have HG := hide (hgc w1 HI.out)
  clear hgc
  cases hg : goodS xs with
  | false =>
    have hnv := HNV.out
    rw [stripV_no (by rw [hg]; simp)] at hnv
    subst hnv
    rw [hg] at HG
    clear hg
    go_wp2_with fail
    refine HG.out.mono ?_; rintro e w4 ⟨rfl, hb4⟩
    have B4 := hide (HB1.out.trans (hb4.mono hs1)); have HE4 := hide (HE.out.below hb4); clear hb4
    go_wp2_with fail
    go_ret2
    exact ⟨_, rfl, by first | exact HE4.out | (rw [hgm]; exact HE4.out), by first | exact B4.out | (rw [hgm]; exact B4.out)⟩
  | true =>
    have HSC := hide (fun W => l2Scale_any scale W)
    cases hsc : inB scale 10 500 with
    | false =>
      have hnv := HNV.out
      rw [stripV_no (by rw [hsc]; simp)] at hnv
      subst hnv
      rw [hg] at HG; rw [hsc] at HSC
      clear hg hsc
      go_wp2_with fail
      refine HG.out.mono ?_; rintro e w4 ⟨rfl, hb4⟩
      have B4 := hide (HB1.out.trans (hb4.mono hs1)); have HE4 := hide (HE.out.below hb4); clear hb4
      go_wp2_with fail
      refine (HSC.out _).mono ?_; rintro e w5 ⟨rfl, rfl⟩
      go_wp2_with fail
      go_ret2
      exact ⟨_, rfl, by first | exact HE4.out | (rw [hgm]; exact HE4.out), by first | exact B4.out | (rw [hgm]; exact B4.out)⟩
    | true =>
      have hnv := HNV.out
      rw [stripV_yes hg hsc] at hnv
      obtain ⟨bst, hbst⟩ : ∃ b, b = foldK (gS xs scale) 10000 := ⟨_, rfl⟩
      rw [← hbst] at hnv
      subst hnv
      have HBST := hide hbst; clear hbst
      rw [hg] at HG; rw [hsc] at HSC
      have HAT := hide (fun (r c : Nat) hr => gS_at hg scale r c hr)
      have hlen := goodS_len hg
      clear hg hsc HNV
      go_wp2_with fail
      refine HG.out.mono ?_; rintro e w4 ⟨rfl, hb4⟩
      have B4 := hide (HB1.out.trans (hb4.mono hs1)); have HE4 := hide (HE.out.below hb4); clear hb4
      go_wp2_with fail
      refine (HSC.out _).mono ?_; rintro e w5 ⟨rfl, rfl⟩
      clear HSC HG HE HB1 HI
      generalize hgg : gS xs scale = g at *
      clear hgg
      go_wp2_with fail
      go_loopw [6, 7] (fun s i wr => ∃ n : Nat, n ≤ 100 ∧ i = .int .i64 (n : Int) ∧ Own 1 encI 3 wr gm s (foldK g (n * 100)) ∧ Below gm w wr) (fun _ i _ => 100 - (intOf i).toNat)
      case atStart => exact ⟨0, Nat.zero_le _, rfl, HE4.out, B4.out⟩
      case round =>
        clear HE4 B4
        obtain ⟨n, hn, rfl, hown, hbel⟩ := hrel
        have HOW := hide hown; have HBL := hide hbel; clear hown hbel
        by_cases hlt : n < 100
        · have hlt' : (n : Int) ≤ 99 := by omega
          go_wp2_with fail
          go_loopw [6, 8] (fun s i wr => ∃ m : Nat, m ≤ 100 ∧ i = .int .i64 (m : Int) ∧ Own 1 encI 3 wr gm s (foldK g (n * 100 + m)) ∧ Below gm w wr) (fun _ i _ => 100 - (intOf i).toNat)
          case atStart => exact ⟨0, Nat.zero_le _, rfl, HOW.out, HBL.out⟩
          case round =>
            clear HOW HBL
            obtain ⟨m, hm, rfl, hown, hbel⟩ := hrel
            have HOW := hide hown; have HBL := hide hbel; clear hown hbel
            by_cases hltm : m < 100
            · have hltm' : (m : Int) ≤ 99 := by omega
              generalize wr = wo at *
              have hszr : gm ≤ wo.heap.size := by have := HBL.out.size; omega
              have HE := hide (own_noI wo (Nat.le_refl wo.heap.size))
              have HBL2 := hide (HBL.out.alloc hszr (.cells #[] 3))
              have hs2 : wo.heap.size ≤ (wo.alloc (.cells #[] 3)).heap.size := by simp
              have HBX := hide (below_alloc wo (.cells #[] 3))
              have HOB := hide (fun W (hb : Below wo.heap.size wo W) => HOW.out.below hb)
              have HLB := hide (fun W (hb : Below wo.heap.size wo W) => HBL.out.trans (hb.mono hszr))
              obtain ⟨A7, c7, rfl, _, _, _⟩ := HOW.out.is
              clear HOW HBL
              go_upto_region 11 with fail
              generalize hw2 : wo.alloc (.cells #[] 3) = w2 at *
              generalize hg2 : wo.heap.size = g2 at *
              have hcl := fun (W : World) (r c : Int) hi => l2At_any (.slice A xs.length cap) xs r c scale W hi
              have HCL := hide hcl; clear hcl
              have HI2 := hide (HIS.out.below HBL2.out (by omega))
              clear hw2 hg2
              go_wp2_with fail
              refine (HCL.out _ _ _ HI2.out).mono ?_; rintro e w3 ⟨rfl, rfl⟩
              go_wp2_with fail
              go_loopw [9, 10] (fun s t wr => ∃ (st : List Int), t = .int .i64 (atV xs (n : Int) ((m : Int) + (st.length : Int)) scale) ∧ m + st.length ≤ 100 ∧ st ++ runK g (100 - (m + st.length)) (n * 100 + (m + st.length)) = runK g (100 - m) (n * 100 + m) ∧ Own 1 encI 3 wr g2 s st ∧ Below g2 w2 wr) (fun s _ _ => 200 - lenS s)
              case atStart => exact ⟨[], by simp, by simp; omega, by simp, HE.out, Below.refl _ _⟩
              case round =>
                clear HE
                obtain ⟨st, rfl, hle, heq, hown3, hbel3⟩ := hrel
                have hs3 : g2 ≤ wr.heap.size := by have := hbel3.size; omega
                have HO3 := hide hown3
                obtain ⟨A9, c9, rfl, _, _, _⟩ := hown3.is
                have HEQ := hide heq; clear heq hown3
                have hat := HAT.out n (m + st.length) (by omega)
                rw [Int.natCast_add] at hat
                generalize atV xs (n : Int) ((m : Int) + (st.length : Int)) scale = av at *
                rcases hat with ⟨hav, hno⟩ | ⟨j, hj, hc, hav, hso⟩
                · have hst : st = runK g (100 - m) (n * 100 + m) := by
                    have h1 := HEQ.out
                    rcases Nat.lt_or_ge (m + st.length) 100 with h2 | h2
                    · obtain ⟨f, hf⟩ : ∃ f, 100 - (m + st.length) = f + 1 := ⟨99 - (m + st.length), by omega⟩
                      have h3 := hno (by omega)
                      rw [hf] at h1
                      simp only [runK, h3, List.append_nil] at h1
                      exact h1
                    · rw [show 100 - (m + st.length) = 0 by omega] at h1
                      simp only [runK, List.append_nil] at h1
                      exact h1
                  have hfs : foldK g (n * 100 + (m + 1)) = updL (foldK g (n * 100 + m)) st := by
                    rw [show n * 100 + (m + 1) = n * 100 + m + 1 by omega, foldK_succ, show (n * 100 + m) % 100 = m by omega, ← hst]
                  have HFS := hide hfs
                  have hfl := foldK_len g (n * 100 + m)
                  have hfi := HBX.out.trans hbel3
                  have HOW4 := hide (HOB.out _ hfi); have HBL4 := hide (HLB.out _ hfi)
                  have HO4 := hide (HO3.out.mono (show gm ≤ g2 by omega))
                  clear hst hfs hno hfi hbel3
                  by_cases hll : (foldK g (n * 100 + m)).length < st.length
                  · have hfe : foldK g (n * 100 + (m + 1)) = st := by rw [HFS.out]; exact if_pos hll
                    have HFE := hide hfe
                    have hll' : ((foldK g (n * 100 + m)).length : Int) < st.length := by omega
                    clear hfe
                    go_wp2_with fail
                    go_round
                    case measure => (simp [intOf] <;> omega)
                    case rel => exact ⟨m + 1, by omega, by go_num, by rw [HFE.out]; exact HO4.out, HBL4.out⟩
                  · have hfe : foldK g (n * 100 + (m + 1)) = foldK g (n * 100 + m) := by rw [HFS.out]; exact if_neg hll
                    have HFE := hide hfe
                    have hll' : ¬ ((foldK g (n * 100 + m)).length : Int) < st.length := by omega
                    clear hfe
                    go_wp2_with fail
                    go_round
                    case measure => (simp [intOf] <;> omega)
                    case rel => exact ⟨m + 1, by omega, by go_num, by rw [HFE.out]; exact HOW4.out, HBL4.out⟩
                · subst hav
                  have hj' : (j : Int) < xs.length := by omega
                  have hfi := HBX.out.trans hbel3
                  have HBL4 := hide (HLB.out _ hfi)
                  obtain ⟨b, off, rfl, hb, c0, _, _, _, _⟩ := SSheet.cells HR.out hj HBL4.out
                  have hst : runK g (100 - (m + st.length)) (n * 100 + (m + st.length)) = xs[j].id :: runK g (100 - (m + st.length + 1)) (n * 100 + (m + st.length + 1)) := by
                    rw [show 100 - (m + st.length) = (100 - (m + st.length + 1)) + 1 by omega]
                    simp only [runK, hso]
                    rfl
                  generalize xs[j].id = pid at *
                  have HST := hide hst
                  have hdl : st.length ≤ 16777216 := by omega
                  clear hst hso hfi
                  have HI4 := hide (HIS.out.below HBL4.out (by omega))
                  go_wp2_with ((at_builtin; refine wpList_push1 (k := 1) (enc := encI) _ rfl _ _ 52 rfl 3 (.int .i64 0) 8 Try.underlying52 infoI rfl (by omega) (by omega) encI_one (g2) _ (st) rfl (HO3.out) (pid) _ rfl rfl (hdl) (hs3) (hbel3) (Nat.le_refl _) rfl ?_; intro v1 w1 ho1 hb1 hg1); obtain ⟨A8, c8, rfl, _, _, _⟩ := ho1.is; have HO5 := hide ho1; have HB5 := hide hb1; clear ho1 hb1 hg1)
                  have hfi := HBX.out.trans HB5.out
                  have HI5 := hide (HIS.out.below (HLB.out _ hfi) (by omega))
                  clear hfi
                  refine (HCL.out _ _ _ HI5.out).mono ?_; rintro e w3 ⟨rfl, rfl⟩
                  go_wp2_with fail
                  go_round
                  case measure => (simp [lenS] <;> omega)
                  case rel => exact ⟨st ++ [pid], by simp, by simp; omega, by rw [List.append_assoc, List.singleton_append, List.length_append, List.length_singleton, ← Nat.add_assoc, ← HST.out]; exact HEQ.out, (by have := HO5.out; rw [List.length_append, List.length_singleton] at this; exact this), HB5.out⟩
            · have hmm : m = 100 := by omega
              have HMM := hide hmm; clear hmm
              go_wp2_with fail
              go_round
              case measure => (simp [intOf] <;> omega)
              case rel => exact ⟨n + 1, by omega, by go_num, by have := HOW.out; rw [HMM.out] at this; rw [show (n + 1) * 100 = n * 100 + 100 by omega]; exact this, HBL.out⟩
        · have hnn : n = 100 := by omega
          have HNN := hide hnn; clear hnn
          have hown := HOW.out
          rw [HNN.out, show 100 * 100 = 10000 from rfl, ← HBST.out] at hown
          have HOW2 := hide hown; clear hown HOW HBST HAT
          obtain ⟨A7, c7, rfl, _, _, _⟩ := HOW2.out.is
          go_wp2_with fail
          go_ret2
          refine ⟨_, ?_, by first | exact HOW2.out | (rw [hgm]; exact HOW2.out), by first | exact HBL.out | (rw [hgm]; exact HBL.out)⟩
          simp
end Go.Proofs.Ytdbcilinoieabaa
