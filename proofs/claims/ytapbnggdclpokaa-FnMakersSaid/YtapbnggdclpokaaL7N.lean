/- Contracts of FirstCommon, in impl and spec: the Lean function fcV. Condition: the names' sizes are those of memory. -/
import Derived.Test.YtapbnggdclpokaaL7M
namespace Go.Proofs.Ytapbnggdclpokaa
open Go.RowKit Go.Lib
set_option linter.unusedVariables false
def fcFind (la lb : List Nat) : Option Nat := la.find? fun i => lb.any fun j => j == i
def fcOut (xs : List SMaker) : Option Nat → Int × Bool
  | some i => ((SMaker.at xs i).ident, true)
  | none => (0, false)
def fcV (xs : List SMaker) (a b : Int) : Int × Bool := if listedB xs a && listedB xs b then fcOut xs (fcFind (lineL xs (findM xs a).toNat) (lineL xs (findM xs b).toNat)) else (0, false)
theorem fc_hit {la lb : List Nat} {n : Nat} (hn : n < la.length) (h : (lb.any fun j => j == la[n]) = true) (hno : ∀ i ∈ la.take n, (lb.any fun j => j == i) = false) : fcFind la lb = some la[n] := by
  unfold fcFind
  rw [List.find?_eq_some_iff_getElem]
  refine ⟨h, n, hn, rfl, fun j hj => ?_⟩
  have := hno la[j] (List.mem_take_iff_getElem.2 ⟨j, by omega, rfl⟩)
  rw [this]; rfl
theorem fc_miss {la lb : List Nat} (hno : ∀ i ∈ la, (lb.any fun j => j == i) = false) : fcFind la lb = none := by
  unfold fcFind
  rw [List.find?_eq_none]
  intro i hi; rw [hno i hi]; simp
set_option maxHeartbeats 1000000 in
theorem specFirstCommon_any (v : Value) (xs : List SMaker) (a b : Int) (w : World) (h : Is 5 SMaker.enc w v xs) (hw : ∀ z ∈ xs, z.wf) :
    Calls Try.prog 22 #[v, .int .i64 a, .int .i64 b] w fun e w' => e = .returned (.tuple #[.int .i64 (fcV xs a b).1, .bool (fcV xs a b).2]) ∧ Below w.heap.size w w' := by
  have hgood := l7Good_is v xs w h hw
  have hfa := l7Find_any v xs a w h
  have hfb := l7Find_any v xs b w h
  have HFA := hide hfa; have HFB := hide hfb; clear hfa hfb
  by_cases hg : goodB xs = true
  case neg =>
    rw [Bool.not_eq_true] at hg
    rw [show fcV xs a b = (0, false) by unfold fcV; rw [listed_no1 hg]; rfl]
    rw [hg] at hgood
    have HG := hide hgood; clear hgood hg h
    generalize findM xs a = fa at HFA
    generalize findM xs b = fb at HFB
    go_enter Try.func22, Try.ntmps22
    go_wp2_with fail
    refine HFA.out.mono ?_; rintro e w' ⟨rfl, rfl⟩
    go_wp2_with fail
    refine HFB.out.mono ?_; rintro e w' ⟨rfl, rfl⟩
    go_wp2_with fail
    refine HG.out.mono ?_; rintro e w1 ⟨rfl, hb1⟩
    go_wp2_with fail
    go_ret2
    exact ⟨rfl, hb1⟩
  rw [hg] at hgood
  have HG := hide hgood; have HGD := hide hg; clear hgood
  by_cases hf1 : findM xs a = -1
  · rw [show fcV xs a b = (0, false) by unfold fcV; rw [listed_no2 hf1]; rfl]
    rw [hf1] at HFA
    generalize findM xs b = fb at HFB
    clear h hf1 hg
    go_enter Try.func22, Try.ntmps22
    go_wp2_with fail
    refine HFA.out.mono ?_; rintro e w' ⟨rfl, rfl⟩
    go_wp2_with fail
    refine HFB.out.mono ?_; rintro e w' ⟨rfl, rfl⟩
    go_wp2_with fail
    refine HG.out.mono ?_; rintro e w1 ⟨rfl, hb1⟩
    go_wp2_with fail
    go_ret2
    exact ⟨rfl, hb1⟩
  obtain ⟨ka, hka, hfa⟩ := find_k hf1
  rw [hfa] at HFA
  by_cases hf2 : findM xs b = -1
  · rw [show fcV xs a b = (0, false) by unfold fcV; rw [listed_no2 hf2, Bool.and_false]; rfl]
    rw [hf2] at HFB
    clear h hf1 hf2 hfa hg
    go_enter Try.func22, Try.ntmps22
    go_wp2_with fail
    refine HFA.out.mono ?_; rintro e w' ⟨rfl, rfl⟩
    go_wp2_with fail
    refine HFB.out.mono ?_; rintro e w' ⟨rfl, rfl⟩
    go_wp2_with fail
    refine HG.out.mono ?_; rintro e w1 ⟨rfl, hb1⟩
    go_wp2_with fail
    go_ret2
    exact ⟨rfl, hb1⟩
  obtain ⟨kb, hkb, hfb⟩ := find_k hf2
  rw [hfb] at HFB
  have hV : fcV xs a b = fcOut xs (fcFind (lineL xs ka) (lineL xs kb)) := by
    unfold fcV; rw [listed_yes hg hfa, listed_yes hg hfb, hfa, hfb, Int.toNat_natCast, Int.toNat_natCast]; rfl
  rw [hV]
  have hra := lineL_from hg hka; have hrb := lineL_from hg hkb
  have hla := lineL_len xs ka; have hlb := lineL_len xs kb
  generalize lineL xs ka = la at hra hla
  generalize lineL xs kb = lb at hrb hlb
  have hlta := hra.lt
  have HRA := hide hra; have HRB := hide hrb; have HLA := hide hla; have HLB := hide hlb; have HLT := hide hlta; have HI := hide h
  clear hra hrb hla hlb hlta hV hf1 hf2 hfa hfb hg
  obtain ⟨A, cap, rfl, hr, _, _⟩ := h
  have HR := hide hr; clear hr
  go_enter Try.func22, Try.ntmps22
  go_wp2_with fail
  refine HFA.out.mono ?_; rintro e w' ⟨rfl, rfl⟩
  go_wp2_with fail
  refine HFB.out.mono ?_; rintro e w' ⟨rfl, rfl⟩
  go_wp2_with fail
  refine HG.out.mono ?_; rintro e w1 ⟨rfl, hb1⟩
  go_wp2_with fail
  refine (l7Line_is _ xs ka _ (HI.out.below hb1 (Nat.le_refl _)) la HRA.out HLA.out).mono ?_; rintro e w2 ⟨r2, rfl, ho2, hb2⟩
  have B2 := bstep hb1 hb2 hb1.size
  go_wp2_with fail
  refine (l7Line_is _ xs kb _ (HI.out.below B2 (Nat.le_refl _)) lb HRB.out HLB.out).mono ?_; rintro e w3 ⟨r3, rfl, ho3, hb3⟩
  have B3 := bstep B2 hb3 B2.size
  have HIB := hide ho3.is
  have ho2' := ho2.below hb3
  obtain ⟨A', cap', rfl, hrl⟩ := own_isI ho2'
  have HRL := hide hrl; clear hrl ho2 ho2' ho3 hb1 hb2 hb3 B2
  generalize hB : w.heap.size = B at HR B3
  have HB := hide hB; clear hB
  go_wp2_with fail
  go_loop [12] (fun i => ∃ n : Nat, n ≤ la.length ∧ i = .int .i64 (n : Int) ∧ (∀ c ∈ la.take n, (lb.any fun j => j == c) = false)) (fun i => la.length - (intOf i).toNat)
  case atStart => exact ⟨0, Nat.zero_le _, rfl, by simp⟩
  case round =>
    obtain ⟨n, hn, rfl, hno⟩ := hrel
    have hll := HLA.out
    have HN := hide hno; clear hno
    by_cases hlt : n < la.length
    · have p0 := HLT.out _ (List.getElem_mem hlt)
      obtain ⟨bl, offl, rfl, hbl, hc0⟩ := Ints.cellsAt HRL.out hlt
      obtain ⟨bx, offx, rfl, hbx, hd0⟩ := SMaker.cellsAt HR.out p0
      have c0 := hc0 _ (Below.refl _ _)
      have d0 := (hd0 _ B3).1
      have p0' : (la[n] : Int) < xs.length := by omega
      have hcall := l1Has_is _ lb la[n] w3 HIB.out
      have hhit := fun h => fc_hit hlt (lb := lb) h HN.out
      have htk := take_snoc' hlt
      have HH := hide hhit; have HTK := hide htk; clear hc0 hd0 hhit htk
      generalize la[n] = y at *
      cases hq : (lb.any fun j => j == y) with
      | true =>
        rw [hq] at hcall
        have hfc := HH.out hq
        have HFC := hide hfc; have HC := hide hcall; clear hfc hcall hq
        go_wp2_with fail
        refine HC.out.mono ?_; rintro e w' ⟨rfl, rfl⟩
        go_wp2_with fail
        go_ret2
        rw [HFC.out]
        exact ⟨rfl, by rw [HB.out]; exact B3⟩
      | false =>
        rw [hq] at hcall
        have HC := hide hcall; have HQ := hide hq; clear hcall hq
        go_wp2_with fail
        refine HC.out.mono ?_; rintro e w' ⟨rfl, rfl⟩
        go_wp2_with fail
        go_round
        case measure => (simp [intOf] <;> omega)
        case rel =>
          refine ⟨n + 1, by omega, by go_num, ?_⟩
          rw [HTK.out]
          intro c hc
          rcases List.mem_append.1 hc with h | h
          · exact HN.out c h
          · rw [List.mem_singleton.1 h]; exact HQ.out
    · have hnn : n = la.length := by omega
      have hm := fc_miss (la := la) (lb := lb) (by have := HN.out; rw [hnn, List.take_length] at this; exact this)
      have HM := hide hm; have HNN := hide hnn; clear hm hnn
      go_wp2_with fail
      go_ret2
      rw [HM.out]
      exact ⟨rfl, by rw [HB.out]; exact B3⟩
set_option maxHeartbeats 2000000 in
theorem implFirstCommon_any (v : Value) (xs : List SMaker) (a b : Int) (w : World) (h : Is 5 SMaker.enc w v xs) (hw : ∀ z ∈ xs, z.wf) :
    Calls Try.prog 23 #[v, .int .i64 a, .int .i64 b] w fun e w' => e = .returned (.tuple #[.int .i64 (fcV xs a b).1, .bool (fcV xs a b).2]) ∧ Below w.heap.size w w' := by
  have hla0 := isListed_is v xs a w h hw
  have hlb0 := fun W (hb : Below w.heap.size w W) => isListed_is v xs b W (h.below hb (Nat.le_refl _)) hw
  by_cases h1 : listedB xs a = true
  case neg =>
    rw [Bool.not_eq_true] at h1
    rw [show fcV xs a b = (0, false) by unfold fcV; rw [h1]; rfl]
    rw [h1] at hla0
    have HG := hide hla0; clear hla0 hlb0 h1 h
    go_enter Try.func23, Try.ntmps23
    go_wp2_with fail
    refine HG.out.mono ?_; rintro e w1 ⟨rfl, hb1⟩
    go_wp2_with fail
    go_ret2
    exact ⟨rfl, hb1⟩
  rw [h1] at hla0
  have HG := hide hla0; clear hla0
  by_cases h2 : listedB xs b = true
  case neg =>
    rw [Bool.not_eq_true] at h2
    rw [show fcV xs a b = (0, false) by unfold fcV; rw [h2, Bool.and_false]; rfl]
    rw [h2] at hlb0
    have HGB := hide hlb0; clear hlb0 h1 h2 h
    go_enter Try.func23, Try.ntmps23
    go_wp2_with fail
    refine HG.out.mono ?_; rintro e w1 ⟨rfl, hb1⟩
    go_wp2_with fail
    refine (HGB.out _ hb1).mono ?_; rintro e w2 ⟨rfl, hb2⟩
    go_wp2_with fail
    go_ret2
    exact ⟨rfl, bstep hb1 hb2 hb1.size⟩
  rw [h2] at hlb0
  have HGB := hide hlb0; clear hlb0
  have l1 := h1; have l2 := h2
  unfold listedB at l1 l2
  rw [Bool.and_eq_true, decide_eq_true_eq] at l1 l2
  have hg := l1.1
  obtain ⟨ka, hka, hfa⟩ := find_k (show ¬ findM xs a = -1 by omega)
  obtain ⟨kb, hkb, hfb⟩ := find_k (show ¬ findM xs b = -1 by omega)
  have hV : fcV xs a b = fcOut xs (fcFind (lineL xs ka) (lineL xs kb)) := by
    unfold fcV; rw [h1, h2, hfa, hfb, Int.toNat_natCast, Int.toNat_natCast]; rfl
  rw [hV]
  have hra := lineL_from hg hka; have hrb := lineL_from hg hkb
  have hla := lineL_len xs ka; have hlb := lineL_len xs kb
  generalize lineL xs ka = la at hra hla
  generalize lineL xs kb = lb at hrb hlb
  have hlta := hra.lt; have hltb := hrb.lt
  have HRA := hide hra; have HRB := hide hrb; have HLA := hide hla; have HLB := hide hlb; have HLT := hide hlta; have HLTB := hide hltb; have HI := hide h; have HFA := hide hfa; have HFB := hide hfb; have HGD := hide hg
  clear hra hrb hla hlb hlta hltb hV hfa hfb hg l1 l2 h1 h2 h
  go_enter Try.func23, Try.ntmps23
  go_wp2_with fail
  refine HG.out.mono ?_; rintro e w1 ⟨rfl, hb1⟩
  go_wp2_with fail
  refine (HGB.out _ hb1).mono ?_; rintro e w2 ⟨rfl, hb2⟩
  have B2 := bstep hb1 hb2 hb1.size
  go_wp2_with fail
  refine (line_is _ xs a ka _ (HI.out.below B2 (Nat.le_refl _)) HFA.out la HRA.out HLA.out).mono ?_; rintro e w3 ⟨r3, rfl, ho3, hb3⟩
  have B3 := bstep B2 hb3 B2.size
  obtain ⟨A', cap', rfl, hrl, _, _⟩ := ho3.row
  rw [show (mks xs la).length = la.length by simp [mks]]
  have s3 := B3.size
  generalize hC : w3.heap.size = C at hrl s3
  have HRL := hide hrl; have HC := hide hC; clear hrl hC hb1 hb2 hb3 B2 ho3
  go_wp2_with fail
  go_loopw [24] (fun i wr => ∃ n : Nat, n ≤ la.length ∧ i = .int .i64 (n : Int) ∧ (∀ c ∈ la.take n, (lb.any fun j => j == c) = false) ∧ Below C w3 wr) (fun i _ => la.length - (intOf i).toNat)
  case atStart => exact ⟨0, Nat.zero_le _, rfl, by simp, Below.refl _ _⟩
  case round =>
    obtain ⟨n, hn, rfl, hno, hbel⟩ := hrel
    have hll := HLA.out
    have hsC : C ≤ wr.heap.size := by have := hbel.size; rw [HC.out] at this; exact this
    have HN := hide hno; clear hno
    by_cases hlt : n < la.length
    · obtain ⟨bb, off, rfl, hb, c0, c1, c2, c3, c4⟩ := Mks.cells HRL.out hlt hbel
      have p0 := HLT.out _ (List.getElem_mem hlt)
      have hhit := fun h => fc_hit hlt (lb := lb) h HN.out
      have htk := take_snoc' hlt
      have HH := hide hhit; have HTK := hide htk; clear hhit htk
      generalize la[n] = y at *
      have hcon := fun (r : Value) W (hi : Is 5 SMaker.enc W r (mks xs lb)) => ContainsM_is r xs lb y W hi HGD.out HLTB.out p0
      have hbw := B3.trans (hbel.mono s3)
      have BX := hbw.alloc hbw.size (.cells (SMaker.at xs y).boxed 60)
      have BXC := hbel.alloc hsC (.cells (SMaker.at xs y).boxed 60)
      obtain ⟨e0, e1, e2, e3, e4⟩ := boxed_cell (Blk.new wr 60 (SMaker.at xs y).boxed)
      have hbo : wr.heap.size < (wr.alloc (.cells (SMaker.at xs y).boxed 60)).heap.size := by simp
      have hbe : (SMaker.at xs y).boxed = #[.int .i64 (SMaker.at xs y).ident, .string (SMaker.at xs y).name, .int .i64 (SMaker.at xs y).frm, .int .i64 (SMaker.at xs y).untl, .int .i64 (SMaker.at xs y).heir] := rfl
      rw [hbe] at BX BXC e0 e1 e2 e3 e4 hbo
      clear hbe
      have hout : fcOut xs (some y) = ((SMaker.at xs y).ident, true) := rfl
      have HCON := hide hcon; have HBX := hide BX; have HBXC := hide BXC; have HBO := hide hbo; have HOUT := hide hout
      have HE := hide (And.intro e0 (And.intro e1 (And.intro e2 (And.intro e3 e4))))
      clear hcon BX BXC hbo hout e0 e1 e2 e3 e4 p0
      generalize (SMaker.at xs y).ident = z0 at *; generalize (SMaker.at xs y).name = z1 at *; generalize (SMaker.at xs y).frm = z2 at *; generalize (SMaker.at xs y).untl = z3 at *; generalize (SMaker.at xs y).heir = z4 at *
      go_wp2_with fail
      generalize hW2 : wr.alloc (.cells #[.int .i64 z0, .string z1, .int .i64 z2, .int .i64 z3, .int .i64 z4] 60) = W2 at HBX HBXC HBO HE ⊢
      generalize hbo2 : wr.heap.size = bo at HBO HE ⊢
      obtain ⟨e0, e1, e2, e3, e4⟩ := HE.out
      have B2 := HBX.out
      have B2C := HBXC.out
      have hbW := HBO.out
      have hsz := B2.size
      have hszC : C ≤ W2.heap.size := by rw [← hW2]; simp; omega
      clear hW2 hbo2 c0 c1 c2 c3 c4 HE HBX HBXC HBO
      go_region_held3 (fun w' => w'.cell? ⟨bo, 0, none⟩ = some (.int .i64 z0) ∧ w'.cell? ⟨bo, 1, none⟩ = some (.string z1) ∧ w'.cell? ⟨bo, 2, none⟩ = some (.int .i64 z2) ∧ w'.cell? ⟨bo, 3, none⟩ = some (.int .i64 z3) ∧ w'.cell? ⟨bo, 4, none⟩ = some (.int .i64 z4)) (go_keep)
        (first
          | (go_at_call 54; refine (line_is _ xs b kb _ (HI.out.below B2.drew (Nat.le_refl _)) HFB.out lb HRB.out HLB.out).mono ?_; rintro e w5 ⟨r, rfl, ho, hb5⟩; have hc5 : ∀ o, w5.cell? ⟨bo, o, none⟩ = W2.cell? ⟨bo, o, none⟩ := (fun o => hb5.cell (p := ⟨bo, o, none⟩) hbW); have B5 := bstep B2.drew hb5 hsz; have B5C := bstep B2C.drew hb5 hszC; have hs5 : C ≤ w5.heap.size := (by have := hb5.size; exact Nat.le_trans hszC this); have hs5w : bo < w5.heap.size := (by have := hb5.size; exact Nat.lt_of_lt_of_le hbW this); have HO := hide ho.is; clear ho hb5)
          | (go_at_call 64; refine (HCON.out _ _ HO.out).mono ?_; rintro e w6 ⟨rfl, hb6⟩; have hc6 : ∀ o, w6.cell? ⟨bo, o, none⟩ = W2.cell? ⟨bo, o, none⟩ := (fun o => (hb6.cell (p := ⟨bo, o, none⟩) hs5w).trans (hc5 o)); have B6 := bstep B5 hb6 B5.size; have B6C := bstep B5C hb6 hs5; clear hb6))
      all_goals
        cases hq : (lb.any fun j => j == y) with
        | true =>
          have hfc := HH.out hq
          have HFC := hide hfc; clear hfc hq
          go_wp2_with fail
          go_ret2
          rw [HFC.out, HOUT.out]
          exact ⟨rfl, B6⟩
        | false =>
          have HQ := hide hq; clear hq
          go_wp2_with fail
          go_round
          case measure => (simp [intOf] <;> omega)
          case rel =>
            refine ⟨n + 1, by omega, by go_num, ?_, B6C⟩
            rw [HTK.out]
            intro c hc
            rcases List.mem_append.1 hc with h | h
            · exact HN.out c h
            · rw [List.mem_singleton.1 h]; exact HQ.out
    · have hnn : n = la.length := by omega
      have hm := fc_miss (la := la) (lb := lb) (by have := HN.out; rw [hnn, List.take_length] at this; exact this)
      have HM := hide hm; have HNN := hide hnn; clear hm hnn
      go_wp2_with fail
      go_ret2
      rw [HM.out]
      exact ⟨rfl, B3.trans (hbel.mono s3)⟩
end Go.Proofs.Ytapbnggdclpokaa
