/- Contracts of TiedMarks in impl and spec: the Lean function tiedV. No condition. -/
import Derived.Test.YtijjecckfcbaoaaL8S
import Derived.Test.YtijjecckfcbaoaaL8K
import Derived.Test.YtijjecckfcbaoaaStA2
namespace Go.Proofs.Ytijjecckfcbaoaa
open Go.RowKit
set_option linter.unusedVariables false
def tiedV (n : Int) (xs : List SClaim) (k : Int) : List Int × Bool := if areB n xs && inB k 0 (n - 1) then (tl n.toNat (tieN xs n.toNat (oneT k.toNat)), true) else ([], false)
theorem tiedV_len (n : Int) (xs : List SClaim) (k : Int) : (tiedV n xs k).1.length ≤ 1048576 := by
  unfold tiedV; split
  · rename_i h
    rw [Bool.and_eq_true] at h
    obtain ⟨_, ⟨_, h10⟩, _⟩ := areB_iff.1 h.1
    have := tl_len n.toNat (tieN xs n.toNat (oneT k.toNat))
    show (tl _ _).length ≤ _
    omega
  · simp
def pushP (cur : Int) (L : List Int) (p : SA2) : List Int := pushC cur L p.x p.y
def p2 (c : SClaim) : List SA2 := [⟨c.low, c.high⟩, ⟨c.high, c.low⟩]
theorem growS_snoc (cur : Int) (L : List Int) (ys : List SClaim) (c : SClaim) : growS cur L (ys ++ [c]) = (p2 c).foldl (pushP cur) (growS cur L ys) := by
  unfold growS; rw [List.foldl_append]; rfl
def Closed (xs : List SClaim) (x : Int) (L : List Int) : Prop := ∀ c ∈ xs, (c.low = x → c.high ∈ L) ∧ (c.high = x → c.low ∈ L)
theorem own_one8O (w : World) (x : Int) : Own 1 encI 3 (w.alloc (.cells #[.int .i64 x] 3)) w.heap.size (.slice (some ⟨w.heap.size, 0, none⟩) 1 1) [x] :=
  Own.made (n := 1) (cs := #[.int .i64 x]) rfl (Nat.le_refl _) (Blk.new w _ _) rfl (by simp [maxLen]) (by
    intro j z hj hz k hk
    have hj0 : j = 0 := by simpa using hj
    subst hj0
    simp at hz
    subst hz
    obtain rfl : k = 0 := by omega
    rfl)
theorem Own.low8 {α : Type} {k : Nat} {enc : α → Nat → Value} {e : TypeId} {w : World} {b b' : Nat} {v : Value} {xs : List α} (h : Own k enc e w b v xs) (hb : b' ≤ b) : Own k enc e w b' v xs := by
  rcases h with h | ⟨g, cap, cs, h1, h2, h3⟩
  · exact .inl h
  · exact .inr ⟨g, cap, cs, h1, Nat.le_trans hb h2, h3⟩
theorem any_mem (L : List Int) (x : Int) : (L.any fun c => x == c) = decide (x ∈ L) := by
  rw [Bool.eq_iff_iff, List.any_eq_true, decide_eq_true_eq]
  constructor
  · rintro ⟨c, hc, he⟩
    rw [eq_of_beq he]; exact hc
  · intro h
    exact ⟨x, h, by simp⟩
set_option maxRecDepth 100000 in
set_option maxHeartbeats 4000000 in
theorem implTiedMarks_any (n : Int) (v : Value) (xs : List SClaim) (k : Int) (w : World) (h : Is 4 SClaim.enc w v xs) :
    Calls Try.prog 46 #[.int .i64 n, v, .int .i64 k] w fun e w' => ∃ r, e = .returned (.tuple #[r, .bool (tiedV n xs k).2]) ∧ Own 1 encI 3 w' w.heap.size r (tiedV n xs k).1 ∧ Below w.heap.size w w' := by
  have hok := implAreClaims_is n v xs w h
  have hnil : ∀ W, Own 1 encI 3 W w.heap.size (.slice none 0 0) ([] : List Int) := fun W => Own.nil
  by_cases ha : areB n xs = true
  case neg =>
    rw [Bool.not_eq_true] at ha
    rw [show tiedV n xs k = ([], false) by unfold tiedV; rw [ha]; rfl]
    rw [ha] at hok
    have HOK := hide hok; have HN := hide hnil; clear hok ha h hnil
    go_enter Try.func46, Try.ntmps46
    go_wp2_with fail
    refine HOK.out.mono ?_; rintro e w1 ⟨rfl, hb1⟩
    go_wp2_with fail
    go_ret2
    exact ⟨_, rfl, HN.out _, hb1⟩
  have hnn := areB_nat ha
  obtain ⟨hc1, ⟨hn1, hn10⟩, hx24⟩ := areB_iff.1 ha
  rw [ha] at hok
  have hV : tiedV n xs k = if inB k 0 (n - 1) then (tl n.toNat (tieN xs n.toNat (oneT k.toNat)), true) else ([], false) := by
    unfold tiedV; rw [ha]; cases inB k 0 (n - 1) <;> rfl
  rw [hV]
  clear hV
  generalize n.toNat = m at hnn ⊢
  subst hnn
  cases hin : inB k 0 ((m : Int) - 1) with
  | false =>
    rw [if_neg (by simp)]
    have hwi := fun W => within_any k 0 ((m : Int) - 1) W
    rw [hin] at hwi
    have HOK := hide hok; have HN := hide hnil; have HWI := hide hwi; clear hok ha h hnil hwi hin hc1
    go_enter Try.func46, Try.ntmps46
    go_wp2_with fail
    refine HOK.out.mono ?_; rintro e w1 ⟨rfl, hb1⟩
    go_wp2_with fail
    refine (HWI.out w1).mono ?_; rintro e w2 ⟨rfl, rfl⟩
    go_wp2_with fail
    go_ret2
    exact ⟨_, rfl, HN.out _, hb1⟩
  | true =>
    rw [if_pos rfl]
    have hk := inB_iff.1 hin
    have hkk : k = (k.toNat : Int) := by omega
    generalize k.toNat = k0 at hkk ⊢
    subst hkk
    have hk0 : k0 < m := by omega
    have hwi := fun W => within_any (k0 : Int) 0 ((m : Int) - 1) W
    rw [hin] at hwi
    obtain ⟨A, cap, rfl, hr, _, _⟩ := h
    have hcl := fun i (hi : i < xs.length) => oneB_iff.1 (hc1 xs[i] (List.getElem_mem hi))
    generalize hB : w.heap.size = B at *
    have HOK := hide hok; have HWI := hide hwi; have HR := hide hr; have HCL := hide hcl; have HB := hide hB; have HA := hide ha
    clear hok ha hnil hwi hin hc1 hr hcl hk
    go_enter Try.func46, Try.ntmps46
    go_wp2_with fail
    refine HOK.out.mono ?_; rintro e w1 ⟨rfl, hb1⟩
    go_wp2_with fail
    refine (HWI.out w1).mono ?_; rintro e w2 ⟨rfl, rfl⟩
    have hs1 : B ≤ w1.heap.size := by rw [← hB]; exact hb1.size
    have ho := own_one8O w1 (k0 : Int)
    have B1 := hb1.alloc hs1 (.cells #[.int .i64 (k0 : Int)] 3)
    have HO := hide (ho.low8 hs1); clear ho
    clear hb1 hs1
    go_wp2_with fail
    generalize w1.alloc (.cells #[.int .i64 (k0 : Int)] 3) = w3 at *
    go_loopw [8, 9] (fun s i wr => ∃ (q : Nat) (L : List Int), i = .int .i64 (q : Int) ∧ q ≤ L.length ∧ Grows m xs k0 L ∧ (∀ j, j < q → ∀ x, L[j]? = some x → Closed xs x L) ∧ Own 1 encI 3 wr B s L ∧ Below B w wr) (fun _ i _ => m - (intOf i).toNat)
    case atStart => exact ⟨0, [(k0 : Int)], rfl, Nat.zero_le _, ⟨by simp, fun x hx => by rw [List.mem_singleton.1 hx]; exact ⟨by omega, by omega, .base⟩, by simp⟩, fun j hj => absurd hj (by omega), HO.out, B1⟩
    case round =>
      clear B1 HO
      obtain ⟨q, L, rfl, hq, hG, hD, hown, hbel⟩ := hrel
      have hGl := hG.len
      have HG := hide hG; have HD := hide hD; have HOW := hide hown; clear hG hD hown
      obtain ⟨A8, cap8, rfl, _, _, _⟩ := HOW.out.is
      by_cases hlq : q < L.length
      · have hlq' : (q : Int) < L.length := by omega
        obtain ⟨cur, hcur⟩ : ∃ cur, L[q]? = some cur := ⟨_, List.getElem?_eq_getElem hlq⟩
        have HCUR := hide hcur; clear hcur
        go_wp2_with fail
        go_loopw [8, 35] (fun s i wr => ∃ j : Nat, j ≤ xs.length ∧ i = .int .i64 (j : Int) ∧ Own 1 encI 3 wr B s (growS cur L (xs.take j)) ∧ Below B w wr) (fun _ i _ => xs.length - (intOf i).toNat)
        case atStart => exact ⟨0, Nat.zero_le _, rfl, HOW.out, hbel⟩
        case round =>
          clear hbel HOW
          obtain ⟨j, hj, rfl, hown, hbel⟩ := hrel
          have HOW := hide hown; clear hown
          have hsz : B ≤ wr.heap.size := by have := hbel.size; rw [HB.out] at this; exact this
          by_cases hlj : j < xs.length
          · have hlj' : (j : Int) < xs.length := by omega
            obtain ⟨b, off, rfl, hb, c0, c1, c2, c3⟩ := SClaim.cells HR.out hlj hbel
            have hcl := HCL.out j hlj
            have hst : growS cur L (xs.take (j + 1)) = (p2 xs[j]).foldl (pushP cur) (growS cur L (xs.take j)) := by rw [take_snoc' hlj, growS_snoc]
            have hgr := Grows.all HA.out (xs.take j) (fun c hc => List.mem_of_mem_take hc) HG.out (List.mem_of_getElem? HCUR.out)
            have hpre : (growS cur L (xs.take j))[q]? = some cur := by
              obtain ⟨M, hM⟩ := growS_sub (cur := cur) (xs.take j) (L := L)
              rw [hM, List.getElem?_append_left hlq]; exact HCUR.out
            have hmem : xs[j] ∈ xs := List.getElem_mem hlj
            generalize hgc : xs[j] = c at *
            obtain ⟨lo, hi, le, mo⟩ := c
            simp only at c0 c1 c2 c3 hcl
            obtain ⟨l0, l1, i0, i1, hlh, le0, le1, mo1⟩ := hcl
            generalize growS cur L (xs.take j) = L1 at *
            have hgr1 : Grows m xs k0 (pushC cur L1 lo hi) := (hgr.claim HA.out (List.mem_of_getElem? hpre) hmem).1
            have BX := (hbel.alloc hsz (.cells #[.int .i64 lo, .int .i64 hi, .int .i64 le, .int .i64 mo] 23))
            have hfl : Filled 2 SA2.enc #[.int .i64 lo, .int .i64 hi, .int .i64 hi, .int .i64 lo] (p2 ⟨lo, hi, le, mo⟩).length (p2 ⟨lo, hi, le, mo⟩) := by
              intro j x hj hx k hk
              have hj' : j = 0 ∨ j = 1 := by simp [p2] at hj; omega
              have hk' : k = 0 ∨ k = 1 := by omega
              rcases hj' with rfl | rfl <;> simp [p2] at hx <;> subst hx <;> rcases hk' with rfl | rfl <;> rfl
            have hlit : Own 2 SA2.enc 76 _ _ _ (p2 ⟨lo, hi, le, mo⟩) := Own.made (n := 2) rfl (Nat.le_refl _) (Blk.new (wr.alloc (.cells #[.int .i64 lo, .int .i64 hi, .int .i64 le, .int .i64 mo] 23)) 76 _) rfl (by simp [maxLen, p2]) hfl
            have hm2 := (HOW.out.below (below_alloc wr (.cells #[.int .i64 lo, .int .i64 hi, .int .i64 le, .int .i64 mo] 23))).below (below_alloc _ (.cells #[.int .i64 lo, .int .i64 hi, .int .i64 hi, .int .i64 lo] 76))
            have B2 := BX.alloc (by simp; omega) (.cells #[.int .i64 lo, .int .i64 hi, .int .i64 hi, .int .i64 lo] 76)
            have hs1 : (wr.alloc (.cells #[.int .i64 lo, .int .i64 hi, .int .i64 le, .int .i64 mo] 23)).heap.size = wr.heap.size + 1 := by simp
            rw [hs1] at hlit
            have HLIT := hide hlit; have HM2 := hide hm2; have HST := hide hst; have HPRE := hide hpre; have HGR := hide hgr; have HGR1 := hide hgr1
            clear hfl hlit hm2 hst BX hgc hpre hgr hgr1 hmem HOW
            go_wp2_with fail
            clear c0 c1 c2 c3
            generalize (wr.alloc (.cells #[.int .i64 lo, .int .i64 hi, .int .i64 le, .int .i64 mo] 23)).alloc (.cells #[.int .i64 lo, .int .i64 hi, .int .i64 hi, .int .i64 lo] 76) = W2 at *
            generalize hG0 : wr.heap.size = G0 at *
            go_loopw [8, 51] (fun s i wx => ∃ t : Nat, t ≤ 2 ∧ i = .int .i64 (t : Int) ∧ Own 1 encI 3 wx B s (((p2 ⟨lo, hi, le, mo⟩).take t).foldl (pushP cur) L1) ∧ Own 2 SA2.enc 76 wx (G0 + 1) (.slice (some ⟨G0 + 1, 0, none⟩) 2 2) (p2 ⟨lo, hi, le, mo⟩) ∧ Below B w wx) (fun _ i _ => 2 - (intOf i).toNat)
            case atStart => exact ⟨0, Nat.zero_le _, rfl, HM2.out, HLIT.out, B2⟩
            case round =>
              clear HM2 HLIT B2 hs1 hG0 hbel hsz
              obtain ⟨t, ht, rfl, hown, hol, hbel⟩ := hrel
              have hsz : B ≤ wr.heap.size := by have := hbel.size; rw [HB.out] at this; exact this
              by_cases hlt : t < 2
              · have hlt' : (t : Int) < 2 := by omega
                have htp : t < (p2 ⟨lo, hi, le, mo⟩).length := hlt
                obtain ⟨A9, c9, he, hrow, _, _⟩ := hol.row
                injection he with he1 he2 he3; subst he1 he3
                obtain ⟨b9, off9, hA9, hb9, d0, d1⟩ := SA2.cells hrow htp (Below.refl _ _)
                injection hA9 with hA9; injection hA9 with hz1 hz2; subst hz1 hz2
                rw [Nat.zero_add] at d0 d1
                have hst2 : ((p2 ⟨lo, hi, le, mo⟩).take (t + 1)).foldl (pushP cur) L1 = pushP cur (((p2 ⟨lo, hi, le, mo⟩).take t).foldl (pushP cur) L1) (p2 ⟨lo, hi, le, mo⟩)[t] := by rw [take_snoc' htp, List.foldl_append]; rfl
                have hgt : Grows m xs k0 (((p2 ⟨lo, hi, le, mo⟩).take t).foldl (pushP cur) L1) := by
                  have : t = 0 ∨ t = 1 := by omega
                  rcases this with rfl | rfl
                  · exact HGR.out
                  · exact HGR1.out
                have hpt : (((p2 ⟨lo, hi, le, mo⟩).take t).foldl (pushP cur) L1)[q]? = some cur := by
                  have hq1 := (List.getElem?_eq_some_iff.1 HPRE.out).1
                  have : t = 0 ∨ t = 1 := by omega
                  rcases this with rfl | rfl
                  · exact HPRE.out
                  · obtain ⟨M, hM⟩ := pushC_sub (cur := cur) (L := L1) (a := lo) (b := hi)
                    show (pushC cur L1 lo hi)[q]? = _
                    rw [hM, List.getElem?_append_left hq1]; exact HPRE.out
                generalize (p2 ⟨lo, hi, le, mo⟩)[t] = p at *
                obtain ⟨pa, pb⟩ := p
                simp only at d0 d1
                generalize ((p2 ⟨lo, hi, le, mo⟩).take t).foldl (pushP cur) L1 = T at *
                have hTl := hgt.len
                have hqT := (List.getElem?_eq_some_iff.1 hpt).1
                obtain ⟨gT, cT, csT, rfl, hbT, hblk, _, _, _, _⟩ := own_blk8 hown (by omega)
                have hcq := (hown.cell8 hqT).2.2.1
                rw [(List.getElem?_eq_some_iff.1 hpt).2] at hcq
                have hgl := hblk.lt
                have hqT' : (q : Int) < T.length := by omega
                have hmx := hown.below (below_alloc wr (.cells #[.int .i64 pa, .int .i64 pb] 76))
                have hlx := hol.alloc (.cells #[.int .i64 pa, .int .i64 pb] 76)
                have BX := hbel.alloc hsz (.cells #[.int .i64 pa, .int .i64 pb] 76)
                have hnew := Blk.new wr 76 #[.int .i64 pa, .int .i64 pb]
                have n0 : (wr.alloc (.cells #[.int .i64 pa, .int .i64 pb] 76)).cell? ⟨wr.heap.size, 0, none⟩ = some (.int .i64 pa) := hnew.cell 0
                have n1 : (wr.alloc (.cells #[.int .i64 pa, .int .i64 pb] 76)).cell? ⟨wr.heap.size, 1, none⟩ = some (.int .i64 pb) := hnew.cell 1
                have nq : (wr.alloc (.cells #[.int .i64 pa, .int .i64 pb] 76)).cell? ⟨gT, q, none⟩ = some (.int .i64 cur) := ((below_alloc wr _).cell (p := ⟨gT, q, none⟩) hgl).trans hcq
                have HST2 := hide hst2; have HMX := hide hmx; have HLX := hide hlx; have HBX := hide BX; have N0 := hide n0; have N1 := hide n1; have NQ := hide nq
                clear hst2 hmx hlx BX hown hol hnew n0 n1 nq hrow hcq hblk he2 hpt
                go_wp2_with fail
                obtain ⟨A5, c5, he5, hr5, _, _⟩ := HMX.out.is
                injection he5 with e1 e2 e3
                subst e1 e3
                clear e2
                have HR5 := hide hr5; clear hr5
                generalize wr.alloc (.cells #[.int .i64 pa, .int .i64 pb] 76) = W5 at *
                generalize wr.heap.size = G5 at *
                have hdr : Below W5.heap.size W5 W5.drew := (Below.refl _ W5).drew
                have hcon : Calls Try.prog 77 #[.slice (some ⟨gT, 0, none⟩) T.length cT, .int .i64 pb] W5.drew fun e w' => e = .returned (.bool (decide (pb ∈ T))) ∧ W5.drew = w' := by
                  have := ContainsI_any (some ⟨gT, 0, none⟩) cT T pb W5.drew (HR5.out.below hdr (Nat.le_refl _) (Nat.le_refl _)) (by omega)
                  rwa [any_mem] at this
                have hmx2 := HMX.out.below hdr
                have hlx2 := HLX.out.below hdr
                have hbx2 := HBX.out.drew
                have hs5 : B ≤ W5.heap.size := by have := HBX.out.size; rw [HB.out] at this; exact this
                have HM5 := hide hmx2; have HL5 := hide hlx2; have HB5 := hide hbx2
                clear hdr hmx2 hlx2 hbx2
                have n0 := N0.out; have n1 := N1.out; have nq := NQ.out
                have hdl : T.length ≤ 16777216 := by omega
                by_cases hp : pa = cur
                · subst hp
                  by_cases hmem : pb ∈ T
                  · rw [decide_eq_true hmem] at hcon
                    have hpp : pushP pa T ⟨pa, pb⟩ = T := if_neg (fun hh => hh.2 hmem)
                    rw [hpp] at HST2
                    have HCON := hide hcon; clear hcon hmem hpp
                    go_region_held3 (fun W => W.cell? ⟨G5, 0, none⟩ = some (.int .i64 pa) ∧ W.cell? ⟨G5, 1, none⟩ = some (.int .i64 pb) ∧ W.cell? ⟨gT, q, none⟩ = some (.int .i64 pa)) (go_keep)
                      (first
                        | (go_at_call 77; refine HCON.out.mono ?_; rintro e w6 ⟨rfl, rfl⟩))
                    go_wp2_with fail
                    go_round
                    case measure => (simp [intOf] <;> omega)
                    case rel => exact ⟨t + 1, by omega, by go_num, by rw [HST2.out]; exact HM5.out, HL5.out, HB5.out⟩
                  · rw [decide_eq_false hmem] at hcon
                    have hpp : pushP pa T ⟨pa, pb⟩ = T ++ [pb] := if_pos ⟨rfl, hmem⟩
                    rw [hpp] at HST2
                    have HCON := hide hcon; clear hcon hmem hpp
                    go_region_held3 (fun W => W.cell? ⟨G5, 0, none⟩ = some (.int .i64 pa) ∧ W.cell? ⟨G5, 1, none⟩ = some (.int .i64 pb) ∧ W.cell? ⟨gT, q, none⟩ = some (.int .i64 pa)) (go_keep)
                      (first
                        | (go_at_call 77; refine HCON.out.mono ?_; rintro e w6 ⟨rfl, rfl⟩))
                    go_wp2_with ((at_builtin; refine wpList_push1 (k := 1) (enc := encI) _ rfl _ _ 42 rfl 3 (.int .i64 0) 8 Try.underlying42 infoI rfl (by omega) (by omega) encI_one (B) _ (T) rfl (HM5.out) (pb) _ rfl rfl (hdl) (hs5) (HB5.out) (Nat.le_refl _) rfl ?_; intro v1 w1 ho1 hb1 hg1))
                    have hl6 := (HL5.out.alloc (.cells #[.int .i64 pb] 3)).grown hg1 (own_ne8 (HL5.out.alloc (.cells #[.int .i64 pb] 3)) (HM5.out.alloc (.cells #[.int .i64 pb] 3)) (by decide))
                    go_round
                    case measure => (simp [intOf] <;> omega)
                    case rel => exact ⟨t + 1, by omega, by go_num, by rw [HST2.out]; exact ho1, hl6, hb1⟩
                · have hpp : pushP cur T ⟨pa, pb⟩ = T := if_neg (fun hh => hp hh.1)
                  have hbe : (pa == cur) = false := by simp [hp]
                  rw [hpp] at HST2
                  clear hcon hpp
                  go_region
                  go_wp2_with fail
                  go_round
                  case measure => (simp [intOf] <;> omega)
                  case rel => exact ⟨t + 1, by omega, by go_num, by rw [HST2.out]; exact HM5.out, HL5.out, HB5.out⟩
              · have ht2 : t = 2 := by omega
                subst ht2
                have HOWN := hide hown; clear hown hol
                go_wp2_with fail
                go_round
                case measure => (simp [intOf] <;> omega)
                case rel => exact ⟨j + 1, by omega, by go_num, by rw [HST.out]; exact HOWN.out, hbel⟩
          · have hjx : j = xs.length := by omega
            have hfin := HOW.out
            rw [hjx, List.take_length] at hfin
            have HF := hide hfin; have HJ := hide hjx; clear hfin hjx HOW
            go_wp2_with fail
            go_round
            case measure => (simp [intOf] <;> omega)
            case rel =>
              obtain ⟨M, hM⟩ := growS_sub (cur := cur) xs (L := L)
              refine ⟨q + 1, growS cur L xs, by go_num, by rw [hM, List.length_append]; omega, Grows.all HA.out xs (fun c hc => hc) HG.out (List.mem_of_getElem? HCUR.out), fun i hi x hx => ?_, HF.out, hbel⟩
              have hil : i < L.length := by omega
              rw [hM, List.getElem?_append_left hil] at hx
              by_cases hiq : i = q
              · subst hiq
                rw [HCUR.out] at hx
                injection hx with hx
                subst hx
                exact fun c hc => growS_has xs c hc
              · intro c hc
                obtain ⟨h1, h2⟩ := HD.out i (by omega) x hx c hc
                rw [hM]
                exact ⟨fun e => List.mem_append_left _ (h1 e), fun e => List.mem_append_left _ (h2 e)⟩
      · have hqL : q = L.length := by omega
        have hend : sortL L = tl m (tieN xs m (oneT k0)) := grows_end HA.out hk0 HG.out fun x hx => by
          obtain ⟨i, hi, rfl⟩ := List.getElem_of_mem hx
          exact HD.out i (by omega) _ (List.getElem?_eq_getElem hi)
        have hsz : B ≤ wr.heap.size := by have := hbel.size; rw [HB.out] at this; exact this
        have hL1 : 1 ≤ L.length := List.length_pos_of_mem HG.out.base
        have hsort := sortI_is _ L wr HOW.out hL1 (by omega)
        rw [hend] at hsort
        have HSORT := hide hsort; have HQ := hide hqL; clear hsort hqL hend
        go_wp2_with fail
        refine HSORT.out.mono ?_; rintro e w9 ⟨rfl, ho9, hg9⟩
        have B9 := HOW.out.belowGrown hbel hg9 (Nat.le_refl _) hsz
        have HO9 := hide ho9; have HB9 := hide B9; clear ho9 hg9 B9
        go_wp2_with fail
        go_ret2
        exact ⟨_, rfl, HO9.out, HB9.out⟩
end Go.Proofs.Ytijjecckfcbaoaa
