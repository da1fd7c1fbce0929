/- Contract of OweMost in spec: the Lean function oweV. Condition: the readers fit. (Printed by mk3q.py.) -/
import Derived.Test.YtplemibckjnbhaaGreatDoorL3O
import Derived.Test.YtplemibckjnbhaaGreatDoorLIns
namespace Go.Proofs.YtplemibckjnbhaaGreatDoor
open Go.RowKit Go.Lib Go.Sort
set_option linter.unusedVariables false
set_option maxHeartbeats 8000000 in
set_option maxRecDepth 10000 in
theorem OweMostS_is (v : Value) (xs : List SReader) (n : Int) (w : World) (h : Is 5 SReader.enc w v xs) (hw : ∀ z ∈ xs, z.wf) :
    Calls Tryz.prog 20 #[v, .int .i64 n] w fun e w' => ∃ r, e = .returned (.tuple #[r, .bool (oweV xs n).2]) ∧ Own 1 encI 3 w' w.heap.size r (oweV xs n).1 ∧ Below w.heap.size w w' := by
  have B0 := below_alloc w (.cells #[] 3)
  have HA := hide (l3Good_is v xs _ (h.below B0 (Nat.le_refl _)) hw)
  have HE := hide (own_noneN (kk := 1) (enc := encI) 3 w (Nat.le_refl w.heap.size))
  have HB0 := hide B0; clear B0
  have hrv : oweV xs n = if goodR xs = true ∧ inB n 0 10 = true then (oweTo (oweS xs) n.toNat, true) else ([], false) := rfl
  generalize oweV xs n = rv at *
  have hs0 : w.heap.size ≤ (w.alloc (.cells #[] 3)).heap.size := by simp
  cases hg : goodR xs with
  | false =>
    rw [hg, if_neg (by simp)] at hrv
    subst hrv
    rw [hg] at HA
    clear hg hw h
    go_enter Tryz.func20, Tryz.ntmps20
    go_wp2_with fail
    refine HA.out.mono ?_; rintro e w1 ⟨rfl, hb1⟩
    have B1 := hide (bstep HB0.out hb1 hs0)
    have HE1 := hide (HE.out.below hb1); clear hb1
    go_wp2_with fail
    go_ret2
    exact ⟨_, rfl, HE1.out, B1.out⟩
  | true =>
    have HC := hide (fun W => l1In_any n 0 10 W)
    cases hd' : inB n 0 10 with
    | false =>
      rw [hg, hd', if_neg (by simp)] at hrv
      subst hrv
      rw [hg] at HA; rw [hd'] at HC
      clear hg hw h hd'
      go_enter Tryz.func20, Tryz.ntmps20
      go_wp2_with fail
      refine HA.out.mono ?_; rintro e w1 ⟨rfl, hb1⟩
      have B1 := hide (bstep HB0.out hb1 hs0)
      have HE1 := hide (HE.out.below hb1); clear hb1
      go_wp2_with fail
      refine (HC.out _).mono ?_; rintro e w2 ⟨rfl, rfl⟩
      go_wp2_with fail
      go_ret2
      exact ⟨_, rfl, HE1.out, B1.out⟩
    | true =>
      rw [hg, hd', if_pos ⟨rfl, rfl⟩] at hrv
      subst hrv
      obtain ⟨hn0, hn1⟩ := inB_iff.1 hd'
      obtain ⟨m, rfl⟩ : ∃ m : Nat, n = (m : Int) := ⟨n.toNat, by omega⟩
      rw [Int.toNat_natCast, ← oweTo_min]
      rw [hg] at HA; rw [hd'] at HC
      have hlen := goodR_len hg
      obtain ⟨A, cap, rfl, hr, _, _⟩ := h
      generalize hB : w.heap.size = B at hr
      have HB := hide hB; have HR := hide hr; clear hr hg hd' hw hn0
      go_enter Tryz.func20, Tryz.ntmps20
      go_wp2_with fail
      refine HA.out.mono ?_; rintro e w1 ⟨rfl, hb1⟩
      have B1 := hide (bstep HB0.out hb1 hs0)
      have HE1 := hide (HE.out.below hb1); clear hb1
      go_wp2_with fail
      refine (HC.out _).mono ?_; rintro e w2 ⟨rfl, rfl⟩
      clear HE HB0
      rw [hB] at B1 HE1
      have hs1 : B ≤ w1.heap.size := by have := B1.out.size; omega
      have HN1 := hide ((own_noneN (kk := 5) (enc := SReader.enc) 25 w1 (Nat.le_refl w1.heap.size)).mono hs1)
      have HE2 := hide (HE1.out.alloc (.cells #[] 25))
      have B2 := hide (B1.out.alloc hs1 (.cells #[] 25))
      have hs2 : w1.heap.size < (w1.alloc (.cells #[] 25)).heap.size := by simp
      go_upto_region 5 with fail
      generalize hw2 : w1.alloc (.cells #[] 25) = w2 at *
      generalize hg1 : w1.heap.size = g1 at *
      clear hw2 hg1
      have hB2 : B ≤ w2.heap.size := by omega
      go_wp2_with fail
      go_loopw [7, 8] (fun o i wr => ∃ (k gq cq : Nat), k ≤ xs.length ∧ i = .int .i64 (k : Int) ∧ o = .slice (some ⟨gq, 0, none⟩) (stD (ltOf Go.Proofs.YtplemibckjnbhaaGreatDoor.cfR) (xs.take k)).length cq ∧ Own 5 SReader.enc 25 wr B o (stD (ltOf Go.Proofs.YtplemibckjnbhaaGreatDoor.cfR) (xs.take k)) ∧ Below w2.heap.size w2 wr) (fun _ i _ => xs.length - (intOf i).toNat)
      case atStart => exact ⟨0, g1, 0, Nat.zero_le _, rfl, rfl, HN1.out, Below.refl _ _⟩
      case round =>
        obtain ⟨i, go, co, hi, rfl, rfl, hown, hbel⟩ := hrel
        have hsz : w2.heap.size ≤ wr.heap.size := hbel.size
        by_cases hlt : i < xs.length
        · have hlt' : (i : Int) < xs.length := by omega
          obtain ⟨b, off, rfl, hb, c0, c1, c2, c3, c4⟩ := SReader.cells HR.out hlt (B2.out.trans (hbel.mono hB2))
          have hsts := stD_succ (ltOf Go.Proofs.YtplemibckjnbhaaGreatDoor.cfR) hlt
          have hol : (stD (ltOf Go.Proofs.YtplemibckjnbhaaGreatDoor.cfR) (xs.take i)).length = i := by rw [stD_len, List.length_take]; omega
          have hns : (stD (ltOf Go.Proofs.YtplemibckjnbhaaGreatDoor.cfR) (xs.take (i + 1))).length = i + 1 := by rw [stD_len, List.length_take]; omega
          generalize hnse : stD (ltOf Go.Proofs.YtplemibckjnbhaaGreatDoor.cfR) (xs.take (i + 1)) = ns at *
          have HNSE := hide hnse; clear hnse
          generalize stD (ltOf Go.Proofs.YtplemibckjnbhaaGreatDoor.cfR) (xs.take i) = os at *
          generalize xs[i] = yy at *
          obtain ⟨y0, y1, y2, y3, y4⟩ := yy
          simp only at c0 c1 c2 c3 c4
          have hbw : b < wr.heap.size := by omega
          generalize wr = wo at *
          obtain ⟨Ao, cpo, heo, hro, hcmo, hleo⟩ := hown.row
          injection heo with e1 e2 e3; subst e1 e3; clear e2
          have HRO := hide hro; have HSTS := hide hsts; have HOWN := hide hown; have HBEL := hide hbel
          have HOL := hide hol; have HNS := hide hns
          clear hro hsts hown hbel hns
          have hoi : os.length ≤ 10 := by omega
          clear hol
          go_wp2_with fail
          go_loopw [9] (fun j wr2 => ∃ k : Nat, k ≤ os.length ∧ j = .int .i64 (k : Int) ∧ InsAt (ltOf Go.Proofs.YtplemibckjnbhaaGreatDoor.cfR) os ⟨y0, y1, y2, y3, y4⟩ k ∧ Below wo.heap.size wo wr2) (fun j _ => (intOf j).toNat)
          case atStart => exact ⟨os.length, Nat.le_refl _, rfl, insAt_start _ _ _, Below.refl _ _⟩
          case round =>
            obtain ⟨k, hk, rfl, hins, hb2⟩ := hrel
            have HI := hide hins; clear hins
            have hs2 := hb2.size
            have d0 := (hb2.cell (p := ⟨b, off + i * 5, none⟩) hbw).trans c0
            have d1 := (hb2.cell (p := ⟨b, off + i * 5 + 1, none⟩) hbw).trans c1
            have d2 := (hb2.cell (p := ⟨b, off + i * 5 + 2, none⟩) hbw).trans c2
            have d3 := (hb2.cell (p := ⟨b, off + i * 5 + 3, none⟩) hbw).trans c3
            have d4 := (hb2.cell (p := ⟨b, off + i * 5 + 4, none⟩) hbw).trans c4
            have HC := hide (And.intro c0 (And.intro c1 (And.intro c2 (And.intro c3 c4))))
            clear c0 c1 c2 c3 c4
            have n4 := fun n => later_cell d4 n
            by_cases hgo : 0 < k ∧ (ltOf Go.Proofs.YtplemibckjnbhaaGreatDoor.cfR) ⟨y0, y1, y2, y3, y4⟩ (SReader.at os (k - 1)) = true
            · obtain ⟨hk0, hlv⟩ := hgo
              obtain ⟨q, rfl⟩ : ∃ q, k = q + 1 := ⟨k - 1, by omega⟩
              have hqo : q < os.length := by omega
              rw [show q + 1 - 1 = q by omega, SReader.at_lt hqo] at hlv
              have hnext := insAt_step _ HI.out hqo hlv
              obtain ⟨bo, offo, hAo, _, p0, p1, p2, p3, p4⟩ := SReader.cells HRO.out hqo hb2
              injection hAo with hAo; injection hAo with hA1 hA2; subst hA1 hA2
              simp only [Nat.zero_add] at p4
              rw [ltOf_cfR] at hlv
              have hlv2 := of_decide_eq_true hlv
              simp only at hlv2
              generalize os[q].fines = of at *
              have m4 := fun n => later_cell p4 n
              have HNX := hide hnext
              clear hnext hlv p0 p1 p2 p3 p4 d0 d1 d2 d3 d4 hk0
              have hqo' : (q : Int) < os.length := by omega
              go_wp2_with fail
              (refine wp_region_later (by kernel_rfl) (by kernel_rfl) ?_; (repeat (go_big_quiet_step (fail))); refine wpQuiet_nil ?_; intro _ hw'; obtain ⟨nq, hw''⟩ := hw'; subst hw'')
              have B5 := hide (bstep hb2 nq.h hs2)
              generalize nq.W = W5 at B5
              clear n4 m4
              go_wp2_with fail
              go_round
              case measure => (simp [intOf] <;> omega)
              case rel => exact ⟨q, by omega, by go_num, HNX.out, B5.out⟩
            · have hstop : insD (ltOf Go.Proofs.YtplemibckjnbhaaGreatDoor.cfR) os ⟨y0, y1, y2, y3, y4⟩ = os.take k ++ (⟨y0, y1, y2, y3, y4⟩ : SReader) :: os.drop k := by
                rcases Nat.eq_zero_or_pos k with hz | hpos
                · subst hz; rw [insAt_zero _ HI.out]; simp
                · obtain ⟨q, rfl⟩ : ∃ q, k = q + 1 := ⟨k - 1, by omega⟩
                  have hqo : q < os.length := by omega
                  refine insAt_stop _ HI.out hqo ?_
                  have := fun h => hgo ⟨hpos, h⟩
                  rw [show q + 1 - 1 = q by omega, SReader.at_lt hqo] at this
                  simpa using this
              have HINS := hide hstop; clear hstop
              rcases Nat.eq_zero_or_pos k with hz | hpos
              · have hkz3 : ¬ 0 < k := by omega
                have hkz4 : decide (0 < k) = false := decide_eq_false hkz3
                have hkz5 : (k == 0) = true := by simpa using hz
                have HZ := hide hz
                clear d0 d1 d2 d3 d4 hgo hz
                go_wp2_with fail
                (refine wp_region_later (by kernel_rfl) (by kernel_rfl) ?_; (repeat (go_big_quiet_step (fail))); refine wpQuiet_nil ?_; intro _ hw'; obtain ⟨nq, hw''⟩ := hw'; subst hw'')
                clear n4 hkz3 hkz4 hkz5
                have hb5 := nq.h
                have hs5a := nq.h.size
                have HB2 := hide (HBEL.out.trans ((bstep hb2 nq.h hs2).mono hsz))
                generalize nq.W = W5 at *
                have HC5 := hide (HC.out)
                have hbr : Below wo.heap.size wo W5 := hb2.trans (hb5.mono hs2)
                obtain ⟨c0, c1, c2, c3, c4⟩ := HC.out
                have d0 := (hbr.cell (p := ⟨b, off + i * 5, none⟩) hbw).trans c0
                have d1 := (hbr.cell (p := ⟨b, off + i * 5 + 1, none⟩) hbw).trans c1
                have d2 := (hbr.cell (p := ⟨b, off + i * 5 + 2, none⟩) hbw).trans c2
                have d3 := (hbr.cell (p := ⟨b, off + i * 5 + 3, none⟩) hbw).trans c3
                have d4 := (hbr.cell (p := ⟨b, off + i * 5 + 4, none⟩) hbw).trans c4
                have HROWO := hide (HRO.out.below hbr (Nat.le_refl _) hbr.size)
                have hs5 : w2.heap.size ≤ W5.heap.size := by omega
                have hBW : B ≤ W5.heap.size := by omega
                have hkc0 : os.length ≤ co := by omega
                clear hb5 hbr c0 c1 c2 c3 c4 hb2 HI HC HC5
                have htl : (os.take k).length = k := by rw [List.length_take]; omega
                have hdl : (os.drop k).length = os.length - k := List.length_drop
                have hszg : ∀ (W : World) (o : Obj), (W.alloc o).heap.size = W.heap.size + 1 := fun W o => by simp
                have hrow := HROWO.out
                have hsrc := fun (W : World) (hW : Below W5.heap.size W5 W) => srcN (rowN_take (hrow.below hW (Nat.le_refl _) hW.size) k) (show 0 < 5 by omega)
                have hsrc2 := fun (W : World) (hW : Below W5.heap.size W5 W) => srcN (rowN_drop (hrow.below hW (Nat.le_refl _) hW.size) k) (show 0 < 5 by omega)
                simp only [Nat.zero_add] at hsrc2
                have ba1 := below_alloc W5 (.cells #[] 25)
                have ba := ba1.drew
                have bb1 := ba1.alloc ba1.size (.cells #[.int .i64 y0, .string y1, .int .i64 y2, .int .i64 y3, .int .i64 y4] 25)
                have bb := bb1.drew
                have bc0 := below_alloc W5 (.cells #[.int .i64 y0, .string y1, .int .i64 y2, .int .i64 y3, .int .i64 y4] 25)
                have bc1 := bc0.alloc bc0.size (.cells #[] 25)
                have bc := bc1.drew
                have hoa : Own 5 SReader.enc 25 (W5.alloc (.cells #[] 25)).drew W5.heap.size (.slice (some ⟨W5.heap.size, 0, none⟩) 0 0) [] := own_noneN 25 W5 (Nat.le_refl _)
                have hob : Own 5 SReader.enc 25 ((W5.alloc (.cells #[] 25)).alloc (.cells #[.int .i64 y0, .string y1, .int .i64 y2, .int .i64 y3, .int .i64 y4] 25)).drew W5.heap.size (.slice (some ⟨W5.heap.size, 0, none⟩) 0 0) [] := (own_noneN 25 W5 (Nat.le_refl _)).alloc (.cells #[.int .i64 y0, .string y1, .int .i64 y2, .int .i64 y3, .int .i64 y4] 25)
                have hoc : Own 5 SReader.enc 25 ((W5.alloc (.cells #[.int .i64 y0, .string y1, .int .i64 y2, .int .i64 y3, .int .i64 y4] 25)).alloc (.cells #[] 25)).drew W5.heap.size (.slice (some ⟨W5.heap.size + 1, 0, none⟩) 0 0) [] := by
                  have := own_noneN (kk := 5) (enc := SReader.enc) 25 (W5.alloc (.cells #[.int .i64 y0, .string y1, .int .i64 y2, .int .i64 y3, .int .i64 y4] 25)) (Nat.le_refl _)
                  rw [hszg] at this
                  exact this.mono (Nat.le_succ _)
                have hnb := fun (w1 : World) (hg : (((W5.alloc (.cells #[] 25)).alloc (.cells #[.int .i64 y0, .string y1, .int .i64 y2, .int .i64 y3, .int .i64 y4] 25)).drew).grownBy w1 (Value.slice (some ⟨W5.heap.size, 0, none⟩) 0 0).ownBlock) => newN (w := ((W5.alloc (.cells #[] 25)).alloc (.cells #[.int .i64 y0, .string y1, .int .i64 y2, .int .i64 y3, .int .i64 y4] 25)).drew) (g2 := W5.heap.size) (g := W5.heap.size + 1) (kk := 5) (enc := SReader.enc) (ys := [⟨y0, y1, y2, y3, y4⟩]) (by have := Blk.new (W5.alloc (.cells #[] 25)) 25 #[.int .i64 y0, .string y1, .int .i64 y2, .int .i64 y3, .int .i64 y4]; rw [hszg] at this; exact this) hg (by omega) rfl
                have hnc := fun (w1 : World) (hg : (((W5.alloc (.cells #[.int .i64 y0, .string y1, .int .i64 y2, .int .i64 y3, .int .i64 y4] 25)).alloc (.cells #[] 25)).drew).grownBy w1 (Value.slice (some ⟨W5.heap.size + 1, 0, none⟩) 0 0).ownBlock) => newN (w := ((W5.alloc (.cells #[.int .i64 y0, .string y1, .int .i64 y2, .int .i64 y3, .int .i64 y4] 25)).alloc (.cells #[] 25)).drew) (g2 := W5.heap.size + 1) (g := W5.heap.size) (kk := 5) (enc := SReader.enc) (ys := [⟨y0, y1, y2, y3, y4⟩]) ((Blk.new W5 25 #[.int .i64 y0, .string y1, .int .i64 y2, .int .i64 y3, .int .i64 y4]).alloc (.cells #[] 25)) hg (by omega) rfl
                have HOA := hide hoa; have HOB := hide hob; have HOC := hide hoc; have BA := hide ba; have BB := hide bb; have BC := hide bc
                have HSRC := hide hsrc; have HSRC2 := hide hsrc2; have HNB := hide hnb; have HNC := hide hnc; have HTL := hide htl; have HDL := hide hdl
                clear hoa hob hoc ba ba1 bb bb1 bc bc0 bc1 hsrc hsrc2 hnb hnc htl hdl hszg hrow
                by_cases hck : co = k
                · have hck2 := hck.symm
                  subst hck2
                  have hko : (k : Int) ≤ (os.length : Int) := by omega
                  go_wp2_with fail
                  go_region_held3 (fun w' => w'.cell? ⟨b, off + i * 5, none⟩ = some (.int .i64 y0) ∧ w'.cell? ⟨b, off + i * 5 + 1, none⟩ = some (.string y1) ∧ w'.cell? ⟨b, off + i * 5 + 2, none⟩ = some (.int .i64 y2) ∧ w'.cell? ⟨b, off + i * 5 + 3, none⟩ = some (.int .i64 y3) ∧ w'.cell? ⟨b, off + i * 5 + 4, none⟩ = some (.int .i64 y4)) (go_keep)
                    (first
                      | (refine step_pushN (k := 5) (enc := SReader.enc) _ (by rfl) _ _ 33 (by rfl) 25 (.agg #[.int .i64 0, .string ⟨#[]⟩, .int .i64 0, .int .i64 0, .int .i64 0]) 48 Tryz.underlying33 SReader.info rfl (by omega) SReader.one W5.heap.size _ ([] : List _) (by rfl) HOA.out ⟨go, 0, none⟩ k (os.take k) (by rw [HTL.out]; rfl) (HSRC.out _ BA.out) (by rw [HTL.out]; simp; omega) (by rw [HTL.out]; simp; omega) BA.out.size BA.out (Nat.le_refl _) ?_; intro v1 w1 ho1 hb1 hg1; have hk1 : ∀ o, w1.cell? ⟨b, o, none⟩ = W5.cell? ⟨b, o, none⟩ := (fun o => hb1.cell (p := ⟨b, o, none⟩) (by show b < W5.heap.size; omega)); have HO1 := hide ho1; clear ho1 hg1)
                      | (refine step_pushN (k := 5) (enc := SReader.enc) _ (by rfl) _ _ 33 (by rfl) 25 (.agg #[.int .i64 0, .string ⟨#[]⟩, .int .i64 0, .int .i64 0, .int .i64 0]) 48 Tryz.underlying33 SReader.info rfl (by omega) SReader.one W5.heap.size _ ([] : List _) (by rfl) HOB.out ⟨go, 0, none⟩ k (os.take k) (by rw [HTL.out]; rfl) (HSRC.out _ BB.out) (by rw [HTL.out]; simp; omega) (by rw [HTL.out]; simp; omega) BB.out.size BB.out (Nat.le_refl _) ?_; intro v1 w1 ho1 hb1 hg1; have hk1 : ∀ o, w1.cell? ⟨b, o, none⟩ = W5.cell? ⟨b, o, none⟩ := (fun o => hb1.cell (p := ⟨b, o, none⟩) (by show b < W5.heap.size; omega)); have HO1 := hide ho1; have HN := hide (HNB.out w1 hg1); clear ho1 hg1)
                      | (refine step_pushN (k := 5) (enc := SReader.enc) _ (by rfl) _ _ 33 (by rfl) 25 (.agg #[.int .i64 0, .string ⟨#[]⟩, .int .i64 0, .int .i64 0, .int .i64 0]) 48 Tryz.underlying33 SReader.info rfl (by omega) SReader.one W5.heap.size _ ([] : List _) (by rfl) HOC.out ⟨go, 0, none⟩ k (os.take k) (by rw [HTL.out]; rfl) (HSRC.out _ BC.out) (by rw [HTL.out]; simp; omega) (by rw [HTL.out]; simp; omega) BC.out.size BC.out (Nat.le_refl _) ?_; intro v1 w1 ho1 hb1 hg1; have hk1 : ∀ o, w1.cell? ⟨b, o, none⟩ = W5.cell? ⟨b, o, none⟩ := (fun o => hb1.cell (p := ⟨b, o, none⟩) (by show b < W5.heap.size; omega)); have HO1 := hide ho1; have HN := hide (HNC.out w1 hg1); clear ho1 hg1)
                      | (refine step_pushN (k := 5) (enc := SReader.enc) _ (by rfl) _ _ 33 (by rfl) 25 (.agg #[.int .i64 0, .string ⟨#[]⟩, .int .i64 0, .int .i64 0, .int .i64 0]) 48 Tryz.underlying33 SReader.info rfl (by omega) SReader.one W5.heap.size _ ([] ++ os.take k) (by rfl) (HO1.out.alloc (.cells #[.int .i64 y0, .string y1, .int .i64 y2, .int .i64 y3, .int .i64 y4] 25)) ⟨w1.heap.size, 0, none⟩ 1 [⟨y0, y1, y2, y3, y4⟩] (by rfl) (src_new w1 rfl) (by simp [HTL.out]; omega) (by simp [HTL.out]; omega) (hb1.alloc hb1.size (.cells #[.int .i64 y0, .string y1, .int .i64 y2, .int .i64 y3, .int .i64 y4] 25)).size (hb1.alloc hb1.size (.cells #[.int .i64 y0, .string y1, .int .i64 y2, .int .i64 y3, .int .i64 y4] 25)) (Nat.le_refl _) ?_; intro v2 w2 ho2 hb2 hg2; have hk2 : ∀ o, w2.cell? ⟨b, o, none⟩ = W5.cell? ⟨b, o, none⟩ := (fun o => hb2.cell (p := ⟨b, o, none⟩) (by show b < W5.heap.size; omega)); have HO2 := hide ho2; clear ho2 hg2)
                      | (refine step_pushN (k := 5) (enc := SReader.enc) _ (by rfl) _ _ 33 (by rfl) 25 (.agg #[.int .i64 0, .string ⟨#[]⟩, .int .i64 0, .int .i64 0, .int .i64 0]) 48 Tryz.underlying33 SReader.info rfl (by omega) SReader.one W5.heap.size _ ([] ++ os.take k) (by rfl) HO1.out ⟨W5.heap.size + 1, 0, none⟩ 1 [⟨y0, y1, y2, y3, y4⟩] (by rfl) HN.out (by simp [HTL.out]; omega) (by simp [HTL.out]; omega) hb1.size hb1 (Nat.le_refl _) ?_; intro v2 w2 ho2 hb2 hg2; have hk2 : ∀ o, w2.cell? ⟨b, o, none⟩ = W5.cell? ⟨b, o, none⟩ := (fun o => hb2.cell (p := ⟨b, o, none⟩) (by show b < W5.heap.size; omega)); have HO2 := hide ho2; clear ho2 hg2)
                      | (refine step_pushN (k := 5) (enc := SReader.enc) _ (by rfl) _ _ 33 (by rfl) 25 (.agg #[.int .i64 0, .string ⟨#[]⟩, .int .i64 0, .int .i64 0, .int .i64 0]) 48 Tryz.underlying33 SReader.info rfl (by omega) SReader.one W5.heap.size _ ([] ++ os.take k) (by rfl) HO1.out ⟨W5.heap.size, 0, none⟩ 1 [⟨y0, y1, y2, y3, y4⟩] (by rfl) HN.out (by simp [HTL.out]; omega) (by simp [HTL.out]; omega) hb1.size hb1 (Nat.le_refl _) ?_; intro v2 w2 ho2 hb2 hg2; have hk2 : ∀ o, w2.cell? ⟨b, o, none⟩ = W5.cell? ⟨b, o, none⟩ := (fun o => hb2.cell (p := ⟨b, o, none⟩) (by show b < W5.heap.size; omega)); have HO2 := hide ho2; clear ho2 hg2)
                      | (refine step_pushN (k := 5) (enc := SReader.enc) _ (by rfl) _ _ 33 (by rfl) 25 (.agg #[.int .i64 0, .string ⟨#[]⟩, .int .i64 0, .int .i64 0, .int .i64 0]) 48 Tryz.underlying33 SReader.info rfl (by omega) SReader.one W5.heap.size _ ([] ++ os.take k ++ [⟨y0, y1, y2, y3, y4⟩]) (by rfl) HO2.out ⟨go, 0, none⟩ 0 (os.drop k) (by rw [HDL.out]; rw [show os.length - k = 0 by omega]; rfl) ((by rw [List.drop_of_length_le (by omega)]; intro j u hj; simp [flat] at hj)) (by simp [HTL.out, HDL.out]; omega) (by simp [HTL.out, HDL.out]; omega) hb2.size hb2 (Nat.le_refl _) ?_; intro v3 w3 ho3 hb3 hg3; have hk3 : ∀ o, w3.cell? ⟨b, o, none⟩ = W5.cell? ⟨b, o, none⟩ := (fun o => hb3.cell (p := ⟨b, o, none⟩) (by show b < W5.heap.size; omega)); have HO3 := hide ho3; clear ho3 hg3))
                  all_goals
                    have hnew : insD (ltOf Go.Proofs.YtplemibckjnbhaaGreatDoor.cfR) os ⟨y0, y1, y2, y3, y4⟩ = [] ++ os.take k ++ [⟨y0, y1, y2, y3, y4⟩] ++ os.drop k := by rw [HINS.out]; simp
                    have ho3 := HO3.out
                    rw [← hnew, ← HSTS.out] at ho3
                    have HO4 := hide (ho3.mono hBW)
                    have HB4 := hide (HB2.out.trans (hb3.mono hs5))
                    clear ho3 hnew
                    obtain ⟨g4, c4, cs4, rfl, _⟩ := own_blk HO4.out (by have := HNS.out; omega)
                    go_wp2_with fail
                    go_round
                    case measure => (simp [intOf] <;> omega)
                    case rel => exact ⟨i + 1, g4, c4, by omega, by go_num, by rw [HNSE.out], by rw [HNSE.out]; exact HO4.out, HB4.out⟩
                · have hkc : (k : Int) ≤ (co : Int) := by omega
                  have hko : (k : Int) ≤ (os.length : Int) := by omega
                  go_wp2_with fail
                  go_region_held3 (fun w' => w'.cell? ⟨b, off + i * 5, none⟩ = some (.int .i64 y0) ∧ w'.cell? ⟨b, off + i * 5 + 1, none⟩ = some (.string y1) ∧ w'.cell? ⟨b, off + i * 5 + 2, none⟩ = some (.int .i64 y2) ∧ w'.cell? ⟨b, off + i * 5 + 3, none⟩ = some (.int .i64 y3) ∧ w'.cell? ⟨b, off + i * 5 + 4, none⟩ = some (.int .i64 y4)) (go_keep)
                    (first
                      | (refine step_pushN (k := 5) (enc := SReader.enc) _ (by rfl) _ _ 33 (by rfl) 25 (.agg #[.int .i64 0, .string ⟨#[]⟩, .int .i64 0, .int .i64 0, .int .i64 0]) 48 Tryz.underlying33 SReader.info rfl (by omega) SReader.one W5.heap.size _ ([] : List _) (by rfl) HOA.out ⟨go, 0, none⟩ co (os.take k) (by rw [HTL.out]; rfl) (HSRC.out _ BA.out) (by rw [HTL.out]; simp; omega) (by rw [HTL.out]; simp; omega) BA.out.size BA.out (Nat.le_refl _) ?_; intro v1 w1 ho1 hb1 hg1; have hk1 : ∀ o, w1.cell? ⟨b, o, none⟩ = W5.cell? ⟨b, o, none⟩ := (fun o => hb1.cell (p := ⟨b, o, none⟩) (by show b < W5.heap.size; omega)); have HO1 := hide ho1; clear ho1 hg1)
                      | (refine step_pushN (k := 5) (enc := SReader.enc) _ (by rfl) _ _ 33 (by rfl) 25 (.agg #[.int .i64 0, .string ⟨#[]⟩, .int .i64 0, .int .i64 0, .int .i64 0]) 48 Tryz.underlying33 SReader.info rfl (by omega) SReader.one W5.heap.size _ ([] : List _) (by rfl) HOB.out ⟨go, 0, none⟩ co (os.take k) (by rw [HTL.out]; rfl) (HSRC.out _ BB.out) (by rw [HTL.out]; simp; omega) (by rw [HTL.out]; simp; omega) BB.out.size BB.out (Nat.le_refl _) ?_; intro v1 w1 ho1 hb1 hg1; have hk1 : ∀ o, w1.cell? ⟨b, o, none⟩ = W5.cell? ⟨b, o, none⟩ := (fun o => hb1.cell (p := ⟨b, o, none⟩) (by show b < W5.heap.size; omega)); have HO1 := hide ho1; have HN := hide (HNB.out w1 hg1); clear ho1 hg1)
                      | (refine step_pushN (k := 5) (enc := SReader.enc) _ (by rfl) _ _ 33 (by rfl) 25 (.agg #[.int .i64 0, .string ⟨#[]⟩, .int .i64 0, .int .i64 0, .int .i64 0]) 48 Tryz.underlying33 SReader.info rfl (by omega) SReader.one W5.heap.size _ ([] : List _) (by rfl) HOC.out ⟨go, 0, none⟩ co (os.take k) (by rw [HTL.out]; rfl) (HSRC.out _ BC.out) (by rw [HTL.out]; simp; omega) (by rw [HTL.out]; simp; omega) BC.out.size BC.out (Nat.le_refl _) ?_; intro v1 w1 ho1 hb1 hg1; have hk1 : ∀ o, w1.cell? ⟨b, o, none⟩ = W5.cell? ⟨b, o, none⟩ := (fun o => hb1.cell (p := ⟨b, o, none⟩) (by show b < W5.heap.size; omega)); have HO1 := hide ho1; have HN := hide (HNC.out w1 hg1); clear ho1 hg1)
                      | (refine step_pushN (k := 5) (enc := SReader.enc) _ (by rfl) _ _ 33 (by rfl) 25 (.agg #[.int .i64 0, .string ⟨#[]⟩, .int .i64 0, .int .i64 0, .int .i64 0]) 48 Tryz.underlying33 SReader.info rfl (by omega) SReader.one W5.heap.size _ ([] ++ os.take k) (by rfl) (HO1.out.alloc (.cells #[.int .i64 y0, .string y1, .int .i64 y2, .int .i64 y3, .int .i64 y4] 25)) ⟨w1.heap.size, 0, none⟩ 1 [⟨y0, y1, y2, y3, y4⟩] (by rfl) (src_new w1 rfl) (by simp [HTL.out]; omega) (by simp [HTL.out]; omega) (hb1.alloc hb1.size (.cells #[.int .i64 y0, .string y1, .int .i64 y2, .int .i64 y3, .int .i64 y4] 25)).size (hb1.alloc hb1.size (.cells #[.int .i64 y0, .string y1, .int .i64 y2, .int .i64 y3, .int .i64 y4] 25)) (Nat.le_refl _) ?_; intro v2 w2 ho2 hb2 hg2; have hk2 : ∀ o, w2.cell? ⟨b, o, none⟩ = W5.cell? ⟨b, o, none⟩ := (fun o => hb2.cell (p := ⟨b, o, none⟩) (by show b < W5.heap.size; omega)); have HO2 := hide ho2; clear ho2 hg2)
                      | (refine step_pushN (k := 5) (enc := SReader.enc) _ (by rfl) _ _ 33 (by rfl) 25 (.agg #[.int .i64 0, .string ⟨#[]⟩, .int .i64 0, .int .i64 0, .int .i64 0]) 48 Tryz.underlying33 SReader.info rfl (by omega) SReader.one W5.heap.size _ ([] ++ os.take k) (by rfl) HO1.out ⟨W5.heap.size + 1, 0, none⟩ 1 [⟨y0, y1, y2, y3, y4⟩] (by rfl) HN.out (by simp [HTL.out]; omega) (by simp [HTL.out]; omega) hb1.size hb1 (Nat.le_refl _) ?_; intro v2 w2 ho2 hb2 hg2; have hk2 : ∀ o, w2.cell? ⟨b, o, none⟩ = W5.cell? ⟨b, o, none⟩ := (fun o => hb2.cell (p := ⟨b, o, none⟩) (by show b < W5.heap.size; omega)); have HO2 := hide ho2; clear ho2 hg2)
                      | (refine step_pushN (k := 5) (enc := SReader.enc) _ (by rfl) _ _ 33 (by rfl) 25 (.agg #[.int .i64 0, .string ⟨#[]⟩, .int .i64 0, .int .i64 0, .int .i64 0]) 48 Tryz.underlying33 SReader.info rfl (by omega) SReader.one W5.heap.size _ ([] ++ os.take k) (by rfl) HO1.out ⟨W5.heap.size, 0, none⟩ 1 [⟨y0, y1, y2, y3, y4⟩] (by rfl) HN.out (by simp [HTL.out]; omega) (by simp [HTL.out]; omega) hb1.size hb1 (Nat.le_refl _) ?_; intro v2 w2 ho2 hb2 hg2; have hk2 : ∀ o, w2.cell? ⟨b, o, none⟩ = W5.cell? ⟨b, o, none⟩ := (fun o => hb2.cell (p := ⟨b, o, none⟩) (by show b < W5.heap.size; omega)); have HO2 := hide ho2; clear ho2 hg2)
                      | (refine step_pushN (k := 5) (enc := SReader.enc) _ (by rfl) _ _ 33 (by rfl) 25 (.agg #[.int .i64 0, .string ⟨#[]⟩, .int .i64 0, .int .i64 0, .int .i64 0]) 48 Tryz.underlying33 SReader.info rfl (by omega) SReader.one W5.heap.size _ ([] ++ os.take k ++ [⟨y0, y1, y2, y3, y4⟩]) (by rfl) HO2.out ⟨go, k * 5, none⟩ (co - k) (os.drop k) (by rw [HDL.out]; rfl) (HSRC2.out _ hb2) (by simp [HTL.out, HDL.out]; omega) (by simp [HTL.out, HDL.out]; omega) hb2.size hb2 (Nat.le_refl _) ?_; intro v3 w3 ho3 hb3 hg3; have hk3 : ∀ o, w3.cell? ⟨b, o, none⟩ = W5.cell? ⟨b, o, none⟩ := (fun o => hb3.cell (p := ⟨b, o, none⟩) (by show b < W5.heap.size; omega)); have HO3 := hide ho3; clear ho3 hg3))
                  all_goals
                    have hnew : insD (ltOf Go.Proofs.YtplemibckjnbhaaGreatDoor.cfR) os ⟨y0, y1, y2, y3, y4⟩ = [] ++ os.take k ++ [⟨y0, y1, y2, y3, y4⟩] ++ os.drop k := by rw [HINS.out]; simp
                    have ho3 := HO3.out
                    rw [← hnew, ← HSTS.out] at ho3
                    have HO4 := hide (ho3.mono hBW)
                    have HB4 := hide (HB2.out.trans (hb3.mono hs5))
                    clear ho3 hnew
                    obtain ⟨g4, c4, cs4, rfl, _⟩ := own_blk HO4.out (by have := HNS.out; omega)
                    go_wp2_with fail
                    go_round
                    case measure => (simp [intOf] <;> omega)
                    case rel => exact ⟨i + 1, g4, c4, by omega, by go_num, by rw [HNSE.out], by rw [HNSE.out]; exact HO4.out, HB4.out⟩
              · obtain ⟨q, rfl⟩ : ∃ q, k = q + 1 := ⟨k - 1, by omega⟩
                have hqo : q < os.length := by omega
                have hlv := fun h => hgo ⟨hpos, h⟩
                rw [show q + 1 - 1 = q by omega, SReader.at_lt hqo] at hlv
                obtain ⟨bo, offo, hAo, _, p0, p1, p2, p3, p4⟩ := SReader.cells HRO.out hqo hb2
                injection hAo with hAo; injection hAo with hA1 hA2; subst hA1 hA2
                simp only [Nat.zero_add] at p4
                rw [ltOf_cfR] at hlv
                have hlv2 : ¬ os[q].fines < y4 := fun h => hlv (decide_eq_true h)
                generalize os[q].fines = of at *
                have hlv3 : decide (of < y4) = false := decide_eq_false hlv2
                have m4 := fun n => later_cell p4 n
                have hqo' : (q : Int) < os.length := by omega
                clear hlv p0 p1 p2 p3 p4 d0 d1 d2 d3 d4 hgo hpos
                go_wp2_with fail
                (refine wp_region_later (by kernel_rfl) (by kernel_rfl) ?_; (repeat (go_big_quiet_step (fail))); refine wpQuiet_nil ?_; intro _ hw'; obtain ⟨nq, hw''⟩ := hw'; subst hw'')
                clear n4 m4 hlv2 hlv3
                have hb5 := nq.h
                have hs5a := nq.h.size
                have HB2 := hide (HBEL.out.trans ((bstep hb2 nq.h hs2).mono hsz))
                generalize nq.W = W5 at *
                have HC5 := hide (HC.out)
                have hbr : Below wo.heap.size wo W5 := hb2.trans (hb5.mono hs2)
                obtain ⟨c0, c1, c2, c3, c4⟩ := HC.out
                have d0 := (hbr.cell (p := ⟨b, off + i * 5, none⟩) hbw).trans c0
                have d1 := (hbr.cell (p := ⟨b, off + i * 5 + 1, none⟩) hbw).trans c1
                have d2 := (hbr.cell (p := ⟨b, off + i * 5 + 2, none⟩) hbw).trans c2
                have d3 := (hbr.cell (p := ⟨b, off + i * 5 + 3, none⟩) hbw).trans c3
                have d4 := (hbr.cell (p := ⟨b, off + i * 5 + 4, none⟩) hbw).trans c4
                have HROWO := hide (HRO.out.below hbr (Nat.le_refl _) hbr.size)
                have hs5 : w2.heap.size ≤ W5.heap.size := by omega
                have hBW : B ≤ W5.heap.size := by omega
                have hkc0 : os.length ≤ co := by omega
                clear hb5 hbr c0 c1 c2 c3 c4 hb2 HI HC HC5
                have htl : (os.take (q + 1)).length = (q + 1) := by rw [List.length_take]; omega
                have hdl : (os.drop (q + 1)).length = os.length - (q + 1) := List.length_drop
                have hszg : ∀ (W : World) (o : Obj), (W.alloc o).heap.size = W.heap.size + 1 := fun W o => by simp
                have hrow := HROWO.out
                have hsrc := fun (W : World) (hW : Below W5.heap.size W5 W) => srcN (rowN_take (hrow.below hW (Nat.le_refl _) hW.size) (q + 1)) (show 0 < 5 by omega)
                have hsrc2 := fun (W : World) (hW : Below W5.heap.size W5 W) => srcN (rowN_drop (hrow.below hW (Nat.le_refl _) hW.size) (q + 1)) (show 0 < 5 by omega)
                simp only [Nat.zero_add] at hsrc2
                have ba1 := below_alloc W5 (.cells #[] 25)
                have ba := ba1.drew
                have bb1 := ba1.alloc ba1.size (.cells #[.int .i64 y0, .string y1, .int .i64 y2, .int .i64 y3, .int .i64 y4] 25)
                have bb := bb1.drew
                have bc0 := below_alloc W5 (.cells #[.int .i64 y0, .string y1, .int .i64 y2, .int .i64 y3, .int .i64 y4] 25)
                have bc1 := bc0.alloc bc0.size (.cells #[] 25)
                have bc := bc1.drew
                have hoa : Own 5 SReader.enc 25 (W5.alloc (.cells #[] 25)).drew W5.heap.size (.slice (some ⟨W5.heap.size, 0, none⟩) 0 0) [] := own_noneN 25 W5 (Nat.le_refl _)
                have hob : Own 5 SReader.enc 25 ((W5.alloc (.cells #[] 25)).alloc (.cells #[.int .i64 y0, .string y1, .int .i64 y2, .int .i64 y3, .int .i64 y4] 25)).drew W5.heap.size (.slice (some ⟨W5.heap.size, 0, none⟩) 0 0) [] := (own_noneN 25 W5 (Nat.le_refl _)).alloc (.cells #[.int .i64 y0, .string y1, .int .i64 y2, .int .i64 y3, .int .i64 y4] 25)
                have hoc : Own 5 SReader.enc 25 ((W5.alloc (.cells #[.int .i64 y0, .string y1, .int .i64 y2, .int .i64 y3, .int .i64 y4] 25)).alloc (.cells #[] 25)).drew W5.heap.size (.slice (some ⟨W5.heap.size + 1, 0, none⟩) 0 0) [] := by
                  have := own_noneN (kk := 5) (enc := SReader.enc) 25 (W5.alloc (.cells #[.int .i64 y0, .string y1, .int .i64 y2, .int .i64 y3, .int .i64 y4] 25)) (Nat.le_refl _)
                  rw [hszg] at this
                  exact this.mono (Nat.le_succ _)
                have hnb := fun (w1 : World) (hg : (((W5.alloc (.cells #[] 25)).alloc (.cells #[.int .i64 y0, .string y1, .int .i64 y2, .int .i64 y3, .int .i64 y4] 25)).drew).grownBy w1 (Value.slice (some ⟨W5.heap.size, 0, none⟩) 0 0).ownBlock) => newN (w := ((W5.alloc (.cells #[] 25)).alloc (.cells #[.int .i64 y0, .string y1, .int .i64 y2, .int .i64 y3, .int .i64 y4] 25)).drew) (g2 := W5.heap.size) (g := W5.heap.size + 1) (kk := 5) (enc := SReader.enc) (ys := [⟨y0, y1, y2, y3, y4⟩]) (by have := Blk.new (W5.alloc (.cells #[] 25)) 25 #[.int .i64 y0, .string y1, .int .i64 y2, .int .i64 y3, .int .i64 y4]; rw [hszg] at this; exact this) hg (by omega) rfl
                have hnc := fun (w1 : World) (hg : (((W5.alloc (.cells #[.int .i64 y0, .string y1, .int .i64 y2, .int .i64 y3, .int .i64 y4] 25)).alloc (.cells #[] 25)).drew).grownBy w1 (Value.slice (some ⟨W5.heap.size + 1, 0, none⟩) 0 0).ownBlock) => newN (w := ((W5.alloc (.cells #[.int .i64 y0, .string y1, .int .i64 y2, .int .i64 y3, .int .i64 y4] 25)).alloc (.cells #[] 25)).drew) (g2 := W5.heap.size + 1) (g := W5.heap.size) (kk := 5) (enc := SReader.enc) (ys := [⟨y0, y1, y2, y3, y4⟩]) ((Blk.new W5 25 #[.int .i64 y0, .string y1, .int .i64 y2, .int .i64 y3, .int .i64 y4]).alloc (.cells #[] 25)) hg (by omega) rfl
                have HOA := hide hoa; have HOB := hide hob; have HOC := hide hoc; have BA := hide ba; have BB := hide bb; have BC := hide bc
                have HSRC := hide hsrc; have HSRC2 := hide hsrc2; have HNB := hide hnb; have HNC := hide hnc; have HTL := hide htl; have HDL := hide hdl
                clear hoa hob hoc ba ba1 bb bb1 bc bc0 bc1 hsrc hsrc2 hnb hnc htl hdl hszg hrow
                by_cases hck : co = (q + 1)
                · have hck2 := hck.symm
                  subst hck2
                  have hko : ((q : Int) + 1) ≤ (os.length : Int) := by omega
                  have hq0 : (0 : Int) ≤ (q : Int) + 1 := by omega
                  have hq1 : ((q : Int) + 1).toNat = q + 1 := by omega
                  have hq2 : 0 ≤ q + 1 := by omega
                  go_wp2_with fail
                  go_region_held3 (fun w' => w'.cell? ⟨b, off + i * 5, none⟩ = some (.int .i64 y0) ∧ w'.cell? ⟨b, off + i * 5 + 1, none⟩ = some (.string y1) ∧ w'.cell? ⟨b, off + i * 5 + 2, none⟩ = some (.int .i64 y2) ∧ w'.cell? ⟨b, off + i * 5 + 3, none⟩ = some (.int .i64 y3) ∧ w'.cell? ⟨b, off + i * 5 + 4, none⟩ = some (.int .i64 y4)) (go_keep)
                    (first
                      | (refine step_pushN (k := 5) (enc := SReader.enc) _ (by rfl) _ _ 33 (by rfl) 25 (.agg #[.int .i64 0, .string ⟨#[]⟩, .int .i64 0, .int .i64 0, .int .i64 0]) 48 Tryz.underlying33 SReader.info rfl (by omega) SReader.one W5.heap.size _ ([] : List _) (by rfl) HOA.out ⟨go, 0, none⟩ (q + 1) (os.take (q + 1)) (by rw [HTL.out]; rfl) (HSRC.out _ BA.out) (by rw [HTL.out]; simp; omega) (by rw [HTL.out]; simp; omega) BA.out.size BA.out (Nat.le_refl _) ?_; intro v1 w1 ho1 hb1 hg1; have hk1 : ∀ o, w1.cell? ⟨b, o, none⟩ = W5.cell? ⟨b, o, none⟩ := (fun o => hb1.cell (p := ⟨b, o, none⟩) (by show b < W5.heap.size; omega)); have HO1 := hide ho1; clear ho1 hg1)
                      | (refine step_pushN (k := 5) (enc := SReader.enc) _ (by rfl) _ _ 33 (by rfl) 25 (.agg #[.int .i64 0, .string ⟨#[]⟩, .int .i64 0, .int .i64 0, .int .i64 0]) 48 Tryz.underlying33 SReader.info rfl (by omega) SReader.one W5.heap.size _ ([] : List _) (by rfl) HOB.out ⟨go, 0, none⟩ (q + 1) (os.take (q + 1)) (by rw [HTL.out]; rfl) (HSRC.out _ BB.out) (by rw [HTL.out]; simp; omega) (by rw [HTL.out]; simp; omega) BB.out.size BB.out (Nat.le_refl _) ?_; intro v1 w1 ho1 hb1 hg1; have hk1 : ∀ o, w1.cell? ⟨b, o, none⟩ = W5.cell? ⟨b, o, none⟩ := (fun o => hb1.cell (p := ⟨b, o, none⟩) (by show b < W5.heap.size; omega)); have HO1 := hide ho1; have HN := hide (HNB.out w1 hg1); clear ho1 hg1)
                      | (refine step_pushN (k := 5) (enc := SReader.enc) _ (by rfl) _ _ 33 (by rfl) 25 (.agg #[.int .i64 0, .string ⟨#[]⟩, .int .i64 0, .int .i64 0, .int .i64 0]) 48 Tryz.underlying33 SReader.info rfl (by omega) SReader.one W5.heap.size _ ([] : List _) (by rfl) HOC.out ⟨go, 0, none⟩ (q + 1) (os.take (q + 1)) (by rw [HTL.out]; rfl) (HSRC.out _ BC.out) (by rw [HTL.out]; simp; omega) (by rw [HTL.out]; simp; omega) BC.out.size BC.out (Nat.le_refl _) ?_; intro v1 w1 ho1 hb1 hg1; have hk1 : ∀ o, w1.cell? ⟨b, o, none⟩ = W5.cell? ⟨b, o, none⟩ := (fun o => hb1.cell (p := ⟨b, o, none⟩) (by show b < W5.heap.size; omega)); have HO1 := hide ho1; have HN := hide (HNC.out w1 hg1); clear ho1 hg1)
                      | (refine step_pushN (k := 5) (enc := SReader.enc) _ (by rfl) _ _ 33 (by rfl) 25 (.agg #[.int .i64 0, .string ⟨#[]⟩, .int .i64 0, .int .i64 0, .int .i64 0]) 48 Tryz.underlying33 SReader.info rfl (by omega) SReader.one W5.heap.size _ ([] ++ os.take (q + 1)) (by rfl) (HO1.out.alloc (.cells #[.int .i64 y0, .string y1, .int .i64 y2, .int .i64 y3, .int .i64 y4] 25)) ⟨w1.heap.size, 0, none⟩ 1 [⟨y0, y1, y2, y3, y4⟩] (by rfl) (src_new w1 rfl) (by simp [HTL.out]; omega) (by simp [HTL.out]; omega) (hb1.alloc hb1.size (.cells #[.int .i64 y0, .string y1, .int .i64 y2, .int .i64 y3, .int .i64 y4] 25)).size (hb1.alloc hb1.size (.cells #[.int .i64 y0, .string y1, .int .i64 y2, .int .i64 y3, .int .i64 y4] 25)) (Nat.le_refl _) ?_; intro v2 w2 ho2 hb2 hg2; have hk2 : ∀ o, w2.cell? ⟨b, o, none⟩ = W5.cell? ⟨b, o, none⟩ := (fun o => hb2.cell (p := ⟨b, o, none⟩) (by show b < W5.heap.size; omega)); have HO2 := hide ho2; clear ho2 hg2)
                      | (refine step_pushN (k := 5) (enc := SReader.enc) _ (by rfl) _ _ 33 (by rfl) 25 (.agg #[.int .i64 0, .string ⟨#[]⟩, .int .i64 0, .int .i64 0, .int .i64 0]) 48 Tryz.underlying33 SReader.info rfl (by omega) SReader.one W5.heap.size _ ([] ++ os.take (q + 1)) (by rfl) HO1.out ⟨W5.heap.size + 1, 0, none⟩ 1 [⟨y0, y1, y2, y3, y4⟩] (by rfl) HN.out (by simp [HTL.out]; omega) (by simp [HTL.out]; omega) hb1.size hb1 (Nat.le_refl _) ?_; intro v2 w2 ho2 hb2 hg2; have hk2 : ∀ o, w2.cell? ⟨b, o, none⟩ = W5.cell? ⟨b, o, none⟩ := (fun o => hb2.cell (p := ⟨b, o, none⟩) (by show b < W5.heap.size; omega)); have HO2 := hide ho2; clear ho2 hg2)
                      | (refine step_pushN (k := 5) (enc := SReader.enc) _ (by rfl) _ _ 33 (by rfl) 25 (.agg #[.int .i64 0, .string ⟨#[]⟩, .int .i64 0, .int .i64 0, .int .i64 0]) 48 Tryz.underlying33 SReader.info rfl (by omega) SReader.one W5.heap.size _ ([] ++ os.take (q + 1)) (by rfl) HO1.out ⟨W5.heap.size, 0, none⟩ 1 [⟨y0, y1, y2, y3, y4⟩] (by rfl) HN.out (by simp [HTL.out]; omega) (by simp [HTL.out]; omega) hb1.size hb1 (Nat.le_refl _) ?_; intro v2 w2 ho2 hb2 hg2; have hk2 : ∀ o, w2.cell? ⟨b, o, none⟩ = W5.cell? ⟨b, o, none⟩ := (fun o => hb2.cell (p := ⟨b, o, none⟩) (by show b < W5.heap.size; omega)); have HO2 := hide ho2; clear ho2 hg2)
                      | (refine step_pushN (k := 5) (enc := SReader.enc) _ (by rfl) _ _ 33 (by rfl) 25 (.agg #[.int .i64 0, .string ⟨#[]⟩, .int .i64 0, .int .i64 0, .int .i64 0]) 48 Tryz.underlying33 SReader.info rfl (by omega) SReader.one W5.heap.size _ ([] ++ os.take (q + 1) ++ [⟨y0, y1, y2, y3, y4⟩]) (by rfl) HO2.out ⟨go, 0, none⟩ 0 (os.drop (q + 1)) (by rw [HDL.out]; rw [show os.length - (q + 1) = 0 by omega]; rfl) ((by rw [List.drop_of_length_le (by omega)]; intro j u hj; simp [flat] at hj)) (by simp [HTL.out, HDL.out]; omega) (by simp [HTL.out, HDL.out]; omega) hb2.size hb2 (Nat.le_refl _) ?_; intro v3 w3 ho3 hb3 hg3; have hk3 : ∀ o, w3.cell? ⟨b, o, none⟩ = W5.cell? ⟨b, o, none⟩ := (fun o => hb3.cell (p := ⟨b, o, none⟩) (by show b < W5.heap.size; omega)); have HO3 := hide ho3; clear ho3 hg3))
                  all_goals
                    have hnew : insD (ltOf Go.Proofs.YtplemibckjnbhaaGreatDoor.cfR) os ⟨y0, y1, y2, y3, y4⟩ = [] ++ os.take (q + 1) ++ [⟨y0, y1, y2, y3, y4⟩] ++ os.drop (q + 1) := by rw [HINS.out]; simp
                    have ho3 := HO3.out
                    rw [← hnew, ← HSTS.out] at ho3
                    have HO4 := hide (ho3.mono hBW)
                    have HB4 := hide (HB2.out.trans (hb3.mono hs5))
                    clear ho3 hnew
                    obtain ⟨g4, c4, cs4, rfl, _⟩ := own_blk HO4.out (by have := HNS.out; omega)
                    go_wp2_with fail
                    go_round
                    case measure => (simp [intOf] <;> omega)
                    case rel => exact ⟨i + 1, g4, c4, by omega, by go_num, by rw [HNSE.out], by rw [HNSE.out]; exact HO4.out, HB4.out⟩
                · have hkc : ((q : Int) + 1) ≤ (co : Int) := by omega
                  have hko : ((q : Int) + 1) ≤ (os.length : Int) := by omega
                  have hq0 : (0 : Int) ≤ (q : Int) + 1 := by omega
                  have hq1 : ((q : Int) + 1).toNat = q + 1 := by omega
                  have hq2 : 0 ≤ q + 1 := by omega
                  go_wp2_with fail
                  go_region_held3 (fun w' => w'.cell? ⟨b, off + i * 5, none⟩ = some (.int .i64 y0) ∧ w'.cell? ⟨b, off + i * 5 + 1, none⟩ = some (.string y1) ∧ w'.cell? ⟨b, off + i * 5 + 2, none⟩ = some (.int .i64 y2) ∧ w'.cell? ⟨b, off + i * 5 + 3, none⟩ = some (.int .i64 y3) ∧ w'.cell? ⟨b, off + i * 5 + 4, none⟩ = some (.int .i64 y4)) (go_keep)
                    (first
                      | (refine step_pushN (k := 5) (enc := SReader.enc) _ (by rfl) _ _ 33 (by rfl) 25 (.agg #[.int .i64 0, .string ⟨#[]⟩, .int .i64 0, .int .i64 0, .int .i64 0]) 48 Tryz.underlying33 SReader.info rfl (by omega) SReader.one W5.heap.size _ ([] : List _) (by rfl) HOA.out ⟨go, 0, none⟩ co (os.take (q + 1)) (by rw [HTL.out]; rfl) (HSRC.out _ BA.out) (by rw [HTL.out]; simp; omega) (by rw [HTL.out]; simp; omega) BA.out.size BA.out (Nat.le_refl _) ?_; intro v1 w1 ho1 hb1 hg1; have hk1 : ∀ o, w1.cell? ⟨b, o, none⟩ = W5.cell? ⟨b, o, none⟩ := (fun o => hb1.cell (p := ⟨b, o, none⟩) (by show b < W5.heap.size; omega)); have HO1 := hide ho1; clear ho1 hg1)
                      | (refine step_pushN (k := 5) (enc := SReader.enc) _ (by rfl) _ _ 33 (by rfl) 25 (.agg #[.int .i64 0, .string ⟨#[]⟩, .int .i64 0, .int .i64 0, .int .i64 0]) 48 Tryz.underlying33 SReader.info rfl (by omega) SReader.one W5.heap.size _ ([] : List _) (by rfl) HOB.out ⟨go, 0, none⟩ co (os.take (q + 1)) (by rw [HTL.out]; rfl) (HSRC.out _ BB.out) (by rw [HTL.out]; simp; omega) (by rw [HTL.out]; simp; omega) BB.out.size BB.out (Nat.le_refl _) ?_; intro v1 w1 ho1 hb1 hg1; have hk1 : ∀ o, w1.cell? ⟨b, o, none⟩ = W5.cell? ⟨b, o, none⟩ := (fun o => hb1.cell (p := ⟨b, o, none⟩) (by show b < W5.heap.size; omega)); have HO1 := hide ho1; have HN := hide (HNB.out w1 hg1); clear ho1 hg1)
                      | (refine step_pushN (k := 5) (enc := SReader.enc) _ (by rfl) _ _ 33 (by rfl) 25 (.agg #[.int .i64 0, .string ⟨#[]⟩, .int .i64 0, .int .i64 0, .int .i64 0]) 48 Tryz.underlying33 SReader.info rfl (by omega) SReader.one W5.heap.size _ ([] : List _) (by rfl) HOC.out ⟨go, 0, none⟩ co (os.take (q + 1)) (by rw [HTL.out]; rfl) (HSRC.out _ BC.out) (by rw [HTL.out]; simp; omega) (by rw [HTL.out]; simp; omega) BC.out.size BC.out (Nat.le_refl _) ?_; intro v1 w1 ho1 hb1 hg1; have hk1 : ∀ o, w1.cell? ⟨b, o, none⟩ = W5.cell? ⟨b, o, none⟩ := (fun o => hb1.cell (p := ⟨b, o, none⟩) (by show b < W5.heap.size; omega)); have HO1 := hide ho1; have HN := hide (HNC.out w1 hg1); clear ho1 hg1)
                      | (refine step_pushN (k := 5) (enc := SReader.enc) _ (by rfl) _ _ 33 (by rfl) 25 (.agg #[.int .i64 0, .string ⟨#[]⟩, .int .i64 0, .int .i64 0, .int .i64 0]) 48 Tryz.underlying33 SReader.info rfl (by omega) SReader.one W5.heap.size _ ([] ++ os.take (q + 1)) (by rfl) (HO1.out.alloc (.cells #[.int .i64 y0, .string y1, .int .i64 y2, .int .i64 y3, .int .i64 y4] 25)) ⟨w1.heap.size, 0, none⟩ 1 [⟨y0, y1, y2, y3, y4⟩] (by rfl) (src_new w1 rfl) (by simp [HTL.out]; omega) (by simp [HTL.out]; omega) (hb1.alloc hb1.size (.cells #[.int .i64 y0, .string y1, .int .i64 y2, .int .i64 y3, .int .i64 y4] 25)).size (hb1.alloc hb1.size (.cells #[.int .i64 y0, .string y1, .int .i64 y2, .int .i64 y3, .int .i64 y4] 25)) (Nat.le_refl _) ?_; intro v2 w2 ho2 hb2 hg2; have hk2 : ∀ o, w2.cell? ⟨b, o, none⟩ = W5.cell? ⟨b, o, none⟩ := (fun o => hb2.cell (p := ⟨b, o, none⟩) (by show b < W5.heap.size; omega)); have HO2 := hide ho2; clear ho2 hg2)
                      | (refine step_pushN (k := 5) (enc := SReader.enc) _ (by rfl) _ _ 33 (by rfl) 25 (.agg #[.int .i64 0, .string ⟨#[]⟩, .int .i64 0, .int .i64 0, .int .i64 0]) 48 Tryz.underlying33 SReader.info rfl (by omega) SReader.one W5.heap.size _ ([] ++ os.take (q + 1)) (by rfl) HO1.out ⟨W5.heap.size + 1, 0, none⟩ 1 [⟨y0, y1, y2, y3, y4⟩] (by rfl) HN.out (by simp [HTL.out]; omega) (by simp [HTL.out]; omega) hb1.size hb1 (Nat.le_refl _) ?_; intro v2 w2 ho2 hb2 hg2; have hk2 : ∀ o, w2.cell? ⟨b, o, none⟩ = W5.cell? ⟨b, o, none⟩ := (fun o => hb2.cell (p := ⟨b, o, none⟩) (by show b < W5.heap.size; omega)); have HO2 := hide ho2; clear ho2 hg2)
                      | (refine step_pushN (k := 5) (enc := SReader.enc) _ (by rfl) _ _ 33 (by rfl) 25 (.agg #[.int .i64 0, .string ⟨#[]⟩, .int .i64 0, .int .i64 0, .int .i64 0]) 48 Tryz.underlying33 SReader.info rfl (by omega) SReader.one W5.heap.size _ ([] ++ os.take (q + 1)) (by rfl) HO1.out ⟨W5.heap.size, 0, none⟩ 1 [⟨y0, y1, y2, y3, y4⟩] (by rfl) HN.out (by simp [HTL.out]; omega) (by simp [HTL.out]; omega) hb1.size hb1 (Nat.le_refl _) ?_; intro v2 w2 ho2 hb2 hg2; have hk2 : ∀ o, w2.cell? ⟨b, o, none⟩ = W5.cell? ⟨b, o, none⟩ := (fun o => hb2.cell (p := ⟨b, o, none⟩) (by show b < W5.heap.size; omega)); have HO2 := hide ho2; clear ho2 hg2)
                      | (refine step_pushN (k := 5) (enc := SReader.enc) _ (by rfl) _ _ 33 (by rfl) 25 (.agg #[.int .i64 0, .string ⟨#[]⟩, .int .i64 0, .int .i64 0, .int .i64 0]) 48 Tryz.underlying33 SReader.info rfl (by omega) SReader.one W5.heap.size _ ([] ++ os.take (q + 1) ++ [⟨y0, y1, y2, y3, y4⟩]) (by rfl) HO2.out ⟨go, (q + 1) * 5, none⟩ (co - (q + 1)) (os.drop (q + 1)) (by rw [HDL.out]; rfl) (HSRC2.out _ hb2) (by simp [HTL.out, HDL.out]; omega) (by simp [HTL.out, HDL.out]; omega) hb2.size hb2 (Nat.le_refl _) ?_; intro v3 w3 ho3 hb3 hg3; have hk3 : ∀ o, w3.cell? ⟨b, o, none⟩ = W5.cell? ⟨b, o, none⟩ := (fun o => hb3.cell (p := ⟨b, o, none⟩) (by show b < W5.heap.size; omega)); have HO3 := hide ho3; clear ho3 hg3))
                  all_goals
                    have hnew : insD (ltOf Go.Proofs.YtplemibckjnbhaaGreatDoor.cfR) os ⟨y0, y1, y2, y3, y4⟩ = [] ++ os.take (q + 1) ++ [⟨y0, y1, y2, y3, y4⟩] ++ os.drop (q + 1) := by rw [HINS.out]; simp
                    have ho3 := HO3.out
                    rw [← hnew, ← HSTS.out] at ho3
                    have HO4 := hide (ho3.mono hBW)
                    have HB4 := hide (HB2.out.trans (hb3.mono hs5))
                    clear ho3 hnew
                    obtain ⟨g4, c4, cs4, rfl, _⟩ := own_blk HO4.out (by have := HNS.out; omega)
                    go_wp2_with fail
                    go_round
                    case measure => (simp [intOf] <;> omega)
                    case rel => exact ⟨i + 1, g4, c4, by omega, by go_num, by rw [HNSE.out], by rw [HNSE.out]; exact HO4.out, HB4.out⟩
        · have hnn : i = xs.length := by omega
          subst hnn
          have hoe : stD (ltOf Go.Proofs.YtplemibckjnbhaaGreatDoor.cfR) (xs.take xs.length) = oweS xs := by rw [List.take_length]; rfl
          have hql : (oweS xs).length = xs.length := stD_len _ _
          have hl10 : (oweS xs).length ≤ 10 := by omega
          rw [hoe] at hown ⊢
          generalize hq : min m (oweS xs).length = q at *
          have hqle : q ≤ (oweS xs).length ∧ q ≤ m := by omega
          generalize hos : oweS xs = os at *
          have HOS := hide hos; clear hos
          have HQ := hide hq; have HE3 := hide (HE2.out.below (hbel.mono (by omega))); have HOW := hide hown; have HB3 := hide (B2.out.trans (hbel.mono hB2)); have HBB := hide hB
          clear hq hown hbel hql hoe hlt HE2 HN1 HR hB
          go_wp2_with fail
          go_loopw [6, 10] (fun s i wq => ∃ k : Nat, k ≤ q ∧ i = .int .i64 (k : Int) ∧ Own 1 encI 3 wq B s (oweTo os k) ∧ Own 5 SReader.enc 25 wq B (.slice (some ⟨go, 0, none⟩) os.length co) os ∧ Below B w wq) (fun _ i _ => q - (intOf i).toNat)
          case atStart => exact ⟨0, Nat.zero_le _, rfl, HE3.out, HOW.out, HB3.out⟩
          case round =>
            clear HE3 HOW HB3
            obtain ⟨k, hk, rfl, hids, hord, hbw⟩ := hrel
            have hsq : B ≤ wr.heap.size := by have := hbw.size; have := HBB.out; omega
            by_cases hkq : k < q
            · have hko : k < os.length := by omega
              have hko' : (k : Int) < os.length := by omega
              have hkm : (k : Int) < m := by omega
              obtain ⟨Ao, cpo, heo, hro, _, _⟩ := hord.row
              injection heo with e1 e2 e3; subst e1 e3; clear e2
              obtain ⟨bo, offo, hAo, _, p0, _, _, _, _⟩ := SReader.cells hro hko (Below.refl _ _)
              injection hAo with hAo; injection hAo with hA1 hA2; subst hA1 hA2
              simp only [Nat.zero_add] at p0
              have hst := oweTo_succ hko
              have hdl : (oweTo os k).length ≤ 16777216 := by have := oweTo_le os k; omega
              generalize os[k].ident = y0 at *
              have HST := hide hst; have HI := hide hids; have HO := hide hord; have HBW := hide hbw
              clear hst hids hord hbw hro
              go_wp2_with ((at_builtin; refine wpList_push1 (k := 1) (enc := encI) _ rfl _ _ 43 rfl 3 (.int .i64 0) 8 Tryz.underlying43 infoI rfl (by omega) (by omega) encI_one (B) _ (oweTo os k) rfl (HI.out) (y0) _ rfl rfl (hdl) (hsq) (HBW.out) (Nat.le_refl _) rfl ?_; intro v1 w1 ho1 hb1 hg1); have HO6 := hide ((HO.out.alloc (.cells #[.int .i64 y0] 3)).grown hg1 (fun g hv e => own_neN HO.out HI.out (by decide) g hv e)))
              go_round
              case measure => (simp [intOf] <;> omega)
              case rel => exact ⟨k + 1, by omega, by go_num, by rw [HST.out]; exact ho1, HO6.out, hb1⟩
            · have hkk : k = q := by omega
              subst hkk
              have hnot : ¬ ((k : Int) < os.length ∧ (k : Int) < m) := by have := HQ.out; omega
              have HI := hide hids; have HBW := hide hbw
              clear hids hord hbw
              by_cases hc1 : (k : Int) < os.length
              · have hc2 : ¬ (k : Int) < m := fun h => hnot ⟨hc1, h⟩
                clear hnot
                go_wp2_with fail
                go_ret2
                exact ⟨_, rfl, by rw [HOS.out, HQ.out]; exact HI.out, HBW.out⟩
              · clear hnot
                go_wp2_with fail
                go_ret2
                exact ⟨_, rfl, by rw [HOS.out, HQ.out]; exact HI.out, HBW.out⟩
end Go.Proofs.YtplemibckjnbhaaGreatDoor
