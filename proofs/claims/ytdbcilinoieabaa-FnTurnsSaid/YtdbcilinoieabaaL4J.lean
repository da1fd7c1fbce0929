/- Contracts of TurnBack in impl and spec: the Lean function tbV. No condition. -/
import Derived.Test.YtdbcilinoieabaaL4I
namespace Go.Proofs.Ytdbcilinoieabaa
open Go.RowKit
set_option linter.unusedVariables false
set_option maxHeartbeats 1000000 in
theorem implTurnBack_is (v : Value) (xs : List STurn) (x y : Int) (w : World) (h : Is 5 STurn.enc w v xs) :
    Calls Try.prog 12 #[v, .int .i64 x, .int .i64 y] w fun e w' => e = .returned (.tuple #[.agg #[.int .i64 (tbV xs x y).1.x, .int .i64 (tbV xs x y).1.y, .int .i64 (tbV xs x y).1.den], .bool (tbV xs x y).2]) ∧ Below w.heap.size w w' := by
  have hm := h.len
  generalize hB : w.heap.size = B
  obtain ⟨hk0, hbe, hsz⟩ := one_blk w 28 #[.int .i64 0, .int .i64 0, .int .i64 0] hB
  have hi : Is 5 STurn.enc (w.alloc (.cells #[.int .i64 0, .int .i64 0, .int .i64 0] 28)) v xs := h.below (below_alloc w _) (Nat.le_refl _)
  clear h
  have hv : tbV xs x y = if chainB xs && placeB x y then (backV xs ⟨x, y, 1⟩, true) else (⟨0, 0, 0⟩, false) := rfl
  have hch := fun W hw => isChain_is v xs W hw
  have hpl := fun W => isPlace_any x y W
  have hall := fun (hc : chainB xs = true) => (chainB_iff.1 hc)
  have hbs := fun (hp : placeB x y = true) => place_bd hp
  generalize tbV xs x y = tv at *
  generalize chainB xs = c at *
  generalize placeB x y = p at *
  have HCH := hide hch; have HPL := hide hpl; have HALL := hide hall; have HBS := hide hbs; clear hch hpl hall hbs
  go_enter Try.func12, Try.ntmps12
  go_upto_region 1 with fail
  generalize w.alloc (.cells #[.int .i64 0, .int .i64 0, .int .i64 0] 28) = W0 at *
  have HK0 := hide hk0; have HBE := hide hbe; have HI := hide hi; clear hk0 hbe hi
  go_wp2_with fail
  refine (HCH.out _ HI.out).mono ?_; rintro e w1 ⟨rfl, hb1⟩
  have K1 := HK0.out.below hb1 (by omega)
  have B1 := bstep HBE.out hb1 (by omega)
  have hi1 := HI.out.below hb1 (Nat.le_refl _)
  have hs1 := hb1.size
  obtain ⟨r0, r1, r2, rf⟩ := spot3 K1
  have HK1 := hide K1; have HB1 := hide B1; have HI1 := hide hi1; clear K1 B1 hi1 hb1 HK0 HBE HI
  cases c with
  | false =>
    simp only [Bool.false_and] at hv
    have HV := hide hv; clear hv
    go_wp2_with fail
    exact bodyPost_ret (v := .tuple #[.agg #[.int .i64 0, .int .i64 0, .int .i64 0], .bool false]) (by simp [results, Try.results12, go_sem, r0, r1, r2]) rfl ⟨by rw [HV.out]; rfl, below3 HB1.out (Nat.le_refl _) _ _ _⟩
  | true =>
    go_wp2_with fail
    refine (HPL.out _).mono ?_; rintro e w' ⟨rfl, rfl⟩
    cases p with
    | false =>
      simp only [Bool.and_false] at hv
      have HV := hide hv; clear hv
      go_wp2_with fail
      exact bodyPost_ret (v := .tuple #[.agg #[.int .i64 0, .int .i64 0, .int .i64 0], .bool false]) (by simp [results, Try.results12, go_sem, r0, r1, r2]) rfl ⟨by rw [HV.out]; rfl, below3 HB1.out (Nat.le_refl _) _ _ _⟩
    | true =>
      simp only [Bool.and_true, if_true] at hv
      have HV := hide hv; clear hv r0 r1 r2 rf
      obtain ⟨hok, hl⟩ := HALL.out (by trivial)
      have hbd := HBS.out (by trivial)
      have HOK := hide hok; have HBD := hide hbd; clear hok hbd HALL HBS HCH HPL
      have J0 := HK1.out.alloc (.cells #[.int .i64 x, .int .i64 y, .int .i64 1] 28)
      have J1 := Blk.new w1 28 #[.int .i64 x, .int .i64 y, .int .i64 1]
      obtain ⟨A, cap, rfl, hr0, _, _⟩ := HI1.out
      have hr := hr0.below (below_alloc w1 (.cells #[.int .i64 x, .int .i64 y, .int .i64 1] 28)) (Nat.le_refl _) (Nat.le_refl _)
      have J3 := HB1.out.alloc (show B ≤ w1.heap.size by omega) (.cells #[.int .i64 x, .int .i64 y, .int .i64 1] 28)
      have hs2 : (w1.alloc (.cells #[.int .i64 x, .int .i64 y, .int .i64 1] 28)).heap.size = w1.heap.size + 1 := by simp
      clear HK1 HI1 HB1 hr0
      go_upto_region 4 with fail
      generalize w1.alloc (.cells #[.int .i64 x, .int .i64 y, .int .i64 1] 28) = W5 at *
      generalize w1.heap.size = G at *
      have HJ0 := hide J0; have HJ1 := hide J1; have HJ3 := hide J3; have HR := hide hr; clear J0 J1 J3 hr
      have HB := hide hB
      go_wp2_with fail
      go_loopw [9] (fun i wr => ∃ j : Nat, j ≤ xs.length ∧ i = .int .i64 ((j : Int) - 1) ∧ Blk wr B 28 #[.int .i64 0, .int .i64 0, .int .i64 0] ∧ Blk wr G 28 (backV (xs.drop j) ⟨x, y, 1⟩).cs ∧ Row 5 STurn.enc wr G A xs ∧ Below B w wr) (fun i _ => (intOf i + 1).toNat)
      case atStart => exact ⟨xs.length, Nat.le_refl _, rfl, HJ0.out, by rw [List.drop_length]; exact HJ1.out, HR.out, HJ3.out⟩
      case round =>
        clear HJ0 HJ1 HJ3 HR
        obtain ⟨j, hj, rfl, hb0, hb1, hrow, hbel⟩ := hrel
        have hgl := hb1.lt
        rcases j with _ | j
        · have hbd2 := bd_le4 hl (backV_bd HBD.out HOK.out)
          rw [List.drop_zero] at hb1
          generalize hsn : backV xs ⟨x, y, 1⟩ = sn at *
          obtain ⟨nx, ny, nd⟩ := sn
          have HSN := hide hsn; clear hsn
          unfold SSpot.cs at hb1
          simp only at *
          obtain ⟨m0, m1, ⟨m2, m3⟩, ⟨m4, m5⟩⟩ := hbd2
          obtain ⟨d0, d1, d2, hf⟩ := spot3 hb1
          obtain ⟨r0, r1, r2, rf⟩ := spot3 hb0
          have u0 : IntKind.i64.wrap nx = nx := IntWalk.i64_in _ (by omega)
          have u1 : IntKind.i64.wrap ny = ny := IntWalk.i64_in _ (by omega)
          have u2 : IntKind.i64.wrap nd = nd := IntWalk.i64_in _ (by omega)
          have HBL := hide hbel; clear hbel hb0 hb1 hrow
          go_wp2_with fail
          exact bodyPost_ret (v := .tuple #[.agg #[.int .i64 nx, .int .i64 ny, .int .i64 nd], .bool true]) (by simp [results, Try.results12, go_sem, u0, u1, u2, r0, r1, r2]) rfl ⟨by rw [HV.out], below3 HBL.out (Nat.le_refl _) _ _ _⟩
        · have hlt : j < xs.length := by omega
          have hlt' : (j : Int) < xs.length := by omega
          have ej : ((j + 1 : Nat) : Int) - 1 = (j : Int) := by omega
          rw [ej]
          obtain ⟨b, off, rfl, hb, c0, c1, c2, c3, c4⟩ := STurn.cells hrow hlt (Below.refl _ _)
          have hdl : (xs.drop (j + 1)).length = xs.length - (j + 1) := List.length_drop
          have hbd := backV_bd HBD.out (xs := xs.drop (j + 1)) (fun t ht => HOK.out t (List.mem_of_mem_drop ht))
          have hst := backV_drop hlt ⟨x, y, 1⟩
          have hcall := fun W => back_any _ (backV (xs.drop (j + 1)) ⟨x, y, 1⟩) xs[j] W (by omega) hbd (HOK.out _ (List.getElem_mem hlt))
          rw [← hst] at hcall
          have hbd2 := bd_le4 (by rw [List.length_drop]; omega) (backV_bd HBD.out (xs := xs.drop j) (fun t ht => HOK.out t (List.mem_of_mem_drop ht)))
          unfold SSpot.cs at hb1
          generalize hsn : backV (xs.drop j) ⟨x, y, 1⟩ = sn at *
          generalize backV (xs.drop (j + 1)) ⟨x, y, 1⟩ = sk at *
          have HSN := hide hsn; clear hsn hst hbd
          generalize xs[j].q = y0 at *; generalize xs[j].num = y1 at *; generalize xs[j].den = y2 at *; generalize xs[j].e = y3 at *; generalize xs[j].n = y4 at *
          obtain ⟨kx, ky, kd⟩ := sk
          obtain ⟨nx, ny, nd⟩ := sn
          simp only at *
          obtain ⟨m0, m1, ⟨m2, m3⟩, ⟨m4, m5⟩⟩ := hbd2
          have HC := hide hcall; clear hcall
          have J0 := hb0.below (Below.refl wr.heap.size wr).drew (by omega)
          have J1 := hb1.below (Below.refl wr.heap.size wr).drew (by omega)
          have J2 := hrow.below (Below.refl wr.heap.size wr).drew (by omega) (Nat.le_refl _)
          have J3 := hbel.drew
          obtain ⟨d0, d1, d2, hf⟩ := spot3 hb1
          have HJ0 := hide J0; have HJ1 := hide J1; have HJ2 := hide J2; have HJ3 := hide J3; clear J0 J1 J2 J3
          go_wp2_with fail
          go_region_with (go_at_call 78; refine (HC.out _).mono ?_; rintro e w4 ⟨rfl, hb4⟩; have K0 := HJ0.out.below hb4 hb0.lt; have K1 := HJ1.out.below hb4 hb1.lt; have K2 := HJ2.out.below hb4 (Nat.le_of_lt hgl) (Nat.le_refl _); have K3 := bstep HJ3.out hb4 (show B ≤ wr.heap.size by omega); clear d0 d1 d2 hf c0 c1 c2 c3 c4; obtain ⟨d0, d1, d2, hf⟩ := spot3 K1; have HK0 := hide K0; have HK1 := hide K1; have HK2 := hide K2; have HK3 := hide K3; clear K0 K1 K2 K3 hb4 HJ0 HJ1 HJ2 HJ3 hb0 hb1 hrow hbel)
          all_goals
            go_wp2_with fail
            exact ⟨⟨j, by omega, by go_num, far3 HK0.out (by omega) _ _ _, by rw [HSN.out]; exact set3 HK1.out _ _ _, HK2.out.below (below3 (Below.refl _ _) (Nat.le_refl _) _ _ _) (Nat.le_refl _) (Nat.le_refl _), below3 HK3.out (by omega) _ _ _⟩, by simp [intOf] <;> omega⟩
set_option maxHeartbeats 1000000 in
theorem specTurnBack_is (v : Value) (xs : List STurn) (x y : Int) (w : World) (h : Is 5 STurn.enc w v xs) :
    Calls Try.prog 13 #[v, .int .i64 x, .int .i64 y] w fun e w' => e = .returned (.tuple #[.agg #[.int .i64 (tbV xs x y).1.x, .int .i64 (tbV xs x y).1.y, .int .i64 (tbV xs x y).1.den], .bool (tbV xs x y).2]) ∧ Below w.heap.size w w' := by
  have hm := h.len
  generalize hB : w.heap.size = B
  obtain ⟨hk0, hbe, hsz⟩ := one_blk w 28 #[.int .i64 0, .int .i64 0, .int .i64 0] hB
  have hi : Is 5 STurn.enc (w.alloc (.cells #[.int .i64 0, .int .i64 0, .int .i64 0] 28)) v xs := h.below (below_alloc w _) (Nat.le_refl _)
  clear h
  have hv : tbV xs x y = if chainB xs && placeB x y then (backV xs ⟨x, y, 1⟩, true) else (⟨0, 0, 0⟩, false) := rfl
  have hch := fun W hw => l4Chain_is v xs W hw
  have hpl := fun W => l4Place_any x y W
  have hall := fun (hc : chainB xs = true) => (chainB_iff.1 hc)
  have hbs := fun (hp : placeB x y = true) => place_bd hp
  generalize tbV xs x y = tv at *
  generalize chainB xs = c at *
  generalize placeB x y = p at *
  have HCH := hide hch; have HPL := hide hpl; have HALL := hide hall; have HBS := hide hbs; clear hch hpl hall hbs
  go_enter Try.func13, Try.ntmps13
  go_upto_region 1 with fail
  generalize w.alloc (.cells #[.int .i64 0, .int .i64 0, .int .i64 0] 28) = W0 at *
  have HK0 := hide hk0; have HBE := hide hbe; have HI := hide hi; clear hk0 hbe hi
  go_wp2_with fail
  refine (HCH.out _ HI.out).mono ?_; rintro e w1 ⟨rfl, hb1⟩
  have K1 := HK0.out.below hb1 (by omega)
  have B1 := bstep HBE.out hb1 (by omega)
  have hi1 := HI.out.below hb1 (Nat.le_refl _)
  have hs1 := hb1.size
  obtain ⟨r0, r1, r2, rf⟩ := spot3 K1
  have HK1 := hide K1; have HB1 := hide B1; have HI1 := hide hi1; clear K1 B1 hi1 hb1 HK0 HBE HI
  cases c with
  | false =>
    simp only [Bool.false_and] at hv
    have HV := hide hv; clear hv
    go_wp2_with fail
    exact bodyPost_ret (v := .tuple #[.agg #[.int .i64 0, .int .i64 0, .int .i64 0], .bool false]) (by simp [results, Try.results13, go_sem, r0, r1, r2]) rfl ⟨by rw [HV.out]; rfl, below3 HB1.out (Nat.le_refl _) _ _ _⟩
  | true =>
    go_wp2_with fail
    refine (HPL.out _).mono ?_; rintro e w' ⟨rfl, rfl⟩
    cases p with
    | false =>
      simp only [Bool.and_false] at hv
      have HV := hide hv; clear hv
      go_wp2_with fail
      exact bodyPost_ret (v := .tuple #[.agg #[.int .i64 0, .int .i64 0, .int .i64 0], .bool false]) (by simp [results, Try.results13, go_sem, r0, r1, r2]) rfl ⟨by rw [HV.out]; rfl, below3 HB1.out (Nat.le_refl _) _ _ _⟩
    | true =>
      simp only [Bool.and_true, if_true] at hv
      have HV := hide hv; clear hv r0 r1 r2 rf
      obtain ⟨hok, hl⟩ := HALL.out (by trivial)
      have hbd := HBS.out (by trivial)
      have HOK := hide hok; have HBD := hide hbd; clear hok hbd HALL HBS HCH HPL
      have J0 := HK1.out.alloc (.cells #[.int .i64 x, .int .i64 y, .int .i64 1] 28)
      have J1 := Blk.new w1 28 #[.int .i64 x, .int .i64 y, .int .i64 1]
      obtain ⟨A, cap, rfl, hr0, _, _⟩ := HI1.out
      have hr := hr0.below (below_alloc w1 (.cells #[.int .i64 x, .int .i64 y, .int .i64 1] 28)) (Nat.le_refl _) (Nat.le_refl _)
      have J3 := HB1.out.alloc (show B ≤ w1.heap.size by omega) (.cells #[.int .i64 x, .int .i64 y, .int .i64 1] 28)
      have hs2 : (w1.alloc (.cells #[.int .i64 x, .int .i64 y, .int .i64 1] 28)).heap.size = w1.heap.size + 1 := by simp
      clear HK1 HI1 HB1 hr0
      go_upto_region 4 with fail
      generalize w1.alloc (.cells #[.int .i64 x, .int .i64 y, .int .i64 1] 28) = W5 at *
      generalize w1.heap.size = G at *
      have HJ0 := hide J0; have HJ1 := hide J1; have HJ3 := hide J3; have HR := hide hr; clear J0 J1 J3 hr
      have HB := hide hB
      go_wp2_with fail
      go_loopw [9] (fun i wr => ∃ j : Nat, j ≤ xs.length ∧ i = .int .i64 ((j : Int) - 1) ∧ Blk wr B 28 #[.int .i64 0, .int .i64 0, .int .i64 0] ∧ Blk wr G 28 (backV (xs.drop j) ⟨x, y, 1⟩).cs ∧ Row 5 STurn.enc wr G A xs ∧ Below B w wr) (fun i _ => (intOf i + 1).toNat)
      case atStart => exact ⟨xs.length, Nat.le_refl _, rfl, HJ0.out, by rw [List.drop_length]; exact HJ1.out, HR.out, HJ3.out⟩
      case round =>
        clear HJ0 HJ1 HJ3 HR
        obtain ⟨j, hj, rfl, hb0, hb1, hrow, hbel⟩ := hrel
        have hgl := hb1.lt
        rcases j with _ | j
        · have hbd2 := bd_le4 hl (backV_bd HBD.out HOK.out)
          rw [List.drop_zero] at hb1
          generalize hsn : backV xs ⟨x, y, 1⟩ = sn at *
          obtain ⟨nx, ny, nd⟩ := sn
          have HSN := hide hsn; clear hsn
          unfold SSpot.cs at hb1
          simp only at *
          obtain ⟨m0, m1, ⟨m2, m3⟩, ⟨m4, m5⟩⟩ := hbd2
          obtain ⟨d0, d1, d2, hf⟩ := spot3 hb1
          obtain ⟨r0, r1, r2, rf⟩ := spot3 hb0
          have u0 : IntKind.i64.wrap nx = nx := IntWalk.i64_in _ (by omega)
          have u1 : IntKind.i64.wrap ny = ny := IntWalk.i64_in _ (by omega)
          have u2 : IntKind.i64.wrap nd = nd := IntWalk.i64_in _ (by omega)
          have HBL := hide hbel; clear hbel hb0 hb1 hrow
          go_wp2_with fail
          exact bodyPost_ret (v := .tuple #[.agg #[.int .i64 nx, .int .i64 ny, .int .i64 nd], .bool true]) (by simp [results, Try.results13, go_sem, u0, u1, u2, r0, r1, r2]) rfl ⟨by rw [HV.out], below3 HBL.out (Nat.le_refl _) _ _ _⟩
        · have hlt : j < xs.length := by omega
          have hlt' : (j : Int) < xs.length := by omega
          have ej : ((j + 1 : Nat) : Int) - 1 = (j : Int) := by omega
          rw [ej]
          obtain ⟨b, off, rfl, hb, c0, c1, c2, c3, c4⟩ := STurn.cells hrow hlt (Below.refl _ _)
          have hdl : (xs.drop (j + 1)).length = xs.length - (j + 1) := List.length_drop
          have hbd := backV_bd HBD.out (xs := xs.drop (j + 1)) (fun t ht => HOK.out t (List.mem_of_mem_drop ht))
          have hst := backV_drop hlt ⟨x, y, 1⟩
          have hcall := fun W => l4Back_any _ (backV (xs.drop (j + 1)) ⟨x, y, 1⟩) xs[j] W (by omega) hbd (HOK.out _ (List.getElem_mem hlt))
          rw [← hst] at hcall
          have hbd2 := bd_le4 (by rw [List.length_drop]; omega) (backV_bd HBD.out (xs := xs.drop j) (fun t ht => HOK.out t (List.mem_of_mem_drop ht)))
          unfold SSpot.cs at hb1
          generalize hsn : backV (xs.drop j) ⟨x, y, 1⟩ = sn at *
          generalize backV (xs.drop (j + 1)) ⟨x, y, 1⟩ = sk at *
          have HSN := hide hsn; clear hsn hst hbd
          generalize xs[j].q = y0 at *; generalize xs[j].num = y1 at *; generalize xs[j].den = y2 at *; generalize xs[j].e = y3 at *; generalize xs[j].n = y4 at *
          obtain ⟨kx, ky, kd⟩ := sk
          obtain ⟨nx, ny, nd⟩ := sn
          simp only at *
          obtain ⟨m0, m1, ⟨m2, m3⟩, ⟨m4, m5⟩⟩ := hbd2
          have HC := hide hcall; clear hcall
          have J0 := hb0.below (Below.refl wr.heap.size wr).drew (by omega)
          have J1 := hb1.below (Below.refl wr.heap.size wr).drew (by omega)
          have J2 := hrow.below (Below.refl wr.heap.size wr).drew (by omega) (Nat.le_refl _)
          have J3 := hbel.drew
          obtain ⟨d0, d1, d2, hf⟩ := spot3 hb1
          have HJ0 := hide J0; have HJ1 := hide J1; have HJ2 := hide J2; have HJ3 := hide J3; clear J0 J1 J2 J3
          go_wp2_with fail
          go_region_with (go_at_call 79; refine (HC.out _).mono ?_; rintro e w4 ⟨rfl, hb4⟩; have K0 := HJ0.out.below hb4 hb0.lt; have K1 := HJ1.out.below hb4 hb1.lt; have K2 := HJ2.out.below hb4 (Nat.le_of_lt hgl) (Nat.le_refl _); have K3 := bstep HJ3.out hb4 (show B ≤ wr.heap.size by omega); clear d0 d1 d2 hf c0 c1 c2 c3 c4; obtain ⟨d0, d1, d2, hf⟩ := spot3 K1; have HK0 := hide K0; have HK1 := hide K1; have HK2 := hide K2; have HK3 := hide K3; clear K0 K1 K2 K3 hb4 HJ0 HJ1 HJ2 HJ3 hb0 hb1 hrow hbel)
          all_goals
            go_wp2_with fail
            exact ⟨⟨j, by omega, by go_num, far3 HK0.out (by omega) _ _ _, by rw [HSN.out]; exact set3 HK1.out _ _ _, HK2.out.below (below3 (Below.refl _ _) (Nat.le_refl _) _ _ _) (Nat.le_refl _) (Nat.le_refl _), below3 HK3.out (by omega) _ _ _⟩, by simp [intOf] <;> omega⟩
end Go.Proofs.Ytdbcilinoieabaa
