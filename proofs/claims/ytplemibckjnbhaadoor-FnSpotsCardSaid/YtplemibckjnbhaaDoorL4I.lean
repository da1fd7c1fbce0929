/- Contracts of where a chain leads a place in spec, and of TurnPlace and TurnBack in both. Conditions: for l4Go valid turns, at most four, and a place of Bd 0. -/
import Derived.Test.YtplemibckjnbhaaDoorL4H
namespace Go.Proofs.YtplemibckjnbhaaDoor
open Go.RowKit
set_option linter.unusedVariables false
set_option maxHeartbeats 1000000 in
theorem l4Go_is (v : Value) (xs : List STurn) (x y : Int) (w : World) (h : Is 5 STurn.enc w v xs) (hall : ∀ t ∈ xs, t.ok) (hl : xs.length ≤ 4) (hbd : Bd 0 ⟨x, y, 1⟩) :
    Calls Tryd.prog 108 #[v, .int .i64 x, .int .i64 y] w fun e w' => e = .returned (.agg #[.int .i64 (goV xs ⟨x, y, 1⟩).x, .int .i64 (goV xs ⟨x, y, 1⟩).y, .int .i64 (goV xs ⟨x, y, 1⟩).den]) ∧ Below w.heap.size w w' := by
  have hm := h.len
  have hbs := goV_bd hall hbd
  obtain ⟨A, cap, rfl, hr, _, _⟩ := h
  generalize hB : w.heap.size = B at hr ⊢
  obtain ⟨hk0, hk1, hbe, hsz⟩ := two_blks w 38 38 #[.int .i64 0, .int .i64 0, .int .i64 0] #[.int .i64 x, .int .i64 y, .int .i64 1] hB
  have HB := hide hB
  have HR := hide hr; have HBS := hide hbs; have HALL := hide hall; clear hr hbs hall hbd
  go_enter Tryd.func108, Tryd.ntmps108
  go_upto_region 2 with fail
  generalize (w.alloc (.cells #[.int .i64 0, .int .i64 0, .int .i64 0] 38)).alloc (.cells #[.int .i64 x, .int .i64 y, .int .i64 1] 38) = W0 at *
  have HK0 := hide hk0; have HK1 := hide hk1; have HBE := hide hbe; clear hk0 hk1 hbe
  go_wp2_with fail
  go_loopw [8] (fun i wr => ∃ k : Nat, k ≤ xs.length ∧ i = .int .i64 (k : Int) ∧ Blk wr B 38 #[.int .i64 0, .int .i64 0, .int .i64 0] ∧ Blk wr (B + 1) 38 (goV (xs.take k) ⟨x, y, 1⟩).cs ∧ Below B w wr) (fun i _ => xs.length - (intOf i).toNat)
  case atStart => exact ⟨0, Nat.zero_le _, rfl, HK0.out, HK1.out, HBE.out⟩
  case round =>
    clear HK0 HK1 HBE
    obtain ⟨i, hi, rfl, hb0, hb1, hbel⟩ := hrel
    have hgl := hb1.lt
    by_cases hlt : i < xs.length
    · have hlt' : (i : Int) < xs.length := by omega
      obtain ⟨b, off, rfl, hb, c0, c1, c2, c3, c4⟩ := STurn.cells HR.out hlt hbel
      have hbd := HBS.out i hi
      have hst : goV (xs.take (i + 1)) ⟨x, y, 1⟩ = led xs[i] (goV (xs.take i) ⟨x, y, 1⟩) := by rw [take_snoc' hlt, goV_snoc]
      have hcall := fun W => l4On_any i (goV (xs.take i) ⟨x, y, 1⟩) xs[i] W (by omega) hbd (HALL.out _ (List.getElem_mem hlt))
      rw [← hst] at hcall
      have hbd2 := bd_le4 (k := i + 1) (by omega) (HBS.out (i + 1) (by omega))
      unfold SSpot.cs at hb1
      generalize hsn : goV (xs.take (i + 1)) ⟨x, y, 1⟩ = sn at *
      generalize goV (xs.take i) ⟨x, y, 1⟩ = sk at *
      have HSN := hide hsn; clear hsn hst hbd
      generalize xs[i].q = y0 at *; generalize xs[i].num = y1 at *; generalize xs[i].den = y2 at *; generalize xs[i].e = y3 at *; generalize xs[i].n = y4 at *
      obtain ⟨kx, ky, kd⟩ := sk
      obtain ⟨nx, ny, nd⟩ := sn
      simp only at *
      obtain ⟨m0, m1, ⟨m2, m3⟩, ⟨m4, m5⟩⟩ := hbd2
      have HC := hide hcall; clear hcall
      have J0 := hb0.below (Below.refl wr.heap.size wr).drew (by omega)
      have J1 := hb1.below (Below.refl wr.heap.size wr).drew (by omega)
      have J3 := hbel.drew
      obtain ⟨d0, d1, d2, hf⟩ := spot3 hb1
      have HJ0 := hide J0; have HJ1 := hide J1; have HJ3 := hide J3; clear J0 J1 J3
      go_wp2_with fail
      go_region_with (go_at_call 126; refine (HC.out _).mono ?_; rintro e w4 ⟨rfl, hb4⟩; have K0 := HJ0.out.below hb4 hb0.lt; have K1 := HJ1.out.below hb4 hb1.lt; have K3 := bstep HJ3.out hb4 (show B ≤ wr.heap.size by omega); clear d0 d1 d2 hf c0 c1 c2 c3 c4; obtain ⟨d0, d1, d2, hf⟩ := spot3 K1; have HK0 := hide K0; have HK1 := hide K1; have HK3 := hide K3; clear K0 K1 K3 hb4 HJ0 HJ1 HJ3 hb0 hb1 hbel)
      all_goals
        go_wp2_with fail
        exact ⟨⟨i + 1, by omega, by go_num, far3 HK0.out (by omega) _ _ _, by rw [HSN.out]; exact set3 HK1.out _ _ _, below3 HK3.out (by omega) _ _ _⟩, by simp [intOf]; omega⟩
    · have hk : i = xs.length := by omega
      subst hk
      rw [List.take_length] at hb1
      have hbd2 := bd_le4 (k := xs.length) (by omega) (by have := HBS.out xs.length (Nat.le_refl _); rwa [List.take_length] at this)
      generalize hsn : goV xs ⟨x, y, 1⟩ = sn at *
      obtain ⟨nx, ny, nd⟩ := sn
      have HSN := hide hsn; clear hsn
      unfold SSpot.cs at hb1
      simp only at *
      obtain ⟨m0, m1, ⟨m2, m3⟩, ⟨m4, m5⟩⟩ := hbd2
      obtain ⟨d0, d1, d2, hf⟩ := spot3 hb1
      obtain ⟨r0, r1, r2, rf⟩ := spot3 hb0
      have u0 : IntKind.i64.wrap nx = nx := IntWalk.i64_in _ (by omega)
      have u1 : IntKind.i64.wrap ny = ny := IntWalk.i64_in _ (by omega)
      have u2 : IntKind.i64.wrap nd = nd := IntWalk.i64_in _ (by omega)
      have HBL := hide hbel; clear hbel hb0 hb1
      go_wp2_with fail
      exact bodyPost_ret (v := .agg #[.int .i64 nx, .int .i64 ny, .int .i64 nd]) (by simp [results, Tryd.results108, go_sem, u0, u1, u2, r0, r1, r2]) rfl ⟨by rw [HSN.out], below3 HBL.out (by omega) _ _ _⟩
def tpV (xs : List STurn) (x y : Int) : SSpot × Bool := if chainB xs && placeB x y then (goV xs ⟨x, y, 1⟩, true) else (⟨0, 0, 0⟩, false)
def tbV (xs : List STurn) (x y : Int) : SSpot × Bool := if chainB xs && placeB x y then (backV xs ⟨x, y, 1⟩, true) else (⟨0, 0, 0⟩, false)
theorem place_bd {x y : Int} (h : placeB x y = true) : Bd 0 ⟨x, y, 1⟩ := by
  unfold placeB at h
  rw [Bool.and_eq_true, inB_iff, inB_iff] at h
  refine ⟨by simp, by simp, ?_, ?_⟩ <;> simp only [bX] <;> omega
theorem backV_bd {s : SSpot} (hs : Bd 0 s) : ∀ {xs : List STurn}, (∀ t ∈ xs, t.ok) → Bd xs.length (backV xs s)
  | [], _ => hs
  | t :: ts, h => back_bound (h t List.mem_cons_self) (backV_bd hs fun u hu => h u (List.mem_cons_of_mem _ hu))
theorem backV_drop {xs : List STurn} {k : Nat} (h : k < xs.length) (s : SSpot) : backV (xs.drop k) s = back xs[k] (backV (xs.drop (k + 1)) s) := by
  rw [List.drop_eq_getElem_cons h]; rfl
theorem one_blk (w : World) (t0 : TypeId) (c0 : Array Value) {B : Nat} (hB : w.heap.size = B) :
    Blk (w.alloc (.cells c0 t0)) B t0 c0 ∧ Below B w (w.alloc (.cells c0 t0)) ∧ (w.alloc (.cells c0 t0)).heap.size = B + 1 := by
  subst hB
  exact ⟨Blk.new w _ _, below_alloc w _, by simp⟩
set_option maxHeartbeats 1000000 in
theorem implTurnPlace_is (v : Value) (xs : List STurn) (x y : Int) (w : World) (h : Is 5 STurn.enc w v xs) :
    Calls Tryd.prog 20 #[v, .int .i64 x, .int .i64 y] w fun e w' => e = .returned (.tuple #[.agg #[.int .i64 (tpV xs x y).1.x, .int .i64 (tpV xs x y).1.y, .int .i64 (tpV xs x y).1.den], .bool (tpV xs x y).2]) ∧ Below w.heap.size w w' := by
  generalize hB : w.heap.size = B
  obtain ⟨hk0, hbe, hsz⟩ := one_blk w 38 #[.int .i64 0, .int .i64 0, .int .i64 0] hB
  have hi : Is 5 STurn.enc (w.alloc (.cells #[.int .i64 0, .int .i64 0, .int .i64 0] 38)) v xs := h.below (below_alloc w _) (Nat.le_refl _)
  clear h
  have hv : tpV xs x y = if chainB xs && placeB x y then (goV xs ⟨x, y, 1⟩, true) else (⟨0, 0, 0⟩, false) := rfl
  have hch := fun W hw => isChain_is v xs W hw
  have hpl := fun W => isPlace_any x y W
  have hgo := fun (hc : chainB xs = true) (hp : placeB x y = true) W hw => turnPlace_is v xs x y W hw (chainB_iff.1 hc).1 (chainB_iff.1 hc).2 (place_bd hp)
  have hbg := fun (hc : chainB xs = true) (hp : placeB x y = true) => bd_le4 (chainB_iff.1 hc).2 (by have := goV_bd (chainB_iff.1 hc).1 (place_bd hp) xs.length (Nat.le_refl _); rwa [List.take_length] at this)
  generalize tpV xs x y = tv at *
  generalize chainB xs = c at *
  generalize placeB x y = p at *
  generalize goV xs ⟨x, y, 1⟩ = gv at *
  have HCH := hide hch; have HPL := hide hpl; have HGO := hide hgo; have HBG := hide hbg; clear hch hpl hgo hbg
  go_enter Tryd.func20, Tryd.ntmps20
  go_upto_region 1 with fail
  generalize w.alloc (.cells #[.int .i64 0, .int .i64 0, .int .i64 0] 38) = W0 at *
  have HK0 := hide hk0; have HBE := hide hbe; have HI := hide hi; clear hk0 hbe hi
  go_wp2_with fail
  refine (HCH.out _ HI.out).mono ?_; rintro e w1 ⟨rfl, hb1⟩
  have K1 := HK0.out.below hb1 (by omega)
  have B1 := bstep HBE.out hb1 (by omega)
  have hi1 := HI.out.below hb1 (Nat.le_refl _)
  have hs1 := hb1.size
  obtain ⟨r0, r1, r2, rf⟩ := spot3 K1
  have HK1 := hide K1; have HB1 := hide B1; have HI1 := hide hi1; clear K1 B1 hi1 hb1 HK0 HBE HI
  cases c with
  | false =>
    simp only [Bool.false_and] at hv
    have HV := hide hv; clear hv
    go_wp2_with fail
    exact bodyPost_ret (v := .tuple #[.agg #[.int .i64 0, .int .i64 0, .int .i64 0], .bool false]) (by simp [results, Tryd.results20, go_sem, r0, r1, r2]) rfl ⟨by rw [HV.out]; rfl, below3 HB1.out (Nat.le_refl _) _ _ _⟩
  | true =>
    go_wp2_with fail
    refine (HPL.out _).mono ?_; rintro e w' ⟨rfl, rfl⟩
    cases p with
    | false =>
      simp only [Bool.and_false] at hv
      have HV := hide hv; clear hv
      go_wp2_with fail
      exact bodyPost_ret (v := .tuple #[.agg #[.int .i64 0, .int .i64 0, .int .i64 0], .bool false]) (by simp [results, Tryd.results20, go_sem, r0, r1, r2]) rfl ⟨by rw [HV.out]; rfl, below3 HB1.out (Nat.le_refl _) _ _ _⟩
    | true =>
      simp only [Bool.and_true, if_true] at hv
      have HV := hide hv; clear hv r0 r1 r2 rf
      obtain ⟨m0, m1, ⟨m2, m3⟩, ⟨m4, m5⟩⟩ := HBG.out (by trivial) (by trivial)
      have hgo := fun W hw => HGO.out (by trivial) (by trivial) W hw
      have HGO2 := hide hgo; clear hgo HGO HBG
      obtain ⟨nx, ny, nd⟩ := gv
      simp only at *
      go_wp2_with fail
      refine (HGO2.out _ HI1.out).mono ?_; rintro e w2 ⟨rfl, hb2⟩
      have K2 := HK1.out.below hb2 (by omega)
      have B2 := bstep HB1.out hb2 (by omega)
      obtain ⟨r0, r1, r2, rf⟩ := spot3 K2
      have HB2 := hide B2; clear K2 B2 hb2
      have u0 : IntKind.i64.wrap nx = nx := IntWalk.i64_in _ (by omega)
      have u1 : IntKind.i64.wrap ny = ny := IntWalk.i64_in _ (by omega)
      have u2 : IntKind.i64.wrap nd = nd := IntWalk.i64_in _ (by omega)
      go_wp2_with fail
      exact bodyPost_ret (v := .tuple #[.agg #[.int .i64 nx, .int .i64 ny, .int .i64 nd], .bool true]) (by simp [results, Tryd.results20, go_sem, u0, u1, u2, r0, r1, r2]) rfl ⟨by rw [HV.out], below3 HB2.out (Nat.le_refl _) _ _ _⟩
set_option maxHeartbeats 1000000 in
theorem specTurnPlace_is (v : Value) (xs : List STurn) (x y : Int) (w : World) (h : Is 5 STurn.enc w v xs) :
    Calls Tryd.prog 82 #[v, .int .i64 x, .int .i64 y] w fun e w' => e = .returned (.tuple #[.agg #[.int .i64 (tpV xs x y).1.x, .int .i64 (tpV xs x y).1.y, .int .i64 (tpV xs x y).1.den], .bool (tpV xs x y).2]) ∧ Below w.heap.size w w' := by
  generalize hB : w.heap.size = B
  obtain ⟨hk0, hbe, hsz⟩ := one_blk w 38 #[.int .i64 0, .int .i64 0, .int .i64 0] hB
  have hi : Is 5 STurn.enc (w.alloc (.cells #[.int .i64 0, .int .i64 0, .int .i64 0] 38)) v xs := h.below (below_alloc w _) (Nat.le_refl _)
  clear h
  have hv : tpV xs x y = if chainB xs && placeB x y then (goV xs ⟨x, y, 1⟩, true) else (⟨0, 0, 0⟩, false) := rfl
  have hch := fun W hw => l4Chain_is v xs W hw
  have hpl := fun W => l4Place_any x y W
  have hgo := fun (hc : chainB xs = true) (hp : placeB x y = true) W hw => l4Go_is v xs x y W hw (chainB_iff.1 hc).1 (chainB_iff.1 hc).2 (place_bd hp)
  have hbg := fun (hc : chainB xs = true) (hp : placeB x y = true) => bd_le4 (chainB_iff.1 hc).2 (by have := goV_bd (chainB_iff.1 hc).1 (place_bd hp) xs.length (Nat.le_refl _); rwa [List.take_length] at this)
  generalize tpV xs x y = tv at *
  generalize chainB xs = c at *
  generalize placeB x y = p at *
  generalize goV xs ⟨x, y, 1⟩ = gv at *
  have HCH := hide hch; have HPL := hide hpl; have HGO := hide hgo; have HBG := hide hbg; clear hch hpl hgo hbg
  go_enter Tryd.func82, Tryd.ntmps82
  go_upto_region 1 with fail
  generalize w.alloc (.cells #[.int .i64 0, .int .i64 0, .int .i64 0] 38) = W0 at *
  have HK0 := hide hk0; have HBE := hide hbe; have HI := hide hi; clear hk0 hbe hi
  go_wp2_with fail
  refine (HCH.out _ HI.out).mono ?_; rintro e w1 ⟨rfl, hb1⟩
  have K1 := HK0.out.below hb1 (by omega)
  have B1 := bstep HBE.out hb1 (by omega)
  have hi1 := HI.out.below hb1 (Nat.le_refl _)
  have hs1 := hb1.size
  obtain ⟨r0, r1, r2, rf⟩ := spot3 K1
  have HK1 := hide K1; have HB1 := hide B1; have HI1 := hide hi1; clear K1 B1 hi1 hb1 HK0 HBE HI
  cases c with
  | false =>
    simp only [Bool.false_and] at hv
    have HV := hide hv; clear hv
    go_wp2_with fail
    exact bodyPost_ret (v := .tuple #[.agg #[.int .i64 0, .int .i64 0, .int .i64 0], .bool false]) (by simp [results, Tryd.results82, go_sem, r0, r1, r2]) rfl ⟨by rw [HV.out]; rfl, below3 HB1.out (Nat.le_refl _) _ _ _⟩
  | true =>
    go_wp2_with fail
    refine (HPL.out _).mono ?_; rintro e w' ⟨rfl, rfl⟩
    cases p with
    | false =>
      simp only [Bool.and_false] at hv
      have HV := hide hv; clear hv
      go_wp2_with fail
      exact bodyPost_ret (v := .tuple #[.agg #[.int .i64 0, .int .i64 0, .int .i64 0], .bool false]) (by simp [results, Tryd.results82, go_sem, r0, r1, r2]) rfl ⟨by rw [HV.out]; rfl, below3 HB1.out (Nat.le_refl _) _ _ _⟩
    | true =>
      simp only [Bool.and_true, if_true] at hv
      have HV := hide hv; clear hv r0 r1 r2 rf
      obtain ⟨m0, m1, ⟨m2, m3⟩, ⟨m4, m5⟩⟩ := HBG.out (by trivial) (by trivial)
      have hgo := fun W hw => HGO.out (by trivial) (by trivial) W hw
      have HGO2 := hide hgo; clear hgo HGO HBG
      obtain ⟨nx, ny, nd⟩ := gv
      simp only at *
      go_wp2_with fail
      refine (HGO2.out _ HI1.out).mono ?_; rintro e w2 ⟨rfl, hb2⟩
      have K2 := HK1.out.below hb2 (by omega)
      have B2 := bstep HB1.out hb2 (by omega)
      obtain ⟨r0, r1, r2, rf⟩ := spot3 K2
      have HB2 := hide B2; clear K2 B2 hb2
      have u0 : IntKind.i64.wrap nx = nx := IntWalk.i64_in _ (by omega)
      have u1 : IntKind.i64.wrap ny = ny := IntWalk.i64_in _ (by omega)
      have u2 : IntKind.i64.wrap nd = nd := IntWalk.i64_in _ (by omega)
      go_wp2_with fail
      exact bodyPost_ret (v := .tuple #[.agg #[.int .i64 nx, .int .i64 ny, .int .i64 nd], .bool true]) (by simp [results, Tryd.results82, go_sem, u0, u1, u2, r0, r1, r2]) rfl ⟨by rw [HV.out], below3 HB2.out (Nat.le_refl _) _ _ _⟩
end Go.Proofs.YtplemibckjnbhaaDoor
