/- Contracts of the test of a chain and of where it leads a place, in impl and spec. Conditions: for turnPlace and l4Go valid turns, at most four, and a place of Bd 0. -/
import Derived.Test.YtplemibckjnbhaaDoorL4G
namespace Go.Proofs.YtplemibckjnbhaaDoor
open Go.RowKit
set_option linter.unusedVariables false
theorem isChain_is (v : Value) (xs : List STurn) (w : World) (h : Is 5 STurn.enc w v xs) :
    Calls Tryd.prog 62 #[v] w fun e w' => e = .returned (.bool (chainB xs)) ∧ Below w.heap.size w w' := by
  have hm := h.len
  obtain ⟨A, cap, rfl, hr, _, _⟩ := h
  generalize hB : w.heap.size = B at hr ⊢
  have HB := hide hB; clear hB
  have HR := hide hr; clear hr
  go_enter Tryd.func62, Tryd.ntmps62
  go_wp2_with fail
  go_loopw [7] (fun i wr => ∃ k : Nat, k ≤ xs.length ∧ i = .int .i64 (k : Int) ∧ (xs.take k).all STurn.okB = true ∧ Below B w wr) (fun i _ => xs.length - (intOf i).toNat)
  case atStart => exact ⟨0, Nat.zero_le _, rfl, by simp, Below.refl _ _⟩
  case round =>
    obtain ⟨i, hi, rfl, hall, hbel⟩ := hrel
    have hsz : B ≤ wr.heap.size := by have := hbel.size; rw [HB.out] at this; exact this
    have HA := hide hall; clear hall
    by_cases hlt : i < xs.length
    · have hlt' : (i : Int) < xs.length := by omega
      obtain ⟨b, off, rfl, hb, c0, c1, c2, c3, c4⟩ := STurn.cells HR.out hlt hbel
      have hcall := fun W => IsGridTurn_any xs[i].q xs[i].num xs[i].den xs[i].e xs[i].n W
      cases hok : turnB xs[i].q xs[i].num xs[i].den xs[i].e xs[i].n with
      | true =>
        have HS := hide (show (xs.take (i + 1)).all STurn.okB = true by rw [all_take_succ hlt, HA.out]; exact hok)
        rw [hok] at hcall
        have HC := hide hcall; clear hcall hok
        generalize xs[i].q = y0 at *; generalize xs[i].num = y1 at *; generalize xs[i].den = y2 at *; generalize xs[i].e = y3 at *; generalize xs[i].n = y4 at *
        go_wp2_with (go_at_call 18; refine (HC.out _).mono ?_; rintro e w' ⟨rfl, rfl⟩)
        go_roundw
        case rel => exact ⟨i + 1, by omega, by go_num, HS.out, (hbel.alloc hsz _).alloc (by simp; omega) _⟩
        case measure => simp [intOf]; omega
      | false =>
        have HN := hide (chainB_no hlt hok)
        rw [hok] at hcall
        have HC := hide hcall; clear hcall hok
        generalize xs[i].q = y0 at *; generalize xs[i].num = y1 at *; generalize xs[i].den = y2 at *; generalize xs[i].e = y3 at *; generalize xs[i].n = y4 at *
        go_wp2_with (go_at_call 18; refine (HC.out _).mono ?_; rintro e w' ⟨rfl, rfl⟩)
        go_ret
        exact ⟨ret_bool HN.out.symm, (hbel.alloc hsz _).alloc (by simp; omega) _⟩
    · have hk : i = xs.length := by omega
      have hall := HA.out
      rw [hk, List.take_length] at hall
      have HALL := hide hall
      clear hall hk HA
      go_wp2_with fail
      go_ret
      exact ⟨ret_bool (by unfold chainB; rw [HALL.out, Bool.true_and]; simp; omega), hbel⟩
theorem l4Chain_is (v : Value) (xs : List STurn) (w : World) (h : Is 5 STurn.enc w v xs) :
    Calls Tryd.prog 80 #[v] w fun e w' => e = .returned (.bool (chainB xs)) ∧ Below w.heap.size w w' := by
  have hm := h.len
  obtain ⟨A, cap, rfl, hr, _, _⟩ := h
  generalize hB : w.heap.size = B at hr ⊢
  have HB := hide hB; clear hB
  have HR := hide hr; clear hr
  go_enter Tryd.func80, Tryd.ntmps80
  go_wp2_with fail
  go_loopw [3] (fun i wr => ∃ k : Nat, k ≤ xs.length ∧ i = .int .i64 (k : Int) ∧ (xs.take k).all STurn.okB = true ∧ Below B w wr) (fun i _ => xs.length - (intOf i).toNat)
  case atStart => exact ⟨0, Nat.zero_le _, rfl, by simp, Below.refl _ _⟩
  case round =>
    obtain ⟨i, hi, rfl, hall, hbel⟩ := hrel
    have hsz : B ≤ wr.heap.size := by have := hbel.size; rw [HB.out] at this; exact this
    have HA := hide hall; clear hall
    by_cases hlt : i < xs.length
    · have hlt' : (i : Int) < xs.length := by omega
      obtain ⟨b, off, rfl, hb, c0, c1, c2, c3, c4⟩ := STurn.cells HR.out hlt hbel
      have hcall := fun W => l4Turn_any xs[i].q xs[i].num xs[i].den xs[i].e xs[i].n W
      cases hok : turnB xs[i].q xs[i].num xs[i].den xs[i].e xs[i].n with
      | true =>
        have HS := hide (show (xs.take (i + 1)).all STurn.okB = true by rw [all_take_succ hlt, HA.out]; exact hok)
        rw [hok] at hcall
        have HC := hide hcall; clear hcall hok
        generalize xs[i].q = y0 at *; generalize xs[i].num = y1 at *; generalize xs[i].den = y2 at *; generalize xs[i].e = y3 at *; generalize xs[i].n = y4 at *
        go_wp2_with (go_at_call 58; refine (HC.out _).mono ?_; rintro e w' ⟨rfl, rfl⟩)
        go_roundw
        case rel => exact ⟨i + 1, by omega, by go_num, HS.out, hbel.alloc hsz _⟩
        case measure => simp [intOf]; omega
      | false =>
        have HN := hide (chainB_no hlt hok)
        rw [hok] at hcall
        have HC := hide hcall; clear hcall hok
        generalize xs[i].q = y0 at *; generalize xs[i].num = y1 at *; generalize xs[i].den = y2 at *; generalize xs[i].e = y3 at *; generalize xs[i].n = y4 at *
        go_wp2_with (go_at_call 58; refine (HC.out _).mono ?_; rintro e w' ⟨rfl, rfl⟩)
        go_ret
        exact ⟨ret_bool HN.out.symm, hbel.alloc hsz _⟩
    · have hk : i = xs.length := by omega
      have hall := HA.out
      rw [hk, List.take_length] at hall
      have HALL := hide hall
      clear hall hk HA
      go_wp2_with fail
      go_ret
      exact ⟨ret_bool (by unfold chainB; rw [HALL.out, Bool.true_and]; simp; omega), hbel⟩
theorem goV_bd {xs : List STurn} (h : ∀ t ∈ xs, t.ok) {s : SSpot} (hs : Bd 0 s) : ∀ k, k ≤ xs.length → Bd k (goV (xs.take k) s)
  | 0, _ => by simpa [goV] using hs
  | k + 1, hk => by
    rw [take_snoc' (by omega), goV_snoc]
    exact led_bound (h _ (List.getElem_mem (by omega))) (goV_bd h hs k (by omega))
theorem two_blks (w : World) (t0 t1 : TypeId) (c0 c1 : Array Value) {B : Nat} (hB : w.heap.size = B) :
    Blk ((w.alloc (.cells c0 t0)).alloc (.cells c1 t1)) B t0 c0 ∧ Blk ((w.alloc (.cells c0 t0)).alloc (.cells c1 t1)) (B + 1) t1 c1 ∧
    Below B w ((w.alloc (.cells c0 t0)).alloc (.cells c1 t1)) ∧ ((w.alloc (.cells c0 t0)).alloc (.cells c1 t1)).heap.size = B + 2 := by
  subst hB
  refine ⟨(Blk.new w _ _).alloc _, ?_, (below_alloc w _).alloc (by simp) _, by simp⟩
  simpa using Blk.new (w.alloc (.cells c0 t0)) t1 c1
def SSpot.cs (s : SSpot) : Array Value := #[.int .i64 s.x, .int .i64 s.y, .int .i64 s.den]
set_option maxHeartbeats 1000000 in
theorem turnPlace_is (v : Value) (xs : List STurn) (x y : Int) (w : World) (h : Is 5 STurn.enc w v xs) (hall : ∀ t ∈ xs, t.ok) (hl : xs.length ≤ 4) (hbd : Bd 0 ⟨x, y, 1⟩) :
    Calls Tryd.prog 64 #[v, .int .i64 x, .int .i64 y] w fun e w' => e = .returned (.agg #[.int .i64 (goV xs ⟨x, y, 1⟩).x, .int .i64 (goV xs ⟨x, y, 1⟩).y, .int .i64 (goV xs ⟨x, y, 1⟩).den]) ∧ Below w.heap.size w w' := by
  have hm := h.len
  have hbs := goV_bd hall hbd
  obtain ⟨A, cap, rfl, hr, _, _⟩ := h
  generalize hB : w.heap.size = B at hr ⊢
  obtain ⟨hk0, hk1, hbe, hsz⟩ := two_blks w 38 38 #[.int .i64 0, .int .i64 0, .int .i64 0] #[.int .i64 x, .int .i64 y, .int .i64 1] hB
  have HB := hide hB
  have HR := hide hr; have HBS := hide hbs; have HALL := hide hall; clear hr hbs hall hbd
  go_enter Tryd.func64, Tryd.ntmps64
  go_upto_region 2 with fail
  generalize (w.alloc (.cells #[.int .i64 0, .int .i64 0, .int .i64 0] 38)).alloc (.cells #[.int .i64 x, .int .i64 y, .int .i64 1] 38) = W0 at *
  have HK0 := hide hk0; have HK1 := hide hk1; have HBE := hide hbe; clear hk0 hk1 hbe
  go_wp2_with fail
  go_loopw [15] (fun i wr => ∃ k : Nat, k ≤ xs.length ∧ i = .int .i64 (k : Int) ∧ Blk wr B 38 #[.int .i64 0, .int .i64 0, .int .i64 0] ∧ Blk wr (B + 1) 38 (goV (xs.take k) ⟨x, y, 1⟩).cs ∧ Below B w wr) (fun i _ => xs.length - (intOf i).toNat)
  case atStart => exact ⟨0, Nat.zero_le _, rfl, HK0.out, HK1.out, HBE.out⟩
  case round =>
    clear HK0 HK1 HBE
    obtain ⟨i, hi, rfl, hb0, hb1, hbel⟩ := hrel
    have hgl := hb1.lt
    by_cases hlt : i < xs.length
    · have hlt' : (i : Int) < xs.length := by omega
      obtain ⟨b, off, rfl, hb, c0, c1, c2, c3, c4⟩ := STurn.cells HR.out hlt hbel
      have hbd := HBS.out i hi
      have hst : goV (xs.take (i + 1)) ⟨x, y, 1⟩ = led xs[i] (goV (xs.take i) ⟨x, y, 1⟩) := by rw [take_snoc' hlt, goV_snoc]
      have hcall := fun W => led_any i (goV (xs.take i) ⟨x, y, 1⟩) xs[i] W (by omega) hbd (HALL.out _ (List.getElem_mem hlt))
      rw [← hst] at hcall
      have hbd2 := bd_le4 (k := i + 1) (by omega) (HBS.out (i + 1) (by omega))
      have HT := hide (show xs.take (i + 1) = xs.take (i + 1) from rfl)
      unfold SSpot.cs at hb1
      generalize hsn : goV (xs.take (i + 1)) ⟨x, y, 1⟩ = sn at *
      generalize goV (xs.take i) ⟨x, y, 1⟩ = sk at *
      have HSN := hide hsn; clear hsn hst hbd
      generalize xs[i].q = y0 at *; generalize xs[i].num = y1 at *; generalize xs[i].den = y2 at *; generalize xs[i].e = y3 at *; generalize xs[i].n = y4 at *
      obtain ⟨kx, ky, kd⟩ := sk
      obtain ⟨nx, ny, nd⟩ := sn
      simp only at *
      obtain ⟨m0, m1, ⟨m2, m3⟩, ⟨m4, m5⟩⟩ := hbd2
      have HC := hide hcall; clear hcall
      have J0 := hb0.alloc (.cells #[.int .i64 y0, .int .i64 y1, .int .i64 y2, .int .i64 y3, .int .i64 y4] 35)
      have J1 := hb1.alloc (.cells #[.int .i64 y0, .int .i64 y1, .int .i64 y2, .int .i64 y3, .int .i64 y4] 35)
      have J2 := Blk.new wr 35 #[.int .i64 y0, .int .i64 y1, .int .i64 y2, .int .i64 y3, .int .i64 y4]
      have J3 := hbel.alloc (show B ≤ wr.heap.size by omega) (.cells #[.int .i64 y0, .int .i64 y1, .int .i64 y2, .int .i64 y3, .int .i64 y4] 35)
      clear hb0 hb1 hbel
      go_upto_region 5 with fail
      have hs5 : (wr.alloc (.cells #[.int .i64 y0, .int .i64 y1, .int .i64 y2, .int .i64 y3, .int .i64 y4] 35)).heap.size = wr.heap.size + 1 := by simp
      clear c0 c1 c2 c3 c4
      generalize wr.alloc (.cells #[.int .i64 y0, .int .i64 y1, .int .i64 y2, .int .i64 y3, .int .i64 y4] 35) = W5 at *
      generalize wr.heap.size = G at *
      obtain ⟨c0, c1, c2, c3, c4⟩ := turn5 J2
      obtain ⟨d0, d1, d2, hf⟩ := spot3 J1
      have HJ0 := hide J0; have HJ1 := hide J1; have HJ3 := hide J3; clear J0 J1 J2 J3
      go_wp2_with fail
      refine (HC.out _).mono ?_; rintro e w4 ⟨rfl, hb4⟩
      have K0 := HJ0.out.below hb4 (by omega)
      have K1 := HJ1.out.below hb4 (by omega)
      have K3 := bstep HJ3.out hb4 (by omega)
      clear d0 d1 d2 hf c0 c1 c2 c3 c4
      obtain ⟨d0, d1, d2, hf⟩ := spot3 K1
      have HK0 := hide K0; have HK1 := hide K1; have HK3 := hide K3; clear K0 K1 K3 hb4 HJ0 HJ1 HJ3
      go_wp2_with fail
      go_round
      case measure => simp [intOf]; omega
      case rel => exact ⟨i + 1, by omega, by go_num, far3 HK0.out (by omega) _ _ _, by rw [HSN.out]; exact set3 HK1.out _ _ _, below3 HK3.out (by omega) _ _ _⟩
    · have hk : i = xs.length := by omega
      subst hk
      rw [List.take_length] at hb1
      have hbd2 := bd_le4 (k := xs.length) (by omega) (by have := HBS.out xs.length (Nat.le_refl _); rwa [List.take_length] at this)
      generalize hsn : goV xs ⟨x, y, 1⟩ = sn at *
      obtain ⟨nx, ny, nd⟩ := sn
      have HSN := hide hsn; clear hsn
      unfold SSpot.cs at hb1
      simp only at *
      obtain ⟨m0, m1, ⟨m2, m3⟩, ⟨m4, m5⟩⟩ := hbd2
      obtain ⟨d0, d1, d2, hf⟩ := spot3 hb1
      obtain ⟨r0, r1, r2, rf⟩ := spot3 hb0
      have u0 : IntKind.i64.wrap nx = nx := IntWalk.i64_in _ (by omega)
      have u1 : IntKind.i64.wrap ny = ny := IntWalk.i64_in _ (by omega)
      have u2 : IntKind.i64.wrap nd = nd := IntWalk.i64_in _ (by omega)
      have HBL := hide hbel; clear hbel hb0 hb1
      go_wp2_with fail
      exact bodyPost_ret (v := .agg #[.int .i64 nx, .int .i64 ny, .int .i64 nd]) (by simp [results, Tryd.results64, go_sem, u0, u1, u2, r0, r1, r2]) rfl ⟨by rw [HSN.out], below3 HBL.out (by omega) _ _ _⟩
end Go.Proofs.YtplemibckjnbhaaDoor
