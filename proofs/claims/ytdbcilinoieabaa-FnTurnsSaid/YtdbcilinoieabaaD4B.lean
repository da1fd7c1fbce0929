/- The drawing functions of places, chains and pairs of chains. No condition. (Printed by mkturn.py.) -/
import Derived.Test.YtdbcilinoieabaaD4A
namespace Go.Proofs.Ytdbcilinoieabaa
open Go.RowKit
set_option linter.unusedVariables false
theorem src_rowT {α : Type} {k : Nat} {enc : α → Nat → Value} {w : World} {B b off : Nat} {xs : List α} (h : Row k enc w B (some ⟨b, off, none⟩) xs) (hk : 0 < k) : ∀ j u, (flat k enc xs)[j]? = some u → w.cell? ((⟨b, off, none⟩ : Addr).add j) = some u := by
  intro j u hu
  have hj : j < xs.length * k := by
    have := (List.getElem?_eq_some_iff.1 hu).1
    rwa [flat_length] at this
  have hdiv : j / k < xs.length := Nat.div_lt_of_lt_mul (by rwa [Nat.mul_comm] at hj)
  obtain ⟨b', off', hA, _, hc⟩ := h.get hdiv
  injection hA with hA; injection hA with hA1 hA2; subst hA1 hA2
  have hm : j % k < k := Nat.mod_lt _ hk
  have h2 := flat_get (enc := enc) (List.getElem?_eq_getElem hdiv) hm
  have he : j / k * k + j % k = j := Nat.div_add_mod' j k
  rw [he] at h2
  have h3 := hc (j % k) hm
  rw [Nat.add_assoc, he] at h3
  rw [Addr.add_lit, h3]
  rw [h2] at hu
  exact hu
theorem results_tmp3_d {fn : Func} {t u v : Tmp} (h : fn.results = #[.tmp t, .tmp u, .tmp v]) (tmps : Array Value) (P : Program) (w : World) :
    (results fn tmps).run P w = .ok (.tuple #[tmps.getD t undef, tmps.getD u undef, tmps.getD v undef]) w := by
  simp [results, h]
set_option maxRecDepth 100000 in
set_option maxHeartbeats 8000000 in
theorem drawTurnPlace_is (w : World) (v : Value) (A : Option Addr) (cap : Nat) (code : List Int) (h : Code w v A cap code) :
    Calls Try.prog 9 #[v] w fun e w' => ∃ (v : Value) (xs : List STurn) (x y : Int), e = .returned (.tuple #[v, .int .i64 x, .int .i64 y]) ∧ Own 5 STurn.enc 99 w' w.heap.size v xs ∧ Below w.heap.size w w' := by
  have hD := DS.new h
  obtain rfl := h.eq
  have HD := hide hD; clear hD h
  have hgw : w.heap.size < (w.alloc (.cells #[.slice A code.length cap, .int .i64 0, .int .u64 0] 90)).heap.size := by simp
  go_enter Try.func9, Try.ntmps9
  go_wp2_with fail
  generalize hgs : w.heap.size = g at *
  generalize hw0 : w.alloc (.cells #[.slice A code.length cap, .int .i64 0, .int .u64 0] 90) = w0 at *
  have HB0 := hide (Nat.le_of_lt hgw)
  refine (place4_is w0 _ g g _ A cap code HD.out (by omega)).mono ?_; rintro e w1 ⟨px, py, rfl, hD, hg⟩
  replace HD := hide hD; clear hD hg
  have HGS := hide HD.out.gr.size
  go_wp2_with fail
  refine (chain_is w0 _ g g _ A cap code HD.out (by omega)).mono ?_; rintro e w2 ⟨v2, xs2, rfl, l2, a2, ho, hD, hg⟩
  replace HD := hide hD; clear hD hg
  have HX := hide (ownLow ho HGS.out); clear ho HGS
  go_wp2_with fail
  (try simp only [Exit.inBlock, Exit.then]); refine bodyPost_ret (results_tmp3_d rfl _ _ _) rfl ?_
  subst hw0 hgs
  exact ⟨_, _, _, _, rfl, ownLow HX.out HB0.out, HD.out.end⟩
set_option maxRecDepth 100000 in
set_option maxHeartbeats 8000000 in
theorem drawSameChains_is (w : World) (v : Value) (A : Option Addr) (cap : Nat) (code : List Int) (h : Code w v A cap code) :
    Calls Try.prog 14 #[v] w fun e w' => ∃ (v1 v2 : Value) (xs ys : List STurn), e = .returned (.tuple #[v1, v2]) ∧ Own 5 STurn.enc 99 w' w.heap.size v1 xs ∧ Own 5 STurn.enc 99 w' w.heap.size v2 ys ∧ Below w.heap.size w w' := by
  have hD := DS.new h
  obtain rfl := h.eq
  have HD := hide hD; clear hD h
  have hgw : w.heap.size < (w.alloc (.cells #[.slice A code.length cap, .int .i64 0, .int .u64 0] 90)).heap.size := by simp
  go_enter Try.func14, Try.ntmps14
  go_wp2_with fail
  generalize hgs : w.heap.size = g at *
  generalize hw0 : w.alloc (.cells #[.slice A code.length cap, .int .i64 0, .int .u64 0] 90) = w0 at *
  have HB0 := hide (Nat.le_of_lt hgw)
  have HGS := hide HD.out.gr.size
  refine (chain_is w0 _ g g _ A cap code HD.out (by omega)).mono ?_; rintro e w1 ⟨v1, xs1, rfl, l1, a1, ho, hD, hg⟩
  replace HD := hide hD; clear hD hg
  have HX := hide (ownLow ho HGS.out); clear ho HGS
  go_wp2_with fail
  refine (pickD 4 HD.out (by omega)).mono ?_; rintro e w2 ⟨x2, rfl, p2, q2, hD, hg⟩
  replace HX := hide (HD.out.own HX.out hg (by decide))
  replace HD := hide hD; clear hD hg
  by_cases z0 : x2 = 0
  · subst z0
    have HGS := hide HD.out.gr.size
    go_wp2_with fail
    refine (chain_is w0 _ g g _ A cap code HD.out (by omega)).mono ?_; rintro e w3 ⟨v3, xs3, rfl, l3, a3, ho, hD, hg⟩
    replace HX := hide (HD.out.own HX.out hg (by decide))
    replace HD := hide hD; clear hD hg
    have HY := hide (ownLow ho HGS.out); clear ho HGS
    go_wp2_with fail
    go_ret2
    subst hw0 hgs
    exact ⟨_, _, _, _, rfl, ownLow HX.out HB0.out, ownLow HY.out HB0.out, HD.out.end⟩
  · by_cases z1 : x2 = 1
    · subst z1
      obtain ⟨bX, cX, rfl⟩ := own_adr HX.out a1
      obtain ⟨A8, c8, he8, hr8, _, _⟩ := HX.out.is
      injection he8 with e1 e2 e3; subst e1 e3; clear e2
      have hsz2 : w0.heap.size ≤ w2.heap.size := HD.out.gr.size
      have HE := hide (own_noT w2 (Nat.le_refl w2.heap.size))
      have HSRC := hide (src_rowT (hr8.below (below_alloc w2 (.cells #[] 99)) (Nat.le_refl _) (Nat.le_refl _)) (by omega : 0 < 5))
      have HX2 := hide (HX.out.alloc (.cells #[] 99)); have HD2 := hide (HD.out.alloc (.cells #[] 99))
      have hs3 : (w2.alloc (.cells #[] 99)).heap.size = w2.heap.size + 1 := by simp
      have hxb := (HX.out.lt bX rfl).2
      clear hr8 HX HD
      go_wp2_with (first | (at_builtin; refine wpList_push (k := 5) (enc := STurn.enc) _ rfl _ _ 24 rfl 99 (.agg #[.int .i64 0, .int .i64 0, .int .i64 0, .int .i64 0, .int .i64 0]) 40 Try.underlying24 STurn.info rfl (by omega) STurn.one w2.heap.size _ ([] : List STurn) rfl HE.out ⟨bX, 0, none⟩ cX xs1 rfl HSRC.out (by simp; omega) (by simp; omega) (by omega) ?_; intro v4 w4 ho1 hg1 hnn; have HX4 := hide (HX2.out.grown hg1 (fun g' hg' h => by have e1 : bX = g' := Option.some.inj hg'; have e2 : w2.heap.size = g' := Option.some.inj h; omega)); have HD4 := hide (HD2.out.grown hg1 (fun b' hb' => by have e1 : w2.heap.size = b' := Option.some.inj hb'; have := hgw; omega)); have hs4 := hg1.size; rw [List.nil_append] at ho1; obtain ⟨b4, c4, rfl⟩ := own_adr ho1 (own_nn ho1 (fun e => by have := (hnn.1 e).1; cases this)); have HO := hide ho1; have hb4 := (ho1.lt b4 rfl).1; clear ho1 hg1 hnn HE HSRC) | (at_builtin; refine wpList_push1 (k := 5) (enc := STurn.enc) _ rfl _ _ 24 rfl 99 (.agg #[.int .i64 0, .int .i64 0, .int .i64 0, .int .i64 0, .int .i64 0]) 40 Try.underlying24 STurn.info rfl (by omega) (by omega) STurn.one w2.heap.size _ xs1 rfl HO.out (⟨0, 7, 7, 0, 0⟩ : STurn) _ rfl rfl (by omega) (by omega) (Below.refl w2.heap.size w4) (Nat.le_refl _) rfl ?_; intro v5 w5 ho1 hb1 hg1; have HX := hide ((HX4.out.alloc _).grown hg1 (fun g' hg' h => by have e1 : bX = g' := Option.some.inj hg'; have e2 : b4 = g' := Option.some.inj h; omega)); have HD := hide (HD4.out.push (HO.out.mono hsz2) (Nat.le_refl _) hg1 (by decide)); have HY := hide (ownLow ho1 hsz2); clear ho1 hb1 hg1))
      go_ret2
      subst hw0 hgs
      exact ⟨_, _, _, _, rfl, ownLow HX.out HB0.out, ownLow HY.out HB0.out, HD.out.end⟩
    · have zb0 : (x2 == 0) = false := by simpa using z0
      have zb1 : (x2 == 1) = false := by simpa using z1
      go_upto_region 9 with fail
      have hsz2 : w0.heap.size ≤ w2.heap.size := HD.out.gr.size
      have HO := hide (own_noT w2 (Nat.le_refl w2.heap.size))
      have hbx2 := fun g' hg' => (HX.out.lt g' hg').2
      replace HX := hide (HX.out.alloc (.cells #[] 99))
      replace HD := hide (HD.out.alloc (.cells #[] 99))
      have HH0 : w2.heap.size ≤ (w2.alloc (.cells #[] 99)).heap.size := by simp
      generalize w2.alloc (.cells #[] 99) = w3 at *
      have HH3 := hide (show w2.heap.size ≤ w3.heap.size from HH0)
      generalize hh2 : w2.heap.size = h2 at *
      have hx10 := l1
      obtain ⟨bX, cX, rfl⟩ := own_adr HX.out a1
      have hbx3 := hbx2 bX rfl
      go_wp2_with fail
      go_loopw [6, 7] (fun s i wr => ∃ (j : Nat) (ys : List STurn), i = .int .i64 (j : Int) ∧ j ≤ xs1.length ∧ ys.length = j ∧ h2 ≤ wr.heap.size ∧ Own 5 STurn.enc 99 wr h2 s ys ∧ Own 5 STurn.enc 99 wr w0.heap.size (.slice (some ⟨bX, 0, none⟩) xs1.length cX) xs1 ∧ DS w0 g g A cap code (402 + 2 * j) wr) (fun _ i _ => xs1.length - (intOf i).toNat)
      case atStart => exact ⟨0, [], rfl, by omega, rfl, HH3.out, HO.out, HX.out, HD.out.le (by omega)⟩
      case round =>
        clear HO HX HD
        obtain ⟨j, ys, rfl, hj, hyl, hh3, ho, hx, hD⟩ := hrel
        generalize wr = w10 at *
        have hyb : ys.length ≤ 10 := by omega
        have HYL := hide hyl; clear hyl
        obtain ⟨A7, cap7, rfl, _, _, _⟩ := ho.is
        have HO := hide ho; have HX := hide hx; have HD := hide hD; clear ho hx hD
        by_cases hlt : j < xs1.length
        · have hlt' : (j : Int) < xs1.length := by omega
          obtain ⟨A8, c8, he8, hr8, _, _⟩ := HX.out.is
          injection he8 with e1 e2 e3; subst e1 e3; clear e2
          obtain ⟨b8, off8, hA8, _, d0, d1, d2, d3, d4⟩ := STurn.cells hr8 hlt (Below.refl _ _)
          injection hA8 with hA8; injection hA8 with hA1 hA2; subst hA1 hA2
          clear hr8
          simp only [Nat.zero_add] at d0 d1 d2 d3 d4
          generalize xs1[j].q = y0 at *; generalize xs1[j].num = y1 at *; generalize xs1[j].den = y2 at *; generalize xs1[j].e = y3 at *; generalize xs1[j].n = y4 at *
          have hin1 := fun W => l1In_any y1 1 10 W
          have hin2 := fun W => l1In_any y2 1 10 W
          have hb1 : inB y1 1 10 = true → 1 ≤ y1 ∧ y1 ≤ 10 := fun h => inB_iff.1 h
          have hb2 : inB y2 1 10 = true → 1 ≤ y2 ∧ y2 ≤ 10 := fun h => inB_iff.1 h
          generalize inB y1 1 10 = i1 at *; generalize inB y2 1 10 = i2 at *
          have HI1 := hide hin1; have HI2 := hide hin2; have HB1 := hide hb1; have HB2 := hide hb2; clear hin1 hin2 hb1 hb2
          have HT := hide (Blk.new w10 99 #[.int .i64 y0, .int .i64 y1, .int .i64 y2, .int .i64 y3, .int .i64 y4])
          have hw10 : w0.heap.size ≤ w10.heap.size := HD.out.gr.size
          have hlO := fun g' hg' => (HO.out.lt g' hg').2
          have hlX := fun g' hg' => (HX.out.lt g' hg').2
          go_upto_region 13 with fail
          clear d0 d1 d2 d3 d4
          replace HO := hide (HO.out.alloc (.cells #[.int .i64 y0, .int .i64 y1, .int .i64 y2, .int .i64 y3, .int .i64 y4] 99))
          replace HX := hide (HX.out.alloc (.cells #[.int .i64 y0, .int .i64 y1, .int .i64 y2, .int .i64 y3, .int .i64 y4] 99))
          replace HD := hide (HD.out.alloc (.cells #[.int .i64 y0, .int .i64 y1, .int .i64 y2, .int .i64 y3, .int .i64 y4] 99))
          generalize w10.alloc (.cells #[.int .i64 y0, .int .i64 y1, .int .i64 y2, .int .i64 y3, .int .i64 y4] 99) = w11 at *
          generalize hbt : w10.heap.size = bt at *
          have hoX : ∀ g', Value.ownBlock (.slice A7 ys.length cap7) = some g' → g' ≠ bX := fun g' hg' e => by have := (HO.out.lt g' hg').1; omega
          have hoT : ∀ g', Value.ownBlock (.slice A7 ys.length cap7) = some g' → g' ≠ bt := fun g' hg' e => by have := hlO g' hg'; omega
          have hbXt : bX ≠ bt := by have := hlX bX rfl; omega
          cases i1 with
          | false =>
            obtain ⟨t0, t1, t2, t3, t4⟩ := turn5 HT.out
            have tf := fun o => HT.out.frozen o
            have hsz9 : h2 ≤ w11.heap.size := by have := (HT.out.lt); omega
            go_wp2_with (first | (at_builtin; refine wpList_push1 (k := 5) (enc := STurn.enc) _ rfl _ _ 24 rfl 99 (.agg #[.int .i64 0, .int .i64 0, .int .i64 0, .int .i64 0, .int .i64 0]) 40 Try.underlying24 STurn.info rfl (by omega) (by omega) STurn.one h2 _ (ys) rfl HO.out (⟨y0, y1, y2, y3, y4⟩ : STurn) _ rfl rfl (by omega) (by omega) (Below.refl h2 _) (Nat.le_refl _) rfl ?_; intro v1 w30 ho1 hb1 hg1; have HX := hide ((HX.out.alloc _).grown hg1 (fun g' hg' h => by have e1 : bX = g' := Option.some.inj hg'; exact hoX g' h e1.symm)); have HD := hide (HD.out.push (HO.out.mono hsz2) (Nat.le_refl _) hg1 (by decide)); have hs30 := hb1.size; have HO := hide ho1; clear ho1 hb1 hg1) | (go_at_call 81; (with_reducible refine (HI1.out _).mono ?_); rintro e w' ⟨rfl, rfl⟩) | (go_at_call 81; (with_reducible refine (HI2.out _).mono ?_); rintro e w' ⟨rfl, rfl⟩))
            go_wp2_with fail
            go_roundw
            case measure => (first | (simp [intOf]; done) | (simp [intOf] <;> omega))
            case rel => exact ⟨j + 1, ys ++ [_], by go_num, by omega, by have := HYL.out; simp; omega, by omega, HO.out, HX.out, HD.out.le (by omega)⟩
          | true =>
            cases i2 with
            | false =>
              obtain ⟨t0, t1, t2, t3, t4⟩ := turn5 HT.out
              have tf := fun o => HT.out.frozen o
              have hsz9 : h2 ≤ w11.heap.size := by have := (HT.out.lt); omega
              go_wp2_with (first | (at_builtin; refine wpList_push1 (k := 5) (enc := STurn.enc) _ rfl _ _ 24 rfl 99 (.agg #[.int .i64 0, .int .i64 0, .int .i64 0, .int .i64 0, .int .i64 0]) 40 Try.underlying24 STurn.info rfl (by omega) (by omega) STurn.one h2 _ (ys) rfl HO.out (⟨y0, y1, y2, y3, y4⟩ : STurn) _ rfl rfl (by omega) (by omega) (Below.refl h2 _) (Nat.le_refl _) rfl ?_; intro v1 w30 ho1 hb1 hg1; have HX := hide ((HX.out.alloc _).grown hg1 (fun g' hg' h => by have e1 : bX = g' := Option.some.inj hg'; exact hoX g' h e1.symm)); have HD := hide (HD.out.push (HO.out.mono hsz2) (Nat.le_refl _) hg1 (by decide)); have hs30 := hb1.size; have HO := hide ho1; clear ho1 hb1 hg1) | (go_at_call 81; (with_reducible refine (HI1.out _).mono ?_); rintro e w' ⟨rfl, rfl⟩) | (go_at_call 81; (with_reducible refine (HI2.out _).mono ?_); rintro e w' ⟨rfl, rfl⟩))
              go_wp2_with fail
              go_roundw
              case measure => (first | (simp [intOf]; done) | (simp [intOf] <;> omega))
              case rel => exact ⟨j + 1, ys ++ [_], by go_num, by omega, by have := HYL.out; simp; omega, by omega, HO.out, HX.out, HD.out.le (by omega)⟩
            | true =>
              obtain ⟨t0, t1, t2, t3, t4⟩ := turn5 HT.out
              have tf := fun o => HT.out.frozen o
              obtain ⟨by0, by1⟩ := HB1.out (by trivial); obtain ⟨bz0, bz1⟩ := HB2.out (by trivial)
              go_wp2_with (first | (go_at_call 81; (with_reducible refine (HI1.out _).mono ?_); rintro e w' ⟨rfl, rfl⟩) | (go_at_call 81; (with_reducible refine (HI2.out _).mono ?_); rintro e w' ⟨rfl, rfl⟩))
              refine (oneD 2 HD.out (by omega)).mono ?_; rintro e w12 ⟨x12, rfl, hD, hg⟩
              replace HO := hide (HD.out.own HO.out hg (by decide))
              replace HX := hide (HD.out.own HX.out hg (by decide))
              replace HT := hide (HD.out.blk HT.out hg (by decide))
              replace HD := hide hD; clear hD hg
              clear t0 t1 t2 t3 t4 tf
              cases x12 with
              | false =>
                obtain ⟨t0, t1, t2, t3, t4⟩ := turn5 HT.out
                have tf := fun o => HT.out.frozen o
                have hsz9 : h2 ≤ w12.heap.size := by have := (HT.out.lt); omega
                go_wp2_with (first | (at_builtin; refine wpList_push1 (k := 5) (enc := STurn.enc) _ rfl _ _ 24 rfl 99 (.agg #[.int .i64 0, .int .i64 0, .int .i64 0, .int .i64 0, .int .i64 0]) 40 Try.underlying24 STurn.info rfl (by omega) (by omega) STurn.one h2 _ (ys) rfl HO.out (⟨y0, y1, y2, y3, y4⟩ : STurn) _ rfl rfl (by omega) (by omega) (Below.refl h2 _) (Nat.le_refl _) rfl ?_; intro v1 w30 ho1 hb1 hg1; have HX := hide ((HX.out.alloc _).grown hg1 (fun g' hg' h => by have e1 : bX = g' := Option.some.inj hg'; exact hoX g' h e1.symm)); have HD := hide (HD.out.push (HO.out.mono hsz2) (Nat.le_refl _) hg1 (by decide)); have hs30 := hb1.size; have HO := hide ho1; clear ho1 hb1 hg1) | (go_at_call 81; (with_reducible refine (HI1.out _).mono ?_); rintro e w' ⟨rfl, rfl⟩) | (go_at_call 81; (with_reducible refine (HI2.out _).mono ?_); rintro e w' ⟨rfl, rfl⟩))
                go_wp2_with fail
                go_roundw
                case measure => (first | (simp [intOf]; done) | (simp [intOf] <;> omega))
                case rel => exact ⟨j + 1, ys ++ [_], by go_num, by omega, by have := HYL.out; simp; omega, by omega, HO.out, HX.out, HD.out.le (by omega)⟩
              | true =>
                obtain ⟨t0, t1, t2, t3, t4⟩ := turn5 HT.out
                have tf := fun o => HT.out.frozen o
                have hwx : bt < w12.heap.size := HT.out.lt
                go_upto_region 16 with fail
                have HO2 := hide ((HO.out.setCell (p := ⟨bt, 1, none⟩) (fun g' hg' => hoT g' hg') (.int .i64 (2 * y1))).setCell (p := ⟨bt, 2, none⟩) (fun g' hg' => hoT g' hg') (.int .i64 (2 * y2)))
                have HX2 := hide ((HX.out.setCell (p := ⟨bt, 1, none⟩) (fun g' hg' => by have e1 : bX = g' := Option.some.inj hg'; simp only; omega) (.int .i64 (2 * y1))).setCell (p := ⟨bt, 2, none⟩) (fun g' hg' => by have e1 : bX = g' := Option.some.inj hg'; simp only; omega) (.int .i64 (2 * y2)))
                have HD2 := hide ((HD.out.set (b := bt) (by omega) hgw 1 (.int .i64 (2 * y1))).set (b := bt) (by omega) hgw 2 (.int .i64 (2 * y2)))
                have hT2 : Blk ((w12.setCell ⟨bt, 1, none⟩ (.int .i64 (2 * y1))).setCell ⟨bt, 2, none⟩ (.int .i64 (2 * y2))) bt 99 #[.int .i64 y0, .int .i64 (2 * y1), .int .i64 (2 * y2), .int .i64 y3, .int .i64 y4] := (HT.out.set 1 (.int .i64 (2 * y1))).set 2 (.int .i64 (2 * y2))
                clear t0 t1 t2 t3 t4 tf HO HX HD HT
                generalize (w12.setCell ⟨bt, 1, none⟩ (.int .i64 (2 * y1))).setCell ⟨bt, 2, none⟩ (.int .i64 (2 * y2)) = w20 at *
                have HO := hide HO2.out; have HX := hide HX2.out; have HD := hide HD2.out; have HT := hide hT2; clear HO2 HX2 HD2 hT2
                obtain ⟨t0, t1, t2, t3, t4⟩ := turn5 HT.out
                have tf := fun o => HT.out.frozen o
                have hsz9 : h2 ≤ w20.heap.size := by have := (HT.out.lt); omega
                go_wp2_with (at_builtin; refine wpList_push1 (k := 5) (enc := STurn.enc) _ rfl _ _ 24 rfl 99 (.agg #[.int .i64 0, .int .i64 0, .int .i64 0, .int .i64 0, .int .i64 0]) 40 Try.underlying24 STurn.info rfl (by omega) (by omega) STurn.one h2 _ (ys) rfl HO.out (⟨y0, 2 * y1, 2 * y2, y3, y4⟩ : STurn) _ rfl rfl (by omega) (by omega) (Below.refl h2 _) (Nat.le_refl _) rfl ?_; intro v1 w30 ho1 hb1 hg1; have HX := hide ((HX.out.alloc _).grown hg1 (fun g' hg' h => by have e1 : bX = g' := Option.some.inj hg'; exact hoX g' h e1.symm)); have HD := hide (HD.out.push (HO.out.mono hsz2) (Nat.le_refl _) hg1 (by decide)); have hs30 := hb1.size; have HO := hide ho1; clear ho1 hb1 hg1)
                go_wp2_with fail
                go_roundw
                case measure => (first | (simp [intOf]; done) | (simp [intOf] <;> omega))
                case rel => exact ⟨j + 1, ys ++ [_], by go_num, by omega, by have := HYL.out; simp; omega, by omega, HO.out, HX.out, HD.out.le (by omega)⟩
        · have hjj : j = xs1.length := by omega
          go_wp2_with fail
          go_ret2
          subst hw0 hgs
          exact ⟨_, _, _, _, rfl, ownLow HX.out HB0.out, ownLow (ownLow HO.out hsz2) HB0.out, HD.out.end⟩
end Go.Proofs.Ytdbcilinoieabaa
