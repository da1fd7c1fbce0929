/- The drawing of drawers over a cursor: at most nine drawers, each with at most twenty-one flats. Condition: a cursor that has stepped less than 2^60 times. (Printed by mkdrawers5.py.) -/
import Derived.Test.YtdbcilinoieabaaD5B
import Derived.Test.YtdbcilinoieabaaLIns
import Derived.Deep.CutBlock
namespace Go.Proofs.Ytdbcilinoieabaa
open Go.RowKit
set_option linter.unusedVariables false
theorem DS.ownDs {w0 w w' : World} {base g : Nat} {A : Option Addr} {cap : Nat} {code : List Int} {k : Nat} {b : Nat} {v : Value} {rs : List SDr} (h : DS w0 base g A cap code k w) (hO : OwnDs w b v rs) (hg : w.grownBy w' (some g)) : OwnDs w' b v rs :=
  ⟨h.own hO.spine hg (by decide), fun i r hr => h.own (hO.rows i r hr) hg (by decide), hO.rowSpine, hO.sep⟩
theorem OwnDs.ok {w : World} {lo : Nat} {v : Value} {rs : List SDr} (h : OwnDs w lo v rs) : ∀ r ∈ rs, r.ok w w.heap.size := fun r hr => by
  obtain ⟨i, hi, rfl⟩ := List.mem_iff_getElem.1 hr
  obtain ⟨A, cap, he, h1, h2, h3⟩ := (h.rows i _ (List.getElem?_eq_getElem hi)).row
  unfold SDr.fv at he
  injection he with e1 e2 e3
  subst e1 e3
  exact ⟨h1, h3, h2⟩
theorem own_noD (w : World) {B : Nat} (hB : B ≤ w.heap.size) : OwnDs (w.alloc (.cells #[] 70)) B (.slice (some ⟨w.heap.size, 0, none⟩) 0 0) [] :=
  ownDs_nil (Own.made (cs := #[]) rfl hB (Blk.new _ _ _) rfl (Nat.zero_le _) Filled.zero)
/-- the first drawer put behind the others -/
theorem OwnDs.rot {w w' : World} {lo lo' : Nat} {v v' : Value} {rs : List SDr} (h : OwnDs w lo v rs) (hb : Below w.heap.size w w') (hl : lo' ≤ lo) (hs : Own 5 SDr.enc 70 w' lo' v' ([] ++ rs.drop 1 ++ rs.take 1)) : OwnDs w' lo' v' ([] ++ rs.drop 1 ++ rs.take 1) := by
  have hget : ∀ (i : Nat) (r : SDr), ([] ++ rs.drop 1 ++ rs.take 1)[i]? = some r → i < rs.length ∧ ((i + 1 < rs.length ∧ rs[i + 1]? = some r) ∨ (i + 1 = rs.length ∧ rs[0]? = some r)) := fun i r hr => by
    rw [List.nil_append] at hr
    have hi := (List.getElem?_eq_some_iff.1 hr).1
    rw [List.length_append, List.length_drop, List.length_take] at hi
    have hin : i < rs.length := by omega
    refine ⟨hin, ?_⟩
    by_cases h1 : i < rs.length - 1
    · rw [List.getElem?_append_left (by rw [List.length_drop]; omega), List.getElem?_drop] at hr
      exact .inl ⟨by omega, by rw [Nat.add_comm]; exact hr⟩
    · rw [List.getElem?_append_right (by rw [List.length_drop]; omega), List.length_drop] at hr
      rw [show i - (rs.length - 1) = 0 by omega, List.getElem?_take_of_lt (by omega)] at hr
      exact .inr ⟨by omega, hr⟩
  have hrows : ∀ (i : Nat) (r : SDr), ([] ++ rs.drop 1 ++ rs.take 1)[i]? = some r → Own 1 encI 3 w' lo' r.fv r.xs := fun i r hr => by
    rcases (hget i r hr).2 with ⟨_, h1⟩ | ⟨_, h1⟩
    · exact ((h.rows _ r h1).below hb).mono hl
    · exact ((h.rows _ r h1).below hb).mono hl
  refine ⟨hs, hrows, fun i r hr => own_ne5 (hrows i r hr) hs (by decide), fun i j r s hr hs' hij => ?_⟩
  obtain ⟨h1, h2⟩ := hget i r hr
  obtain ⟨h3, h4⟩ := hget j s hs'
  rcases h2 with ⟨_, h2⟩ | ⟨_, h2⟩ <;> rcases h4 with ⟨_, h4⟩ | ⟨_, h4⟩
  · exact h.sep _ _ r s h2 h4 (by omega)
  · exact h.sep _ _ r s h2 h4 (by omega)
  · exact h.sep _ _ r s h2 h4 (by omega)
  · omega
theorem putL_le (xs : List Int) (x : Int) : (putL xs x).length ≤ xs.length + 1 := by
  have h : (xs.takeWhile fun c => decide (c < x)).length + (xs.dropWhile fun c => decide (c < x)).length = xs.length := by
    rw [← List.length_append, List.takeWhile_append_dropWhile]
  unfold putL
  split
  · rw [List.length_append]; omega
  · rw [List.length_append, List.length_cons]; omega
set_option maxRecDepth 100000 in
set_option maxHeartbeats 8000000 in
theorem drawers_is (w0 w : World) (base g k : Nat) (A : Option Addr) (cap : Nat) (code : List Int) (hD : DS w0 base g A cap code k w) (bF : Nat) (vF : Value) (fs : List SFlat) (hF : Own 4 SFlat.enc 68 w bF vF fs) (hfl : fs.length ≤ 21) (hfit : fitG fs) (hk : k + 4000 < 2305843009213693952) :
    Calls Try.prog 105 #[.pointer (some ⟨g, 0, none⟩), vF] w fun e w' => ∃ (v : Value) (qs : List SDr), e = .returned v ∧ qs.length ≤ 9 ∧ OwnDs w' w.heap.size v qs ∧ DS w0 base g A cap code (k + 4000) w' ∧ w.grownBy w' (some g) := by
  have hgw := hD.lt
  have HD0 := hide hD
  have HD := hide (DS.start hD.cur hD.sz); clear hD
  have HFIT := hide hfit; clear hfit
  obtain ⟨A9, c9, rfl, _, _, _⟩ := hF.is
  have HF := hide hF; clear hF
  go_enter Try.func105, Try.ntmps105
  go_upto_region 2 with fail
  have HO := hide (own_noD w (Nat.le_refl w.heap.size))
  replace HF := hide (HF.out.alloc (.cells #[] 70))
  replace HD := hide (HD.out.alloc (.cells #[] 70))
  generalize w.alloc (.cells #[] 70) = w1 at *
  go_wp2_with fail
  refine (pickD 5 HD.out (by omega)).mono ?_; rintro e w2 ⟨x2, rfl, p2, q2, hD, hg⟩
  replace HF := hide (HD.out.own HF.out hg (by decide))
  replace HO := hide (HD.out.ownDs HO.out hg)
  replace HD := hide hD; clear hD hg
  obtain ⟨q, rfl⟩ : ∃ q : Nat, x2 = (q : Int) := ⟨x2.toNat, by omega⟩
  go_wp2_with fail
  go_loopw [5, 6, 7] (fun s t i wr => ∃ (j : Nat) (qs : List SDr) (y : Int), i = .int .i64 (j : Int) ∧ t = .int .i64 y ∧ j ≤ 5 ∧ (0 ≤ y ∧ y ≤ 2 * (5 - (j : Int))) ∧ qs.length ≤ 5 - j ∧ (∀ r ∈ qs, r.xs.length ≤ 0) ∧ OwnDs wr w.heap.size s qs ∧ Own 4 SFlat.enc 68 wr bF (.slice A9 fs.length c9) fs ∧ DS w base g A cap code (k + 700 - 40 * j) wr) (fun _ _ i _ => (intOf i).toNat)
  case atStart => exact ⟨q, [], 0, rfl, rfl, by omega, ⟨by omega, by omega⟩, by simp, by simp, HO.out, HF.out, HD.out.le (by omega)⟩
  case round =>
    clear HO HD HF p2 q2
    obtain ⟨j, qs, y, rfl, rfl, hj5, ⟨hy0, hy1⟩, hql, hqx, ho, hf, hD⟩ := hrel
    generalize wr = w10 at *
    obtain ⟨A7, cap7, rfl, _, _, _⟩ := ho.spine.is
    have HO := hide ho; have HD := hide hD; have HF := hide hf; have HQX := hide hqx; clear ho hD hf hqx
    by_cases hlt : (0 : Int) < j
    · go_wp2_with fail
      refine (pickD 2 HD.out (by omega)).mono ?_; rintro e w11 ⟨x11, rfl, p11, q11, hD, hg⟩
      replace HF := hide (HD.out.own HF.out hg (by decide))
      replace HO := hide (HD.out.ownDs HO.out hg)
      replace HD := hide hD; clear hD hg
      go_wp2_with fail
      refine (pickD 150 HD.out (by omega)).mono ?_; rintro e w12 ⟨x12, rfl, p12, q12, hD, hg⟩
      replace HF := hide (HD.out.own HF.out hg (by decide))
      replace HO := hide (HD.out.ownDs HO.out hg)
      replace HD := hide hD; clear hD hg
      have hdv : 0 ≤ x12 / 149 ∧ x12 / 149 ≤ 1 := by omega
      go_wp2_with fail
      refine (drawer5_is w _ base g _ A cap code HD.out (y + 1 + x11 - x12 / 149) (by omega)).mono ?_; rintro e w13 ⟨z0, z1, z2, z3, rfl, hD, hg⟩
      replace HF := hide (HD.out.own HF.out hg (by decide))
      replace HO := hide (HD.out.ownDs HO.out hg)
      replace HD := hide hD; clear hD hg
      obtain ⟨jj, rfl⟩ : ∃ jj, j = jj + 1 := ⟨j - 1, by omega⟩
      have HSP := hide HO.out.spine
      go_wp2_with (at_builtin; refine wpList_push1 (k := 5) (enc := SDr.enc) _ rfl _ _ 58 rfl 70 (.agg #[.int .i64 0, .int .i64 0, .int .i64 0, .int .i64 0, .slice none 0 0]) 56 Try.underlying58 SDr.info rfl (by omega) (by omega) SDr.one w.heap.size _ (qs) rfl HSP.out (⟨z0, z1, z2, z3, none, [], 0⟩) _ rfl rfl (by omega) HD.out.gr.size (Below.refl w.heap.size w13) (Nat.le_refl _) rfl ?_; intro v1 w14 ho1 hb1 hg1)
      have hp := (HO.out.below (below_alloc w13 _)).push (r := ⟨z0, z1, z2, z3, none, [], 0⟩) Own.nil (fun g hg => by cases hg) ho1 hg1
      replace HF := hide ((HF.out.alloc _).grown hg1 (own_ne5 HF.out HSP.out (by decide)))
      replace HD := hide (HD.out.push HSP.out (Nat.le_refl _) hg1 (by decide)); replace HO := hide hp; clear ho1 hb1 hg1 hp HSP
      go_wp2_with fail
      go_round
      case measure => (first | (simp [intOf]; done) | (simp [intOf] <;> omega))
      case rel => exact ⟨jj, qs ++ [_], y + 1 + x11 - x12 / 149, by go_num, rfl, by omega, ⟨by omega, by omega⟩, by simp; omega, (fun r hr => by rcases List.mem_append.1 hr with h | h; exact HQX.out r h; rw [List.mem_singleton.1 h]; exact Nat.zero_le _), HO.out, HF.out, HD.out.le (by omega)⟩
    · have hz : j = 0 := by omega
      subst hz
      go_wp2_with fail
      refine (oneD 30 HD.out (by omega)).mono ?_; rintro e w11 ⟨x11, rfl, hD, hg⟩
      replace HF := hide (HD.out.own HF.out hg (by decide))
      replace HO := hide (HD.out.ownDs HO.out hg)
      replace HD := hide hD; clear hD hg
      go_upto_if 35 with fail
      go_cut [5, 8] from 36 to 49 (fun s t8 wx => ∃ qs : List SDr, qs.length ≤ 9 ∧ (∀ r ∈ qs, r.xs.length ≤ 0) ∧ OwnDs wx w.heap.size s qs ∧ Own 4 SFlat.enc 68 wx bF (.slice A9 fs.length c9) fs ∧ DS w base g A cap code (k + 1000) wx)
      case first =>
        cases x11 with
        | false =>
          go_wp2_with fail
          go_meet
          exact ⟨qs, by omega, HQX.out, HO.out, HF.out, HD.out.le (by omega)⟩
        | true =>
          clear HO HQX hql
          have hwz : w.heap.size ≤ w11.heap.size := HD.out.gr.size
          go_upto_region 10 with fail
          have HO := hide (own_noD w11 hwz)
          replace HF := hide (HF.out.alloc (.cells #[] 70))
          replace HD := hide (HD.out.alloc (.cells #[] 70))
          generalize w11.alloc (.cells #[] 70) = w30 at *
          go_wp2_with fail
          go_loopw [5, 8] (fun s i wr => ∃ (n : Nat) (qs : List SDr), i = .int .i64 (n : Int) ∧ n ≤ 9 ∧ qs.length = n ∧ (∀ r ∈ qs, r.xs.length ≤ 0) ∧ OwnDs wr w.heap.size s qs ∧ Own 4 SFlat.enc 68 wr bF (.slice A9 fs.length c9) fs ∧ DS w base g A cap code (k + 720 + 10 * n) wr) (fun _ i _ => 20 - (intOf i).toNat)
          case atStart => exact ⟨0, [], rfl, by omega, rfl, by simp, HO.out, HF.out, HD.out.le (by omega)⟩
          case round =>
            clear HO HD HF
            obtain ⟨n, qs, rfl, hn9, hqn, hqx, ho, hf, hD⟩ := hrel
            generalize wr = w40 at *
            have hqb : qs.length ≤ 9 := by omega
            have HQN := hide hqn; clear hqn
            obtain ⟨A8, cap8, rfl, _, _, _⟩ := ho.spine.is
            have HO := hide ho; have HD := hide hD; have HF := hide hf; have HQX := hide hqx; clear ho hD hf hqx
            go_wp2_with fail
            refine (pickD 2 HD.out (by omega)).mono ?_; rintro e w41 ⟨x41, rfl, p41, q41, hD, hg⟩
            replace HF := hide (HD.out.own HF.out hg (by decide))
            replace HO := hide (HD.out.ownDs HO.out hg)
            replace HD := hide hD; clear hD hg
            by_cases hgo : (n : Int) < 8 + x41
            · have HSP := hide HO.out.spine
              go_wp2_with (at_builtin; refine wpList_push1 (k := 5) (enc := SDr.enc) _ rfl _ _ 58 rfl 70 (.agg #[.int .i64 0, .int .i64 0, .int .i64 0, .int .i64 0, .slice none 0 0]) 56 Try.underlying58 SDr.info rfl (by omega) (by omega) SDr.one w.heap.size _ (qs) rfl HSP.out (⟨(n : Int) + 1, 400, 300, 500, none, [], 0⟩) _ rfl rfl (by omega) HD.out.gr.size (Below.refl w.heap.size w41) (Nat.le_refl _) rfl ?_; intro v1 w42 ho1 hb1 hg1)
              have hp := (HO.out.below (below_alloc w41 _)).push (r := ⟨(n : Int) + 1, 400, 300, 500, none, [], 0⟩) Own.nil (fun g hg => by cases hg) ho1 hg1
              replace HF := hide ((HF.out.alloc _).grown hg1 (own_ne5 HF.out HSP.out (by decide)))
              replace HD := hide (HD.out.push HSP.out (Nat.le_refl _) hg1 (by decide)); replace HO := hide hp; clear ho1 hb1 hg1 hp HSP
              go_wp2_with fail
              go_round
              case measure => (first | (simp [intOf]; done) | (simp [intOf] <;> omega))
              case rel => exact ⟨n + 1, qs ++ [_], by go_num, by omega, by simp [HQN.out], (fun r hr => by rcases List.mem_append.1 hr with h | h; exact HQX.out r h; rw [List.mem_singleton.1 h]; exact Nat.zero_le _), HO.out, HF.out, HD.out.le (by omega)⟩
            · go_wp2_with fail
              go_meet
              exact ⟨qs, by omega, HQX.out, HO.out, HF.out, HD.out.le (by omega)⟩
      case rest =>
        obtain ⟨qs, hql, hqx, ho, hf, hD⟩ := hcut
        clear HO HD HF HQX
        generalize wc = w50 at *
        have HO := hide ho; have HD := hide hD; have HF := hide hf; have HQX := hide hqx; clear ho hD hf hqx
        go_upto_block 4 with fail
        go_cut [5, 9, 10, 11] from 50 to 89 (fun s t9 t10 t11 wx => ∃ qs : List SDr, qs.length ≤ 9 ∧ OwnDs wx w.heap.size s qs ∧ DS w base g A cap code (k + 2000) wx)
        case first =>
          go_wp2_with fail
          go_loopw [5, 9] (fun s i wr => ∃ (n : Nat) (qs : List SDr), i = .int .i64 (n : Int) ∧ n ≤ fs.length ∧ qs.length ≤ 9 ∧ (∀ r ∈ qs, r.xs.length ≤ n) ∧ OwnDs wr w.heap.size s qs ∧ Own 4 SFlat.enc 68 wr bF (.slice A9 fs.length c9) fs ∧ DS w base g A cap code (k + 1000 + 10 * n) wr) (fun _ i _ => fs.length - (intOf i).toNat)
          case atStart => exact ⟨0, qs, rfl, Nat.zero_le _, hql, HQX.out, HO.out, HF.out, HD.out.le (by omega)⟩
          case round =>
            clear HO HD HF HQX hql qs
            obtain ⟨n, qs, rfl, hn, hql, hqx, ho, hf, hD⟩ := hrel
            generalize wr = w60 at *
            obtain ⟨A8, cap8, rfl, _, _, _⟩ := ho.spine.is
            have HO := hide ho; have HD := hide hD; have HF := hide hf; have HQX := hide hqx; clear ho hD hf hqx
            by_cases hlt : (n : Int) < fs.length
            case neg =>
              go_wp2_with fail
              go_meet
              exact ⟨qs, hql, HO.out, HD.out.le (by omega)⟩
            by_cases hq0 : (0 : Int) < qs.length
            case neg =>
              go_wp2_with fail
              go_meet
              exact ⟨qs, hql, HO.out, HD.out.le (by omega)⟩
            have hnf : n < fs.length := by omega
            go_wp2_with fail
            refine (pickD (qs.length : Int) HD.out (by omega)).mono ?_; rintro e w61 ⟨x61, rfl, p61, q61, hD, hg⟩
            replace HF := hide (HD.out.own HF.out hg (by decide))
            replace HO := hide (HD.out.ownDs HO.out hg)
            replace HD := hide hD; clear hD hg
            obtain ⟨q, rfl⟩ : ∃ q : Nat, x61 = (q : Int) := ⟨x61.toNat, by omega⟩
            have hqq : q < qs.length := by omega
            have hqq' : (q : Int) < qs.length := by omega
            go_wp2_with fail
            refine (oneD 3 HD.out (by omega)).mono ?_; rintro e w62 ⟨x62, rfl, hD, hg⟩
            replace HF := hide (HD.out.own HF.out hg (by decide))
            replace HO := hide (HD.out.ownDs HO.out hg)
            replace HD := hide hD; clear hD hg
            cases x62 with
            | true =>
              go_wp2_with fail
              go_round
              case measure => (first | (simp [intOf]; done) | (simp [intOf] <;> omega))
              case rel => exact ⟨n + 1, qs, by go_num, by omega, hql, fun r hr => by have := HQX.out r hr; omega, HO.out, HF.out, HD.out.le (by omega)⟩
            | false =>
              have hbd := (Below.refl w62.heap.size w62).drew
              have HOd := hide (HO.out.below hbd); have HFd := hide (HF.out.below hbd); have HDd := hide (HD.out.below hbd)
              obtain ⟨A6, cap6, he6, hr6, _, _⟩ := HO.out.spine.is
              injection he6 with e1 e2 e3; subst e1 e3; clear e2
              obtain ⟨b6, off6, rfl, _, c0, c1, c2, c3, c4⟩ := SDr.cells hr6 hqq (Below.refl _ _)
              clear c0 c1 c2 c3
              obtain ⟨A5, cap5, he5, hr5, _, _⟩ := HF.out.is
              injection he5 with e1 e2 e3; subst e1 e3; clear e2
              obtain ⟨b5, off5, rfl, _, d0, d1, d2, d3⟩ := SFlat.cells hr5 hnf (Below.refl _ _)
              clear d1 d2 d3
              have hok := HOd.out.ok _ (List.getElem_mem hqq)
              have hx6 := HQX.out _ (List.getElem_mem hqq)
              have hpt := l1Put_any qs[q].A qs[q].cap qs[q].xs fs[n].ident w62.drew hok.1 (by omega) hok.2.1 hok.2.2
              have hple := putL_le qs[q].xs fs[n].ident
              generalize putL qs[q].xs fs[n].ident = pl at *
              generalize fs[n].ident = fid at *
              generalize hrq : qs[q] = rq at *
              clear hrq
              obtain ⟨r0, r1, r2, r3, rA, rxs, rcap⟩ := rq
              simp only at *
              have HPT := hide hpt; clear hpt hok hr5 hr6
              go_upto_region 19 with fail
              go_region_with (first | (go_at_call 116; refine HPT.out.mono ?_; rintro e w80 ⟨r80, rfl, h80, hb80⟩; have HOe := hide (HOd.out.below hb80); have HFe := hide (HFd.out.below hb80); have HDe := hide (HDd.out.below hb80); have H80 := hide h80; clear hb80 h80) | (go_at_call 115; refine (l5WithD _ (qs.map SDr.pl) (q : Int) _ _ _ HOe.out.isD H80.out (by omega) (by simp; omega) (fun d hd => by obtain ⟨r, hr, rfl⟩ := List.mem_map.1 hd; have := HQX.out r hr; show r.xs.length ≤ 1000; omega)).mono ?_; rintro e w81 ⟨r81, rfl, hb81, qs2, hqm, hown⟩; have HFg := hide (HFe.out.below hb81); have HOg := hide (HOe.out.below hb81); have HDg := hide (HDe.out.below hb81); have HNg := hide (hown.mono (lo' := w.heap.size) HDe.out.gr.size); have HQM := hide hqm; clear hb81 hown hqm))
              all_goals
                have hql2 : qs2.length ≤ 9 := by have := congrArg List.length HQM.out; simp [setFl_len] at this; omega
                have hqx2 : ∀ r ∈ qs2, r.xs.length ≤ n + 1 := by
                  intro r hr
                  have hm : r.pl ∈ setFl (qs.map SDr.pl) (q : Int) pl := by rw [← HQM.out]; exact List.mem_map.2 ⟨r, hr, rfl⟩
                  have hm2 : r.pl.fl = pl ∨ r.pl ∈ qs.map SDr.pl := by
                    obtain ⟨i, hi, he⟩ := List.mem_iff_getElem.1 hm
                    have hi2 : i < (qs.map SDr.pl).length := by rw [setFl_len] at hi; exact hi
                    rw [setFl_get hi2] at he
                    split at he
                    · exact .inl (by rw [← he])
                    · exact .inr (by rw [← he]; exact List.getElem_mem hi2)
                  rcases hm2 with h | h
                  · have : r.xs = pl := h
                    rw [this]; omega
                  · obtain ⟨r2, hr2, he⟩ := List.mem_map.1 h
                    have h3 := HQX.out r2 hr2
                    have h4 : r2.xs.length = r.xs.length := congrArg (fun d : DrV => d.fl.length) he
                    omega
                have HQX2 := hide hqx2; clear hqx2
                have HD := HDg
                obtain ⟨A20, c20, rfl, _, _, _⟩ := HNg.out.spine.is
                go_wp2_with fail
                refine (l5Good_any _ _ fs (qs2.map SDr.pl) w81 HFg.out.is HNg.out.isD HFIT.out).mono ?_; rintro e w82 ⟨rfl, hb⟩
                replace HFg := hide (HFg.out.below hb); replace HOg := hide (HOg.out.below hb); replace HNg := hide (HNg.out.below hb); replace HD := hide (HD.out.below hb); clear hb
                cases goodDs fs (qs2.map SDr.pl) with
                | true =>
                  go_wp2_with fail
                  go_round
                  case measure => (first | (simp [intOf]; done) | (simp [intOf] <;> omega))
                  case rel => exact ⟨n + 1, qs2, by go_num, by omega, hql2, HQX2.out, HNg.out, HFg.out, HD.out.le (by omega)⟩
                | false =>
                  go_wp2_with fail
                  refine (oneD 80 HD.out (by omega)).mono ?_; rintro e w83 ⟨x83, rfl, hD, hg⟩
                  replace HFg := hide (HD.out.own HFg.out hg (by decide))
                  replace HOg := hide (HD.out.ownDs HOg.out hg)
                  replace HNg := hide (HD.out.ownDs HNg.out hg)
                  replace HD := hide hD; clear hD hg
                  cases x83 with
                  | false =>
                    go_wp2_with fail
                    go_round
                    case measure => (first | (simp [intOf]; done) | (simp [intOf] <;> omega))
                    case rel => exact ⟨n + 1, qs, by go_num, by omega, hql, fun r hr => by have := HQX.out r hr; omega, HOg.out, HFg.out, HD.out.le (by omega)⟩
                  | true =>
                    go_wp2_with fail
                    go_round
                    case measure => (first | (simp [intOf]; done) | (simp [intOf] <;> omega))
                    case rel => exact ⟨n + 1, qs2, by go_num, by omega, hql2, HQX2.out, HNg.out, HFg.out, HD.out.le (by omega)⟩
        case rest =>
          obtain ⟨qs, hql, ho, hD⟩ := hcut
          clear HO HD HF HQX
          generalize wc = w90 at *
          obtain ⟨A8, cap8, rfl, _, hc8, hm8⟩ := ho.spine.is
          have HO := hide ho; have HD := hide hD; clear ho hD
          go_wp2_with fail
          refine (oneD 40 HD.out (by omega)).mono ?_; rintro e w91 ⟨x91, rfl, hD, hg⟩
          replace HO := hide (HD.out.ownDs HO.out hg)
          replace HD := hide hD; clear hD hg
          cases x91 with
          | false =>
            go_wp2_with fail
            go_ret
            exact ⟨_, qs, rfl, hql, HO.out, ⟨(HD.out.le (by omega)).cur, grownTrans HD0.out.gr HD.out.gr, HD0.out.hb⟩, HD.out.gr⟩
          | true =>
            by_cases hq1 : (1 : Int) < qs.length
            case neg =>
              go_wp2_with fail
              go_ret
              exact ⟨_, qs, rfl, hql, HO.out, ⟨(HD.out.le (by omega)).cur, grownTrans HD0.out.gr HD.out.gr, HD0.out.hb⟩, HD.out.gr⟩
            have hql1 : 1 < qs.length := by omega
            obtain ⟨g8, c8, cs8, he8, _⟩ := own_blk5 HO.out.spine (by omega)
            injection he8 with e1 e2 e3; subst e1 e3
            clear e2
            obtain ⟨A6, cap6, he6, hr6, _, _⟩ := HO.out.spine.is
            injection he6 with e1 e2 e3; subst e1 e3; clear e2
            obtain ⟨b6, off6, he7, hg8, c0, c1, c2, c3, c4⟩ := SDr.cells hr6 (show 0 < qs.length by omega) (Below.refl _ _)
            injection he7 with he7; injection he7 with e1 e2; subst e1 e2
            have htk : qs.take 1 = [qs[0]] := by cases qs with | nil => simp at hql1 | cons a l => rfl
            have hq00 : (0 : Int) < qs.length := by omega
            generalize hy : qs[0] = yy at *
            clear hy
            obtain ⟨y0, y1, y2, y3, yA, yxs, yc⟩ := yy
            simp only [Nat.zero_mul, Nat.zero_add] at c0 c1 c2 c3 c4
            have hdl : (qs.drop 1).length = qs.length - 1 := List.length_drop
            have hszg : ∀ (W : World) (o : Obj), (W.alloc o).heap.size = W.heap.size + 1 := fun W o => by simp
            have hsrc := fun (W : World) (hW : Below w91.heap.size w91 W) => srcN (rowN_drop (hr6.below hW (Nat.le_refl _) hW.size) 1) (show 0 < 5 by omega)
            simp only [Nat.zero_add] at hsrc
            have ba1 := below_alloc w91 (.cells #[] 70)
            have ba := ba1.drew
            have bb1 := ba1.alloc ba1.size (.cells #[.int .i64 y0, .int .i64 y1, .int .i64 y2, .int .i64 y3, .slice yA yxs.length yc] 70)
            have bb := bb1.drew
            have bc0 := below_alloc w91 (.cells #[.int .i64 y0, .int .i64 y1, .int .i64 y2, .int .i64 y3, .slice yA yxs.length yc] 70)
            have bc1 := bc0.alloc bc0.size (.cells #[] 70)
            have bc := bc1.drew
            have hoa : Own 5 SDr.enc 70 (w91.alloc (.cells #[] 70)).drew w91.heap.size (.slice (some ⟨w91.heap.size, 0, none⟩) 0 0) [] := own_noneN 70 w91 (Nat.le_refl _)
            have hob : Own 5 SDr.enc 70 ((w91.alloc (.cells #[] 70)).alloc (.cells #[.int .i64 y0, .int .i64 y1, .int .i64 y2, .int .i64 y3, .slice yA yxs.length yc] 70)).drew w91.heap.size (.slice (some ⟨w91.heap.size, 0, none⟩) 0 0) [] := (own_noneN 70 w91 (Nat.le_refl _)).alloc (.cells #[.int .i64 y0, .int .i64 y1, .int .i64 y2, .int .i64 y3, .slice yA yxs.length yc] 70)
            have hoc : Own 5 SDr.enc 70 ((w91.alloc (.cells #[.int .i64 y0, .int .i64 y1, .int .i64 y2, .int .i64 y3, .slice yA yxs.length yc] 70)).alloc (.cells #[] 70)).drew w91.heap.size (.slice (some ⟨w91.heap.size + 1, 0, none⟩) 0 0) [] := by
              have := own_noneN (kk := 5) (enc := SDr.enc) 70 (w91.alloc (.cells #[.int .i64 y0, .int .i64 y1, .int .i64 y2, .int .i64 y3, .slice yA yxs.length yc] 70)) (Nat.le_refl _)
              rw [hszg] at this
              exact this.mono (Nat.le_succ _)
            have hnb := fun (w1 : World) (hg : (((w91.alloc (.cells #[] 70)).alloc (.cells #[.int .i64 y0, .int .i64 y1, .int .i64 y2, .int .i64 y3, .slice yA yxs.length yc] 70)).drew).grownBy w1 (Value.slice (some ⟨w91.heap.size, 0, none⟩) 0 0).ownBlock) => newN (w := ((w91.alloc (.cells #[] 70)).alloc (.cells #[.int .i64 y0, .int .i64 y1, .int .i64 y2, .int .i64 y3, .slice yA yxs.length yc] 70)).drew) (g2 := w91.heap.size) (g := w91.heap.size + 1) (kk := 5) (enc := SDr.enc) (ys := [⟨y0, y1, y2, y3, yA, yxs, yc⟩]) (by have := Blk.new (w91.alloc (.cells #[] 70)) 70 #[.int .i64 y0, .int .i64 y1, .int .i64 y2, .int .i64 y3, .slice yA yxs.length yc]; rw [hszg] at this; exact this) hg (by omega) rfl
            have hnc := fun (w1 : World) (hg : (((w91.alloc (.cells #[.int .i64 y0, .int .i64 y1, .int .i64 y2, .int .i64 y3, .slice yA yxs.length yc] 70)).alloc (.cells #[] 70)).drew).grownBy w1 (Value.slice (some ⟨w91.heap.size + 1, 0, none⟩) 0 0).ownBlock) => newN (w := ((w91.alloc (.cells #[.int .i64 y0, .int .i64 y1, .int .i64 y2, .int .i64 y3, .slice yA yxs.length yc] 70)).alloc (.cells #[] 70)).drew) (g2 := w91.heap.size + 1) (g := w91.heap.size) (kk := 5) (enc := SDr.enc) (ys := [⟨y0, y1, y2, y3, yA, yxs, yc⟩]) ((Blk.new w91 70 #[.int .i64 y0, .int .i64 y1, .int .i64 y2, .int .i64 y3, .slice yA yxs.length yc]).alloc (.cells #[] 70)) hg (by omega) rfl
            have HOA := hide hoa; have HOB := hide hob; have HOC := hide hoc; have BA := hide ba; have BB := hide bb; have BC := hide bc
            have HSRC := hide hsrc; have HNB := hide hnb; have HNC := hide hnc; have HDL := hide hdl; have HTK := hide htk
            clear hoa hob hoc ba ba1 bb bb1 bc bc0 bc1 hsrc hnb hnc hdl htk hszg hr6
            have hck : ¬ cap8 = 1 := by omega
            have hck2 : (1 : Int) ≤ (cap8 : Int) := by omega
            have hck3 : (1 : Int) ≤ (qs.length : Int) := by omega
            have hq01 : 0 < qs.length := by omega
            have hq02 : qs ≠ [] := List.ne_nil_of_length_pos hq01
            go_wp2_with fail
            go_region_held3 (fun w' => w'.cell? ⟨g8, 0, none⟩ = some (.int .i64 y0) ∧ w'.cell? ⟨g8, 1, none⟩ = some (.int .i64 y1) ∧ w'.cell? ⟨g8, 2, none⟩ = some (.int .i64 y2) ∧ w'.cell? ⟨g8, 3, none⟩ = some (.int .i64 y3) ∧ w'.cell? ⟨g8, 4, none⟩ = some (.slice yA yxs.length yc)) (go_keep)
              (first
                | (refine step_pushN (k := 5) (enc := SDr.enc) _ (by rfl) _ _ 58 (by rfl) 70 (.agg #[.int .i64 0, .int .i64 0, .int .i64 0, .int .i64 0, .slice none 0 0]) 56 Try.underlying58 SDr.info rfl (by omega) SDr.one w91.heap.size _ ([] : List _) (by rfl) HOA.out ⟨g8, 1 * 5, none⟩ (cap8 - 1) (qs.drop 1) (by rw [HDL.out]; rfl) (HSRC.out _ BA.out) (by rw [HDL.out]; simp; omega) (by rw [HDL.out]; simp; omega) BA.out.size BA.out (Nat.le_refl _) ?_; intro v11 w11 ho1 hb1 hg1; have hk1 : ∀ o, w11.cell? ⟨g8, o, none⟩ = w91.cell? ⟨g8, o, none⟩ := (fun o => hb1.cell (p := ⟨g8, o, none⟩) hg8); have HO1 := hide ho1; clear ho1 hg1)
                | (refine step_pushN (k := 5) (enc := SDr.enc) _ (by rfl) _ _ 58 (by rfl) 70 (.agg #[.int .i64 0, .int .i64 0, .int .i64 0, .int .i64 0, .slice none 0 0]) 56 Try.underlying58 SDr.info rfl (by omega) SDr.one w91.heap.size _ ([] : List _) (by rfl) HOB.out ⟨g8, 1 * 5, none⟩ (cap8 - 1) (qs.drop 1) (by rw [HDL.out]; rfl) (HSRC.out _ BB.out) (by rw [HDL.out]; simp; omega) (by rw [HDL.out]; simp; omega) BB.out.size BB.out (Nat.le_refl _) ?_; intro v11 w11 ho1 hb1 hg1; have hk1 : ∀ o, w11.cell? ⟨g8, o, none⟩ = w91.cell? ⟨g8, o, none⟩ := (fun o => hb1.cell (p := ⟨g8, o, none⟩) hg8); have HO1 := hide ho1; have HN := hide (HNB.out w11 hg1); clear ho1 hg1)
                | (refine step_pushN (k := 5) (enc := SDr.enc) _ (by rfl) _ _ 58 (by rfl) 70 (.agg #[.int .i64 0, .int .i64 0, .int .i64 0, .int .i64 0, .slice none 0 0]) 56 Try.underlying58 SDr.info rfl (by omega) SDr.one w91.heap.size _ ([] : List _) (by rfl) HOC.out ⟨g8, 1 * 5, none⟩ (cap8 - 1) (qs.drop 1) (by rw [HDL.out]; rfl) (HSRC.out _ BC.out) (by rw [HDL.out]; simp; omega) (by rw [HDL.out]; simp; omega) BC.out.size BC.out (Nat.le_refl _) ?_; intro v11 w11 ho1 hb1 hg1; have hk1 : ∀ o, w11.cell? ⟨g8, o, none⟩ = w91.cell? ⟨g8, o, none⟩ := (fun o => hb1.cell (p := ⟨g8, o, none⟩) hg8); have HO1 := hide ho1; have HN := hide (HNC.out w11 hg1); clear ho1 hg1)
                | (refine step_pushN (k := 5) (enc := SDr.enc) _ (by rfl) _ _ 58 (by rfl) 70 (.agg #[.int .i64 0, .int .i64 0, .int .i64 0, .int .i64 0, .slice none 0 0]) 56 Try.underlying58 SDr.info rfl (by omega) SDr.one w91.heap.size _ ([] ++ qs.drop 1) (by rfl) (HO1.out.alloc (.cells #[.int .i64 y0, .int .i64 y1, .int .i64 y2, .int .i64 y3, .slice yA yxs.length yc] 70)) ⟨w11.heap.size, 0, none⟩ 1 [⟨y0, y1, y2, y3, yA, yxs, yc⟩] (by rfl) (src_new w11 rfl) (by simp [HDL.out]; omega) (by simp [HDL.out]; omega) (hb1.alloc hb1.size (.cells #[.int .i64 y0, .int .i64 y1, .int .i64 y2, .int .i64 y3, .slice yA yxs.length yc] 70)).size (hb1.alloc hb1.size (.cells #[.int .i64 y0, .int .i64 y1, .int .i64 y2, .int .i64 y3, .slice yA yxs.length yc] 70)) (Nat.le_refl _) ?_; intro v12 w12 ho2 hb2 hg2; have hk2 : ∀ o, w12.cell? ⟨g8, o, none⟩ = w91.cell? ⟨g8, o, none⟩ := (fun o => hb2.cell (p := ⟨g8, o, none⟩) hg8); have HO2 := hide ho2; clear ho2 hg2)
                | (refine step_pushN (k := 5) (enc := SDr.enc) _ (by rfl) _ _ 58 (by rfl) 70 (.agg #[.int .i64 0, .int .i64 0, .int .i64 0, .int .i64 0, .slice none 0 0]) 56 Try.underlying58 SDr.info rfl (by omega) SDr.one w91.heap.size _ ([] ++ qs.drop 1) (by rfl) HO1.out ⟨w91.heap.size + 1, 0, none⟩ 1 [⟨y0, y1, y2, y3, yA, yxs, yc⟩] (by rfl) HN.out (by simp [HDL.out]; omega) (by simp [HDL.out]; omega) (hb1).size (hb1) (Nat.le_refl _) ?_; intro v12 w12 ho2 hb2 hg2; have hk2 : ∀ o, w12.cell? ⟨g8, o, none⟩ = w91.cell? ⟨g8, o, none⟩ := (fun o => hb2.cell (p := ⟨g8, o, none⟩) hg8); have HO2 := hide ho2; clear ho2 hg2)
                | (refine step_pushN (k := 5) (enc := SDr.enc) _ (by rfl) _ _ 58 (by rfl) 70 (.agg #[.int .i64 0, .int .i64 0, .int .i64 0, .int .i64 0, .slice none 0 0]) 56 Try.underlying58 SDr.info rfl (by omega) SDr.one w91.heap.size _ ([] ++ qs.drop 1) (by rfl) HO1.out ⟨w91.heap.size, 0, none⟩ 1 [⟨y0, y1, y2, y3, yA, yxs, yc⟩] (by rfl) HN.out (by simp [HDL.out]; omega) (by simp [HDL.out]; omega) (hb1).size (hb1) (Nat.le_refl _) ?_; intro v12 w12 ho2 hb2 hg2; have hk2 : ∀ o, w12.cell? ⟨g8, o, none⟩ = w91.cell? ⟨g8, o, none⟩ := (fun o => hb2.cell (p := ⟨g8, o, none⟩) hg8); have HO2 := hide ho2; clear ho2 hg2))
            all_goals
              have hrt := HO.out.rot hb2 (Nat.le_refl _) (by rw [HTK.out]; exact HO2.out.mono HD.out.gr.size)
              have HRT := hide hrt
              replace HD := hide (HD.out.below hb2)
              clear hrt
              go_wp2_with fail
              go_ret
              exact ⟨_, _, rfl, by simp; omega, HRT.out, ⟨(HD.out.le (by omega)).cur, grownTrans HD0.out.gr HD.out.gr, HD0.out.hb⟩, HD.out.gr⟩
end Go.Proofs.Ytdbcilinoieabaa
