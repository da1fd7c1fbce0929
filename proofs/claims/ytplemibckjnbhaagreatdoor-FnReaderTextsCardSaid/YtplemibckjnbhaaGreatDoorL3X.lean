/- Contract of ParseReader in spec: the Lean function parR. Condition: texts of at most 4000 bytes. (Printed by mkparse3.py.) -/
import Derived.Test.YtplemibckjnbhaaGreatDoorL3U
namespace Go.Proofs.YtplemibckjnbhaaGreatDoor
open Go.RowKit Go.Lib
set_option linter.unusedVariables false
set_option maxHeartbeats 8000000 in
theorem ParseReaderS_is (s : ByteArray) (w : World) (hs : s.size ≤ 4000) :
    Calls Tryz.prog 12 #[.string s] w fun e w' => e = .returned (.tuple #[.agg #[.int .i64 (parR s).1.ident, .string (parR s).1.name, .int .i64 (parR s).1.joined, .int .i64 (parR s).1.cls, .int .i64 (parR s).1.fines], .bool (parR s).2]) ∧ Below w.heap.size w w' := by
  have hbz := below_alloc w (.cells #[.int .i64 0, .string ⟨#[]⟩, .int .i64 0, .int .i64 0, .int .i64 0] 25)
  have hk := Blk.new w 25 #[.int .i64 0, .string ⟨#[]⟩, .int .i64 0, .int .i64 0, .int .i64 0]
  have hsz : w.heap.size < (w.alloc (.cells #[.int .i64 0, .string ⟨#[]⟩, .int .i64 0, .int .i64 0, .int .i64 0] 25)).heap.size := by simp
  have hle := split_le 32 s
  have hpar : parR s = if isRdS s (rdS (splitS 32 s)) then (rdS (splitS 32 s), true) else (⟨0, ⟨#[]⟩, 0, 0, 0⟩, false) := parR_S s
  have hno : ∀ z, (¬ s.size ≤ 60 ∨ ¬ ((splitS 32 s).getD 2 ⟨#[]⟩).size = 2) ∨ ((splitS 32 s).length ≠ 5 ∧ (splitS 32 s).length ≠ 7) ∨ z.okB = false ∨ rdT z ≠ s → isRdS s z = false := fun z h => by
    rw [Bool.eq_false_iff]
    intro hc
    have hd := hc
    unfold isRdS at hd
    rw [Bool.and_eq_true, Bool.and_eq_true, decide_eq_true_iff, decide_eq_true_iff, isRd_iff] at hd
    obtain ⟨g1, g2, h1, h2, h3⟩ := hd
    rcases h with (h | h) | h | h | h
    · exact h g1
    · exact h g2
    · omega
    · rw [h] at h2; cases h2
    · exact h h3
  have hyes : ∀ z, ((splitS 32 s).length = 5 ∨ (splitS 32 s).length = 7) → z.okB = true → rdT z = s → isRdS s z = true := fun z h1 h2 h3 => isRdS_iff.2 (isRd_iff.2 ⟨h1, h2, h3⟩)
  generalize parR s = pv at *
  generalize isRdS s = fsh at *
  generalize hw1 : w.alloc (.cells #[.int .i64 0, .string ⟨#[]⟩, .int .i64 0, .int .i64 0, .int .i64 0] 25) = w1 at *
  generalize hB : w.heap.size = B at *
  have HBZ := hide hbz; have HK := hide hk; have HLE := hide hle; have HPAR := hide hpar; have HNO := hide hno; have HYES := hide hyes
  clear hbz hk hle hpar hno hyes
  go_enter Tryz.func12, Tryz.ntmps12
  go_upto_region 1 with fail
  (try simp only [hB, hw1])
  clear hw1
  go_wp2_with fail
  refine (l1Split_is s 32 _ (by omega)).mono ?_; rintro e w2 ⟨v, rfl, ho, hb⟩
  have hs1 := hb.size
  replace HK := hide (HK.out.below hb hsz); replace HBZ := hide (HBZ.out.trans (hb.mono (by omega)))
  clear hb
  generalize splitS 32 s = ws at *
  have hwl := ho.is.len
  obtain ⟨A, cap, rfl, hr, _, _⟩ := ho.is
  have HR := hide hr; clear ho hr
  have hB2 : B ≤ w2.heap.size := by omega
  by_cases hK : ws.length = 5
  · obtain ⟨x0, x1, x2, x3, x4, rfl⟩ : ∃ x0 x1 x2 x3 x4, ws = [x0, x1, x2, x3, x4] := by
      match ws, hK with
      | [a, b, c, d, e], _ => exact ⟨a, b, c, d, e, rfl⟩
    obtain ⟨b, off, rfl, hbb, c0, c1, c2, c3, c4⟩ := strs5 HR.out
    have z0 := HLE.out x0 (by simp); have z1 := HLE.out x1 (by simp); have z2 := HLE.out x2 (by simp); have z3 := HLE.out x3 (by simp); have z4 := HLE.out x4 (by simp)
    have hS : ∀ W, Below w2.heap.size w2 W → W.cell? ⟨b, off, none⟩ = some (.string x0) ∧ W.cell? ⟨b, off + 1, none⟩ = some (.string x1) ∧ W.cell? ⟨b, off + 2, none⟩ = some (.string x2) ∧ W.cell? ⟨b, off + 3, none⟩ = some (.string x3) ∧ W.cell? ⟨b, off + 4, none⟩ = some (.string x4) := fun W h => by
      have up : ∀ o u, w2.cell? ⟨b, o, none⟩ = some u → W.cell? ⟨b, o, none⟩ = some u := fun o u hu => ((bcell h).1 b o hbb).trans hu
      exact ⟨up _ _ c0, up _ _ c1, up _ _ c2, up _ _ c3, up _ _ c4⟩
    have n0 : ∀ W, Calls Tryz.prog 58 #[.string x0] W fun e w' => e = .returned (.tuple #[.int .i64 (parseW x0).1, .bool (parseW x0).2]) ∧ Below W.heap.size W w' := fun W => l1Read_is x0 W (by omega)
    have n2 : ∀ W, Calls Tryz.prog 58 #[.string x4] W fun e w' => e = .returned (.tuple #[.int .i64 (parseW x4).1, .bool (parseW x4).2]) ∧ Below W.heap.size W w' := fun W => l1Read_is x4 W (by omega)
    have n3 : ∀ W, Calls Tryz.prog 58 #[.string (x2.extract 1 2)] W fun e w' => e = .returned (.tuple #[.int .i64 (parseW (x2.extract 1 2)).1, .bool (parseW (x2.extract 1 2)).2]) ∧ Below W.heap.size W w' := fun W => l1Read_is (x2.extract 1 2) W (by rw [ByteArray.size_extract]; omega)
    have hsh : rdS [x0, x1, x2, x3, x4] = ⟨(parseW x0).1, x1, (parseW x4).1, (parseW (x2.extract 1 x2.size)).1, 0⟩ := rfl
    have hpv := HPAR.out
    rw [hsh] at hpv
    have hpn0 := fun z h => HNO.out z (.inl h)
    have hpno := fun z h => HNO.out z (.inr (.inr h))
    have hpyes := fun z => HYES.out z (.inl rfl)
    have hx1 : x1.size ≤ 4000 := by omega
    have N0 := hide n0; have N2 := hide n2; have N3 := hide n3; clear n0 n2 n3
    have HS := hide hS; have HPV := hide hpv; have HPN0 := hide hpn0; have HPNO := hide hpno; have HPYES := hide hpyes; have HX1 := hide hx1
    clear hS HR hK HLE HPAR HNO HYES hsh hpv hpno hpn0 hpyes z0 z1 z2 z3 z4 hwl hx1
    by_cases h60 : s.size ≤ 60
    · have h60i : ¬ (60 : Int) < s.size := by omega
      by_cases h2 : x2.size = 2
      · rw [h2] at HPV
        generalize (parseW x0).1 = u0 at *; generalize (parseW x4).1 = u2 at *; generalize (parseW (x2.extract 1 2)).1 = u3 at *
        go_upto_region 5 with fail
        clear c0 c1 c2 c3 c4
        have hgb : w2.heap.size ≤ w2.heap.size := Nat.le_refl _
        have KB := Blk.new w2 25 #[.int .i64 0, .string x1, .int .i64 0, .int .i64 0, .int .i64 0]
        have KQ := below_alloc w2 (.cells #[.int .i64 0, .string x1, .int .i64 0, .int .i64 0, .int .i64 0] 25)
        generalize w2.alloc (.cells #[.int .i64 0, .string x1, .int .i64 0, .int .i64 0, .int .i64 0] 25) = w3 at *
        obtain ⟨gb, hgbe⟩ : ∃ gb, w2.heap.size = gb := ⟨_, rfl⟩
        rw [hgbe] at KB hgb ⊢
        replace hgb : w2.heap.size ≤ gb := by omega
        replace KB := (show Blk w3 gb 25 #[.int .i64 0, .string x1, .int .i64 0, .int .i64 0, .int .i64 0] from KB)
        obtain ⟨d0, d1, d2, d3, d4⟩ := HS.out _ KQ
        clear d1 d2 d3 d4
        obtain ⟨e0, e1, e2, e3, e4⟩ := mk5R KB
        have ef := fun o => KB.frozen o
        go_wp2_with fail
        refine (N0.out _).mono ?_; rintro e w4 ⟨rfl, hb⟩
        replace KB := KB.below hb KB.lt; replace KQ := bstep KQ hb KQ.size; clear hb d0 e0 e1 e2 e3 e4 ef
        obtain ⟨e0, e1, e2, e3, e4⟩ := mk5R KB
        have ef := fun o => KB.frozen o
        go_upto_region 6 with fail
        clear e0 e1 e2 e3 e4 ef
        replace KB := KB.set 0 (.int .i64 u0)
        replace KQ := Below.setCell (p := ⟨gb, 0, none⟩) KQ hgb (.int .i64 u0)
        generalize w4.setCell ⟨gb, 0, none⟩ (.int .i64 u0) = w5 at *
        replace KB := (show Blk w5 gb 25 #[.int .i64 u0, .string x1, .int .i64 0, .int .i64 0, .int .i64 0] from KB)
        obtain ⟨d0, d1, d2, d3, d4⟩ := HS.out _ KQ
        clear d0 d1 d3 d4
        obtain ⟨e0, e1, e2, e3, e4⟩ := mk5R KB
        have ef := fun o => KB.frozen o
        go_wp2_with fail
        refine (N3.out _).mono ?_; rintro e w6 ⟨rfl, hb⟩
        replace KB := KB.below hb KB.lt; replace KQ := bstep KQ hb KQ.size; clear hb d2 e0 e1 e2 e3 e4 ef
        obtain ⟨e0, e1, e2, e3, e4⟩ := mk5R KB
        have ef := fun o => KB.frozen o
        go_upto_region 7 with fail
        clear e0 e1 e2 e3 e4 ef
        replace KB := KB.set 3 (.int .i64 u3)
        replace KQ := Below.setCell (p := ⟨gb, 3, none⟩) KQ hgb (.int .i64 u3)
        generalize w6.setCell ⟨gb, 3, none⟩ (.int .i64 u3) = w7 at *
        replace KB := (show Blk w7 gb 25 #[.int .i64 u0, .string x1, .int .i64 0, .int .i64 u3, .int .i64 0] from KB)
        obtain ⟨d0, d1, d2, d3, d4⟩ := HS.out _ KQ
        clear d0 d1 d2 d3
        obtain ⟨e0, e1, e2, e3, e4⟩ := mk5R KB
        have ef := fun o => KB.frozen o
        go_wp2_with fail
        refine (N2.out _).mono ?_; rintro e w8 ⟨rfl, hb⟩
        replace KB := KB.below hb KB.lt; replace KQ := bstep KQ hb KQ.size; clear hb d4 e0 e1 e2 e3 e4 ef
        obtain ⟨e0, e1, e2, e3, e4⟩ := mk5R KB
        have ef := fun o => KB.frozen o
        go_upto_region 8 with fail
        clear e0 e1 e2 e3 e4 ef
        replace KB := KB.set 2 (.int .i64 u2)
        replace KQ := Below.setCell (p := ⟨gb, 2, none⟩) KQ hgb (.int .i64 u2)
        generalize w8.setCell ⟨gb, 2, none⟩ (.int .i64 u2) = w9 at *
        replace KB := (show Blk w9 gb 25 #[.int .i64 u0, .string x1, .int .i64 u2, .int .i64 u3, .int .i64 0] from KB)
        obtain ⟨e0, e1, e2, e3, e4⟩ := mk5R KB
        have ct := fun W => l3One_any u0 x1 u2 u3 0 W (by have := HX1.out; omega)
        cases hok : SReader.okB ⟨u0, x1, u2, u3, 0⟩ with
        | true =>
          have hbd := okR_small hok
          have hn1 := wordB_size (SReader.okB_iff.1 hok).2.2.1
          simp only at hbd hn1
          have cx := fun W => l3Text_is u0 x1 u2 u3 0 W (by omega) (by omega) (by omega) (by omega) (by omega)
          rw [hok] at ct
          by_cases hst : rdT ⟨u0, x1, u2, u3, 0⟩ = s
          · have hpv := HPV.out
            rw [if_pos (HPYES.out _ hok hst)] at hpv
            have HPVV := hide hpv
            rw [hst] at cx
            have hne : (s.toList == s.toList) = true := by simp
            have CT := hide ct; have CX := hide cx
            clear hpv ct cx hok hst hbd hn1 HPV HPNO HPYES
            go_wp2_with fail
            refine (CT.out _).mono ?_; rintro e w20 ⟨rfl, hb⟩
            replace KB := KB.below hb KB.lt; replace KQ := bstep KQ hb KQ.size
            clear hb e0 e1 e2 e3 e4
            obtain ⟨e0, e1, e2, e3, e4⟩ := mk5R KB
            go_wp2_with fail
            refine (CX.out _).mono ?_; rintro e w21 ⟨rfl, hb⟩
            replace KB := KB.below hb KB.lt; replace KQ := bstep KQ hb KQ.size
            clear hb e0 e1 e2 e3 e4
            obtain ⟨e0, e1, e2, e3, e4⟩ := mk5R KB
            clear KB
            have K1 := HK.out.below KQ HK.out.lt
            obtain ⟨r0, r1, r2, r3, r4⟩ := mk5R K1
            have rf := fun o => K1.frozen o
            have HK1 := hide K1; clear K1
            go_wp2_with fail
            have hF := ((((HK1.out.set 0 (.int .i64 u0)).set 1 (.string x1)).set 2 (.int .i64 u2)).set 3 (.int .i64 u3)).set 4 (.int .i64 0)
            have f0 := hF.cell 0; have f1 := hF.cell 1; have f2 := hF.cell 2; have f3 := hF.cell 3; have f4 := hF.cell 4
            simp at f0 f1 f2 f3 f4
            exact bodyPost_ret (v := .tuple #[.agg #[.int .i64 u0, .string x1, .int .i64 u2, .int .i64 u3, .int .i64 0], .bool true]) (by simp [results, Tryz.results12, go_sem, f0, f1, f2, f3, f4]) rfl ⟨by rw [HPVV.out], below5R (HBZ.out.trans (Below.mono KQ hB2)) (Nat.le_refl _) _ _ _ _ _⟩
          · have hpv := HPV.out
            rw [if_neg (by rw [HPNO.out _ (.inr hst)]; simp)] at hpv
            have HPVV := hide hpv
            have hne : ((rdT ⟨u0, x1, u2, u3, 0⟩).toList == s.toList) = false := by
              simp only [beq_eq_false_iff_ne, ne_eq]
              intro h
              exact hst (bytes_ext (by simpa [ByteArray.toList_eq] using h))
            generalize rdT ⟨u0, x1, u2, u3, 0⟩ = tx at *
            have CT := hide ct; have CX := hide cx
            clear hpv ct cx hok hst hbd hn1 HPV HPNO HPYES
            go_wp2_with fail
            refine (CT.out _).mono ?_; rintro e w20 ⟨rfl, hb⟩
            replace KB := KB.below hb KB.lt; replace KQ := bstep KQ hb KQ.size
            clear hb e0 e1 e2 e3 e4
            obtain ⟨e0, e1, e2, e3, e4⟩ := mk5R KB
            go_wp2_with fail
            refine (CX.out _).mono ?_; rintro e w21 ⟨rfl, hb⟩
            replace KB := KB.below hb KB.lt; replace KQ := bstep KQ hb KQ.size
            clear hb e0 e1 e2 e3 e4
            obtain ⟨e0, e1, e2, e3, e4⟩ := mk5R KB
            clear KB
            have K1 := HK.out.below KQ HK.out.lt
            obtain ⟨r0, r1, r2, r3, r4⟩ := mk5R K1
            have rf := fun o => K1.frozen o
            have HK1 := hide K1; clear K1
            go_wp2_with fail
            have hF := ((((HK1.out.set 0 (.int .i64 0)).set 1 (.string ⟨#[]⟩)).set 2 (.int .i64 0)).set 3 (.int .i64 0)).set 4 (.int .i64 0)
            have f0 := hF.cell 0; have f1 := hF.cell 1; have f2 := hF.cell 2; have f3 := hF.cell 3; have f4 := hF.cell 4
            simp at f0 f1 f2 f3 f4
            exact bodyPost_ret (v := .tuple #[.agg #[.int .i64 0, .string ⟨#[]⟩, .int .i64 0, .int .i64 0, .int .i64 0], .bool false]) (by simp [results, Tryz.results12, go_sem, f0, f1, f2, f3, f4]) rfl ⟨by rw [HPVV.out], below5R (HBZ.out.trans (Below.mono KQ hB2)) (Nat.le_refl _) _ _ _ _ _⟩
        | false =>
          rw [hok] at ct
          have hpv := HPV.out
          rw [if_neg (by rw [HPNO.out _ (.inl hok)]; simp)] at hpv
          have HPVV := hide hpv
          have CT := hide ct
          clear hpv ct hok HPV HPNO HPYES
          go_wp2_with fail
          refine (CT.out _).mono ?_; rintro e w20 ⟨rfl, hb⟩
          replace KB := KB.below hb KB.lt; replace KQ := bstep KQ hb KQ.size
          clear hb e0 e1 e2 e3 e4
          obtain ⟨e0, e1, e2, e3, e4⟩ := mk5R KB
          clear KB
          have K1 := HK.out.below KQ HK.out.lt
          obtain ⟨r0, r1, r2, r3, r4⟩ := mk5R K1
          have rf := fun o => K1.frozen o
          have HK1 := hide K1; clear K1
          go_wp2_with fail
          have hF := ((((HK1.out.set 0 (.int .i64 0)).set 1 (.string ⟨#[]⟩)).set 2 (.int .i64 0)).set 3 (.int .i64 0)).set 4 (.int .i64 0)
          have f0 := hF.cell 0; have f1 := hF.cell 1; have f2 := hF.cell 2; have f3 := hF.cell 3; have f4 := hF.cell 4
          simp at f0 f1 f2 f3 f4
          exact bodyPost_ret (v := .tuple #[.agg #[.int .i64 0, .string ⟨#[]⟩, .int .i64 0, .int .i64 0, .int .i64 0], .bool false]) (by simp [results, Tryz.results12, go_sem, f0, f1, f2, f3, f4]) rfl ⟨by rw [HPVV.out], below5R (HBZ.out.trans (Below.mono KQ hB2)) (Nat.le_refl _) _ _ _ _ _⟩
      · have hne2 : ((x2.size : Int) != 2) = true := by simp only [bne_iff_ne, ne_eq]; omega
        have hpv := HPV.out
        rw [if_neg (by rw [HPN0.out _ (.inr h2)]; simp)] at hpv
        have HPVV := hide hpv
        clear hpv HPV HPN0 HPNO HPYES
        have K1 := HK.out
        obtain ⟨r0, r1, r2, r3, r4⟩ := mk5R K1
        have rf := fun o => K1.frozen o
        have HK1 := hide K1; clear K1
        go_wp2_with fail
        have hF := ((((HK1.out.set 0 (.int .i64 0)).set 1 (.string ⟨#[]⟩)).set 2 (.int .i64 0)).set 3 (.int .i64 0)).set 4 (.int .i64 0)
        have f0 := hF.cell 0; have f1 := hF.cell 1; have f2 := hF.cell 2; have f3 := hF.cell 3; have f4 := hF.cell 4
        simp at f0 f1 f2 f3 f4
        exact bodyPost_ret (v := .tuple #[.agg #[.int .i64 0, .string ⟨#[]⟩, .int .i64 0, .int .i64 0, .int .i64 0], .bool false]) (by simp [results, Tryz.results12, go_sem, f0, f1, f2, f3, f4]) rfl ⟨by rw [HPVV.out], below5R (HBZ.out) (Nat.le_refl _) _ _ _ _ _⟩
    · have h60i : (60 : Int) < s.size := by omega
      have hpv := HPV.out
      rw [if_neg (by rw [HPN0.out _ (.inl h60)]; simp)] at hpv
      have HPVV := hide hpv
      clear hpv HPV HPN0 HPNO HPYES
      have K1 := HK.out
      obtain ⟨r0, r1, r2, r3, r4⟩ := mk5R K1
      have rf := fun o => K1.frozen o
      have HK1 := hide K1; clear K1
      go_wp2_with fail
      have hF := ((((HK1.out.set 0 (.int .i64 0)).set 1 (.string ⟨#[]⟩)).set 2 (.int .i64 0)).set 3 (.int .i64 0)).set 4 (.int .i64 0)
      have f0 := hF.cell 0; have f1 := hF.cell 1; have f2 := hF.cell 2; have f3 := hF.cell 3; have f4 := hF.cell 4
      simp at f0 f1 f2 f3 f4
      exact bodyPost_ret (v := .tuple #[.agg #[.int .i64 0, .string ⟨#[]⟩, .int .i64 0, .int .i64 0, .int .i64 0], .bool false]) (by simp [results, Tryz.results12, go_sem, f0, f1, f2, f3, f4]) rfl ⟨by rw [HPVV.out], below5R (HBZ.out) (Nat.le_refl _) _ _ _ _ _⟩
  · have hK5 := hK; clear hK
    by_cases hK : ws.length = 7
    · clear hK5
      obtain ⟨x0, x1, x2, x3, x4, x5, x6, rfl⟩ : ∃ x0 x1 x2 x3 x4 x5 x6, ws = [x0, x1, x2, x3, x4, x5, x6] := by
        match ws, hK with
        | [a, b, c, d, e, f, g], _ => exact ⟨a, b, c, d, e, f, g, rfl⟩
      obtain ⟨b, off, rfl, hbb, c0, c1, c2, c3, c4, c5, c6⟩ := strs7 HR.out
      have z0 := HLE.out x0 (by simp); have z1 := HLE.out x1 (by simp); have z2 := HLE.out x2 (by simp); have z3 := HLE.out x3 (by simp); have z4 := HLE.out x4 (by simp); have z5 := HLE.out x5 (by simp); have z6 := HLE.out x6 (by simp)
      have hS : ∀ W, Below w2.heap.size w2 W → W.cell? ⟨b, off, none⟩ = some (.string x0) ∧ W.cell? ⟨b, off + 1, none⟩ = some (.string x1) ∧ W.cell? ⟨b, off + 2, none⟩ = some (.string x2) ∧ W.cell? ⟨b, off + 3, none⟩ = some (.string x3) ∧ W.cell? ⟨b, off + 4, none⟩ = some (.string x4) ∧ W.cell? ⟨b, off + 5, none⟩ = some (.string x5) ∧ W.cell? ⟨b, off + 6, none⟩ = some (.string x6) := fun W h => by
        have up : ∀ o u, w2.cell? ⟨b, o, none⟩ = some u → W.cell? ⟨b, o, none⟩ = some u := fun o u hu => ((bcell h).1 b o hbb).trans hu
        exact ⟨up _ _ c0, up _ _ c1, up _ _ c2, up _ _ c3, up _ _ c4, up _ _ c5, up _ _ c6⟩
      have n0 : ∀ W, Calls Tryz.prog 58 #[.string x0] W fun e w' => e = .returned (.tuple #[.int .i64 (parseW x0).1, .bool (parseW x0).2]) ∧ Below W.heap.size W w' := fun W => l1Read_is x0 W (by omega)
      have n2 : ∀ W, Calls Tryz.prog 58 #[.string x4] W fun e w' => e = .returned (.tuple #[.int .i64 (parseW x4).1, .bool (parseW x4).2]) ∧ Below W.heap.size W w' := fun W => l1Read_is x4 W (by omega)
      have n3 : ∀ W, Calls Tryz.prog 58 #[.string (x2.extract 1 2)] W fun e w' => e = .returned (.tuple #[.int .i64 (parseW (x2.extract 1 2)).1, .bool (parseW (x2.extract 1 2)).2]) ∧ Below W.heap.size W w' := fun W => l1Read_is (x2.extract 1 2) W (by rw [ByteArray.size_extract]; omega)
      have n4 : ∀ W, Calls Tryz.prog 58 #[.string x6] W fun e w' => e = .returned (.tuple #[.int .i64 (parseW x6).1, .bool (parseW x6).2]) ∧ Below W.heap.size W w' := fun W => l1Read_is x6 W (by omega)
      have hsh : rdS [x0, x1, x2, x3, x4, x5, x6] = ⟨(parseW x0).1, x1, (parseW x4).1, (parseW (x2.extract 1 x2.size)).1, (parseW x6).1⟩ := rfl
      have hpv := HPAR.out
      rw [hsh] at hpv
      have hpn0 := fun z h => HNO.out z (.inl h)
      have hpno := fun z h => HNO.out z (.inr (.inr h))
      have hpyes := fun z => HYES.out z (.inr rfl)
      have hx1 : x1.size ≤ 4000 := by omega
      have N0 := hide n0; have N2 := hide n2; have N3 := hide n3; clear n0 n2 n3
      have N4 := hide n4; clear n4
      have HS := hide hS; have HPV := hide hpv; have HPN0 := hide hpn0; have HPNO := hide hpno; have HPYES := hide hpyes; have HX1 := hide hx1
      clear hS HR hK HLE HPAR HNO HYES hsh hpv hpno hpn0 hpyes z0 z1 z2 z3 z4 z5 z6 hwl hx1
      by_cases h60 : s.size ≤ 60
      · have h60i : ¬ (60 : Int) < s.size := by omega
        by_cases h2 : x2.size = 2
        · rw [h2] at HPV
          generalize (parseW x0).1 = u0 at *; generalize (parseW x4).1 = u2 at *; generalize (parseW (x2.extract 1 2)).1 = u3 at *; generalize (parseW x6).1 = u4 at *
          go_upto_region 5 with fail
          clear c0 c1 c2 c3 c4 c5 c6
          have hgb : w2.heap.size ≤ w2.heap.size := Nat.le_refl _
          have KB := Blk.new w2 25 #[.int .i64 0, .string x1, .int .i64 0, .int .i64 0, .int .i64 0]
          have KQ := below_alloc w2 (.cells #[.int .i64 0, .string x1, .int .i64 0, .int .i64 0, .int .i64 0] 25)
          generalize w2.alloc (.cells #[.int .i64 0, .string x1, .int .i64 0, .int .i64 0, .int .i64 0] 25) = w3 at *
          obtain ⟨gb, hgbe⟩ : ∃ gb, w2.heap.size = gb := ⟨_, rfl⟩
          rw [hgbe] at KB hgb ⊢
          replace hgb : w2.heap.size ≤ gb := by omega
          replace KB := (show Blk w3 gb 25 #[.int .i64 0, .string x1, .int .i64 0, .int .i64 0, .int .i64 0] from KB)
          obtain ⟨d0, d1, d2, d3, d4, d5, d6⟩ := HS.out _ KQ
          clear d1 d2 d3 d4 d5 d6
          obtain ⟨e0, e1, e2, e3, e4⟩ := mk5R KB
          have ef := fun o => KB.frozen o
          go_wp2_with fail
          refine (N0.out _).mono ?_; rintro e w4 ⟨rfl, hb⟩
          replace KB := KB.below hb KB.lt; replace KQ := bstep KQ hb KQ.size; clear hb d0 e0 e1 e2 e3 e4 ef
          obtain ⟨e0, e1, e2, e3, e4⟩ := mk5R KB
          have ef := fun o => KB.frozen o
          go_upto_region 6 with fail
          clear e0 e1 e2 e3 e4 ef
          replace KB := KB.set 0 (.int .i64 u0)
          replace KQ := Below.setCell (p := ⟨gb, 0, none⟩) KQ hgb (.int .i64 u0)
          generalize w4.setCell ⟨gb, 0, none⟩ (.int .i64 u0) = w5 at *
          replace KB := (show Blk w5 gb 25 #[.int .i64 u0, .string x1, .int .i64 0, .int .i64 0, .int .i64 0] from KB)
          obtain ⟨d0, d1, d2, d3, d4, d5, d6⟩ := HS.out _ KQ
          clear d0 d1 d3 d4 d5 d6
          obtain ⟨e0, e1, e2, e3, e4⟩ := mk5R KB
          have ef := fun o => KB.frozen o
          go_wp2_with fail
          refine (N3.out _).mono ?_; rintro e w6 ⟨rfl, hb⟩
          replace KB := KB.below hb KB.lt; replace KQ := bstep KQ hb KQ.size; clear hb d2 e0 e1 e2 e3 e4 ef
          obtain ⟨e0, e1, e2, e3, e4⟩ := mk5R KB
          have ef := fun o => KB.frozen o
          go_upto_region 7 with fail
          clear e0 e1 e2 e3 e4 ef
          replace KB := KB.set 3 (.int .i64 u3)
          replace KQ := Below.setCell (p := ⟨gb, 3, none⟩) KQ hgb (.int .i64 u3)
          generalize w6.setCell ⟨gb, 3, none⟩ (.int .i64 u3) = w7 at *
          replace KB := (show Blk w7 gb 25 #[.int .i64 u0, .string x1, .int .i64 0, .int .i64 u3, .int .i64 0] from KB)
          obtain ⟨d0, d1, d2, d3, d4, d5, d6⟩ := HS.out _ KQ
          clear d0 d1 d2 d3 d5 d6
          obtain ⟨e0, e1, e2, e3, e4⟩ := mk5R KB
          have ef := fun o => KB.frozen o
          go_wp2_with fail
          refine (N2.out _).mono ?_; rintro e w8 ⟨rfl, hb⟩
          replace KB := KB.below hb KB.lt; replace KQ := bstep KQ hb KQ.size; clear hb d4 e0 e1 e2 e3 e4 ef
          obtain ⟨e0, e1, e2, e3, e4⟩ := mk5R KB
          have ef := fun o => KB.frozen o
          go_upto_region 8 with fail
          clear e0 e1 e2 e3 e4 ef
          replace KB := KB.set 2 (.int .i64 u2)
          replace KQ := Below.setCell (p := ⟨gb, 2, none⟩) KQ hgb (.int .i64 u2)
          generalize w8.setCell ⟨gb, 2, none⟩ (.int .i64 u2) = w9 at *
          replace KB := (show Blk w9 gb 25 #[.int .i64 u0, .string x1, .int .i64 u2, .int .i64 u3, .int .i64 0] from KB)
          obtain ⟨d0, d1, d2, d3, d4, d5, d6⟩ := HS.out _ KQ
          clear d0 d1 d2 d3 d4 d5
          obtain ⟨e0, e1, e2, e3, e4⟩ := mk5R KB
          have ef := fun o => KB.frozen o
          go_wp2_with fail
          refine (N4.out _).mono ?_; rintro e w10 ⟨rfl, hb⟩
          replace KB := KB.below hb KB.lt; replace KQ := bstep KQ hb KQ.size; clear hb d6 e0 e1 e2 e3 e4 ef
          obtain ⟨e0, e1, e2, e3, e4⟩ := mk5R KB
          have ef := fun o => KB.frozen o
          go_upto_region 10 with fail
          clear e0 e1 e2 e3 e4 ef
          replace KB := KB.set 4 (.int .i64 u4)
          replace KQ := Below.setCell (p := ⟨gb, 4, none⟩) KQ hgb (.int .i64 u4)
          generalize w10.setCell ⟨gb, 4, none⟩ (.int .i64 u4) = w11 at *
          replace KB := (show Blk w11 gb 25 #[.int .i64 u0, .string x1, .int .i64 u2, .int .i64 u3, .int .i64 u4] from KB)
          obtain ⟨e0, e1, e2, e3, e4⟩ := mk5R KB
          have ct := fun W => l3One_any u0 x1 u2 u3 u4 W (by have := HX1.out; omega)
          cases hok : SReader.okB ⟨u0, x1, u2, u3, u4⟩ with
          | true =>
            have hbd := okR_small hok
            have hn1 := wordB_size (SReader.okB_iff.1 hok).2.2.1
            simp only at hbd hn1
            have cx := fun W => l3Text_is u0 x1 u2 u3 u4 W (by omega) (by omega) (by omega) (by omega) (by omega)
            rw [hok] at ct
            by_cases hst : rdT ⟨u0, x1, u2, u3, u4⟩ = s
            · have hpv := HPV.out
              rw [if_pos (HPYES.out _ hok hst)] at hpv
              have HPVV := hide hpv
              rw [hst] at cx
              have hne : (s.toList == s.toList) = true := by simp
              have CT := hide ct; have CX := hide cx
              clear hpv ct cx hok hst hbd hn1 HPV HPNO HPYES
              go_wp2_with fail
              refine (CT.out _).mono ?_; rintro e w20 ⟨rfl, hb⟩
              replace KB := KB.below hb KB.lt; replace KQ := bstep KQ hb KQ.size
              clear hb e0 e1 e2 e3 e4
              obtain ⟨e0, e1, e2, e3, e4⟩ := mk5R KB
              go_wp2_with fail
              refine (CX.out _).mono ?_; rintro e w21 ⟨rfl, hb⟩
              replace KB := KB.below hb KB.lt; replace KQ := bstep KQ hb KQ.size
              clear hb e0 e1 e2 e3 e4
              obtain ⟨e0, e1, e2, e3, e4⟩ := mk5R KB
              clear KB
              have K1 := HK.out.below KQ HK.out.lt
              obtain ⟨r0, r1, r2, r3, r4⟩ := mk5R K1
              have rf := fun o => K1.frozen o
              have HK1 := hide K1; clear K1
              go_wp2_with fail
              have hF := ((((HK1.out.set 0 (.int .i64 u0)).set 1 (.string x1)).set 2 (.int .i64 u2)).set 3 (.int .i64 u3)).set 4 (.int .i64 u4)
              have f0 := hF.cell 0; have f1 := hF.cell 1; have f2 := hF.cell 2; have f3 := hF.cell 3; have f4 := hF.cell 4
              simp at f0 f1 f2 f3 f4
              exact bodyPost_ret (v := .tuple #[.agg #[.int .i64 u0, .string x1, .int .i64 u2, .int .i64 u3, .int .i64 u4], .bool true]) (by simp [results, Tryz.results12, go_sem, f0, f1, f2, f3, f4]) rfl ⟨by rw [HPVV.out], below5R (HBZ.out.trans (Below.mono KQ hB2)) (Nat.le_refl _) _ _ _ _ _⟩
            · have hpv := HPV.out
              rw [if_neg (by rw [HPNO.out _ (.inr hst)]; simp)] at hpv
              have HPVV := hide hpv
              have hne : ((rdT ⟨u0, x1, u2, u3, u4⟩).toList == s.toList) = false := by
                simp only [beq_eq_false_iff_ne, ne_eq]
                intro h
                exact hst (bytes_ext (by simpa [ByteArray.toList_eq] using h))
              generalize rdT ⟨u0, x1, u2, u3, u4⟩ = tx at *
              have CT := hide ct; have CX := hide cx
              clear hpv ct cx hok hst hbd hn1 HPV HPNO HPYES
              go_wp2_with fail
              refine (CT.out _).mono ?_; rintro e w20 ⟨rfl, hb⟩
              replace KB := KB.below hb KB.lt; replace KQ := bstep KQ hb KQ.size
              clear hb e0 e1 e2 e3 e4
              obtain ⟨e0, e1, e2, e3, e4⟩ := mk5R KB
              go_wp2_with fail
              refine (CX.out _).mono ?_; rintro e w21 ⟨rfl, hb⟩
              replace KB := KB.below hb KB.lt; replace KQ := bstep KQ hb KQ.size
              clear hb e0 e1 e2 e3 e4
              obtain ⟨e0, e1, e2, e3, e4⟩ := mk5R KB
              clear KB
              have K1 := HK.out.below KQ HK.out.lt
              obtain ⟨r0, r1, r2, r3, r4⟩ := mk5R K1
              have rf := fun o => K1.frozen o
              have HK1 := hide K1; clear K1
              go_wp2_with fail
              have hF := ((((HK1.out.set 0 (.int .i64 0)).set 1 (.string ⟨#[]⟩)).set 2 (.int .i64 0)).set 3 (.int .i64 0)).set 4 (.int .i64 0)
              have f0 := hF.cell 0; have f1 := hF.cell 1; have f2 := hF.cell 2; have f3 := hF.cell 3; have f4 := hF.cell 4
              simp at f0 f1 f2 f3 f4
              exact bodyPost_ret (v := .tuple #[.agg #[.int .i64 0, .string ⟨#[]⟩, .int .i64 0, .int .i64 0, .int .i64 0], .bool false]) (by simp [results, Tryz.results12, go_sem, f0, f1, f2, f3, f4]) rfl ⟨by rw [HPVV.out], below5R (HBZ.out.trans (Below.mono KQ hB2)) (Nat.le_refl _) _ _ _ _ _⟩
          | false =>
            rw [hok] at ct
            have hpv := HPV.out
            rw [if_neg (by rw [HPNO.out _ (.inl hok)]; simp)] at hpv
            have HPVV := hide hpv
            have CT := hide ct
            clear hpv ct hok HPV HPNO HPYES
            go_wp2_with fail
            refine (CT.out _).mono ?_; rintro e w20 ⟨rfl, hb⟩
            replace KB := KB.below hb KB.lt; replace KQ := bstep KQ hb KQ.size
            clear hb e0 e1 e2 e3 e4
            obtain ⟨e0, e1, e2, e3, e4⟩ := mk5R KB
            clear KB
            have K1 := HK.out.below KQ HK.out.lt
            obtain ⟨r0, r1, r2, r3, r4⟩ := mk5R K1
            have rf := fun o => K1.frozen o
            have HK1 := hide K1; clear K1
            go_wp2_with fail
            have hF := ((((HK1.out.set 0 (.int .i64 0)).set 1 (.string ⟨#[]⟩)).set 2 (.int .i64 0)).set 3 (.int .i64 0)).set 4 (.int .i64 0)
            have f0 := hF.cell 0; have f1 := hF.cell 1; have f2 := hF.cell 2; have f3 := hF.cell 3; have f4 := hF.cell 4
            simp at f0 f1 f2 f3 f4
            exact bodyPost_ret (v := .tuple #[.agg #[.int .i64 0, .string ⟨#[]⟩, .int .i64 0, .int .i64 0, .int .i64 0], .bool false]) (by simp [results, Tryz.results12, go_sem, f0, f1, f2, f3, f4]) rfl ⟨by rw [HPVV.out], below5R (HBZ.out.trans (Below.mono KQ hB2)) (Nat.le_refl _) _ _ _ _ _⟩
        · have hne2 : ((x2.size : Int) != 2) = true := by simp only [bne_iff_ne, ne_eq]; omega
          have hpv := HPV.out
          rw [if_neg (by rw [HPN0.out _ (.inr h2)]; simp)] at hpv
          have HPVV := hide hpv
          clear hpv HPV HPN0 HPNO HPYES
          have K1 := HK.out
          obtain ⟨r0, r1, r2, r3, r4⟩ := mk5R K1
          have rf := fun o => K1.frozen o
          have HK1 := hide K1; clear K1
          go_wp2_with fail
          have hF := ((((HK1.out.set 0 (.int .i64 0)).set 1 (.string ⟨#[]⟩)).set 2 (.int .i64 0)).set 3 (.int .i64 0)).set 4 (.int .i64 0)
          have f0 := hF.cell 0; have f1 := hF.cell 1; have f2 := hF.cell 2; have f3 := hF.cell 3; have f4 := hF.cell 4
          simp at f0 f1 f2 f3 f4
          exact bodyPost_ret (v := .tuple #[.agg #[.int .i64 0, .string ⟨#[]⟩, .int .i64 0, .int .i64 0, .int .i64 0], .bool false]) (by simp [results, Tryz.results12, go_sem, f0, f1, f2, f3, f4]) rfl ⟨by rw [HPVV.out], below5R (HBZ.out) (Nat.le_refl _) _ _ _ _ _⟩
      · have h60i : (60 : Int) < s.size := by omega
        have hpv := HPV.out
        rw [if_neg (by rw [HPN0.out _ (.inl h60)]; simp)] at hpv
        have HPVV := hide hpv
        clear hpv HPV HPN0 HPNO HPYES
        have K1 := HK.out
        obtain ⟨r0, r1, r2, r3, r4⟩ := mk5R K1
        have rf := fun o => K1.frozen o
        have HK1 := hide K1; clear K1
        go_wp2_with fail
        have hF := ((((HK1.out.set 0 (.int .i64 0)).set 1 (.string ⟨#[]⟩)).set 2 (.int .i64 0)).set 3 (.int .i64 0)).set 4 (.int .i64 0)
        have f0 := hF.cell 0; have f1 := hF.cell 1; have f2 := hF.cell 2; have f3 := hF.cell 3; have f4 := hF.cell 4
        simp at f0 f1 f2 f3 f4
        exact bodyPost_ret (v := .tuple #[.agg #[.int .i64 0, .string ⟨#[]⟩, .int .i64 0, .int .i64 0, .int .i64 0], .bool false]) (by simp [results, Tryz.results12, go_sem, f0, f1, f2, f3, f4]) rfl ⟨by rw [HPVV.out], below5R (HBZ.out) (Nat.le_refl _) _ _ _ _ _⟩
    · have hpv := HPAR.out
      rw [if_neg (by rw [HNO.out _ (.inr (.inl ⟨hK5, hK⟩))]; simp)] at hpv
      have HPVV := hide hpv
      have hne5 : ((ws.length : Int) != 5) = true := by simp only [bne_iff_ne, ne_eq]; omega
      have hne7 : ((ws.length : Int) != 7) = true := by simp only [bne_iff_ne, ne_eq]; omega
      clear hpv HPAR HNO HYES hK hK5 HR
      by_cases h60 : s.size ≤ 60
      · have h60i : ¬ (60 : Int) < s.size := by omega
        have K1 := HK.out
        obtain ⟨r0, r1, r2, r3, r4⟩ := mk5R K1
        have rf := fun o => K1.frozen o
        have HK1 := hide K1; clear K1
        go_wp2_with fail
        have hF := ((((HK1.out.set 0 (.int .i64 0)).set 1 (.string ⟨#[]⟩)).set 2 (.int .i64 0)).set 3 (.int .i64 0)).set 4 (.int .i64 0)
        have f0 := hF.cell 0; have f1 := hF.cell 1; have f2 := hF.cell 2; have f3 := hF.cell 3; have f4 := hF.cell 4
        simp at f0 f1 f2 f3 f4
        exact bodyPost_ret (v := .tuple #[.agg #[.int .i64 0, .string ⟨#[]⟩, .int .i64 0, .int .i64 0, .int .i64 0], .bool false]) (by simp [results, Tryz.results12, go_sem, f0, f1, f2, f3, f4]) rfl ⟨by rw [HPVV.out], below5R (HBZ.out) (Nat.le_refl _) _ _ _ _ _⟩
      · have h60i : (60 : Int) < s.size := by omega
        have K1 := HK.out
        obtain ⟨r0, r1, r2, r3, r4⟩ := mk5R K1
        have rf := fun o => K1.frozen o
        have HK1 := hide K1; clear K1
        go_wp2_with fail
        have hF := ((((HK1.out.set 0 (.int .i64 0)).set 1 (.string ⟨#[]⟩)).set 2 (.int .i64 0)).set 3 (.int .i64 0)).set 4 (.int .i64 0)
        have f0 := hF.cell 0; have f1 := hF.cell 1; have f2 := hF.cell 2; have f3 := hF.cell 3; have f4 := hF.cell 4
        simp at f0 f1 f2 f3 f4
        exact bodyPost_ret (v := .tuple #[.agg #[.int .i64 0, .string ⟨#[]⟩, .int .i64 0, .int .i64 0, .int .i64 0], .bool false]) (by simp [results, Tryz.results12, go_sem, f0, f1, f2, f3, f4]) rfl ⟨by rw [HPVV.out], below5R (HBZ.out) (Nat.le_refl _) _ _ _ _ _⟩
end Go.Proofs.YtplemibckjnbhaaGreatDoor
