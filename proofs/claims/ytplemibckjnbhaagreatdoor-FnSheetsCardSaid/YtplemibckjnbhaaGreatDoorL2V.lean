/- Contract of ParseSheet in spec: the Lean function parSh. Condition: texts of at most 4000 bytes. (Printed by mkparse2.py.) -/
import Derived.Test.YtplemibckjnbhaaGreatDoorL2U
namespace Go.Proofs.YtplemibckjnbhaaGreatDoor
open Go.RowKit Go.Lib
set_option linter.unusedVariables false
set_option maxHeartbeats 8000000 in
theorem ParseSheetS_is (s : ByteArray) (w : World) (hs : s.size ≤ 4000) :
    Calls Tryz.prog 32 #[.string s] w fun e w' => e = .returned (.tuple #[.agg #[.int .i64 (parSh s).1.id, .int .i64 (parSh s).1.row, .int .i64 (parSh s).1.col, .int .i64 (parSh s).1.scale, .int .i64 (parSh s).1.year], .bool (parSh s).2]) ∧ Below w.heap.size w w' := by
  have hbz := below_alloc w (.cells #[.int .i64 0, .int .i64 0, .int .i64 0, .int .i64 0, .int .i64 0] 50)
  have hk := Blk.new w 50 #[.int .i64 0, .int .i64 0, .int .i64 0, .int .i64 0, .int .i64 0]
  have hsz : w.heap.size < (w.alloc (.cells #[.int .i64 0, .int .i64 0, .int .i64 0, .int .i64 0, .int .i64 0] 50)).heap.size := by simp
  have hle := split_le 32 s
  have hpar : parSh s = if isSh s (shS (splitS 32 s)) then (shS (splitS 32 s), true) else (⟨0, 0, 0, 0, 0⟩, false) := parSh_S s
  have hno : ∀ z, (splitS 32 s).length ≠ 5 ∨ z.okB = false ∨ sheetT z ≠ s → isSh s z = false := fun z h => by
    rw [Bool.eq_false_iff, ne_eq, isSh_iff]
    rintro ⟨h1, h2, h3⟩
    rcases h with h | h | h
    · exact h h1
    · rw [h] at h2; cases h2
    · exact h h3
  have hyes : ∀ z, (splitS 32 s).length = 5 → z.okB = true → sheetT z = s → isSh s z = true := fun z h1 h2 h3 => isSh_iff.2 ⟨h1, h2, h3⟩
  generalize parSh s = pv at *
  generalize isSh s = fsh at *
  generalize hw1 : w.alloc (.cells #[.int .i64 0, .int .i64 0, .int .i64 0, .int .i64 0, .int .i64 0] 50) = w1 at *
  generalize hB : w.heap.size = B at *
  have HBZ := hide hbz; have HK := hide hk; have HLE := hide hle; have HPAR := hide hpar; have HNO := hide hno; have HYES := hide hyes
  clear hbz hk hle hpar hno hyes
  go_enter Tryz.func32, Tryz.ntmps32
  go_upto_region 1 with fail
  (try simp only [hB, hw1])
  clear hw1
  go_wp2_with fail
  refine (l1Split_is s 32 _ (by omega)).mono ?_; rintro e w2 ⟨v, rfl, ho, hb⟩
  have hs1 := hb.size
  replace HK := hide (HK.out.below hb hsz); replace HBZ := hide (HBZ.out.trans (hb.mono (by omega)))
  clear hb
  generalize splitS 32 s = ws at *
  have hwl := ho.is.len
  obtain ⟨A, cap, rfl, hr, _, _⟩ := ho.is
  have HR := hide hr; clear ho hr
  have hB2 : B ≤ w2.heap.size := by omega
  by_cases h5 : ws.length = 5
  · obtain ⟨x0, x1, x2, x3, x4, rfl⟩ : ∃ x0 x1 x2 x3 x4, ws = [x0, x1, x2, x3, x4] := by
      match ws, h5 with
      | [a, b, c, d, e], _ => exact ⟨a, b, c, d, e, rfl⟩
    obtain ⟨b, off, rfl, hbb, c0, c1, c2, c3, c4⟩ := strs5 HR.out
    have z0 := HLE.out x0 (by simp); have z1 := HLE.out x1 (by simp); have z2 := HLE.out x2 (by simp); have z3 := HLE.out x3 (by simp); have z4 := HLE.out x4 (by simp)
    have hS : ∀ W, Below w2.heap.size w2 W → W.cell? ⟨b, off, none⟩ = some (.string x0) ∧ W.cell? ⟨b, off + 1, none⟩ = some (.string x1) ∧ W.cell? ⟨b, off + 2, none⟩ = some (.string x2) ∧ W.cell? ⟨b, off + 3, none⟩ = some (.string x3) ∧ W.cell? ⟨b, off + 4, none⟩ = some (.string x4) := fun W h => by
      have up : ∀ o u, w2.cell? ⟨b, o, none⟩ = some u → W.cell? ⟨b, o, none⟩ = some u := fun o u hu => ((bcell h).1 b o hbb).trans hu
      exact ⟨up _ _ c0, up _ _ c1, up _ _ c2, up _ _ c3, up _ _ c4⟩
    have KQ := (Below.refl w2.heap.size w2).drew
    have n0 : ∀ W, Calls Tryz.prog 83 #[.string x0, .int .i64 0, .int .i64 1] W fun e w' => e = .returned (.int .i64 (cutW x0 0 1)) ∧ Below W.heap.size W w' := fun W => l2Cut_is x0 0 1 W (by omega) (by decide) (by decide)
    have n1 : ∀ W, Calls Tryz.prog 83 #[.string x1, .int .i64 1, .int .i64 0] W fun e w' => e = .returned (.int .i64 (cutW x1 1 0)) ∧ Below W.heap.size W w' := fun W => l2Cut_is x1 1 0 W (by omega) (by decide) (by decide)
    have n2 : ∀ W, Calls Tryz.prog 83 #[.string x2, .int .i64 1, .int .i64 0] W fun e w' => e = .returned (.int .i64 (cutW x2 1 0)) ∧ Below W.heap.size W w' := fun W => l2Cut_is x2 1 0 W (by omega) (by decide) (by decide)
    have n3 : ∀ W, Calls Tryz.prog 83 #[.string x3, .int .i64 2, .int .i64 3] W fun e w' => e = .returned (.int .i64 (cutW x3 2 3)) ∧ Below W.heap.size W w' := fun W => l2Cut_is x3 2 3 W (by omega) (by decide) (by decide)
    have n4 : ∀ W, Calls Tryz.prog 83 #[.string x4, .int .i64 0, .int .i64 0] W fun e w' => e = .returned (.int .i64 (cutW x4 0 0)) ∧ Below W.heap.size W w' := fun W => l2Cut_is x4 0 0 W (by omega) (by decide) (by decide)
    have hsh : shS [x0, x1, x2, x3, x4] = ⟨cutW x0 0 1, cutW x1 1 0, cutW x2 1 0, cutW x3 2 3, cutW x4 0 0⟩ := rfl
    have hpv := HPAR.out
    rw [hsh] at hpv
    have hpno := fun z h => HNO.out z (.inr h)
    have hpyes := fun z => HYES.out z rfl
    have N0 := hide n0; have N1 := hide n1; have N2 := hide n2; have N3 := hide n3; have N4 := hide n4; clear n0 n1 n2 n3 n4
    have HS := hide hS; have HPV := hide hpv; have HPNO := hide hpno; have HPYES := hide hpyes
    clear hS HR h5 HLE c0 c1 c2 c3 c4 HPAR HNO HYES hsh hpv hpno hpyes z0 z1 z2 z3 z4 hwl
    generalize cutW x0 0 1 = u0 at *; generalize cutW x1 1 0 = u1 at *; generalize cutW x2 1 0 = u2 at *; generalize cutW x3 2 3 = u3 at *; generalize cutW x4 0 0 = u4 at *
    go_upto_region 4 with fail
    go_cut [5] from 12 to 32 (fun t5 wx => ∃ gb, t5 = .pointer (some ⟨gb, 0, none⟩) ∧ w2.heap.size ≤ gb ∧ Blk wx gb 50 #[.int .i64 u0, .int .i64 u1, .int .i64 u2, .int .i64 u3, .int .i64 u4] ∧ Below w2.heap.size w2 wx)
    case first =>
      go_region_held3 (fun W => W.cell? ⟨b, off, none⟩ = some (.string x0) ∧ W.cell? ⟨b, off + 1, none⟩ = some (.string x1) ∧ W.cell? ⟨b, off + 2, none⟩ = some (.string x2) ∧ W.cell? ⟨b, off + 3, none⟩ = some (.string x3) ∧ W.cell? ⟨b, off + 4, none⟩ = some (.string x4)) (first | (with_reducible exact HS.out _ KQ) | (with_reducible exact HS.out _ (below_alloc w2 _).drew) | (with_reducible exact HS.out _ (KQ.alloc KQ.size _)) | (with_reducible exact HS.out _ (below5P KQ hgb _ _ _ _ _)) | (with_reducible exact HS.out _ (below5P (KQ.alloc KQ.size _) KQ.size _ _ _ _ _)))
        (first
          | (go_at_call 83; first | (have KB0 := KB; with_reducible refine (N0.out _).mono ?_; rintro e w9 ⟨rfl, hb⟩; replace KB := KB.below hb KB.lt; replace KQ := bstep KQ hb KQ.size; clear KB0 hb k0 k1 k2 k3 k4 kf; obtain ⟨k0, k1, k2, k3, k4⟩ := mk5S KB; have kf := (fun o => KB.frozen o)) | (with_reducible refine (N0.out _).mono ?_; rintro e w9 ⟨rfl, hb⟩; replace KQ := bstep KQ hb KQ.size; clear hb) | (with_reducible refine (N0.out _).mono ?_; rintro e w10 ⟨rfl, hb⟩; have hgb := KQ.size; have KB := (Blk.new w9 50 #[.int .i64 0, .int .i64 0, .int .i64 0, .int .i64 0, .int .i64 0]).below hb (by simp); replace KQ := bstep (KQ.alloc KQ.size _) hb (KQ.alloc KQ.size _).size; clear hb; generalize w9.heap.size = gb at *; obtain ⟨k0, k1, k2, k3, k4⟩ := mk5S KB; have kf := (fun o => KB.frozen o)) | (have KB0 := KB; with_reducible refine (N1.out _).mono ?_; rintro e w9 ⟨rfl, hb⟩; replace KB := KB.below hb KB.lt; replace KQ := bstep KQ hb KQ.size; clear KB0 hb k0 k1 k2 k3 k4 kf; obtain ⟨k0, k1, k2, k3, k4⟩ := mk5S KB; have kf := (fun o => KB.frozen o)) | (with_reducible refine (N1.out _).mono ?_; rintro e w9 ⟨rfl, hb⟩; replace KQ := bstep KQ hb KQ.size; clear hb) | (with_reducible refine (N1.out _).mono ?_; rintro e w10 ⟨rfl, hb⟩; have hgb := KQ.size; have KB := (Blk.new w9 50 #[.int .i64 0, .int .i64 0, .int .i64 0, .int .i64 0, .int .i64 0]).below hb (by simp); replace KQ := bstep (KQ.alloc KQ.size _) hb (KQ.alloc KQ.size _).size; clear hb; generalize w9.heap.size = gb at *; obtain ⟨k0, k1, k2, k3, k4⟩ := mk5S KB; have kf := (fun o => KB.frozen o)) | (have KB0 := KB; with_reducible refine (N2.out _).mono ?_; rintro e w9 ⟨rfl, hb⟩; replace KB := KB.below hb KB.lt; replace KQ := bstep KQ hb KQ.size; clear KB0 hb k0 k1 k2 k3 k4 kf; obtain ⟨k0, k1, k2, k3, k4⟩ := mk5S KB; have kf := (fun o => KB.frozen o)) | (with_reducible refine (N2.out _).mono ?_; rintro e w9 ⟨rfl, hb⟩; replace KQ := bstep KQ hb KQ.size; clear hb) | (with_reducible refine (N2.out _).mono ?_; rintro e w10 ⟨rfl, hb⟩; have hgb := KQ.size; have KB := (Blk.new w9 50 #[.int .i64 0, .int .i64 0, .int .i64 0, .int .i64 0, .int .i64 0]).below hb (by simp); replace KQ := bstep (KQ.alloc KQ.size _) hb (KQ.alloc KQ.size _).size; clear hb; generalize w9.heap.size = gb at *; obtain ⟨k0, k1, k2, k3, k4⟩ := mk5S KB; have kf := (fun o => KB.frozen o)) | (have KB0 := KB; with_reducible refine (N3.out _).mono ?_; rintro e w9 ⟨rfl, hb⟩; replace KB := KB.below hb KB.lt; replace KQ := bstep KQ hb KQ.size; clear KB0 hb k0 k1 k2 k3 k4 kf; obtain ⟨k0, k1, k2, k3, k4⟩ := mk5S KB; have kf := (fun o => KB.frozen o)) | (with_reducible refine (N3.out _).mono ?_; rintro e w9 ⟨rfl, hb⟩; replace KQ := bstep KQ hb KQ.size; clear hb) | (with_reducible refine (N3.out _).mono ?_; rintro e w10 ⟨rfl, hb⟩; have hgb := KQ.size; have KB := (Blk.new w9 50 #[.int .i64 0, .int .i64 0, .int .i64 0, .int .i64 0, .int .i64 0]).below hb (by simp); replace KQ := bstep (KQ.alloc KQ.size _) hb (KQ.alloc KQ.size _).size; clear hb; generalize w9.heap.size = gb at *; obtain ⟨k0, k1, k2, k3, k4⟩ := mk5S KB; have kf := (fun o => KB.frozen o)) | (have KB0 := KB; with_reducible refine (N4.out _).mono ?_; rintro e w9 ⟨rfl, hb⟩; replace KB := KB.below hb KB.lt; replace KQ := bstep KQ hb KQ.size; clear KB0 hb k0 k1 k2 k3 k4 kf; obtain ⟨k0, k1, k2, k3, k4⟩ := mk5S KB; have kf := (fun o => KB.frozen o)) | (with_reducible refine (N4.out _).mono ?_; rintro e w9 ⟨rfl, hb⟩; replace KQ := bstep KQ hb KQ.size; clear hb) | (with_reducible refine (N4.out _).mono ?_; rintro e w10 ⟨rfl, hb⟩; have hgb := KQ.size; have KB := (Blk.new w9 50 #[.int .i64 0, .int .i64 0, .int .i64 0, .int .i64 0, .int .i64 0]).below hb (by simp); replace KQ := bstep (KQ.alloc KQ.size _) hb (KQ.alloc KQ.size _).size; clear hb; generalize w9.heap.size = gb at *; obtain ⟨k0, k1, k2, k3, k4⟩ := mk5S KB; have kf := (fun o => KB.frozen o)) | (refine (N0.out _).mono ?_; rintro e w10 ⟨rfl, hb⟩; have hgb : w2.heap.size ≤ w2.heap.size := Nat.le_refl _; have KB := (show Blk (w2.alloc (.cells #[.int .i64 0, .int .i64 0, .int .i64 0, .int .i64 0, .int .i64 0] 50)).drew w2.heap.size 50 #[.int .i64 0, .int .i64 0, .int .i64 0, .int .i64 0, .int .i64 0] from Blk.new w2 50 #[.int .i64 0, .int .i64 0, .int .i64 0, .int .i64 0, .int .i64 0]).below hb (by simp); replace KQ := bstep ((below_alloc w2 (.cells #[.int .i64 0, .int .i64 0, .int .i64 0, .int .i64 0, .int .i64 0] 50)).drew) hb (by simp); clear hb; obtain ⟨k0, k1, k2, k3, k4⟩ := mk5S KB; have kf := (fun o => KB.frozen o)) | (refine (N1.out _).mono ?_; rintro e w10 ⟨rfl, hb⟩; have hgb : w2.heap.size ≤ w2.heap.size := Nat.le_refl _; have KB := (show Blk (w2.alloc (.cells #[.int .i64 0, .int .i64 0, .int .i64 0, .int .i64 0, .int .i64 0] 50)).drew w2.heap.size 50 #[.int .i64 0, .int .i64 0, .int .i64 0, .int .i64 0, .int .i64 0] from Blk.new w2 50 #[.int .i64 0, .int .i64 0, .int .i64 0, .int .i64 0, .int .i64 0]).below hb (by simp); replace KQ := bstep ((below_alloc w2 (.cells #[.int .i64 0, .int .i64 0, .int .i64 0, .int .i64 0, .int .i64 0] 50)).drew) hb (by simp); clear hb; obtain ⟨k0, k1, k2, k3, k4⟩ := mk5S KB; have kf := (fun o => KB.frozen o)) | (refine (N2.out _).mono ?_; rintro e w10 ⟨rfl, hb⟩; have hgb : w2.heap.size ≤ w2.heap.size := Nat.le_refl _; have KB := (show Blk (w2.alloc (.cells #[.int .i64 0, .int .i64 0, .int .i64 0, .int .i64 0, .int .i64 0] 50)).drew w2.heap.size 50 #[.int .i64 0, .int .i64 0, .int .i64 0, .int .i64 0, .int .i64 0] from Blk.new w2 50 #[.int .i64 0, .int .i64 0, .int .i64 0, .int .i64 0, .int .i64 0]).below hb (by simp); replace KQ := bstep ((below_alloc w2 (.cells #[.int .i64 0, .int .i64 0, .int .i64 0, .int .i64 0, .int .i64 0] 50)).drew) hb (by simp); clear hb; obtain ⟨k0, k1, k2, k3, k4⟩ := mk5S KB; have kf := (fun o => KB.frozen o)) | (refine (N3.out _).mono ?_; rintro e w10 ⟨rfl, hb⟩; have hgb : w2.heap.size ≤ w2.heap.size := Nat.le_refl _; have KB := (show Blk (w2.alloc (.cells #[.int .i64 0, .int .i64 0, .int .i64 0, .int .i64 0, .int .i64 0] 50)).drew w2.heap.size 50 #[.int .i64 0, .int .i64 0, .int .i64 0, .int .i64 0, .int .i64 0] from Blk.new w2 50 #[.int .i64 0, .int .i64 0, .int .i64 0, .int .i64 0, .int .i64 0]).below hb (by simp); replace KQ := bstep ((below_alloc w2 (.cells #[.int .i64 0, .int .i64 0, .int .i64 0, .int .i64 0, .int .i64 0] 50)).drew) hb (by simp); clear hb; obtain ⟨k0, k1, k2, k3, k4⟩ := mk5S KB; have kf := (fun o => KB.frozen o)) | (refine (N4.out _).mono ?_; rintro e w10 ⟨rfl, hb⟩; have hgb : w2.heap.size ≤ w2.heap.size := Nat.le_refl _; have KB := (show Blk (w2.alloc (.cells #[.int .i64 0, .int .i64 0, .int .i64 0, .int .i64 0, .int .i64 0] 50)).drew w2.heap.size 50 #[.int .i64 0, .int .i64 0, .int .i64 0, .int .i64 0, .int .i64 0] from Blk.new w2 50 #[.int .i64 0, .int .i64 0, .int .i64 0, .int .i64 0, .int .i64 0]).below hb (by simp); replace KQ := bstep ((below_alloc w2 (.cells #[.int .i64 0, .int .i64 0, .int .i64 0, .int .i64 0, .int .i64 0] 50)).drew) hb (by simp); clear hb; obtain ⟨k0, k1, k2, k3, k4⟩ := mk5S KB; have kf := (fun o => KB.frozen o))))
      all_goals
        go_wp2_with fail
        go_meet
        first
          | exact ⟨_, rfl, hgb, set5P KB _ _ _ _ _, below5P KQ hgb _ _ _ _ _⟩
          | exact ⟨_, rfl, KQ.size, Blk.new _ _ _, KQ.alloc KQ.size _⟩
          | exact ⟨_, rfl, KQ.size, set5P (Blk.new _ _ _) _ _ _ _ _, below5P (KQ.alloc KQ.size _) KQ.size _ _ _ _ _⟩
    case rest =>
      obtain ⟨gb, rfl, hgb, KB, KQ0⟩ := hcut
      have KQ := KQ0
      generalize wc = w4 at *
      clear KQ0
      obtain ⟨e0, e1, e2, e3, e4⟩ := mk5S KB
      have ct := fun W => l2Sheet_any u0 u1 u2 u3 u4 W
      cases hok : SSheet.okB ⟨u0, u1, u2, u3, u4⟩ with
      | true =>
        have hbd := SSheet.okB_iff.1 hok
        have cx := fun W => l2Text_is u0 u1 u2 u3 u4 W (by omega) (by omega) (by omega) (by omega) (by omega)
        rw [hok] at ct
        by_cases hst : sheetT ⟨u0, u1, u2, u3, u4⟩ = s
        · have hpv := HPV.out
          rw [if_pos (HPYES.out _ hok hst)] at hpv
          have HPVV := hide hpv
          rw [hst] at cx
          have hne : (s.toList == s.toList) = true := by simp
          have CT := hide ct; have CX := hide cx
          clear hpv ct cx hok hst hbd HPV HPNO HPYES
          go_wp2_with fail
          refine (CT.out _).mono ?_; rintro e w5 ⟨rfl, hb⟩
          replace KB := KB.below hb KB.lt; replace KQ := bstep KQ hb KQ.size
          clear hb e0 e1 e2 e3 e4
          obtain ⟨e0, e1, e2, e3, e4⟩ := mk5S KB
          go_wp2_with fail
          refine (CX.out _).mono ?_; rintro e w6 ⟨rfl, hb⟩
          replace KB := KB.below hb KB.lt; replace KQ := bstep KQ hb KQ.size
          clear hb e0 e1 e2 e3 e4
          obtain ⟨e0, e1, e2, e3, e4⟩ := mk5S KB
          clear KB
          have K1 := HK.out.below KQ HK.out.lt
          obtain ⟨r0, r1, r2, r3, r4⟩ := mk5S K1
          have rf := fun o => K1.frozen o
          have HK1 := hide K1; clear K1
          go_wp2_with fail
          have hF := ((((HK1.out.set 0 (.int .i64 u0)).set 1 (.int .i64 u1)).set 2 (.int .i64 u2)).set 3 (.int .i64 u3)).set 4 (.int .i64 u4)
          have f0 := hF.cell 0; have f1 := hF.cell 1; have f2 := hF.cell 2; have f3 := hF.cell 3; have f4 := hF.cell 4
          simp at f0 f1 f2 f3 f4
          exact bodyPost_ret (v := .tuple #[.agg #[.int .i64 u0, .int .i64 u1, .int .i64 u2, .int .i64 u3, .int .i64 u4], .bool true]) (by simp [results, Tryz.results32, go_sem, f0, f1, f2, f3, f4]) rfl ⟨by rw [HPVV.out], below5P (HBZ.out.trans (Below.mono KQ hB2)) (Nat.le_refl _) _ _ _ _ _⟩
        · have hpv := HPV.out
          rw [if_neg (by rw [HPNO.out _ (.inr hst)]; simp)] at hpv
          have HPVV := hide hpv
          have hne : ((sheetT ⟨u0, u1, u2, u3, u4⟩).toList == s.toList) = false := by
            simp only [beq_eq_false_iff_ne, ne_eq]
            intro h
            exact hst (bytes_ext (by simpa [ByteArray.toList_eq] using h))
          generalize sheetT ⟨u0, u1, u2, u3, u4⟩ = tx at *
          have CT := hide ct; have CX := hide cx
          clear hpv ct cx hok hst hbd HPV HPNO HPYES
          go_wp2_with fail
          refine (CT.out _).mono ?_; rintro e w5 ⟨rfl, hb⟩
          replace KB := KB.below hb KB.lt; replace KQ := bstep KQ hb KQ.size
          clear hb e0 e1 e2 e3 e4
          obtain ⟨e0, e1, e2, e3, e4⟩ := mk5S KB
          go_wp2_with fail
          refine (CX.out _).mono ?_; rintro e w6 ⟨rfl, hb⟩
          replace KB := KB.below hb KB.lt; replace KQ := bstep KQ hb KQ.size
          clear hb e0 e1 e2 e3 e4
          obtain ⟨e0, e1, e2, e3, e4⟩ := mk5S KB
          clear KB
          have K1 := HK.out.below KQ HK.out.lt
          obtain ⟨r0, r1, r2, r3, r4⟩ := mk5S K1
          have rf := fun o => K1.frozen o
          have HK1 := hide K1; clear K1
          go_wp2_with fail
          have hF := ((((HK1.out.set 0 (.int .i64 0)).set 1 (.int .i64 0)).set 2 (.int .i64 0)).set 3 (.int .i64 0)).set 4 (.int .i64 0)
          have f0 := hF.cell 0; have f1 := hF.cell 1; have f2 := hF.cell 2; have f3 := hF.cell 3; have f4 := hF.cell 4
          simp at f0 f1 f2 f3 f4
          exact bodyPost_ret (v := .tuple #[.agg #[.int .i64 0, .int .i64 0, .int .i64 0, .int .i64 0, .int .i64 0], .bool false]) (by simp [results, Tryz.results32, go_sem, f0, f1, f2, f3, f4]) rfl ⟨by rw [HPVV.out], below5P (HBZ.out.trans (Below.mono KQ hB2)) (Nat.le_refl _) _ _ _ _ _⟩
      | false =>
        rw [hok] at ct
        have hpv := HPV.out
        rw [if_neg (by rw [HPNO.out _ (.inl hok)]; simp)] at hpv
        have HPVV := hide hpv
        have CT := hide ct
        clear hpv ct hok HPV HPNO HPYES
        go_wp2_with fail
        refine (CT.out _).mono ?_; rintro e w5 ⟨rfl, hb⟩
        replace KB := KB.below hb KB.lt; replace KQ := bstep KQ hb KQ.size
        clear hb e0 e1 e2 e3 e4
        obtain ⟨e0, e1, e2, e3, e4⟩ := mk5S KB
        clear KB
        have K1 := HK.out.below KQ HK.out.lt
        obtain ⟨r0, r1, r2, r3, r4⟩ := mk5S K1
        have rf := fun o => K1.frozen o
        have HK1 := hide K1; clear K1
        go_wp2_with fail
        have hF := ((((HK1.out.set 0 (.int .i64 0)).set 1 (.int .i64 0)).set 2 (.int .i64 0)).set 3 (.int .i64 0)).set 4 (.int .i64 0)
        have f0 := hF.cell 0; have f1 := hF.cell 1; have f2 := hF.cell 2; have f3 := hF.cell 3; have f4 := hF.cell 4
        simp at f0 f1 f2 f3 f4
        exact bodyPost_ret (v := .tuple #[.agg #[.int .i64 0, .int .i64 0, .int .i64 0, .int .i64 0, .int .i64 0], .bool false]) (by simp [results, Tryz.results32, go_sem, f0, f1, f2, f3, f4]) rfl ⟨by rw [HPVV.out], below5P (HBZ.out.trans (Below.mono KQ hB2)) (Nat.le_refl _) _ _ _ _ _⟩
  · have hpv := HPAR.out
    rw [if_neg (by rw [HNO.out _ (.inl h5)]; simp)] at hpv
    have HPVV := hide hpv
    have hne5 : ((ws.length : Int) != 5) = true := by simp only [bne_iff_ne, ne_eq]; omega
    clear hpv HPAR HNO HYES h5 HR
    have K1 := HK.out
    obtain ⟨r0, r1, r2, r3, r4⟩ := mk5S K1
    have rf := fun o => K1.frozen o
    have HK1 := hide K1; clear K1
    go_wp2_with fail
    have hF := ((((HK1.out.set 0 (.int .i64 0)).set 1 (.int .i64 0)).set 2 (.int .i64 0)).set 3 (.int .i64 0)).set 4 (.int .i64 0)
    have f0 := hF.cell 0; have f1 := hF.cell 1; have f2 := hF.cell 2; have f3 := hF.cell 3; have f4 := hF.cell 4
    simp at f0 f1 f2 f3 f4
    exact bodyPost_ret (v := .tuple #[.agg #[.int .i64 0, .int .i64 0, .int .i64 0, .int .i64 0, .int .i64 0], .bool false]) (by simp [results, Tryz.results32, go_sem, f0, f1, f2, f3, f4]) rfl ⟨by rw [HPVV.out], below5P (HBZ.out) (Nat.le_refl _) _ _ _ _ _⟩
end Go.Proofs.YtplemibckjnbhaaGreatDoor
