/- Contract of ParseReader in impl: the Lean function parR. Conditions: texts of at most 4000 bytes; the tables and errors of strconv are laid, and internal/bytealg.MaxLen holds some int. (Printed by mkparse3.py.) -/
import Derived.Test.YtplemibckjnbhaaGreatDoorL3V
import Derived.Deep.RegionHeld3
import Derived.Deep.CutRange
namespace Go.Proofs.YtplemibckjnbhaaGreatDoor
open Go.RowKit Go.Lib
set_option linter.unusedVariables false
theorem strs5 {w : World} {B : Nat} {A : Option Addr} {x0 x1 x2 x3 x4 : ByteArray} (h : Row 1 encS w B A [x0, x1, x2, x3, x4]) : ∃ b off, A = some ⟨b, off, none⟩ ∧ b < B ∧ w.cell? ⟨b, off, none⟩ = some (.string x0) ∧ w.cell? ⟨b, off + 1, none⟩ = some (.string x1) ∧ w.cell? ⟨b, off + 2, none⟩ = some (.string x2) ∧ w.cell? ⟨b, off + 3, none⟩ = some (.string x3) ∧ w.cell? ⟨b, off + 4, none⟩ = some (.string x4) := by
  obtain ⟨b, off, rfl, hb, c0⟩ := Strs.cells h (i := 0) (by simp) (Below.refl _ _)
  obtain ⟨b1, o1, e1, _, c1⟩ := Strs.cells h (i := 1) (by simp) (Below.refl _ _)
  obtain ⟨b2, o2, e2, _, c2⟩ := Strs.cells h (i := 2) (by simp) (Below.refl _ _)
  obtain ⟨b3, o3, e3, _, c3⟩ := Strs.cells h (i := 3) (by simp) (Below.refl _ _)
  obtain ⟨b4, o4, e4, _, c4⟩ := Strs.cells h (i := 4) (by simp) (Below.refl _ _)
  injection e1 with e1; injection e1 with p1 q1; subst p1 q1
  injection e2 with e2; injection e2 with p2 q2; subst p2 q2
  injection e3 with e3; injection e3 with p3 q3; subst p3 q3
  injection e4 with e4; injection e4 with p4 q4; subst p4 q4
  exact ⟨b, off, rfl, hb, c0, c1, c2, c3, c4⟩
theorem strs7 {w : World} {B : Nat} {A : Option Addr} {x0 x1 x2 x3 x4 x5 x6 : ByteArray} (h : Row 1 encS w B A [x0, x1, x2, x3, x4, x5, x6]) : ∃ b off, A = some ⟨b, off, none⟩ ∧ b < B ∧ w.cell? ⟨b, off, none⟩ = some (.string x0) ∧ w.cell? ⟨b, off + 1, none⟩ = some (.string x1) ∧ w.cell? ⟨b, off + 2, none⟩ = some (.string x2) ∧ w.cell? ⟨b, off + 3, none⟩ = some (.string x3) ∧ w.cell? ⟨b, off + 4, none⟩ = some (.string x4) ∧ w.cell? ⟨b, off + 5, none⟩ = some (.string x5) ∧ w.cell? ⟨b, off + 6, none⟩ = some (.string x6) := by
  obtain ⟨b, off, rfl, hb, c0⟩ := Strs.cells h (i := 0) (by simp) (Below.refl _ _)
  obtain ⟨b1, o1, e1, _, c1⟩ := Strs.cells h (i := 1) (by simp) (Below.refl _ _)
  obtain ⟨b2, o2, e2, _, c2⟩ := Strs.cells h (i := 2) (by simp) (Below.refl _ _)
  obtain ⟨b3, o3, e3, _, c3⟩ := Strs.cells h (i := 3) (by simp) (Below.refl _ _)
  obtain ⟨b4, o4, e4, _, c4⟩ := Strs.cells h (i := 4) (by simp) (Below.refl _ _)
  obtain ⟨b5, o5, e5, _, c5⟩ := Strs.cells h (i := 5) (by simp) (Below.refl _ _)
  obtain ⟨b6, o6, e6, _, c6⟩ := Strs.cells h (i := 6) (by simp) (Below.refl _ _)
  injection e1 with e1; injection e1 with p1 q1; subst p1 q1
  injection e2 with e2; injection e2 with p2 q2; subst p2 q2
  injection e3 with e3; injection e3 with p3 q3; subst p3 q3
  injection e4 with e4; injection e4 with p4 q4; subst p4 q4
  injection e5 with e5; injection e5 with p5 q5; subst p5 q5
  injection e6 with e6; injection e6 with p6 q6; subst p6 q6
  exact ⟨b, off, rfl, hb, c0, c1, c2, c3, c4, c5, c6⟩
theorem set5R {w : World} {g : Nat} {t : TypeId} {a b c d e : Value} (h : Blk w g t #[a, b, c, d, e]) (p q r s u : Value) : Blk (((((w.setCell ⟨g, 0, none⟩ p).setCell ⟨g, 1, none⟩ q).setCell ⟨g, 2, none⟩ r).setCell ⟨g, 3, none⟩ s).setCell ⟨g, 4, none⟩ u) g t #[p, q, r, s, u] := ((((h.set 0 p).set 1 q).set 2 r).set 3 s).set 4 u
theorem below5R {w w' : World} {B g : Nat} (h : Below B w w') (hg : B ≤ g) (p q r s u : Value) : Below B w (((((w'.setCell ⟨g, 0, none⟩ p).setCell ⟨g, 1, none⟩ q).setCell ⟨g, 2, none⟩ r).setCell ⟨g, 3, none⟩ s).setCell ⟨g, 4, none⟩ u) := ((((h.setCell (p := ⟨g, 0, none⟩) hg p).setCell (p := ⟨g, 1, none⟩) hg q).setCell (p := ⟨g, 2, none⟩) hg r).setCell (p := ⟨g, 3, none⟩) hg s).setCell (p := ⟨g, 4, none⟩) hg u
theorem trimP_leR (s p : ByteArray) : (trimP s p).size ≤ s.size := by
  unfold trimP
  split
  · rw [ByteArray.size_extract]; omega
  · exact Nat.le_refl _
set_option maxHeartbeats 8000000 in
theorem ParseReaderI_is (s : ByteArray) (w : World) (hm : MaxL w) (ht : Tab w) (he : Errs w) (hs : s.size ≤ 4000) :
    Calls Tryz.prog 10 #[.string s] w fun e w' => e = .returned (.tuple #[.agg #[.int .i64 (parR s).1.ident, .string (parR s).1.name, .int .i64 (parR s).1.joined, .int .i64 (parR s).1.cls, .int .i64 (parR s).1.fines], .bool (parR s).2]) ∧ Below w.heap.size w w' := by
  have hbz := below_alloc w (.cells #[.int .i64 0, .string ⟨#[]⟩, .int .i64 0, .int .i64 0, .int .i64 0] 25)
  have hk := Blk.new w 25 #[.int .i64 0, .string ⟨#[]⟩, .int .i64 0, .int .i64 0, .int .i64 0]
  have hsz : w.heap.size < (w.alloc (.cells #[.int .i64 0, .string ⟨#[]⟩, .int .i64 0, .int .i64 0, .int .i64 0] 25)).heap.size := by simp
  have hm1 := hm.below hbz (Nat.le_refl _)
  have ht1 := ht.below hbz (Nat.le_refl _)
  have he1 := he.below hbz (Nat.le_refl _)
  have hle := split_le 32 s
  have hpar : parR s = if isRd s (rdI (splitS 32 s)) then (rdI (splitS 32 s), true) else (⟨0, ⟨#[]⟩, 0, 0, 0⟩, false) := rfl
  have hno : ∀ z, ((splitS 32 s).length ≠ 5 ∧ (splitS 32 s).length ≠ 7) ∨ z.okB = false ∨ rdT z ≠ s → isRd s z = false := fun z h => by
    rw [Bool.eq_false_iff, ne_eq, isRd_iff]
    rintro ⟨h1, h2, h3⟩
    rcases h with h | h | h
    · omega
    · rw [h] at h2; cases h2
    · exact h h3
  have hyes : ∀ z, ((splitS 32 s).length = 5 ∨ (splitS 32 s).length = 7) → z.okB = true → rdT z = s → isRd s z = true := fun z h1 h2 h3 => isRd_iff.2 ⟨h1, h2, h3⟩
  generalize parR s = pv at *
  generalize isRd s = fsh at *
  generalize hw1 : w.alloc (.cells #[.int .i64 0, .string ⟨#[]⟩, .int .i64 0, .int .i64 0, .int .i64 0] 25) = w1 at *
  generalize hB : w.heap.size = B at *
  have HBZ := hide hbz; have HK := hide hk; have HLE := hide hle; have HPAR := hide hpar; have HNO := hide hno; have HYES := hide hyes
  have HM := hide hm1; have HT := hide ht1; have HE := hide he1
  clear hbz hk hle hpar hno hyes hm1 ht1 he1 hm ht he
  go_enter Tryz.func10, Tryz.ntmps10
  go_upto_region 1 with fail
  (try simp only [hB, hw1])
  clear hw1
  go_wp2_with fail
  refine (split_is s 32 _ HM.out (by omega)).mono ?_; rintro e w2 ⟨v, rfl, ho, hlen, hb⟩
  have hs1 := hb.size
  replace HK := hide (HK.out.below hb hsz); replace HBZ := hide (HBZ.out.trans (hb.mono (by omega)))
  replace HT := hide (HT.out.below hb (Nat.le_refl _)); replace HE := hide (HE.out.below hb (Nat.le_refl _))
  clear HM
  clear hb
  generalize splitS 32 s = ws at *
  have hwl := ho.is.len
  obtain ⟨A, cap, rfl, hr, _, _⟩ := ho.is
  have HR := hide hr; clear ho hr
  have hB2 : B ≤ w2.heap.size := by omega
  by_cases hK : ws.length = 5
  · obtain ⟨x0, x1, x2, x3, x4, rfl⟩ : ∃ x0 x1 x2 x3 x4, ws = [x0, x1, x2, x3, x4] := by
      match ws, hK with
      | [a, b, c, d, e], _ => exact ⟨a, b, c, d, e, rfl⟩
    obtain ⟨b, off, rfl, hbb, c0, c1, c2, c3, c4⟩ := strs5 HR.out
    have z0 := HLE.out x0 (by simp); have z1 := HLE.out x1 (by simp); have z2 := HLE.out x2 (by simp); have z3 := HLE.out x3 (by simp); have z4 := HLE.out x4 (by simp)
    have hS : ∀ W, Below w2.heap.size w2 W → W.cell? ⟨b, off, none⟩ = some (.string x0) ∧ W.cell? ⟨b, off + 1, none⟩ = some (.string x1) ∧ W.cell? ⟨b, off + 2, none⟩ = some (.string x2) ∧ W.cell? ⟨b, off + 3, none⟩ = some (.string x3) ∧ W.cell? ⟨b, off + 4, none⟩ = some (.string x4) := fun W h => by
      have up : ∀ o u, w2.cell? ⟨b, o, none⟩ = some u → W.cell? ⟨b, o, none⟩ = some u := fun o u hu => ((bcell h).1 b o hbb).trans hu
      exact ⟨up _ _ c0, up _ _ c1, up _ _ c2, up _ _ c3, up _ _ c4⟩
    have hT := fun W (h : Below w2.heap.size w2 W) => HT.out.below h (Nat.le_refl _)
    have hE := fun W (h : Below w2.heap.size w2 W) => HE.out.below h (Nat.le_refl _)
    have KQ := (Below.refl w2.heap.size w2).drew
    have y3 := trimP_leR x2 ⟨#[99]⟩
    have q3 := fun W => trimP_is x2 ⟨#[99]⟩ W (by omega) (by decide)
    have n0 := fun W h1 h2 => number_is x0 W (by omega) h1 h2
    have n2 := fun W h1 h2 => number_is x4 W (by omega) h1 h2
    have n3 := fun W h1 h2 => number_is (trimP x2 ⟨#[99]⟩) W (by omega) h1 h2
    have hsh : rdI [x0, x1, x2, x3, x4] = ⟨numW x0, x1, numW x4, numW (trimP x2 ⟨#[99]⟩), 0⟩ := rfl
    have hpv := HPAR.out
    rw [hsh] at hpv
    have hpno := fun z h => HNO.out z (.inr h)
    have hpyes := fun z => HYES.out z (.inl rfl)
    have hx1 : x1.size ≤ 4000 := by omega
    have Q3 := hide q3; clear q3
    have N0 := hide n0; have N2 := hide n2; have N3 := hide n3; clear n0 n2 n3
    have HS := hide hS; have HTT := hide hT; have HEE := hide hE; have HPV := hide hpv; have HPNO := hide hpno; have HPYES := hide hpyes; have HX1 := hide hx1
    clear hS hT hE HT HE HR hlen hK HLE c0 c1 c2 c3 c4 HPAR HNO HYES hsh hpv hpno hpyes z0 z1 z2 z3 z4 y3 hwl hx1
    generalize numW x0 = u0 at *; generalize numW x4 = u2 at *; generalize numW (trimP x2 ⟨#[99]⟩) = u3 at *
    go_upto_region 4 with fail
    go_cut [5] from 19 to 35 (fun t5 wx => ∃ gb, t5 = .pointer (some ⟨gb, 0, none⟩) ∧ w2.heap.size ≤ gb ∧ Blk wx gb 25 #[.int .i64 u0, .string x1, .int .i64 u2, .int .i64 u3, .int .i64 0] ∧ Below w2.heap.size w2 wx)
    case first =>
      go_region_held3 (fun W => W.cell? ⟨b, off, none⟩ = some (.string x0) ∧ W.cell? ⟨b, off + 1, none⟩ = some (.string x1) ∧ W.cell? ⟨b, off + 2, none⟩ = some (.string x2) ∧ W.cell? ⟨b, off + 3, none⟩ = some (.string x3) ∧ W.cell? ⟨b, off + 4, none⟩ = some (.string x4)) (first | (with_reducible exact HS.out _ KQ) | (with_reducible exact HS.out _ (below_alloc w2 _).drew) | (with_reducible exact HS.out _ (KQ.alloc KQ.size _)) | (with_reducible exact HS.out _ (below5R KQ hgb _ _ _ _ _)) | (with_reducible exact HS.out _ (below5R (KQ.alloc KQ.size _) KQ.size _ _ _ _ _)))
        (first
          | (go_at_call 54; with_reducible refine (Q3.out _).mono ?_; rintro e w9 ⟨rfl, rfl⟩)
          | (go_at_call 53; first | (have KB0 := KB; with_reducible refine (N0.out _ (HTT.out _ KQ) (HEE.out _ KQ)).mono ?_; rintro e w9 ⟨rfl, hb⟩; replace KB := KB.below hb KB.lt; replace KQ := bstep KQ hb KQ.size; clear KB0 hb k0 k1 k2 k3 k4 kf; obtain ⟨k0, k1, k2, k3, k4⟩ := mk5R KB; have kf := (fun o => KB.frozen o)) | (with_reducible refine (N0.out _ (HTT.out _ KQ) (HEE.out _ KQ)).mono ?_; rintro e w9 ⟨rfl, hb⟩; replace KQ := bstep KQ hb KQ.size; clear hb) | (with_reducible refine (N0.out _ (HTT.out _ (KQ.alloc KQ.size _)) (HEE.out _ (KQ.alloc KQ.size _))).mono ?_; rintro e w10 ⟨rfl, hb⟩; have hgb := KQ.size; have KB := (Blk.new w9 25 #[.int .i64 0, .string ⟨#[]⟩, .int .i64 0, .int .i64 0, .int .i64 0]).below hb (by simp); replace KQ := bstep (KQ.alloc KQ.size _) hb (KQ.alloc KQ.size _).size; clear hb; generalize w9.heap.size = gb at *; obtain ⟨k0, k1, k2, k3, k4⟩ := mk5R KB; have kf := (fun o => KB.frozen o)) | (have KB0 := KB; with_reducible refine (N2.out _ (HTT.out _ KQ) (HEE.out _ KQ)).mono ?_; rintro e w9 ⟨rfl, hb⟩; replace KB := KB.below hb KB.lt; replace KQ := bstep KQ hb KQ.size; clear KB0 hb k0 k1 k2 k3 k4 kf; obtain ⟨k0, k1, k2, k3, k4⟩ := mk5R KB; have kf := (fun o => KB.frozen o)) | (with_reducible refine (N2.out _ (HTT.out _ KQ) (HEE.out _ KQ)).mono ?_; rintro e w9 ⟨rfl, hb⟩; replace KQ := bstep KQ hb KQ.size; clear hb) | (with_reducible refine (N2.out _ (HTT.out _ (KQ.alloc KQ.size _)) (HEE.out _ (KQ.alloc KQ.size _))).mono ?_; rintro e w10 ⟨rfl, hb⟩; have hgb := KQ.size; have KB := (Blk.new w9 25 #[.int .i64 0, .string ⟨#[]⟩, .int .i64 0, .int .i64 0, .int .i64 0]).below hb (by simp); replace KQ := bstep (KQ.alloc KQ.size _) hb (KQ.alloc KQ.size _).size; clear hb; generalize w9.heap.size = gb at *; obtain ⟨k0, k1, k2, k3, k4⟩ := mk5R KB; have kf := (fun o => KB.frozen o)) | (have KB0 := KB; with_reducible refine (N3.out _ (HTT.out _ KQ) (HEE.out _ KQ)).mono ?_; rintro e w9 ⟨rfl, hb⟩; replace KB := KB.below hb KB.lt; replace KQ := bstep KQ hb KQ.size; clear KB0 hb k0 k1 k2 k3 k4 kf; obtain ⟨k0, k1, k2, k3, k4⟩ := mk5R KB; have kf := (fun o => KB.frozen o)) | (with_reducible refine (N3.out _ (HTT.out _ KQ) (HEE.out _ KQ)).mono ?_; rintro e w9 ⟨rfl, hb⟩; replace KQ := bstep KQ hb KQ.size; clear hb) | (with_reducible refine (N3.out _ (HTT.out _ (KQ.alloc KQ.size _)) (HEE.out _ (KQ.alloc KQ.size _))).mono ?_; rintro e w10 ⟨rfl, hb⟩; have hgb := KQ.size; have KB := (Blk.new w9 25 #[.int .i64 0, .string ⟨#[]⟩, .int .i64 0, .int .i64 0, .int .i64 0]).below hb (by simp); replace KQ := bstep (KQ.alloc KQ.size _) hb (KQ.alloc KQ.size _).size; clear hb; generalize w9.heap.size = gb at *; obtain ⟨k0, k1, k2, k3, k4⟩ := mk5R KB; have kf := (fun o => KB.frozen o)) | (refine (N0.out _ (HTT.out _ (below_alloc w2 _).drew) (HEE.out _ (below_alloc w2 _).drew)).mono ?_; rintro e w10 ⟨rfl, hb⟩; have hgb : w2.heap.size ≤ w2.heap.size := Nat.le_refl _; have KB := (show Blk (w2.alloc (.cells #[.int .i64 0, .string ⟨#[]⟩, .int .i64 0, .int .i64 0, .int .i64 0] 25)).drew w2.heap.size 25 #[.int .i64 0, .string ⟨#[]⟩, .int .i64 0, .int .i64 0, .int .i64 0] from Blk.new w2 25 #[.int .i64 0, .string ⟨#[]⟩, .int .i64 0, .int .i64 0, .int .i64 0]).below hb (by simp); replace KQ := bstep ((below_alloc w2 (.cells #[.int .i64 0, .string ⟨#[]⟩, .int .i64 0, .int .i64 0, .int .i64 0] 25)).drew) hb (by simp); clear hb; obtain ⟨k0, k1, k2, k3, k4⟩ := mk5R KB; have kf := (fun o => KB.frozen o)) | (refine (N2.out _ (HTT.out _ (below_alloc w2 _).drew) (HEE.out _ (below_alloc w2 _).drew)).mono ?_; rintro e w10 ⟨rfl, hb⟩; have hgb : w2.heap.size ≤ w2.heap.size := Nat.le_refl _; have KB := (show Blk (w2.alloc (.cells #[.int .i64 0, .string ⟨#[]⟩, .int .i64 0, .int .i64 0, .int .i64 0] 25)).drew w2.heap.size 25 #[.int .i64 0, .string ⟨#[]⟩, .int .i64 0, .int .i64 0, .int .i64 0] from Blk.new w2 25 #[.int .i64 0, .string ⟨#[]⟩, .int .i64 0, .int .i64 0, .int .i64 0]).below hb (by simp); replace KQ := bstep ((below_alloc w2 (.cells #[.int .i64 0, .string ⟨#[]⟩, .int .i64 0, .int .i64 0, .int .i64 0] 25)).drew) hb (by simp); clear hb; obtain ⟨k0, k1, k2, k3, k4⟩ := mk5R KB; have kf := (fun o => KB.frozen o)) | (refine (N3.out _ (HTT.out _ (below_alloc w2 _).drew) (HEE.out _ (below_alloc w2 _).drew)).mono ?_; rintro e w10 ⟨rfl, hb⟩; have hgb : w2.heap.size ≤ w2.heap.size := Nat.le_refl _; have KB := (show Blk (w2.alloc (.cells #[.int .i64 0, .string ⟨#[]⟩, .int .i64 0, .int .i64 0, .int .i64 0] 25)).drew w2.heap.size 25 #[.int .i64 0, .string ⟨#[]⟩, .int .i64 0, .int .i64 0, .int .i64 0] from Blk.new w2 25 #[.int .i64 0, .string ⟨#[]⟩, .int .i64 0, .int .i64 0, .int .i64 0]).below hb (by simp); replace KQ := bstep ((below_alloc w2 (.cells #[.int .i64 0, .string ⟨#[]⟩, .int .i64 0, .int .i64 0, .int .i64 0] 25)).drew) hb (by simp); clear hb; obtain ⟨k0, k1, k2, k3, k4⟩ := mk5R KB; have kf := (fun o => KB.frozen o))))
      all_goals
        go_wp2_with fail
        go_meet
        first
          | exact ⟨_, rfl, hgb, set5R KB _ _ _ _ _, below5R KQ hgb _ _ _ _ _⟩
          | exact ⟨_, rfl, KQ.size, Blk.new _ _ _, KQ.alloc KQ.size _⟩
          | exact ⟨_, rfl, KQ.size, set5R (Blk.new _ _ _) _ _ _ _ _, below5R (KQ.alloc KQ.size _) KQ.size _ _ _ _ _⟩
    case rest =>
      obtain ⟨gb, rfl, hgb, KB, KQ0⟩ := hcut
      generalize wc = w3 at *
      replace KQ := KQ0; clear KQ0
      obtain ⟨e0, e1, e2, e3, e4⟩ := mk5R KB
      have ct := fun W h => ReaderTextI_is u0 x1 u2 u3 0 W (by have := HX1.out; omega) h
      cases hok : SReader.okB ⟨u0, x1, u2, u3, 0⟩ with
      | true =>
        have htx : textR ⟨u0, x1, u2, u3, 0⟩ = (rdT ⟨u0, x1, u2, u3, 0⟩, true) := if_pos hok
        rw [htx] at ct
        by_cases hst : rdT ⟨u0, x1, u2, u3, 0⟩ = s
        · have hpv := HPV.out
          rw [if_pos (HPYES.out _ hok hst)] at hpv
          have HPVV := hide hpv
          rw [hst] at ct
          have CT := hide ct
          have hne : (s.toList == s.toList) = true := by simp
          clear hpv ct htx hok hst HPV HPNO HPYES
          go_wp2_with fail
          refine (CT.out _ (HTT.out _ KQ)).mono ?_; rintro e w6 ⟨rfl, hb⟩
          replace KB := KB.below hb KB.lt; replace KQ := bstep KQ hb KQ.size
          clear hb e0 e1 e2 e3 e4
          obtain ⟨e0, e1, e2, e3, e4⟩ := mk5R KB
          clear KB
          have K1 := HK.out.below KQ HK.out.lt
          obtain ⟨r0, r1, r2, r3, r4⟩ := mk5R K1
          have rf := fun o => K1.frozen o
          have HK1 := hide K1; clear K1
          go_wp2_with fail
          have hF := ((((HK1.out.set 0 (.int .i64 u0)).set 1 (.string x1)).set 2 (.int .i64 u2)).set 3 (.int .i64 u3)).set 4 (.int .i64 0)
          have f0 := hF.cell 0; have f1 := hF.cell 1; have f2 := hF.cell 2; have f3 := hF.cell 3; have f4 := hF.cell 4
          simp at f0 f1 f2 f3 f4
          exact bodyPost_ret (v := .tuple #[.agg #[.int .i64 u0, .string x1, .int .i64 u2, .int .i64 u3, .int .i64 0], .bool true]) (by simp [results, Tryz.results10, go_sem, f0, f1, f2, f3, f4]) rfl ⟨by rw [HPVV.out], below5R (HBZ.out.trans (Below.mono KQ hB2)) (Nat.le_refl _) _ _ _ _ _⟩
        · have hpv := HPV.out
          rw [if_neg (by rw [HPNO.out _ (.inr hst)]; simp)] at hpv
          have HPVV := hide hpv
          have hne : ((rdT ⟨u0, x1, u2, u3, 0⟩).toList == s.toList) = false := by
            simp only [beq_eq_false_iff_ne, ne_eq]
            intro h
            exact hst (bytes_ext (by simpa [ByteArray.toList_eq] using h))
          generalize rdT ⟨u0, x1, u2, u3, 0⟩ = tx at *
          have CT := hide ct
          clear hpv ct htx hok hst HPV HPNO HPYES
          go_wp2_with fail
          refine (CT.out _ (HTT.out _ KQ)).mono ?_; rintro e w6 ⟨rfl, hb⟩
          replace KB := KB.below hb KB.lt; replace KQ := bstep KQ hb KQ.size
          clear hb e0 e1 e2 e3 e4
          obtain ⟨e0, e1, e2, e3, e4⟩ := mk5R KB
          clear KB
          have K1 := HK.out.below KQ HK.out.lt
          obtain ⟨r0, r1, r2, r3, r4⟩ := mk5R K1
          have rf := fun o => K1.frozen o
          have HK1 := hide K1; clear K1
          go_wp2_with fail
          have hF := ((((HK1.out.set 0 (.int .i64 0)).set 1 (.string ⟨#[]⟩)).set 2 (.int .i64 0)).set 3 (.int .i64 0)).set 4 (.int .i64 0)
          have f0 := hF.cell 0; have f1 := hF.cell 1; have f2 := hF.cell 2; have f3 := hF.cell 3; have f4 := hF.cell 4
          simp at f0 f1 f2 f3 f4
          exact bodyPost_ret (v := .tuple #[.agg #[.int .i64 0, .string ⟨#[]⟩, .int .i64 0, .int .i64 0, .int .i64 0], .bool false]) (by simp [results, Tryz.results10, go_sem, f0, f1, f2, f3, f4]) rfl ⟨by rw [HPVV.out], below5R (HBZ.out.trans (Below.mono KQ hB2)) (Nat.le_refl _) _ _ _ _ _⟩
      | false =>
        have htx : textR ⟨u0, x1, u2, u3, 0⟩ = (⟨#[]⟩, false) := if_neg (by rw [hok]; simp)
        rw [htx] at ct
        have hpv := HPV.out
        rw [if_neg (by rw [HPNO.out _ (.inl hok)]; simp)] at hpv
        have HPVV := hide hpv
        have CT := hide ct
        clear hpv ct htx hok HPV HPNO HPYES
        go_wp2_with fail
        refine (CT.out _ (HTT.out _ KQ)).mono ?_; rintro e w6 ⟨rfl, hb⟩
        replace KB := KB.below hb KB.lt; replace KQ := bstep KQ hb KQ.size
        clear hb e0 e1 e2 e3 e4
        obtain ⟨e0, e1, e2, e3, e4⟩ := mk5R KB
        clear KB
        have K1 := HK.out.below KQ HK.out.lt
        obtain ⟨r0, r1, r2, r3, r4⟩ := mk5R K1
        have rf := fun o => K1.frozen o
        have HK1 := hide K1; clear K1
        go_wp2_with fail
        have hF := ((((HK1.out.set 0 (.int .i64 0)).set 1 (.string ⟨#[]⟩)).set 2 (.int .i64 0)).set 3 (.int .i64 0)).set 4 (.int .i64 0)
        have f0 := hF.cell 0; have f1 := hF.cell 1; have f2 := hF.cell 2; have f3 := hF.cell 3; have f4 := hF.cell 4
        simp at f0 f1 f2 f3 f4
        exact bodyPost_ret (v := .tuple #[.agg #[.int .i64 0, .string ⟨#[]⟩, .int .i64 0, .int .i64 0, .int .i64 0], .bool false]) (by simp [results, Tryz.results10, go_sem, f0, f1, f2, f3, f4]) rfl ⟨by rw [HPVV.out], below5R (HBZ.out.trans (Below.mono KQ hB2)) (Nat.le_refl _) _ _ _ _ _⟩
  · have hK5 := hK; clear hK
    by_cases hK : ws.length = 7
    · clear hK5
      obtain ⟨x0, x1, x2, x3, x4, x5, x6, rfl⟩ : ∃ x0 x1 x2 x3 x4 x5 x6, ws = [x0, x1, x2, x3, x4, x5, x6] := by
        match ws, hK with
        | [a, b, c, d, e, f, g], _ => exact ⟨a, b, c, d, e, f, g, rfl⟩
      obtain ⟨b, off, rfl, hbb, c0, c1, c2, c3, c4, c5, c6⟩ := strs7 HR.out
      have z0 := HLE.out x0 (by simp); have z1 := HLE.out x1 (by simp); have z2 := HLE.out x2 (by simp); have z3 := HLE.out x3 (by simp); have z4 := HLE.out x4 (by simp); have z5 := HLE.out x5 (by simp); have z6 := HLE.out x6 (by simp)
      have hS : ∀ W, Below w2.heap.size w2 W → W.cell? ⟨b, off, none⟩ = some (.string x0) ∧ W.cell? ⟨b, off + 1, none⟩ = some (.string x1) ∧ W.cell? ⟨b, off + 2, none⟩ = some (.string x2) ∧ W.cell? ⟨b, off + 3, none⟩ = some (.string x3) ∧ W.cell? ⟨b, off + 4, none⟩ = some (.string x4) ∧ W.cell? ⟨b, off + 5, none⟩ = some (.string x5) ∧ W.cell? ⟨b, off + 6, none⟩ = some (.string x6) := fun W h => by
        have up : ∀ o u, w2.cell? ⟨b, o, none⟩ = some u → W.cell? ⟨b, o, none⟩ = some u := fun o u hu => ((bcell h).1 b o hbb).trans hu
        exact ⟨up _ _ c0, up _ _ c1, up _ _ c2, up _ _ c3, up _ _ c4, up _ _ c5, up _ _ c6⟩
      have hT := fun W (h : Below w2.heap.size w2 W) => HT.out.below h (Nat.le_refl _)
      have hE := fun W (h : Below w2.heap.size w2 W) => HE.out.below h (Nat.le_refl _)
      have KQ := (Below.refl w2.heap.size w2).drew
      have y3 := trimP_leR x2 ⟨#[99]⟩
      have q3 := fun W => trimP_is x2 ⟨#[99]⟩ W (by omega) (by decide)
      have n0 := fun W h1 h2 => number_is x0 W (by omega) h1 h2
      have n2 := fun W h1 h2 => number_is x4 W (by omega) h1 h2
      have n3 := fun W h1 h2 => number_is (trimP x2 ⟨#[99]⟩) W (by omega) h1 h2
      have n4 := fun W h1 h2 => number_is x6 W (by omega) h1 h2
      have hsh : rdI [x0, x1, x2, x3, x4, x5, x6] = ⟨numW x0, x1, numW x4, numW (trimP x2 ⟨#[99]⟩), numW x6⟩ := rfl
      have hpv := HPAR.out
      rw [hsh] at hpv
      have hpno := fun z h => HNO.out z (.inr h)
      have hpyes := fun z => HYES.out z (.inr rfl)
      have hx1 : x1.size ≤ 4000 := by omega
      have Q3 := hide q3; clear q3
      have N0 := hide n0; have N2 := hide n2; have N3 := hide n3; clear n0 n2 n3
      have N4 := hide n4; clear n4
      have HS := hide hS; have HTT := hide hT; have HEE := hide hE; have HPV := hide hpv; have HPNO := hide hpno; have HPYES := hide hpyes; have HX1 := hide hx1
      clear hS hT hE HT HE HR hlen hK HLE c0 c1 c2 c3 c4 c5 c6 HPAR HNO HYES hsh hpv hpno hpyes z0 z1 z2 z3 z4 z5 z6 y3 hwl hx1
      generalize numW x0 = u0 at *; generalize numW x4 = u2 at *; generalize numW (trimP x2 ⟨#[99]⟩) = u3 at *; generalize numW x6 = u4 at *
      go_upto_region 4 with fail
      go_cut [5] from 19 to 35 (fun t5 wx => ∃ gb, t5 = .pointer (some ⟨gb, 0, none⟩) ∧ w2.heap.size ≤ gb ∧ Blk wx gb 25 #[.int .i64 u0, .string x1, .int .i64 u2, .int .i64 u3, .int .i64 0] ∧ Below w2.heap.size w2 wx)
      case first =>
        go_region_held3 (fun W => W.cell? ⟨b, off, none⟩ = some (.string x0) ∧ W.cell? ⟨b, off + 1, none⟩ = some (.string x1) ∧ W.cell? ⟨b, off + 2, none⟩ = some (.string x2) ∧ W.cell? ⟨b, off + 3, none⟩ = some (.string x3) ∧ W.cell? ⟨b, off + 4, none⟩ = some (.string x4) ∧ W.cell? ⟨b, off + 5, none⟩ = some (.string x5) ∧ W.cell? ⟨b, off + 6, none⟩ = some (.string x6)) (first | (with_reducible exact HS.out _ KQ) | (with_reducible exact HS.out _ (below_alloc w2 _).drew) | (with_reducible exact HS.out _ (KQ.alloc KQ.size _)) | (with_reducible exact HS.out _ (below5R KQ hgb _ _ _ _ _)) | (with_reducible exact HS.out _ (below5R (KQ.alloc KQ.size _) KQ.size _ _ _ _ _)))
          (first
            | (go_at_call 54; with_reducible refine (Q3.out _).mono ?_; rintro e w9 ⟨rfl, rfl⟩)
            | (go_at_call 53; first | (have KB0 := KB; with_reducible refine (N0.out _ (HTT.out _ KQ) (HEE.out _ KQ)).mono ?_; rintro e w9 ⟨rfl, hb⟩; replace KB := KB.below hb KB.lt; replace KQ := bstep KQ hb KQ.size; clear KB0 hb k0 k1 k2 k3 k4 kf; obtain ⟨k0, k1, k2, k3, k4⟩ := mk5R KB; have kf := (fun o => KB.frozen o)) | (with_reducible refine (N0.out _ (HTT.out _ KQ) (HEE.out _ KQ)).mono ?_; rintro e w9 ⟨rfl, hb⟩; replace KQ := bstep KQ hb KQ.size; clear hb) | (with_reducible refine (N0.out _ (HTT.out _ (KQ.alloc KQ.size _)) (HEE.out _ (KQ.alloc KQ.size _))).mono ?_; rintro e w10 ⟨rfl, hb⟩; have hgb := KQ.size; have KB := (Blk.new w9 25 #[.int .i64 0, .string ⟨#[]⟩, .int .i64 0, .int .i64 0, .int .i64 0]).below hb (by simp); replace KQ := bstep (KQ.alloc KQ.size _) hb (KQ.alloc KQ.size _).size; clear hb; generalize w9.heap.size = gb at *; obtain ⟨k0, k1, k2, k3, k4⟩ := mk5R KB; have kf := (fun o => KB.frozen o)) | (have KB0 := KB; with_reducible refine (N2.out _ (HTT.out _ KQ) (HEE.out _ KQ)).mono ?_; rintro e w9 ⟨rfl, hb⟩; replace KB := KB.below hb KB.lt; replace KQ := bstep KQ hb KQ.size; clear KB0 hb k0 k1 k2 k3 k4 kf; obtain ⟨k0, k1, k2, k3, k4⟩ := mk5R KB; have kf := (fun o => KB.frozen o)) | (with_reducible refine (N2.out _ (HTT.out _ KQ) (HEE.out _ KQ)).mono ?_; rintro e w9 ⟨rfl, hb⟩; replace KQ := bstep KQ hb KQ.size; clear hb) | (with_reducible refine (N2.out _ (HTT.out _ (KQ.alloc KQ.size _)) (HEE.out _ (KQ.alloc KQ.size _))).mono ?_; rintro e w10 ⟨rfl, hb⟩; have hgb := KQ.size; have KB := (Blk.new w9 25 #[.int .i64 0, .string ⟨#[]⟩, .int .i64 0, .int .i64 0, .int .i64 0]).below hb (by simp); replace KQ := bstep (KQ.alloc KQ.size _) hb (KQ.alloc KQ.size _).size; clear hb; generalize w9.heap.size = gb at *; obtain ⟨k0, k1, k2, k3, k4⟩ := mk5R KB; have kf := (fun o => KB.frozen o)) | (have KB0 := KB; with_reducible refine (N3.out _ (HTT.out _ KQ) (HEE.out _ KQ)).mono ?_; rintro e w9 ⟨rfl, hb⟩; replace KB := KB.below hb KB.lt; replace KQ := bstep KQ hb KQ.size; clear KB0 hb k0 k1 k2 k3 k4 kf; obtain ⟨k0, k1, k2, k3, k4⟩ := mk5R KB; have kf := (fun o => KB.frozen o)) | (with_reducible refine (N3.out _ (HTT.out _ KQ) (HEE.out _ KQ)).mono ?_; rintro e w9 ⟨rfl, hb⟩; replace KQ := bstep KQ hb KQ.size; clear hb) | (with_reducible refine (N3.out _ (HTT.out _ (KQ.alloc KQ.size _)) (HEE.out _ (KQ.alloc KQ.size _))).mono ?_; rintro e w10 ⟨rfl, hb⟩; have hgb := KQ.size; have KB := (Blk.new w9 25 #[.int .i64 0, .string ⟨#[]⟩, .int .i64 0, .int .i64 0, .int .i64 0]).below hb (by simp); replace KQ := bstep (KQ.alloc KQ.size _) hb (KQ.alloc KQ.size _).size; clear hb; generalize w9.heap.size = gb at *; obtain ⟨k0, k1, k2, k3, k4⟩ := mk5R KB; have kf := (fun o => KB.frozen o)) | (refine (N0.out _ (HTT.out _ (below_alloc w2 _).drew) (HEE.out _ (below_alloc w2 _).drew)).mono ?_; rintro e w10 ⟨rfl, hb⟩; have hgb : w2.heap.size ≤ w2.heap.size := Nat.le_refl _; have KB := (show Blk (w2.alloc (.cells #[.int .i64 0, .string ⟨#[]⟩, .int .i64 0, .int .i64 0, .int .i64 0] 25)).drew w2.heap.size 25 #[.int .i64 0, .string ⟨#[]⟩, .int .i64 0, .int .i64 0, .int .i64 0] from Blk.new w2 25 #[.int .i64 0, .string ⟨#[]⟩, .int .i64 0, .int .i64 0, .int .i64 0]).below hb (by simp); replace KQ := bstep ((below_alloc w2 (.cells #[.int .i64 0, .string ⟨#[]⟩, .int .i64 0, .int .i64 0, .int .i64 0] 25)).drew) hb (by simp); clear hb; obtain ⟨k0, k1, k2, k3, k4⟩ := mk5R KB; have kf := (fun o => KB.frozen o)) | (refine (N2.out _ (HTT.out _ (below_alloc w2 _).drew) (HEE.out _ (below_alloc w2 _).drew)).mono ?_; rintro e w10 ⟨rfl, hb⟩; have hgb : w2.heap.size ≤ w2.heap.size := Nat.le_refl _; have KB := (show Blk (w2.alloc (.cells #[.int .i64 0, .string ⟨#[]⟩, .int .i64 0, .int .i64 0, .int .i64 0] 25)).drew w2.heap.size 25 #[.int .i64 0, .string ⟨#[]⟩, .int .i64 0, .int .i64 0, .int .i64 0] from Blk.new w2 25 #[.int .i64 0, .string ⟨#[]⟩, .int .i64 0, .int .i64 0, .int .i64 0]).below hb (by simp); replace KQ := bstep ((below_alloc w2 (.cells #[.int .i64 0, .string ⟨#[]⟩, .int .i64 0, .int .i64 0, .int .i64 0] 25)).drew) hb (by simp); clear hb; obtain ⟨k0, k1, k2, k3, k4⟩ := mk5R KB; have kf := (fun o => KB.frozen o)) | (refine (N3.out _ (HTT.out _ (below_alloc w2 _).drew) (HEE.out _ (below_alloc w2 _).drew)).mono ?_; rintro e w10 ⟨rfl, hb⟩; have hgb : w2.heap.size ≤ w2.heap.size := Nat.le_refl _; have KB := (show Blk (w2.alloc (.cells #[.int .i64 0, .string ⟨#[]⟩, .int .i64 0, .int .i64 0, .int .i64 0] 25)).drew w2.heap.size 25 #[.int .i64 0, .string ⟨#[]⟩, .int .i64 0, .int .i64 0, .int .i64 0] from Blk.new w2 25 #[.int .i64 0, .string ⟨#[]⟩, .int .i64 0, .int .i64 0, .int .i64 0]).below hb (by simp); replace KQ := bstep ((below_alloc w2 (.cells #[.int .i64 0, .string ⟨#[]⟩, .int .i64 0, .int .i64 0, .int .i64 0] 25)).drew) hb (by simp); clear hb; obtain ⟨k0, k1, k2, k3, k4⟩ := mk5R KB; have kf := (fun o => KB.frozen o))))
        all_goals
          go_wp2_with fail
          go_meet
          first
            | exact ⟨_, rfl, hgb, set5R KB _ _ _ _ _, below5R KQ hgb _ _ _ _ _⟩
            | exact ⟨_, rfl, KQ.size, Blk.new _ _ _, KQ.alloc KQ.size _⟩
            | exact ⟨_, rfl, KQ.size, set5R (Blk.new _ _ _) _ _ _ _ _, below5R (KQ.alloc KQ.size _) KQ.size _ _ _ _ _⟩
      case rest =>
        obtain ⟨gb, rfl, hgb, KB, KQ0⟩ := hcut
        generalize wc = w3 at *
        replace KQ := KQ0; clear KQ0
        obtain ⟨d0, d1, d2, d3, d4, d5, d6⟩ := HS.out _ KQ
        clear d0 d1 d2 d3 d4 d5
        obtain ⟨e0, e1, e2, e3, e4⟩ := mk5R KB
        have ef := fun o => KB.frozen o
        go_wp2_with fail
        refine (N4.out _ (HTT.out _ KQ) (HEE.out _ KQ)).mono ?_; rintro e w4 ⟨rfl, hb⟩
        replace KB := KB.below hb KB.lt; replace KQ := bstep KQ hb KQ.size; clear hb d6 e0 e1 e2 e3 e4 ef
        obtain ⟨e0, e1, e2, e3, e4⟩ := mk5R KB
        have ef := fun o => KB.frozen o
        go_upto_region 7 with fail
        clear e0 e1 e2 e3 e4 ef
        replace KB := KB.set 4 (.int .i64 u4)
        replace KQ := Below.setCell (p := ⟨gb, 4, none⟩) KQ hgb (.int .i64 u4)
        generalize w4.setCell ⟨gb, 4, none⟩ (.int .i64 u4) = w5 at *
        replace KB := (show Blk w5 gb 25 #[.int .i64 u0, .string x1, .int .i64 u2, .int .i64 u3, .int .i64 u4] from KB)
        obtain ⟨e0, e1, e2, e3, e4⟩ := mk5R KB
        have ct := fun W h => ReaderTextI_is u0 x1 u2 u3 u4 W (by have := HX1.out; omega) h
        cases hok : SReader.okB ⟨u0, x1, u2, u3, u4⟩ with
        | true =>
          have htx : textR ⟨u0, x1, u2, u3, u4⟩ = (rdT ⟨u0, x1, u2, u3, u4⟩, true) := if_pos hok
          rw [htx] at ct
          by_cases hst : rdT ⟨u0, x1, u2, u3, u4⟩ = s
          · have hpv := HPV.out
            rw [if_pos (HPYES.out _ hok hst)] at hpv
            have HPVV := hide hpv
            rw [hst] at ct
            have CT := hide ct
            have hne : (s.toList == s.toList) = true := by simp
            clear hpv ct htx hok hst HPV HPNO HPYES
            go_wp2_with fail
            refine (CT.out _ (HTT.out _ KQ)).mono ?_; rintro e w6 ⟨rfl, hb⟩
            replace KB := KB.below hb KB.lt; replace KQ := bstep KQ hb KQ.size
            clear hb e0 e1 e2 e3 e4
            obtain ⟨e0, e1, e2, e3, e4⟩ := mk5R KB
            clear KB
            have K1 := HK.out.below KQ HK.out.lt
            obtain ⟨r0, r1, r2, r3, r4⟩ := mk5R K1
            have rf := fun o => K1.frozen o
            have HK1 := hide K1; clear K1
            go_wp2_with fail
            have hF := ((((HK1.out.set 0 (.int .i64 u0)).set 1 (.string x1)).set 2 (.int .i64 u2)).set 3 (.int .i64 u3)).set 4 (.int .i64 u4)
            have f0 := hF.cell 0; have f1 := hF.cell 1; have f2 := hF.cell 2; have f3 := hF.cell 3; have f4 := hF.cell 4
            simp at f0 f1 f2 f3 f4
            exact bodyPost_ret (v := .tuple #[.agg #[.int .i64 u0, .string x1, .int .i64 u2, .int .i64 u3, .int .i64 u4], .bool true]) (by simp [results, Tryz.results10, go_sem, f0, f1, f2, f3, f4]) rfl ⟨by rw [HPVV.out], below5R (HBZ.out.trans (Below.mono KQ hB2)) (Nat.le_refl _) _ _ _ _ _⟩
          · have hpv := HPV.out
            rw [if_neg (by rw [HPNO.out _ (.inr hst)]; simp)] at hpv
            have HPVV := hide hpv
            have hne : ((rdT ⟨u0, x1, u2, u3, u4⟩).toList == s.toList) = false := by
              simp only [beq_eq_false_iff_ne, ne_eq]
              intro h
              exact hst (bytes_ext (by simpa [ByteArray.toList_eq] using h))
            generalize rdT ⟨u0, x1, u2, u3, u4⟩ = tx at *
            have CT := hide ct
            clear hpv ct htx hok hst HPV HPNO HPYES
            go_wp2_with fail
            refine (CT.out _ (HTT.out _ KQ)).mono ?_; rintro e w6 ⟨rfl, hb⟩
            replace KB := KB.below hb KB.lt; replace KQ := bstep KQ hb KQ.size
            clear hb e0 e1 e2 e3 e4
            obtain ⟨e0, e1, e2, e3, e4⟩ := mk5R KB
            clear KB
            have K1 := HK.out.below KQ HK.out.lt
            obtain ⟨r0, r1, r2, r3, r4⟩ := mk5R K1
            have rf := fun o => K1.frozen o
            have HK1 := hide K1; clear K1
            go_wp2_with fail
            have hF := ((((HK1.out.set 0 (.int .i64 0)).set 1 (.string ⟨#[]⟩)).set 2 (.int .i64 0)).set 3 (.int .i64 0)).set 4 (.int .i64 0)
            have f0 := hF.cell 0; have f1 := hF.cell 1; have f2 := hF.cell 2; have f3 := hF.cell 3; have f4 := hF.cell 4
            simp at f0 f1 f2 f3 f4
            exact bodyPost_ret (v := .tuple #[.agg #[.int .i64 0, .string ⟨#[]⟩, .int .i64 0, .int .i64 0, .int .i64 0], .bool false]) (by simp [results, Tryz.results10, go_sem, f0, f1, f2, f3, f4]) rfl ⟨by rw [HPVV.out], below5R (HBZ.out.trans (Below.mono KQ hB2)) (Nat.le_refl _) _ _ _ _ _⟩
        | false =>
          have htx : textR ⟨u0, x1, u2, u3, u4⟩ = (⟨#[]⟩, false) := if_neg (by rw [hok]; simp)
          rw [htx] at ct
          have hpv := HPV.out
          rw [if_neg (by rw [HPNO.out _ (.inl hok)]; simp)] at hpv
          have HPVV := hide hpv
          have CT := hide ct
          clear hpv ct htx hok HPV HPNO HPYES
          go_wp2_with fail
          refine (CT.out _ (HTT.out _ KQ)).mono ?_; rintro e w6 ⟨rfl, hb⟩
          replace KB := KB.below hb KB.lt; replace KQ := bstep KQ hb KQ.size
          clear hb e0 e1 e2 e3 e4
          obtain ⟨e0, e1, e2, e3, e4⟩ := mk5R KB
          clear KB
          have K1 := HK.out.below KQ HK.out.lt
          obtain ⟨r0, r1, r2, r3, r4⟩ := mk5R K1
          have rf := fun o => K1.frozen o
          have HK1 := hide K1; clear K1
          go_wp2_with fail
          have hF := ((((HK1.out.set 0 (.int .i64 0)).set 1 (.string ⟨#[]⟩)).set 2 (.int .i64 0)).set 3 (.int .i64 0)).set 4 (.int .i64 0)
          have f0 := hF.cell 0; have f1 := hF.cell 1; have f2 := hF.cell 2; have f3 := hF.cell 3; have f4 := hF.cell 4
          simp at f0 f1 f2 f3 f4
          exact bodyPost_ret (v := .tuple #[.agg #[.int .i64 0, .string ⟨#[]⟩, .int .i64 0, .int .i64 0, .int .i64 0], .bool false]) (by simp [results, Tryz.results10, go_sem, f0, f1, f2, f3, f4]) rfl ⟨by rw [HPVV.out], below5R (HBZ.out.trans (Below.mono KQ hB2)) (Nat.le_refl _) _ _ _ _ _⟩
    · have hpv := HPAR.out
      rw [if_neg (by rw [HNO.out _ (.inl ⟨hK5, hK⟩)]; simp)] at hpv
      have HPVV := hide hpv
      have hne5 : ((ws.length : Int) != 5) = true := by simp only [bne_iff_ne, ne_eq]; omega
      have hne7 : ((ws.length : Int) != 7) = true := by simp only [bne_iff_ne, ne_eq]; omega
      clear hpv HPAR HNO HYES hK hK5 HT HE HR
      have K1 := HK.out
      obtain ⟨r0, r1, r2, r3, r4⟩ := mk5R K1
      have rf := fun o => K1.frozen o
      have HK1 := hide K1; clear K1
      go_wp2_with fail
      have hF := ((((HK1.out.set 0 (.int .i64 0)).set 1 (.string ⟨#[]⟩)).set 2 (.int .i64 0)).set 3 (.int .i64 0)).set 4 (.int .i64 0)
      have f0 := hF.cell 0; have f1 := hF.cell 1; have f2 := hF.cell 2; have f3 := hF.cell 3; have f4 := hF.cell 4
      simp at f0 f1 f2 f3 f4
      exact bodyPost_ret (v := .tuple #[.agg #[.int .i64 0, .string ⟨#[]⟩, .int .i64 0, .int .i64 0, .int .i64 0], .bool false]) (by simp [results, Tryz.results10, go_sem, f0, f1, f2, f3, f4]) rfl ⟨by rw [HPVV.out], below5R (HBZ.out) (Nat.le_refl _) _ _ _ _ _⟩
end Go.Proofs.YtplemibckjnbhaaGreatDoor
