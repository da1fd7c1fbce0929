/- Contract of MissingSheets in impl: the Lean function missV. Condition: fewer than 1000 sheets. -/
import Derived.Test.YtplemibckjnbhaaGreatDoorL2M
import Derived.Test.YtplemibckjnbhaaGreatDoorL2K
import Derived.Deep.CutRange
namespace Go.Proofs.YtplemibckjnbhaaGreatDoor
open Go.RowKit
set_option linter.unusedVariables false
def bndI (y : SSheet) (l : List SSheet) : Int × Int × Int × Int := l.foldl bst (y.row, y.row, y.col, y.col)
theorem bndI_snoc (y : SSheet) (l : List SSheet) (s : SSheet) : bndI y (l ++ [s]) = bst (bndI y l) s := by unfold bndI; rw [List.foldl_append]; rfl
/-- the bounds of a list that is not empty -/
def IsB (b : Int × Int × Int × Int) (P : SSheet → Prop) : Prop :=
  (∀ s, P s → (b.1 ≤ s.row ∧ s.row ≤ b.2.1) ∧ (b.2.2.1 ≤ s.col ∧ s.col ≤ b.2.2.2)) ∧ ((∃ s, P s ∧ s.row = b.1) ∧ ∃ s, P s ∧ s.row = b.2.1) ∧ (∃ s, P s ∧ s.col = b.2.2.1) ∧ ∃ s, P s ∧ s.col = b.2.2.2
theorem IsB.one {b b' : Int × Int × Int × Int} {P : SSheet → Prop} (h : IsB b P) (h' : IsB b' P) : b = b' := by
  obtain ⟨i1, ⟨⟨s1, m1, e1⟩, s2, m2, e2⟩, ⟨s3, m3, e3⟩, s4, m4, e4⟩ := h
  obtain ⟨j1, ⟨⟨t1, n1, f1⟩, t2, n2, f2⟩, ⟨t3, n3, f3⟩, t4, n4, f4⟩ := h'
  have a1 := i1 t1 n1; have a2 := i1 t2 n2; have a3 := i1 t3 n3; have a4 := i1 t4 n4
  have c1 := j1 s1 m1; have c2 := j1 s2 m2; have c3 := j1 s3 m3; have c4 := j1 s4 m4
  obtain ⟨x, y, z, u⟩ := b
  obtain ⟨x', y', z', u'⟩ := b'
  simp only at *
  rw [show x = x' by omega, show y = y' by omega, show z = z' by omega, show u = u' by omega]
theorem bndI_is (y : SSheet) (l : List SSheet) : ∀ n, n ≤ l.length → IsB (bndI y (l.take n)) (fun s => s = y ∨ s ∈ l.take n)
  | 0, _ => by
    refine ⟨fun s hs => ?_, ⟨⟨y, .inl rfl, rfl⟩, y, .inl rfl, rfl⟩, ⟨y, .inl rfl, rfl⟩, y, .inl rfl, rfl⟩
    rcases hs with rfl | hs
    · exact ⟨⟨Int.le_refl _, Int.le_refl _⟩, Int.le_refl _, Int.le_refl _⟩
    · simp at hs
  | n + 1, hn => by
    have hlt : n < l.length := by omega
    obtain ⟨i1, ⟨⟨s1, m1, e1⟩, s2, m2, e2⟩, ⟨s3, m3, e3⟩, s4, m4, e4⟩ := bndI_is y l n (by omega)
    rw [take_snoc' hlt, bndI_snoc]
    generalize bndI y (l.take n) = b at *
    generalize l[n] = z at *
    have hz : z = y ∨ z ∈ l.take n ++ [z] := .inr (by simp)
    have up : ∀ {s}, (s = y ∨ s ∈ l.take n) → (s = y ∨ s ∈ l.take n ++ [z]) := fun h => h.imp_right (List.mem_append_left _)
    unfold bst IsB
    simp only
    refine ⟨?_, ⟨?_, ?_⟩, ?_, ?_⟩
    · intro s hs
      have hs' : (s = y ∨ s ∈ l.take n) ∨ s = z := by
        rcases hs with h | h
        · exact .inl (.inl h)
        · rcases List.mem_append.1 h with h | h
          · exact .inl (.inr h)
          · exact .inr (List.mem_singleton.1 h)
      rcases hs' with h | rfl
      · have := i1 s h; refine ⟨⟨by omega, by omega⟩, by omega, by omega⟩
      · refine ⟨⟨by omega, by omega⟩, by omega, by omega⟩
    · by_cases hc : b.1 ≤ z.row
      · exact ⟨s1, up m1, by omega⟩
      · exact ⟨z, hz, by omega⟩
    · by_cases hc : z.row ≤ b.2.1
      · exact ⟨s2, up m2, by omega⟩
      · exact ⟨z, hz, by omega⟩
    · by_cases hc : b.2.2.1 ≤ z.col
      · exact ⟨s3, up m3, by omega⟩
      · exact ⟨z, hz, by omega⟩
    · by_cases hc : z.col ≤ b.2.2.2
      · exact ⟨s4, up m4, by omega⟩
      · exact ⟨z, hz, by omega⟩
theorem bndI_eq {xs ys : List SSheet} {sc : Int} {y : SSheet} (hg : goodS xs = true) (hp : ys.Perm (ofSc xs sc)) (hy : y ∈ ys) : bndI y ys = bnd (ofSc xs sc) := by
  have h1 := bndI_is y ys ys.length (Nat.le_refl _)
  rw [List.take_length] at h1
  have hm : ∀ s, s ∈ ofSc xs sc ↔ (s = y ∨ s ∈ ys) := fun s => by
    rw [← hp.mem_iff]
    exact ⟨.inr, fun h => h.elim (fun e => e ▸ hy) id⟩
  have hne : ofSc xs sc ≠ [] := List.ne_nil_of_mem (hp.mem_iff.1 hy)
  obtain ⟨k1, _, _, k4⟩ := bnd_of _ (ofSc_bd hg sc)
  obtain ⟨⟨⟨s1, m1, e1⟩, s2, m2, e2⟩, ⟨s3, m3, e3⟩, s4, m4, e4⟩ := k4 hne
  exact h1.one ⟨fun s hs => k1 s ((hm s).2 hs), ⟨⟨s1, (hm _).1 m1, e1⟩, s2, (hm _).1 m2, e2⟩, ⟨s3, (hm _).1 m3, e3⟩, s4, (hm _).1 m4, e4⟩
theorem noneAt_perm {xs ys : List SSheet} {sc : Int} (hp : ys.Perm (ofSc xs sc)) (r c : Int) : decide (atV ys r c sc < 0) = noneAt xs sc r c := by
  rw [Bool.eq_iff_iff]
  show noneAt ys sc r c = true ↔ _
  rw [noneAt_iff, noneAt_iff]
  constructor
  · intro h s hs hsc
    exact h s (hp.mem_iff.2 (by unfold ofSc; rw [List.mem_filter, decide_eq_true_iff]; exact ⟨hs, hsc⟩)) hsc
  · intro h s hs hsc
    have := hp.mem_iff.1 hs
    unfold ofSc at this
    rw [List.mem_filter] at this
    exact h s this.1 hsc
theorem rowP_mono (g : Int → Int → Bool) (r c : Int) {j : Nat} : ∀ n, j ≤ n → (rowP g r c j).length ≤ (rowP g r c n).length
  | 0, h => by obtain rfl : j = 0 := by omega
               exact Nat.le_refl _
  | n + 1, h => by
    by_cases hj : j = n + 1
    · subst hj; exact Nat.le_refl _
    · have := rowP_mono g r c (j := j) n (by omega)
      have e : rowP g r c (n + 1) = rowP g r c n ++ if g r (c + n) then [⟨r, c + n⟩] else [] := rfl
      rw [e, List.length_append]; omega
theorem boxP_mono (g : Int → Int → Bool) (a c : Int) (nc : Nat) {i : Nat} : ∀ n, i ≤ n → (boxP g a c nc i).length ≤ (boxP g a c nc n).length
  | 0, h => by obtain rfl : i = 0 := by omega
               exact Nat.le_refl _
  | n + 1, h => by
    by_cases hi : i = n + 1
    · subst hi; exact Nat.le_refl _
    · have := boxP_mono g a c nc (i := i) n (by omega)
      have e : boxP g a c nc (n + 1) = boxP g a c nc n ++ rowP g (a + n) c nc := rfl
      rw [e, List.length_append]; omega
theorem box_part (g : Int → Int → Bool) (a c : Int) {nc nr i j : Nat} (hi : i < nr) (hj : j ≤ nc) : (boxP g a c nc i ++ rowP g (a + i) c j).length ≤ (boxP g a c nc nr).length := by
  have h1 := boxP_mono g a c nc (i := i + 1) nr (by omega)
  have h2 := rowP_mono g (a + i) c (j := j) nc hj
  have e : boxP g a c nc (i + 1) = boxP g a c nc i ++ rowP g (a + i) c nc := rfl
  rw [e, List.length_append] at h1
  rw [List.length_append]
  omega
theorem two_blkP (w : World) (t0 t1 : TypeId) (c0 c1 : Array Value) : Blk ((w.alloc (.cells c0 t0)).alloc (.cells c1 t1)) w.heap.size t0 c0 ∧ Blk ((w.alloc (.cells c0 t0)).alloc (.cells c1 t1)) (w.heap.size + 1) t1 c1 ∧ Below w.heap.size w ((w.alloc (.cells c0 t0)).alloc (.cells c1 t1)) := by
  refine ⟨(Blk.new w _ _).alloc _, ?_, (below_alloc w _).alloc (by simp) _⟩
  simpa using Blk.new (w.alloc (.cells c0 t0)) t1 c1
theorem mk2P {w : World} {g : Nat} {t : TypeId} {a b : Value} (h : Blk w g t #[a, b]) : w.cell? ⟨g, 0, none⟩ = some a ∧ w.cell? ⟨g, 1, none⟩ = some b ∧ (∀ o, w.frozen? ⟨g, o, none⟩ = false) :=
  ⟨by rw [h.cell]; rfl, by rw [h.cell]; rfl, fun o => h.frozen o⟩
set_option maxHeartbeats 8000000 in
set_option maxRecDepth 100000 in
theorem MissingI_is (v : Value) (xs : List SSheet) (sc : Int) (w : World) (h : Is 5 SSheet.enc w v xs) (hl : xs.length < 1000) :
    Calls Tryz.prog 38 #[v, .int .i64 sc] w fun e w' => ∃ r, e = .returned (.tuple #[r, .bool (missV xs sc).2]) ∧ Own 2 SPair.enc 66 w' w.heap.size r (missV xs sc).1 ∧ Below w.heap.size w w' := by
  obtain ⟨nv, hnv⟩ : ∃ nv, nv = missV xs sc := ⟨_, rfl⟩
  rw [← hnv]
  have HNV := hide hnv; clear hnv
  have hgc := fun W hi => AreSheets_is v xs W hi
  have hof := ofScale_is v xs sc w h hl
  have HIS := hide h
  obtain ⟨A, cap, rfl, hr, _, _⟩ := h
  have HOF := hide hof; have HG := hide hgc
  clear hr hof hgc
  generalize hgm : w.heap.size = gm at *
  have HGM := hide hgm
  go_enter Tryz.func38, Tryz.ntmps38
  go_wp2_with fail
  refine HOF.out.mono ?_; rintro e w1 ⟨v6, ys, rfl, hperm, _, ho, hb⟩
  have hs1 : gm ≤ w1.heap.size := by have := hb.size; omega
  have HP := hide (show ys.Perm (ofSc xs sc) from hperm)
  have HY := hide ho; have HB := hide hb
  have HI1 := hide (HIS.out.below (by rw [hgm]; exact hb) (Nat.le_refl _))
  clear ho hb hperm HOF
  cases hg : goodS xs with
  | false =>
    have HGG := HG.out _ HI1.out
    rw [hg] at HGG
    have hnv := HNV.out
    rw [missV_no (by rw [hg]; simp)] at hnv
    subst hnv
    have HQ := hide HGG; clear HGG hg
    go_wp2_with fail
    refine HQ.out.mono ?_; rintro e w4 ⟨rfl, hb4⟩
    have B4 := hide (HB.out.trans (hb4.mono hs1)); clear hb4
    go_wp2_with fail
    go_ret2
    exact ⟨_, rfl, Own.nil, by first | exact B4.out | (rw [HGM.out]; exact B4.out)⟩
  | true =>
    have HGG := HG.out _ HI1.out
    rw [hg] at HGG
    have hno := fun h => (HNV.out).trans (missV_no (xs := xs) (sc := sc) h)
    have hyes := fun h2 h3 => (HNV.out).trans (missV_yes (xs := xs) (sc := sc) hg h2 h3)
    have HQ := hide HGG; have HNO := hide hno; have HYES := hide hyes; clear HGG hno hyes
    obtain ⟨A6, c6, rfl, _, _, _⟩ := HY.out.is
    go_wp2_with fail
    refine HQ.out.mono ?_; rintro e w2 ⟨rfl, hb⟩
    have hs2 : gm ≤ w2.heap.size := by have := hb.size; omega
    replace HB := hide (HB.out.trans (hb.mono hs1)); replace HY := hide (HY.out.below hb)
    clear hb HI1 HQ HG
    cases hys : ys with
    | nil =>
      have hne : ofSc xs sc = [] := by have := HP.out; rw [hys] at this; exact this.symm.eq_nil
      have hx := HNO.out (by rintro ⟨_, h, _⟩; exact h hne)
      subst hx
      clear hne hg
      go_wp2_with fail
      go_ret2
      exact ⟨_, rfl, Own.nil, by first | exact HB.out | (rw [HGM.out]; exact HB.out)⟩
    | cons y yr =>
      have hpos : 0 < ys.length := by rw [hys]; simp
      have hy0 : ys[0] = y := by simp [hys]
      have hym : y ∈ ys := by rw [hys]; simp
      rw [← hys]
      have hbi := bndI_eq hg HP.out hym
      obtain ⟨A7, c7, he7, hry, _, _⟩ := HY.out.is
      injection he7 with e1 e2 e3; subst e1 e3; clear e2
      obtain ⟨b6, o6, rfl, hb6, q0, q1, q2, q3, q4⟩ := SSheet.cells hry hpos (Below.refl _ _)
      rw [hy0] at q0 q1 q2 q3 q4
      simp only [Nat.zero_mul, Nat.add_zero] at q0 q1 q2 q3 q4
      have hyl : ys.length ≤ 1000 := by
        have h1 := HP.out.length_eq
        have h2 : (ofSc xs sc).length ≤ xs.length := List.length_filter_le _ _
        omega
      have hlen0 : ((ys.length : Int) == 0) = false := by simp only [beq_eq_false_iff_ne, ne_eq]; omega
      have hlp : (0 : Int) < ys.length := by omega
      have HRY := hide hry
      clear hys hry
      go_upto_region 4 with fail
      go_cut [7, 8] from 25 to 42 (fun t7 t8 wx => ∃ g1 g2, t7 = .pointer (some ⟨g1, 0, none⟩) ∧ t8 = .pointer (some ⟨g2, 0, none⟩) ∧ g1 ≠ g2 ∧ w2.heap.size ≤ g1 ∧ w2.heap.size ≤ g2 ∧ Blk wx g1 66 #[.int .i64 y.row, .int .i64 y.col] ∧ Blk wx g2 66 #[.int .i64 y.row, .int .i64 y.col] ∧ Below w2.heap.size w2 wx)
      case first =>
        go_region
        all_goals
          go_wp2_with fail
          go_meet
          obtain ⟨k1, k2, kb⟩ := two_blkP w2 66 66 #[.int .i64 y.row, .int .i64 y.col] #[.int .i64 y.row, .int .i64 y.col]
          first
            | exact ⟨_, _, rfl, rfl, by omega, Nat.le_refl _, by omega, k1, k2, kb.drew⟩
            | exact ⟨_, _, rfl, rfl, by omega, by omega, Nat.le_refl _, k2, k1, kb.drew⟩
      case rest =>
        obtain ⟨g1, g2, rfl, rfl, hne12, hg1, hg2, KA, KB, KQ⟩ := hcut
        generalize wc = w3 at *
        clear q0 q1 q2 q3 q4
        have n12 : ¬ g1 = g2 := hne12
        have n21 : ¬ g2 = g1 := fun e => hne12 e.symm
        go_wp2_with fail
        go_loopw [45] (fun i wr => ∃ (k : Nat) (b : Int × Int × Int × Int), k ≤ ys.length ∧ i = .int .i64 (k : Int) ∧ Hid (b = bndI y (ys.take k)) ∧ Blk wr g1 66 #[.int .i64 b.1, .int .i64 b.2.2.1] ∧ Blk wr g2 66 #[.int .i64 b.2.1, .int .i64 b.2.2.2] ∧ Below w2.heap.size w2 wr) (fun i _ => ys.length - (intOf i).toNat)
        case atStart => exact ⟨0, (y.row, y.row, y.col, y.col), Nat.zero_le _, rfl, rfl, KA, KB, KQ⟩
        case round =>
          clear KA KB KQ
          obtain ⟨k, ⟨a, b, c, d⟩, hk, rfl, hbb, KA, KB, hbel⟩ := hrel
          simp only at KA KB
          have hszr := hbel.size
          by_cases hlt : k < ys.length
          · have hlt' : (k : Int) < ys.length := by omega
            obtain ⟨b8, off8, hA8, hb8, c0, c1, c2, c3, c4⟩ := SSheet.cells HRY.out hlt hbel
            injection hA8 with hA8; injection hA8 with x1 x2; subst x1 x2
            have hst := bndI_snoc y (ys.take k) ys[k]
            rw [← take_snoc' hlt, ← hbb.out] at hst
            generalize ys[k] = yy at *
            have J1 := Blk.new wr 50 #[.int .i64 yy.id, .int .i64 yy.row, .int .i64 yy.col, .int .i64 yy.scale, .int .i64 yy.year]
            have JA := KA.alloc (.cells #[.int .i64 yy.id, .int .i64 yy.row, .int .i64 yy.col, .int .i64 yy.scale, .int .i64 yy.year] 50)
            have JB := KB.alloc (.cells #[.int .i64 yy.id, .int .i64 yy.row, .int .i64 yy.col, .int .i64 yy.scale, .int .i64 yy.year] 50)
            have J3 := hbel.alloc hszr (.cells #[.int .i64 yy.id, .int .i64 yy.row, .int .i64 yy.col, .int .i64 yy.scale, .int .i64 yy.year] 50)
            have l1 := KA.lt; have l2 := KB.lt
            go_upto_region 8 with fail
            clear c0 c1 c2 c3 c4 hbel KA KB
            generalize wr.alloc (.cells #[.int .i64 yy.id, .int .i64 yy.row, .int .i64 yy.col, .int .i64 yy.scale, .int .i64 yy.year] 50) = w7 at *
            generalize wr.heap.size = G7 at *
            have m1 : ¬ G7 = g1 := by omega
            have m2 : ¬ G7 = g2 := by omega
            have m3 : ¬ g1 = G7 := by omega
            have m4 : ¬ g2 = G7 := by omega
            obtain ⟨t0, t1, t2, t3, t4⟩ := mk5S J1
            obtain ⟨p0, p1, pf⟩ := mk2P JA
            obtain ⟨r0, r1, rf⟩ := mk2P JB
            have HST := hide hst; have HJA := hide JA; have HJB := hide JB; have HJ3 := hide J3; clear hst J1 JA JB J3 hbb
            go_wp2_with fail
            go_round
            case measure => (simp [intOf] <;> omega)
            case rel => exact ⟨k + 1, bst (a, b, c, d) yy, by omega, by go_num, HST.out.symm, (((HJA.out.set 0 _).set 1 _).far (p := ⟨g2, 0, none⟩) n12 _).far (p := ⟨g2, 1, none⟩) n12 _, (((HJB.out.far (p := ⟨g1, 0, none⟩) n21 _).far (p := ⟨g1, 1, none⟩) n21 _).set 0 _).set 1 _, Below.setCell (p := ⟨g2, 1, none⟩) (Below.setCell (p := ⟨g2, 0, none⟩) (Below.setCell (p := ⟨g1, 1, none⟩) (Below.setCell (p := ⟨g1, 0, none⟩) HJ3.out hg1 _) hg1 _) hg2 _) hg2 _⟩
          · have hke : k = ys.length := by omega
            subst hke
            have hb2 := hbb.out
            rw [List.take_length, hbi] at hb2
            have hne : ofSc xs sc ≠ [] := List.ne_nil_of_mem (HP.out.mem_iff.1 hym)
            have hbd := bnd_of _ (ofSc_bd hg sc); have hle := bnd_le hg hne
            have hcm : cellsM xs sc = boxP (noneAt xs sc) (bnd (ofSc xs sc)).1 (bnd (ofSc xs sc)).2.2.1 ((bnd (ofSc xs sc)).2.2.2 - (bnd (ofSc xs sc)).2.2.1 + 1).toNat ((bnd (ofSc xs sc)).2.1 - (bnd (ofSc xs sc)).1 + 1).toNat := rfl
            rw [← hb2] at hbd hle hcm
            simp only at hbd hle hcm
            obtain ⟨_, ⟨⟨a0, a1⟩, b0, b1⟩, ⟨⟨c0, c1⟩, d0, d1⟩, _⟩ := hbd
            obtain ⟨ab, cd⟩ := hle
            have nr := bnd_nat ab; have nc' := bnd_nat cd
            have hno := fun h => HNO.out h
            have hyes := fun h => HYES.out hne h
            have hnone := fun r c' => noneAt_perm HP.out r c'
            rw [hcm] at hno hyes
            generalize (b - a + 1).toNat = nrow at *
            generalize (d - c + 1).toNat = nc at *
            generalize noneAt xs sc = g at *
            have HNONE := hide hnone
            have HNO2 := hide (fun (h : ¬ (boxP g a c nc nrow).length ≤ 400) => hno (fun h' => h h'.2.2)); have HYES2 := hide hyes
            have HIY := hide ((HY.out.below hbel).is)
            have HBW := hide (HB.out.trans (hbel.mono hs2))
            have kl1 := KA.lt; have kl2 := KB.lt
            have hgc : ∀ W, Below wr.heap.size wr W → W.cell? ⟨g1, 0, none⟩ = some (.int .i64 a) ∧ W.cell? ⟨g1, 1, none⟩ = some (.int .i64 c) ∧ W.cell? ⟨g2, 0, none⟩ = some (.int .i64 b) ∧ W.cell? ⟨g2, 1, none⟩ = some (.int .i64 d) := fun W hW => by
              obtain ⟨x0, x1, _⟩ := mk2P (KA.below hW kl1)
              obtain ⟨y0, y1, _⟩ := mk2P (KB.below hW kl2)
              exact ⟨x0, x1, y0, y1⟩
            have HGC := hide hgc
            obtain ⟨p0, p1, r0, r1⟩ := hgc wr (Below.refl _ _)
            have hgl : gm ≤ wr.heap.size := by omega
            clear hno hyes hnone hcm hb2 hbb KA KB hbel hgc HP HY HB HNO HYES HNV hym hne hg hbi hszr kl1 kl2
            generalize hwl : wr = wl at *
            clear hwl
            have HREF := hide (Below.refl wl.heap.size wl)
            generalize hN : wl.heap.size = N at *
            go_wp2_with fail
            go_loopw [11, 12] (fun o t wr => ∃ i : Nat, i ≤ nrow ∧ t = .int .i64 (a + (i : Int)) ∧ Own 2 SPair.enc 66 wr N o (boxP g a c nc i) ∧ (boxP g a c nc i).length ≤ 400 ∧ Below N wl wr) (fun _ t _ => (b + 1 - intOf t).toNat)
            case atStart => exact ⟨0, Nat.zero_le _, by simp, Own.nil, by simp [boxP], HREF.out⟩
            case round =>
              clear p0 p1 r0 r1
              obtain ⟨i, hi, rfl, hown, hl4, hbel⟩ := hrel
              obtain ⟨p0, p1, r0, r1⟩ := HGC.out _ hbel
              have HOI := hide hown; have HBI := hide hbel; clear hown hbel
              by_cases hlti : i < nrow
              · have hlti' : a + (i : Int) ≤ b := by omega
                go_wp2_with fail
                go_loopw [11, 13] (fun o t wr => ∃ j : Nat, j ≤ nc ∧ t = .int .i64 (c + (j : Int)) ∧ Own 2 SPair.enc 66 wr N o (boxP g a c nc i ++ rowP g (a + i) c j) ∧ (boxP g a c nc i ++ rowP g (a + i) c j).length ≤ 400 ∧ Below N wl wr) (fun _ t _ => (d + 1 - intOf t).toNat)
                case atStart => exact ⟨0, Nat.zero_le _, by simp, by simpa [rowP] using HOI.out, by simpa [rowP] using hl4, HBI.out⟩
                case round =>
                  clear HOI HBI p0 p1 r0 r1 hl4
                  obtain ⟨j, hj, rfl, hown, hl4, hbel⟩ := hrel
                  obtain ⟨p0, p1, r0, r1⟩ := HGC.out _ hbel
                  have HOJ := hide hown; have HBJ := hide hbel; clear hown
                  have hszj : N ≤ wr.heap.size := by have := hbel.size; omega
                  obtain ⟨A8, c8, rfl, _, _, _⟩ := HOJ.out.is
                  obtain ⟨L, hL⟩ : ∃ L : Nat, (boxP g a c nc i ++ rowP g (a + i) c j).length = L := ⟨_, rfl⟩
                  have hLP : ((boxP g a c nc i ++ rowP g (a + i) c j) ++ [(⟨a + i, c + j⟩ : SPair)]).length = L + 1 := by rw [List.length_append, hL]; rfl
                  simp only [hL] at HOJ hl4 ⊢
                  have HL := hide hL; have HLP := hide hLP; clear hL hLP
                  by_cases hltj : j < nc
                  · have hltj' : c + (j : Int) ≤ d := by omega
                    have hat := sheetOn_any _ ys (a + (i : Int)) (c + (j : Int)) sc wr (HIY.out.below (by rw [hN]; exact hbel) (Nat.le_refl _))
                    have hgv := HNONE.out (a + (i : Int)) (c + (j : Int))
                    have hrs : rowP g (a + i) c (j + 1) = rowP g (a + i) c j ++ if g (a + i) (c + j) then [⟨a + i, c + j⟩] else [] := rfl
                    have hbx := box_part g a c (j := j + 1) hlti (show j + 1 ≤ nc by omega)
                    generalize atV ys (a + (i : Int)) (c + (j : Int)) sc = at_ at *
                    clear hbel
                    by_cases hneg : at_ < 0
                    · rw [decide_eq_true hneg] at hgv
                      rw [← hgv] at hrs
                      simp only [if_true] at hrs
                      rw [hrs, ← List.append_assoc, HLP.out] at hbx
                      have HRS := hide hrs; have HAT := hide hat; clear hrs hat hgv
                      by_cases h4 : L + 1 ≤ 400
                      · have h4' : ¬ (400 : Int) < ((L + 1 : Nat) : Int) := by omega
                        have h4'' : ¬ (400 : Int) < (L : Int) + 1 := by omega
                        go_wp2_with fail
                        refine HAT.out.mono ?_; rintro e w8 ⟨rfl, hb8⟩
                        have HO8 := hide (HOJ.out.below hb8); have HB8 := hide (bstep HBJ.out hb8 hszj)
                        have hsz8 : N ≤ w8.heap.size := by have := hb8.size; omega
                        clear hb8 p0 p1 r0 r1 hbx
                        go_wp2_with (at_builtin; refine wpList_push1 (k := 2) (enc := SPair.enc) _ rfl _ _ 62 rfl 66 (.agg #[.int .i64 0, .int .i64 0]) 16 Tryz.underlying62 (by kernel_rfl) rfl (by omega) (by omega) SPair.one N _ (boxP g a c nc i ++ rowP g (a + i) c j) rfl (HO8.out) ⟨a + i, c + j⟩ _ rfl rfl (by rw [HL.out]; omega) (hsz8) (HB8.out) (Nat.le_refl _) rfl ?_; intro v1 w9 ho1 hb1 hgg1; obtain ⟨A9, c9, hv9, _, _, _⟩ := ho1.is; rw [HLP.out] at hv9; subst hv9; have HO9 := hide ho1; clear ho1 hgg1)
                        first
                          | exact ⟨⟨j + 1, by omega, by go_num, by rw [HRS.out, ← List.append_assoc]; exact HO9.out, by rw [HRS.out, ← List.append_assoc, HLP.out]; exact h4, hb1⟩, by simp [intOf]; omega⟩
                          | (go_round
                             case measure => (simp [intOf] <;> omega)
                             case rel => exact ⟨j + 1, by omega, by go_num, by rw [HRS.out, ← List.append_assoc]; exact HO9.out, by rw [HRS.out, ← List.append_assoc, HLP.out]; exact h4, hb1⟩)
                      · have h4' : (400 : Int) < ((L + 1 : Nat) : Int) := by omega
                        have h4'' : (400 : Int) < (L : Int) + 1 := by omega
                        have hx := HNO2.out (by omega)
                        have HX := hide hx; clear hx
                        go_wp2_with fail
                        refine HAT.out.mono ?_; rintro e w8 ⟨rfl, hb8⟩
                        have HO8 := hide (HOJ.out.below hb8); have HB8 := hide (bstep HBJ.out hb8 hszj)
                        have hsz8 : N ≤ w8.heap.size := by have := hb8.size; omega
                        clear hb8 p0 p1 r0 r1 hbx
                        go_wp2_with (at_builtin; refine wpList_push1 (k := 2) (enc := SPair.enc) _ rfl _ _ 62 rfl 66 (.agg #[.int .i64 0, .int .i64 0]) 16 Tryz.underlying62 (by kernel_rfl) rfl (by omega) (by omega) SPair.one N _ (boxP g a c nc i ++ rowP g (a + i) c j) rfl (HO8.out) ⟨a + i, c + j⟩ _ rfl rfl (by rw [HL.out]; omega) (hsz8) (HB8.out) (Nat.le_refl _) rfl ?_; intro v1 w9 ho1 hb1 hgg1; obtain ⟨A9, c9, hv9, _, _, _⟩ := ho1.is; rw [HLP.out] at hv9; subst hv9; have HO9 := hide ho1; clear ho1 hgg1)
                        go_ret2
                        exact ⟨_, by rw [HX.out]; rfl, by rw [HX.out]; exact Own.nil, by first | exact HBW.out.trans (hb1.mono hgl) | (rw [HGM.out]; exact HBW.out.trans (hb1.mono hgl))⟩
                    · rw [decide_eq_false hneg] at hgv
                      rw [← hgv] at hrs
                      simp only [Bool.false_eq_true, if_false, List.append_nil] at hrs
                      have HRS := hide hrs; have HAT := hide hat; clear hrs hat hgv hbx
                      have h4' : ¬ (400 : Int) < (L : Int) := by omega
                      go_wp2_with fail
                      refine HAT.out.mono ?_; rintro e w8 ⟨rfl, hb8⟩
                      have HO8 := hide (HOJ.out.below hb8); have HB8 := hide (bstep HBJ.out hb8 hszj)
                      clear hb8 p0 p1 r0 r1
                      go_wp2_with fail
                      first
                        | exact ⟨⟨j + 1, by omega, by go_num, by rw [HRS.out]; exact HO8.out, by rw [HRS.out, HL.out]; exact hl4, HB8.out⟩, by simp [intOf]; omega⟩
                        | (go_round
                           case measure => (simp [intOf] <;> omega)
                           case rel => exact ⟨j + 1, by omega, by go_num, by rw [HRS.out]; exact HO8.out, by rw [HRS.out, HL.out]; exact hl4, HB8.out⟩)
                  · have hje : j = nc := by omega
                    subst hje
                    go_wp2_with fail
                    go_round
                    case measure => (simp [intOf] <;> omega)
                    case rel => exact ⟨i + 1, by omega, by go_num, HOJ.out, (show (boxP g a c j (i + 1)).length ≤ 400 from (by rw [show boxP g a c j (i + 1) = boxP g a c j i ++ rowP g (a + i) c j from rfl, HL.out]; exact hl4)), HBJ.out⟩
              · have hie : i = nrow := by omega
                subst hie
                obtain ⟨A8, c8, rfl, _, _, _⟩ := HOI.out.is
                have hx := HYES2.out hl4
                have HX := hide hx; clear hx
                go_wp2_with fail
                go_ret2
                exact ⟨_, by rw [HX.out]; rfl, by rw [HX.out]; first | exact HOI.out.mono hgl | (rw [HGM.out]; exact HOI.out.mono hgl), by first | exact HBW.out.trans (HBI.out.mono hgl) | (rw [HGM.out]; exact HBW.out.trans (HBI.out.mono hgl))⟩
end Go.Proofs.YtplemibckjnbhaaGreatDoor
