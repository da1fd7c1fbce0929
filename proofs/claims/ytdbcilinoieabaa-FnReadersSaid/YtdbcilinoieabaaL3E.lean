/- Contracts of the tests of ripeness and of cents, of what a reader may have, and of l3With. Conditions: valid readers; small numbers. -/
import Derived.Test.YtdbcilinoieabaaL3D
namespace Go.Proofs.Ytdbcilinoieabaa
open Go.RowKit Go.Lib
set_option linter.unusedVariables false
theorem cells5 {w : World} {g : Nat} {t : TypeId} {a b c d e : Value} (h : Blk w g t #[a, b, c, d, e]) : w.cell? ⟨g, 0, none⟩ = some a ∧ w.cell? ⟨g, 1, none⟩ = some b ∧ w.cell? ⟨g, 2, none⟩ = some c ∧ w.cell? ⟨g, 3, none⟩ = some d ∧ w.cell? ⟨g, 4, none⟩ = some e :=
  ⟨by rw [h.cell]; rfl, by rw [h.cell]; rfl, by rw [h.cell]; rfl, by rw [h.cell]; rfl, by rw [h.cell]; rfl⟩
def ripeB (c : SReader) (day : Int) : Bool := decide (c.cls < 3 ∧ c.fines = 0 ∧ c.joined + 365 * c.cls ≤ day)
theorem isRipe_any (a0 : Int) (a1 : ByteArray) (a2 a3 a4 day : Int) (w : World) (h2 : 0 ≤ a2 ∧ a2 ≤ 4000) (h3 : 1 ≤ a3 ∧ a3 ≤ 3) :
    Calls Try.prog 101 #[.agg #[.int .i64 a0, .string a1, .int .i64 a2, .int .i64 a3, .int .i64 a4], .int .i64 day] w fun e w' => e = .returned (.bool (ripeB ⟨a0, a1, a2, a3, a4⟩ day)) ∧ Below w.heap.size w w' := by
  obtain ⟨h20, h21⟩ := h2
  obtain ⟨h30, h31⟩ := h3
  have hiff : ripeB ⟨a0, a1, a2, a3, a4⟩ day = true ↔ (a3 < 3 ∧ a4 = 0 ∧ a2 + 365 * a3 ≤ day) := decide_eq_true_iff
  have HI := hide hiff; clear hiff
  have B1 := below_alloc w (.cells #[.int .i64 a0, .string a1, .int .i64 a2, .int .i64 a3, .int .i64 a4] 49)
  have HB1 := hide B1; clear B1
  by_cases hc : a3 < 3
  · by_cases hf : a4 = 0
    · subst hf
      go_enter Try.func101, Try.ntmps101
      go_wp2_with fail
      go_ret
      refine ⟨ret_bool (bool_of_iff ?_), HB1.out⟩
      rw [HI.out]; simp; omega
    · have hf2 : (a4 == 0) = false := by simpa using hf
      go_enter Try.func101, Try.ntmps101
      go_wp2_with fail
      go_ret
      refine ⟨ret_bool (bool_of_iff ?_), HB1.out⟩
      rw [HI.out]; simp; omega
  · have hc2 : decide (a3 < 3) = false := by simpa using hc
    go_enter Try.func101, Try.ntmps101
    go_wp2_with fail
    go_ret
    refine ⟨ret_bool (bool_of_iff ?_), HB1.out⟩
    rw [HI.out]; simp; omega
theorem l3Ripe_any (a0 : Int) (a1 : ByteArray) (a2 a3 a4 day : Int) (w : World) (h2 : 0 ≤ a2 ∧ a2 ≤ 4000) (h3 : 1 ≤ a3 ∧ a3 ≤ 3) (hd : -100000 ≤ day ∧ day ≤ 100000) :
    Calls Try.prog 103 #[.agg #[.int .i64 a0, .string a1, .int .i64 a2, .int .i64 a3, .int .i64 a4], .int .i64 day] w fun e w' => e = .returned (.bool (ripeB ⟨a0, a1, a2, a3, a4⟩ day)) ∧ Below w.heap.size w w' := by
  obtain ⟨h20, h21⟩ := h2
  obtain ⟨h30, h31⟩ := h3
  obtain ⟨hd0, hd1⟩ := hd
  have hiff : ripeB ⟨a0, a1, a2, a3, a4⟩ day = true ↔ (a3 < 3 ∧ a4 = 0 ∧ a2 + 365 * a3 ≤ day) := decide_eq_true_iff
  have HI := hide hiff; clear hiff
  have B1 := below_alloc w (.cells #[.int .i64 a0, .string a1, .int .i64 a2, .int .i64 a3, .int .i64 a4] 49)
  have HB1 := hide B1; clear B1
  by_cases hc : a3 < 3
  · by_cases hf : a4 = 0
    · subst hf
      go_enter Try.func103, Try.ntmps103
      go_wp2_with fail
      go_ret
      refine ⟨ret_bool (bool_of_iff ?_), HB1.out⟩
      rw [HI.out]; simp; omega
    · have hf2 : (a4 == 0) = false := by simpa using hf
      go_enter Try.func103, Try.ntmps103
      go_wp2_with fail
      go_ret
      refine ⟨ret_bool (bool_of_iff ?_), HB1.out⟩
      rw [HI.out]; simp; omega
  · have hc2 : decide (a3 < 3) = false := by simpa using hc
    go_enter Try.func103, Try.ntmps103
    go_wp2_with fail
    go_ret
    refine ⟨ret_bool (bool_of_iff ?_), HB1.out⟩
    rw [HI.out]; simp; omega
theorem isCents_any (n : Int) (w : World) : Calls Try.prog 94 #[.int .i64 n] w fun e w' => e = .returned (.bool (inB n 1 10000)) ∧ w = w' := by
  go_enter Try.func94, Try.ntmps94
  go_wp2_with (first | (go_at_call 91; refine (within_any _ _ _ _).mono ?_; rintro e w' ⟨rfl, rfl⟩))
  go_ret
  exact ⟨rfl, rfl⟩
/-- a reader of the first class without fines may have two -/
theorem mayHave_one (a0 : Int) (a1 : ByteArray) (a2 : Int) (w : World) :
    Calls Try.prog 92 #[.agg #[.int .i64 a0, .string a1, .int .i64 a2, .int .i64 1, .int .i64 0]] w fun e w' => e = .returned (.int .i64 2) ∧ Below w.heap.size w w' := by
  have B1 := below_alloc w (.cells #[.int .i64 a0, .string a1, .int .i64 a2, .int .i64 1, .int .i64 0] 49)
  have B2 := B1.alloc B1.size (.cells #[.int .i64 2, .int .i64 5, .int .i64 10] 3)
  have HB := hide B2; clear B1 B2
  go_enter Try.func92, Try.ntmps92
  go_wp2_with fail
  go_ret
  exact ⟨rfl, HB.out⟩
set_option maxHeartbeats 1000000 in
set_option maxRecDepth 10000 in
theorem l3With_any (v : Value) (xs : List SReader) (k : Nat) (x0 : Int) (x1 : ByteArray) (x2 x3 x4 : Int) (w : World) (h : Is 5 SReader.enc w v xs) (hw : ∀ z ∈ xs, z.wf) (hx : (⟨x0, x1, x2, x3, x4⟩ : SReader).wf) (hk : k < xs.length) (hl : xs.length ≤ 10) (hg : goodR (xs.set k ⟨x0, x1, x2, x3, x4⟩) = true) :
    Calls Try.prog 98 #[v, .int .i64 (k : Int), .agg #[.int .i64 x0, .string x1, .int .i64 x2, .int .i64 x3, .int .i64 x4]] w fun e w' => ∃ r, e = .returned (.tuple #[r, .bool true]) ∧ Own 5 SReader.enc 49 w' w.heap.size r (xs.set k ⟨x0, x1, x2, x3, x4⟩) ∧ Below w.heap.size w w' := by
  have hgg := fun W v' (hi : Is 5 SReader.enc W v' (xs.set k ⟨x0, x1, x2, x3, x4⟩)) => l3Good_is v' _ W hi (wf_set hw hx)
  rw [hg] at hgg
  have HGG := hide hgg; clear hgg hw hx hg
  have hk' : (k : Int) < xs.length := by omega
  have HBX := hide (Blk.new w 49 #[.int .i64 x0, .string x1, .int .i64 x2, .int .i64 x3, .int .i64 x4])
  have B1 := below_alloc w (.cells #[.int .i64 x0, .string x1, .int .i64 x2, .int .i64 x3, .int .i64 x4] 49)
  have HI := hide (h.below B1 (Nat.le_refl _)); clear h
  have hs1 : w.heap.size < (w.alloc (.cells #[.int .i64 x0, .string x1, .int .i64 x2, .int .i64 x3, .int .i64 x4] 49)).heap.size := by simp
  go_enter Try.func98, Try.ntmps98
  go_upto_region 1 with fail
  generalize hb0 : w.heap.size = b0 at *
  generalize w.alloc (.cells #[.int .i64 x0, .string x1, .int .i64 x2, .int .i64 x3, .int .i64 x4] 49) = w1 at *
  obtain ⟨A, cap, rfl, hr, _, _⟩ := HI.out
  clear HI
  obtain ⟨b, off, rfl, _, _⟩ := hr.get (show 0 < xs.length by omega)
  have HR := hide hr; clear hr
  have HE := hide (own_emptyR w1 (Nat.le_refl w1.heap.size))
  have B1e := below_alloc w1 (.cells #[] 49)
  go_wp2_with (at_builtin; refine wpList_push (k := 5) (enc := SReader.enc) _ rfl _ _ 37 rfl 49 (.agg #[.int .i64 0, .string ⟨#[]⟩, .int .i64 0, .int .i64 0, .int .i64 0]) 48 Try.underlying37 SReader.info rfl (by omega) SReader.one w1.heap.size _ [] rfl HE.out ⟨b, off, none⟩ cap xs rfl (src_row (HR.out.below B1e (Nat.le_refl _) B1e.size) (by omega)) (by simp; omega) (by simp; omega) B1e.size ?_; intro v1 w2 ho hg1 _; have hb2 := HE.out.belowGrown B1e hg1 (Nat.le_refl _) B1e.size; rw [List.nil_append] at ho; clear hg1; obtain ⟨g, gc, cs, rfl, hgb, hblk, hle, hcm, hs, hfi⟩ := own_blk ho (by omega); have HO := hide ho; clear ho; obtain ⟨t0, t1, t2, t3, t4⟩ := cells5 (HBX.out.below hb2 hs1); have qf := (fun o => hblk.frozen o); have g0 := hblk.some (i := k * 5) (by omega); have g1 := hblk.some (i := k * 5 + 1) (by omega); have g2 := hblk.some (i := k * 5 + 2) (by omega); have g3 := hblk.some (i := k * 5 + 3) (by omega); have g4 := hblk.some (i := k * 5 + 4) (by omega); clear hblk hfi)
  have hset := HO.out.set5 (a := k * 5) rfl hk (⟨x0, x1, x2, x3, x4⟩ : SReader) rfl rfl rfl rfl rfl
  have hbs := ((((hb2.setCell (p := ⟨g, k * 5, none⟩) hgb (.int .i64 x0)).setCell (p := ⟨g, k * 5 + 1, none⟩) hgb (.string x1)).setCell (p := ⟨g, k * 5 + 2, none⟩) hgb (.int .i64 x2)).setCell (p := ⟨g, k * 5 + 3, none⟩) hgb (.int .i64 x3)).setCell (p := ⟨g, k * 5 + 4, none⟩) hgb (.int .i64 x4)
  have HS := hide hset; have HBS := hide hbs; clear hset hbs
  have hlen : (xs.set k (⟨x0, x1, x2, x3, x4⟩ : SReader)).length = xs.length := List.length_set
  refine (HGG.out _ _ (by have := HS.out.is; exact this)).mono ?_; rintro e w4 ⟨rfl, hb4⟩
  have HO4 := hide (HS.out.below hb4)
  have B4 := hide (B1.trans ((bstep HBS.out hb4 HBS.out.size).mono (Nat.le_of_lt hs1)))
  go_wp2_with fail
  go_ret2
  subst hb0
  exact ⟨_, rfl, HO4.out.mono (Nat.le_of_lt hs1), B4.out⟩
end Go.Proofs.Ytdbcilinoieabaa
