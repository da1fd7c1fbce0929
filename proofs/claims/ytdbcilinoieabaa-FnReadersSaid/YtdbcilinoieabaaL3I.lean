/- Contract of JoinReader in impl: the Lean function joinV. Conditions: what the draw gives: small numbers, a short name, at most 12 readers. -/
import Derived.Test.YtdbcilinoieabaaL3F
import Derived.Test.YtdbcilinoieabaaD3A
import Derived.Test.YtdbcilinoieabaaStPush
namespace Go.Proofs.Ytdbcilinoieabaa
open Go.RowKit Go.Lib
set_option linter.unusedVariables false
def joinId (xs : List SReader) : Int := if 0 < xs.length then (SReader.at xs (xs.length - 1)).ident + 1 else 1
def joinL (xs : List SReader) (name : ByteArray) (day : Int) : List SReader := xs ++ [⟨joinId xs, name, day, 1, 0⟩]
def joinV (xs : List SReader) (name : ByteArray) (day : Int) : List SReader × Int × Bool :=
  if goodR xs = true ∧ goodR (joinL xs name day) = true then (joinL xs name day, joinId xs, true) else ([], 0, false)
theorem joinId_fit {xs : List SReader} (hf : ∀ z ∈ xs, z.Fit) : -100000 ≤ joinId xs ∧ joinId xs ≤ 100001 := by
  unfold joinId
  split
  · next h =>
    have hl : xs.length - 1 < xs.length := by omega
    have := (hf _ (List.getElem_mem hl)).1
    rw [SReader.at_lt hl]; omega
  · omega
theorem joinL_wf {xs : List SReader} (hf : ∀ z ∈ xs, z.Fit) {name : ByteArray} (hn : name.size ≤ 20) {day : Int} (hd : -100000 ≤ day ∧ day ≤ 100000) : ∀ z ∈ joinL xs name day, z.wf := fun z hz => by
  rcases List.mem_append.1 hz with h | h
  · exact (hf z h).wf
  · rw [List.mem_singleton.1 h]
    have := joinId_fit hf
    exact ⟨ident_fit (by simp only; omega), by simp only [maxLen]; omega, ident_fit (by simp only; omega), ident_fit (by simp only; omega), ident_fit (by simp only; omega)⟩
theorem joinL_len (xs : List SReader) (name : ByteArray) (day : Int) : (joinL xs name day).length = xs.length + 1 := by simp [joinL]
theorem src_blk {α : Type} {k : Nat} {enc : α → Nat → Value} {ys : List α} {w : World} {g : Nat} {cs : Array Value} {e : TypeId} (hb : Blk w g e cs) (h : cs.toList = flat k enc ys) :
    ∀ j u, (flat k enc ys)[j]? = some u → w.cell? ((⟨g, 0, none⟩ : Addr).add j) = some u := by
  intro j u hu
  rw [Addr.add_lit, Nat.zero_add, hb.cell, ← Array.getElem?_toList, h]
  exact hu
set_option maxHeartbeats 4000000 in
set_option maxRecDepth 100000 in
theorem JoinReader_is (v : Value) (xs : List SReader) (name : ByteArray) (day : Int) (w : World) (h : Is 5 SReader.enc w v xs) (hf : ∀ z ∈ xs, z.Fit) (hl : xs.length ≤ 12) (hn : name.size ≤ 20) (hd : -100000 ≤ day ∧ day ≤ 100000) :
    Calls Try.prog 20 #[v, .string name, .int .i64 day] w fun e w' => ∃ r, e = .returned (.tuple #[r, .int .i64 (joinV xs name day).2.1, .bool (joinV xs name day).2.2]) ∧ Own 5 SReader.enc 49 w' w.heap.size r (joinV xs name day).1 ∧ Below w.heap.size w w' := by
  have HA := hide (AreReaders_is v xs w h (fun z hz => (hf z hz).wf))
  have HA2 := hide (fun W v' (hi : Is 5 SReader.enc W v' (joinL xs name day)) => AreReaders_is v' _ W hi (joinL_wf hf hn hd))
  have hjl := joinL_len xs name day
  have hjd : joinL xs name day = xs ++ [⟨joinId xs, name, day, 1, 0⟩] := rfl
  have hji := joinId_fit hf
  have hjv : joinV xs name day = if goodR xs = true ∧ goodR (joinL xs name day) = true then (joinL xs name day, joinId xs, true) else ([], 0, false) := rfl
  have hid : joinId xs = if 0 < xs.length then (SReader.at xs (xs.length - 1)).ident + 1 else 1 := rfl
  have HFI := hide hf
  generalize joinV xs name day = jv at *
  generalize goodR (joinL xs name day) = gj at *
  generalize joinL xs name day = jl at *
  generalize joinId xs = ji at *
  have HI := hide h
  cases hg : goodR xs with
  | false =>
    rw [hg, if_neg (by simp)] at hjv
    subst hjv
    rw [hg] at HA
    clear hg h HA2 hjl hjd hji hid hf
    go_enter Try.func20, Try.ntmps20
    go_wp2_with fail
    refine HA.out.mono ?_; rintro e w1 ⟨rfl, hb1⟩
    have B1 := hide hb1; clear hb1
    go_wp2_with fail
    go_ret3
    exact ⟨_, rfl, Own.nil, B1.out⟩
  | true =>
    rw [hg] at HA hjv
    have HJV := hide hjv; have HJD := hide hjd; have HID := hide hid
    clear hg hjv hjd hid h hf
    go_enter Try.func20, Try.ntmps20
    go_wp2_with fail
    refine HA.out.mono ?_; rintro e w1 ⟨rfl, hb1⟩
    have I1 := hide (HI.out.below hb1 (Nat.le_refl _))
    have hs1 := hb1.size
    have B2 := hide (hb1.alloc hs1 (.cells #[.int .i64 1, .string name, .int .i64 day, .int .i64 1, .int .i64 0] 49))
    have I2 := hide (I1.out.below (below_alloc w1 (.cells #[.int .i64 1, .string name, .int .i64 day, .int .i64 1, .int .i64 0] 49)) (Nat.le_refl _))
    have HK := hide (Blk.new w1 49 #[.int .i64 1, .string name, .int .i64 day, .int .i64 1, .int .i64 0])
    have hs2 : w1.heap.size < (w1.alloc (.cells #[.int .i64 1, .string name, .int .i64 day, .int .i64 1, .int .i64 0] 49)).heap.size := by simp
    clear hb1
    go_upto_region 4 with fail
    generalize w1.alloc (.cells #[.int .i64 1, .string name, .int .i64 day, .int .i64 1, .int .i64 0] 49) = w2 at *
    generalize w1.heap.size = g at *
    obtain ⟨A, cap, rfl, hr, _, _⟩ := I2.out
    generalize hN : xs.length = N at *
    go_upto_if 19 with fail
    go_cut [] from 20 to 28 (fun wx => Blk wx g 49 #[.int .i64 ji, .string name, .int .i64 day, .int .i64 1, .int .i64 0] ∧ Below w.heap.size w wx)
    case first =>
      by_cases hp : 0 < N
      · obtain ⟨q, rfl⟩ : ∃ q, N = q + 1 := ⟨N - 1, by omega⟩
        obtain ⟨b, off, rfl, hb, c0, _, _, _, _⟩ := SReader.cells hr (i := q) (by omega) (Below.refl _ _)
        have hid := HID.out
        have hfi := (HFI.out _ (List.getElem_mem (show q < xs.length by omega))).1
        rw [if_pos hp, Nat.add_sub_cancel, SReader.at_lt (by omega)] at hid
        generalize xs[q].ident = pid at c0 hid hfi
        have HID2 := hide hid
        clear hid hr HID
        obtain ⟨t0, t1, t2, t3, t4⟩ := cells5 HK.out
        have tf := fun o => HK.out.frozen o
        have hq1 : (0 : Int) < (q : Int) + 1 := by omega
        go_wp2_with fail
        go_meet
        exact ⟨by rw [HID2.out]; exact HK.out.set 0 _, B2.out.setCell (p := ⟨g, 0, none⟩) hs1 _⟩
      · obtain rfl : N = 0 := by omega
        have hid := HID.out
        rw [if_neg hp] at hid
        subst hid
        go_wp2_with fail
        go_meet
        exact ⟨HK.out, B2.out⟩
    case rest =>
      obtain ⟨hk, hb⟩ := hcut
      generalize wc = w3 at *
      have HK3 := hide hk; have B3 := hide hb
      have hgl := hk.lt
      have hs3 := hb.size
      have ID := hide (show Is 5 SReader.enc w3.drew _ xs from (HI.out.below hb (Nat.le_refl _)).below (Below.refl _ _).drew (Nat.le_refl _))
      have BD := hide (show Below w3.heap.size w3 w3.drew from (Below.refl _ _).drew)
      have IE := hide (ID.out.below (below_alloc w3.drew (.cells #[.int .i64 ji, .string name, .int .i64 day, .int .i64 1, .int .i64 0] 49)) (Nat.le_refl _))
      have BE := hide (BD.out.alloc (Nat.le_refl _) (.cells #[.int .i64 ji, .string name, .int .i64 day, .int .i64 1, .int .i64 0] 49))
      have HLIT := hide (Blk.new w3.drew 49 #[.int .i64 ji, .string name, .int .i64 day, .int .i64 1, .int .i64 0])
      have hze : w3.heap.size ≤ (w3.drew.alloc (.cells #[.int .i64 ji, .string name, .int .i64 day, .int .i64 1, .int .i64 0] 49)).heap.size := by simp
      have hzl : w3.heap.size < (w3.drew.alloc (.cells #[.int .i64 ji, .string name, .int .i64 day, .int .i64 1, .int .i64 0] 49)).heap.size := by simp
      obtain ⟨t0, t1, t2, t3, t4⟩ := cells5 (HK3.out.below BD.out hgl)
      clear hk hb
      go_upto_region 6 with fail
      go_region_law (first | (go_simp; go_at_call 88; refine (cloneR_any _ xs _ ID.out (by omega)).mono ?_; rintro e wA ⟨rA, rfl, hoA, hbA⟩; have hbA3 := BD.out.trans hbA; have HOA := hide hoA; have BA := hide hbA3; obtain ⟨t0, t1, t2, t3, t4⟩ := cells5 (HK3.out.below hbA3 hgl); clear hoA hbA hbA3) | (go_simp; go_at_call 88; refine (cloneR_any _ xs _ IE.out (by omega)).mono ?_; rintro e wB ⟨rB, rfl, hoB, hbB⟩; have hbB3 := bstep BE.out hbB hze; have HOB := hide (hoB.mono hze); have BB := hide hbB3; have HSB := hide (HLIT.out.below hbB hzl); clear hoB hbB hbB3) | (refine step_push1 (k := 5) (enc := SReader.enc) _ (w0 := wA) rfl (.tmp 30) (.tmp 32) 37 rfl 49 (.agg #[.int .i64 0, .string ⟨#[]⟩, .int .i64 0, .int .i64 0, .int .i64 0]) 48 Try.underlying37 SReader.info rfl (by omega) (by omega) SReader.one w3.heap.size _ xs (by first | (simp [Act.eval, Act.put]; done) | (simp [Act.eval, Act.put]; rfl)) HOA.out ⟨ji, name, day, 1, 0⟩ 1 (by simp [Act.eval, Act.put]) rfl (by omega) BA.out.size BA.out (Nat.le_refl _) rfl ?_; intro v1 wF ho1 hb1 hg1; have HOF := hide ho1; have BF := hide hb1; clear ho1 hb1 hg1) | (refine step_push (k := 5) (enc := SReader.enc) rfl (.tmp 30) (.tmp 32) 37 rfl 49 (.agg #[.int .i64 0, .string ⟨#[]⟩, .int .i64 0, .int .i64 0, .int .i64 0]) 48 Try.underlying37 SReader.info rfl (by omega) SReader.one w3.heap.size _ xs (by first | (simp [Act.eval, Act.put]; done) | (simp [Act.eval, Act.put]; rfl)) HOB.out ⟨w3.heap.size, 0, none⟩ 1 [⟨ji, name, day, 1, 0⟩] (by simp [Act.eval, Act.put]) (src_blk HSB.out rfl) (by simp; omega) (by simp; omega) BB.out.size ?_; intro v1 wF ho1 hg1 hnb; have hb1 := HOB.out.belowGrown BB.out hg1 (Nat.le_refl _) BB.out.size; have HOF := hide ho1; have BF := hide hb1; clear ho1 hb1 hg1 hnb))
      all_goals
        have HJF := hide (show Own 5 SReader.enc 49 wF w3.heap.size v1 jl by rw [HJD.out]; exact HOF.out)
        have HKF := hide (HK3.out.below BF.out hgl)
        have B6 := hide (bstep B3.out BF.out hs3)
        go_wp2_with fail
        refine (HA2.out _ _ HJF.out.is).mono ?_; rintro e w7 ⟨rfl, hb7⟩
        have HJ7 := hide (HJF.out.below hb7)
        have HK7 := hide (HKF.out.below hb7 HKF.out.lt)
        have B7 := hide (bstep B6.out hb7 B6.out.size)
        clear t0 t1 t2 t3 t4 hb7
        obtain ⟨t0, t1, t2, t3, t4⟩ := cells5 HK7.out
        have m0 := fun n => later_cell t0 n
        cases gj with
        | false =>
          have hjv := HJV.out
          rw [if_neg (by simp)] at hjv
          subst hjv
          go_wp2_with fail
          go_ret3
          exact ⟨_, rfl, Own.nil, B7.out⟩
        | true =>
          have hjv := HJV.out
          rw [if_pos (by simp)] at hjv
          subst hjv
          go_wp2_with fail
          (refine wp_region_later (by kernel_rfl) (by kernel_rfl) ?_; (repeat (go_big_quiet_step (fail))); refine wpQuiet_nil ?_; intro _ hw'; obtain ⟨nq, hw''⟩ := hw'; subst hw'')
          have B8 := hide (bstep B7.out nq.h B7.out.size)
          have HJ8 := hide (HJ7.out.below nq.h)
          generalize nq.W = w8 at *
          go_wp2_with fail
          go_ret3
          exact ⟨_, rfl, HJ8.out.mono hs3, B8.out⟩
end Go.Proofs.Ytdbcilinoieabaa
