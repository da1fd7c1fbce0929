/- Contract of JoinReader in spec: the Lean function joinV. Conditions as in L3I. -/
import Derived.Test.YtdbcilinoieabaaL3I
namespace Go.Proofs.Ytdbcilinoieabaa
open Go.RowKit Go.Lib
set_option linter.unusedVariables false
/-- append of a nil slice to an empty one changes nothing -/
theorem wpList_pushNil {P : Program} {w : World} {ops : Array Oper} {rest : List Oper} {o : Oper} {a : Act} {Q : Exit → Act → World → Prop} (hgd : o.guard = none) (s x : Operand) (t : TypeId)
    (ho : o.op = .call { callee := .builtin .append, args := #[s, x], argTypes := #[t, t] })
    (e : TypeId) {z : Value} {k bytes : Nat} (ht : P.underlying t = some (.slice e)) (hi : (P.info? e).map (fun i => (i.zero, i.size, i.bytes)) = some (some z, k, bytes))
    (g c : Nat) (hs : a.eval s = .slice (some ⟨g, 0, none⟩) 0 0) (hx : a.eval x = .slice none 0 c)
    (h : wpList P ops Q rest (a.put o.dst (.slice (some ⟨g, 0, none⟩) 0 0)) w) : wpList P ops Q (o :: rest) a w := by
  obtain ⟨i, h1, h2, h3, h4⟩ := info_parts' hi
  refine wpList_plain hgd fun K hK => ?_
  have hrun : (Builtin.append_ #[t, t] o.type #[.slice (some ⟨g, 0, none⟩) 0 0, .slice none 0 c]).run P w = .ok (.slice (some ⟨g, 0, none⟩) 0 0) w := by
    simp [Builtin.append_, run_underlying ht, sizeOf, typeInfo, h1, Builtin.lenOf, Builtin.firstCells, storeCells]
  unfold Oper.wp
  simp [execOp, ho, resolve, invoke, builtin, hs, hx, hrun, Result.andThen]
  exact hK _ _ h
set_option maxHeartbeats 4000000 in
set_option maxRecDepth 100000 in
theorem l3JoinReader_is (v : Value) (xs : List SReader) (name : ByteArray) (day : Int) (w : World) (h : Is 5 SReader.enc w v xs) (hf : ∀ z ∈ xs, z.Fit) (hl : xs.length ≤ 12) (hn : name.size ≤ 20) (hd : -100000 ≤ day ∧ day ≤ 100000) :
    Calls Try.prog 21 #[v, .string name, .int .i64 day] w fun e w' => ∃ r, e = .returned (.tuple #[r, .int .i64 (joinV xs name day).2.1, .bool (joinV xs name day).2.2]) ∧ Own 5 SReader.enc 49 w' w.heap.size r (joinV xs name day).1 ∧ Below w.heap.size w w' := by
  have HA := hide (fun W (hi : Is 5 SReader.enc W v xs) => l3Good_is v xs W hi (fun z hz => (hf z hz).wf))
  have HA2 := hide (fun W v' (hi : Is 5 SReader.enc W v' (joinL xs name day)) => l3Good_is v' _ W hi (joinL_wf hf hn hd))
  have hjl := joinL_len xs name day
  have hjd : joinL xs name day = xs ++ [⟨joinId xs, name, day, 1, 0⟩] := rfl
  have hji := joinId_fit hf
  have hjv : joinV xs name day = if goodR xs = true ∧ goodR (joinL xs name day) = true then (joinL xs name day, joinId xs, true) else ([], 0, false) := rfl
  have hid : joinId xs = if 0 < xs.length then (SReader.at xs (xs.length - 1)).ident + 1 else 1 := rfl
  have HFI := hide hf
  generalize joinV xs name day = jv at *
  generalize goodR (joinL xs name day) = gj at *
  generalize joinL xs name day = jl at *
  generalize joinId xs = ji at *
  generalize goodR xs = gd at *
  have HI := hide h
  have HJV := hide hjv; have HJD := hide hjd; have HID := hide hid
  have HE := hide (own_emptyR w (Nat.le_refl w.heap.size))
  have B1e := below_alloc w (.cells #[] 49)
  clear hjv hjd hid hf
  obtain ⟨A, cap, rfl, hr, _, _⟩ := h
  generalize hN : xs.length = N at *
  have HR := hide hr
  go_enter Try.func21, Try.ntmps21
  go_upto_region 3 with fail
  go_upto_if 15 with fail
  go_cut [9] from 16 to 22 (fun s wx => s = .int .i64 ji ∧ wx = w)
  case first =>
    by_cases hp : 0 < N
    · obtain ⟨q, rfl⟩ : ∃ q, N = q + 1 := ⟨N - 1, by omega⟩
      obtain ⟨b, off, rfl, hb, c0, _, _, _, _⟩ := SReader.cells hr (i := q) (by omega) (Below.refl _ _)
      have hid := HID.out
      have hfi := (HFI.out _ (List.getElem_mem (show q < xs.length by omega))).1
      rw [if_pos hp, Nat.add_sub_cancel, SReader.at_lt (by omega)] at hid
      generalize xs[q].ident = pid at c0 hid hfi
      have HID2 := hide hid
      clear hid hr HID
      have hq1 : (0 : Int) < (q : Int) + 1 := by omega
      go_wp2_with fail
      go_meet
      exact ⟨by rw [HID2.out], rfl⟩
    · obtain rfl : N = 0 := by omega
      have hid := HID.out
      rw [if_neg hp] at hid
      subst hid
      go_wp2_with fail
      go_meet
      exact ⟨rfl, rfl⟩
  case rest =>
    obtain ⟨rfl, rfl⟩ := hcut
    cases A with
    | none =>
      have hx : xs = [] := by
        rcases hr with h | ⟨b, off, h, _⟩
        · exact h
        · cases h
      subst hx
      rw [List.length_nil] at hN
      subst hN
      clear HR hr
      have HO := hide (HE.out.alloc (.cells #[.int .i64 ji, .string name, .int .i64 day, .int .i64 1, .int .i64 0] 49)); have HB2 := hide (B1e.alloc B1e.size (.cells #[.int .i64 ji, .string name, .int .i64 day, .int .i64 1, .int .i64 0] 49))
      have HL := hide (show Blk ((wc.alloc (.cells #[] 49)).alloc (.cells #[.int .i64 ji, .string name, .int .i64 day, .int .i64 1, .int .i64 0] 49)) (wc.heap.size + 1) 49 #[.int .i64 ji, .string name, .int .i64 day, .int .i64 1, .int .i64 0] from by simpa using Blk.new (wc.alloc (.cells #[] 49)) 49 #[.int .i64 ji, .string name, .int .i64 day, .int .i64 1, .int .i64 0])
      go_wp2_with (first | (at_builtin; refine wpList_pushNil rfl _ _ 37 rfl 49 Try.underlying37 SReader.info wc.heap.size cap rfl rfl ?_) | (at_builtin; refine wpList_push (k := 5) (enc := SReader.enc) _ rfl _ _ 37 rfl 49 (.agg #[.int .i64 0, .string ⟨#[]⟩, .int .i64 0, .int .i64 0, .int .i64 0]) 48 Try.underlying37 SReader.info rfl (by omega) SReader.one wc.heap.size _ ([] : List SReader) rfl HO.out ⟨wc.heap.size + 1, 0, none⟩ 1 [(⟨ji, name, day, 1, 0⟩ : SReader)] rfl (src_blk HL.out rfl) (by simp) (by simp) HB2.out.size ?_; intro v2 w3 ho1 hg1 _; have hb1 := HO.out.belowGrown HB2.out hg1 (Nat.le_refl _) HB2.out.size; have HO3 := hide (show Own 5 SReader.enc 49 w3 wc.heap.size v2 jl by rw [HJD.out]; exact ho1); have HB3 := hide hb1; clear ho1 hb1 hg1))
      cases gd with
      | false =>
        have hjv := HJV.out
        rw [if_neg (by simp)] at hjv
        subst hjv
        refine (HA.out _ (HI.out.below HB3.out (Nat.le_refl _))).mono ?_; rintro e w5 ⟨rfl, hb5⟩
        have B5 := hide (bstep HB3.out hb5 HB3.out.size)
        clear hb5
        go_wp2_with fail
        go_ret3
        exact ⟨_, rfl, own_emptyR w5 B5.out.size, B5.out.alloc B5.out.size _⟩
      | true =>
        refine (HA.out _ (HI.out.below HB3.out (Nat.le_refl _))).mono ?_; rintro e w5 ⟨rfl, hb5⟩
        have B5 := hide (bstep HB3.out hb5 HB3.out.size)
        have HO5 := hide (HO3.out.below hb5)
        clear hb5
        go_wp2_with fail
        refine (HA2.out _ _ HO5.out.is).mono ?_; rintro e w6 ⟨rfl, hb6⟩
        have B6 := hide (bstep B5.out hb6 B5.out.size)
        have HO6 := hide (HO5.out.below hb6)
        clear hb6
        cases gj with
        | false =>
          have hjv := HJV.out
          rw [if_neg (by simp)] at hjv
          subst hjv
          go_wp2_with fail
          go_ret3
          exact ⟨_, rfl, own_emptyR w6 B6.out.size, B6.out.alloc B6.out.size _⟩
        | true =>
          have hjv := HJV.out
          rw [if_pos (by simp)] at hjv
          subst hjv
          go_wp2_with fail
          go_ret3
          exact ⟨_, rfl, HO6.out, B6.out⟩
    | some ad =>
      clear hr
      subst hN
      go_wp2_with (first | (at_builtin; refine wpList_push (k := 5) (enc := SReader.enc) _ rfl _ _ 37 rfl 49 (.agg #[.int .i64 0, .string ⟨#[]⟩, .int .i64 0, .int .i64 0, .int .i64 0]) 48 Try.underlying37 SReader.info rfl (by omega) SReader.one wc.heap.size _ [] rfl HE.out ad cap xs rfl (src_row (HR.out.below B1e (Nat.le_refl _) B1e.size) (by omega)) (by simp; omega) (by simp; omega) B1e.size ?_; intro v1 w2 ho hg1 _; have hb2 := HE.out.belowGrown B1e hg1 (Nat.le_refl _) B1e.size; rw [List.nil_append] at ho; have HO := hide ho; have HB2 := hide hb2; clear ho hg1 hb2) | (at_builtin; refine wpList_push1 (k := 5) (enc := SReader.enc) _ rfl _ _ 37 rfl 49 (.agg #[.int .i64 0, .string ⟨#[]⟩, .int .i64 0, .int .i64 0, .int .i64 0]) 48 Try.underlying37 SReader.info rfl (by omega) (by omega) SReader.one wc.heap.size _ xs rfl HO.out (⟨ji, name, day, 1, 0⟩ : SReader) _ rfl rfl (by omega) HB2.out.size HB2.out (Nat.le_refl _) rfl ?_; intro v2 w3 ho1 hb1 hg1; have HO3 := hide (show Own 5 SReader.enc 49 w3 wc.heap.size v2 jl by rw [HJD.out]; exact ho1); have HB3 := hide hb1; clear ho1 hb1 hg1))
      cases gd with
      | false =>
        have hjv := HJV.out
        rw [if_neg (by simp)] at hjv
        subst hjv
        refine (HA.out _ (HI.out.below HB3.out (Nat.le_refl _))).mono ?_; rintro e w5 ⟨rfl, hb5⟩
        have B5 := hide (bstep HB3.out hb5 HB3.out.size)
        clear hb5
        go_wp2_with fail
        go_ret3
        exact ⟨_, rfl, own_emptyR w5 B5.out.size, B5.out.alloc B5.out.size _⟩
      | true =>
        refine (HA.out _ (HI.out.below HB3.out (Nat.le_refl _))).mono ?_; rintro e w5 ⟨rfl, hb5⟩
        have B5 := hide (bstep HB3.out hb5 HB3.out.size)
        have HO5 := hide (HO3.out.below hb5)
        clear hb5
        go_wp2_with fail
        refine (HA2.out _ _ HO5.out.is).mono ?_; rintro e w6 ⟨rfl, hb6⟩
        have B6 := hide (bstep B5.out hb6 B5.out.size)
        have HO6 := hide (HO5.out.below hb6)
        clear hb6
        cases gj with
        | false =>
          have hjv := HJV.out
          rw [if_neg (by simp)] at hjv
          subst hjv
          go_wp2_with fail
          go_ret3
          exact ⟨_, rfl, own_emptyR w6 B6.out.size, B6.out.alloc B6.out.size _⟩
        | true =>
          have hjv := HJV.out
          rw [if_pos (by simp)] at hjv
          subst hjv
          go_wp2_with fail
          go_ret3
          exact ⟨_, rfl, HO6.out, B6.out⟩
end Go.Proofs.Ytdbcilinoieabaa
