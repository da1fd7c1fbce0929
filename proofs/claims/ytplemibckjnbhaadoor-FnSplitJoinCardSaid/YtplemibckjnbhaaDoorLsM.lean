/- Contracts of impl's JoinStrings, and of LessString. Conditions: at most 5001 texts of at most 5000 bytes. -/
import Derived.Test.YtplemibckjnbhaaDoorLsL
namespace Go.Proofs.YtplemibckjnbhaaDoor
open Go.RowKit Go.Lib Go.Shelf
set_option linter.unusedVariables false
theorem joinTo_size (xs : List ByteArray) (c : UInt8) (hsz : ∀ x ∈ xs, x.size ≤ 5000) : ∀ k, k ≤ xs.length → (joinTo xs ⟨#[c]⟩ k).size ≤ k * 5001
  | 0, _ => by show (0 : Nat) ≤ _; exact Nat.zero_le _
  | k + 1, h => by
    have ih := joinTo_size xs c hsz k (by omega)
    have hk : k < xs.length := by omega
    have hx := hsz _ (List.getElem_mem hk)
    have hg : xs.getD k ⟨#[]⟩ = xs[k] := by simp [List.getD_eq_getElem?_getD, hk]
    show ((if 0 < k then joinTo xs ⟨#[c]⟩ k ++ ⟨#[c]⟩ else joinTo xs ⟨#[c]⟩ k) ++ xs.getD k ⟨#[]⟩).size ≤ _
    rw [ByteArray.size_append, hg, Nat.add_mul]
    have h1 : (⟨#[c]⟩ : ByteArray).size = 1 := rfl
    split
    · rw [ByteArray.size_append, h1]; omega
    · omega
set_option maxHeartbeats 2000000 in
theorem JoinI_is (v : Value) (xs : List ByteArray) (sep : ByteArray) (w : World) (h : Is 1 encS w v xs) (hl5 : xs.length ≤ 5001) (hsz : ∀ x ∈ xs, x.size ≤ 5000) (hsep : sep.size ≤ 5000) :
    Calls Tryd.prog 10 #[v, .string sep] w fun e w' => e = .returned (.tuple #[.string (joinV xs sep).1, .bool (joinV xs sep).2]) ∧ Below w.heap.size w w' := by
  have hlen := h.len
  have hIs := h
  obtain ⟨A, cap, rfl, hr, _, _⟩ := h
  have hno : mayJoin xs sep = false → joinV xs sep = (⟨#[]⟩, false) := fun h => by unfold joinV; rw [h]; rfl
  cases hn : xs.length with
  | zero =>
    have hxs : xs = [] := List.eq_nil_of_length_eq_zero hn
    have hx := hno (by unfold mayJoin; rw [hxs]; simp)
    have HX := hide hx; clear hx hno hr hn hIs
    subst hxs
    go_enter Tryd.func10, Tryd.ntmps10
    go_wp2_with fail
    go_ret2
    rw [HX.out]
    exact ⟨rfl, Below.refl _ _⟩
  | succ n0 =>
    rw [← hn]
    have hpos : 0 < xs.length := by omega
    have hpos2 : ((xs.length : Int) == 0) = false := by simp only [beq_eq_false_iff_ne, ne_eq]; omega
    by_cases h1 : sep.size = 1
    case neg =>
      have hx := hno (by unfold mayJoin; rw [decide_eq_false h1, Bool.false_and])
      have h2 : ((sep.size : Int) != 1) = true := by simp only [bne_iff_ne, ne_eq]; omega
      have HX := hide hx; clear hx hno h1 hr hIs hn
      go_enter Tryd.func10, Tryd.ntmps10
      go_wp2_with fail
      go_ret2
      rw [HX.out]
      exact ⟨rfl, Below.refl _ _⟩
    obtain ⟨c, rfl⟩ : ∃ c : UInt8, sep = ⟨#[c]⟩ := by
      obtain ⟨⟨l⟩⟩ := sep
      match l, h1 with
      | [c], _ => exact ⟨c, rfl⟩
    have htot : (joinTo xs ⟨#[c]⟩ xs.length).size ≤ 100000000 := Nat.le_trans (joinTo_size xs c hsz xs.length (Nat.le_refl _)) (Nat.le_trans (Nat.mul_le_mul_right _ hl5) (by decide))
    have hjoin := fun W (hb : Below w.heap.size w W) => join_is _ xs ⟨#[c]⟩ W (hIs.below hb (Nat.le_refl _)) hpos (by omega) htot
    generalize hB : w.heap.size = B at hr hjoin ⊢
    have HB := hide hB; have HR := hide hr; have HNO := hide hno; have HJ := hide hjoin; clear hB hr hno hn h1 hjoin hIs hsz
    go_enter Tryd.func10, Tryd.ntmps10
    go_wp2_with fail
    go_loopw [19] (fun i wr => ∃ k : Nat, k ≤ xs.length ∧ i = .int .i64 k ∧ (∀ x ∈ xs.take k, hasB c x = false) ∧ Below B w wr) (fun i _ => xs.length - (intOf i).toNat)
    case atStart => exact ⟨0, Nat.zero_le _, rfl, by simp, Below.refl _ _⟩
    case round =>
      obtain ⟨k, hk, rfl, hall, hbel⟩ := hrel
      have HALL := hide hall; clear hall
      by_cases hlt : k < xs.length
      · obtain ⟨b, off, rfl, hb, c0⟩ := Strs.cells HR.out hlt hbel
        have htk : xs.take (k + 1) = xs.take k ++ [xs[k]] := take_snoc' hlt
        have hmem : xs[k] ∈ xs := List.getElem_mem hlt
        have hcall := fun W => contains_is xs[k] c W
        have hlt2 : (k : Int) < xs.length := by omega
        generalize hxk : xs[k] = x at *
        have HTK := hide htk; have HM := hide hmem; have HC := hide hcall; have HLT := hide hlt2; clear htk hmem hcall hxk
        cases hs : hasB c x with
        | true =>
          rw [hs] at HC
          have hx := HNO.out (by
            unfold mayJoin
            have : xs.any (fun x => hasB ((⟨#[c]⟩ : ByteArray).data.toList.headD 0) x) = true := List.any_eq_true.2 ⟨x, HM.out, hs⟩
            rw [this]; simp)
          have HX := hide hx; clear hx hs
          go_wp2_with (go_at_call 53; refine (HC.out _).mono ?_; rintro e w' ⟨rfl, rfl⟩)
          go_ret2
          rw [HX.out]
          exact ⟨rfl, hbel⟩
        | false =>
          rw [hs] at HC
          have HS := hide hs; clear hs
          go_wp2_with (go_at_call 53; refine (HC.out _).mono ?_; rintro e w' ⟨rfl, rfl⟩)
          go_round
          case measure => (have hq := HLT.out; simp [intOf]; omega)
          case rel =>
            have hq := HLT.out
            refine ⟨k + 1, by omega, by go_num, ?_, hbel⟩
            rw [HTK.out]
            intro y hy
            rcases List.mem_append.1 hy with hy | hy
            · exact HALL.out y hy
            · rw [List.mem_singleton.1 hy]; exact HS.out
      · have hke : k = xs.length := by omega
        subst hke
        have h5 : xs.any (fun x => hasB ((⟨#[c]⟩ : ByteArray).data.toList.headD 0) x) = false := by
          rw [List.any_eq_false]
          intro x hx
          have := HALL.out x (by rw [List.take_length]; exact hx)
          show ¬ hasB c x = true
          rw [this]; simp
        have h6 : xs.isEmpty = false := by cases xs with
          | nil => simp at hpos
          | cons => rfl
        have hbsz : B ≤ wr.heap.size := by have := hbel.size; rw [HB.out] at this; exact this
        have hjw := HJ.out wr hbel
        by_cases h4 : (4000 : Int) < (joinTo xs ⟨#[c]⟩ xs.length).size
        · have hx := HNO.out (by unfold mayJoin; rw [decide_eq_false (show ¬ (joinTo xs ⟨#[c]⟩ xs.length).size ≤ 4000 by omega)]; simp)
          generalize joinTo xs ⟨#[c]⟩ xs.length = a at *
          have HX := hide hx; have HJW := hide hjw; clear hx h5 h6 hjw
          go_wp2_with (go_at_call 54; refine HJW.out.mono ?_; rintro e w2 ⟨rfl, hb2⟩; have HB2 := hide (hbel.trans (hb2.mono hbsz)); clear hb2)
          go_ret2
          rw [HX.out]
          exact ⟨rfl, HB2.out⟩
        · have hj : joinV xs ⟨#[c]⟩ = (joinTo xs ⟨#[c]⟩ xs.length, true) := by
            unfold joinV
            rw [if_pos]
            unfold mayJoin
            rw [h5, h6, decide_eq_true (show (joinTo xs ⟨#[c]⟩ xs.length).size ≤ 4000 by omega)]; rfl
          generalize joinTo xs ⟨#[c]⟩ xs.length = a at *
          have HX := hide hj; have HJW := hide hjw; clear hj h5 h6 hjw
          go_wp2_with (go_at_call 54; refine HJW.out.mono ?_; rintro e w2 ⟨rfl, hb2⟩; have HB2 := hide (hbel.trans (hb2.mono hbsz)); clear hb2)
          go_ret2
          rw [HX.out]
          exact ⟨rfl, HB2.out⟩
end Go.Proofs.YtplemibckjnbhaaDoor
