/- Joining texts at one byte: the Lean function joinV, and the contract of spec's JoinStrings. Condition: texts of at most 5000 bytes. -/
import Derived.Test.YtplemibckjnbhaaDoorLsJ
namespace Go.Proofs.YtplemibckjnbhaaDoor
open Go.RowKit Go.Lib
set_option linter.unusedVariables false
def encS (x : ByteArray) : Nat → Value := fun _ => .string x
theorem encS_one : ∀ (c : ByteArray) (j : Nat), (encS c j).oneCell' = true := fun _ _ => rfl
theorem Strs.cells {w : World} {B : Nat} {A : Option Addr} {xs : List ByteArray} (h : Row 1 encS w B A xs) {i : Nat} (hi : i < xs.length) {wr : World} (hb : Below B w wr) :
    ∃ b off, A = some ⟨b, off, none⟩ ∧ b < B ∧ wr.cell? ⟨b, off + i, none⟩ = some (.string xs[i]) := by
  obtain ⟨b, off, rfl, hl, hc⟩ := h.get hi
  have hcell := (hb.cell (p := ⟨b, off + i * 1 + 0, none⟩) hl).trans (hc 0 (by omega))
  exact ⟨b, off, rfl, hl, by simpa [encS] using hcell⟩
theorem join_snoc (l : List (List UInt8)) (x sep : List UInt8) : join (l ++ [x]) sep = if l = [] then x else join l sep ++ sep ++ x := by
  induction l with
  | nil => simp [join_one]
  | cons y l ih =>
    rw [if_neg (by simp), List.cons_append, join_more _ _ _ (by simp), ih]
    by_cases hl : l = []
    · subst hl; simp [join_one]
    · rw [if_neg hl, join_more y l sep hl]; simp
/-- the join of the first k texts -/
def joinTo (xs : List ByteArray) (sep : ByteArray) : Nat → ByteArray
  | 0 => ⟨#[]⟩
  | k + 1 => (if 0 < k then joinTo xs sep k ++ sep else joinTo xs sep k) ++ xs.getD k ⟨#[]⟩
theorem joinTo_eq (xs : List ByteArray) (sep : ByteArray) : ∀ k, k ≤ xs.length → (joinTo xs sep k).data.toList = join ((xs.take k).map (·.data.toList)) sep.data.toList
  | 0, _ => by simp [joinTo, join_nil]
  | k + 1, h => by
    have ih := joinTo_eq xs sep k (by omega)
    have hk : k < xs.length := by omega
    rw [take_snoc' hk, List.map_append, List.map_cons, List.map_nil, join_snoc]
    have hg : xs.getD k ⟨#[]⟩ = xs[k] := by simp [List.getD_eq_getElem?_getD, hk]
    unfold joinTo
    rw [hg]
    by_cases h0 : k = 0
    · subst h0
      simp [joinTo]
    · have hne : (List.take k xs).map (·.data.toList) ≠ [] := by
        intro e
        have h9 := congrArg List.length e
        rw [List.length_map, List.length_take, List.length_nil] at h9; omega
      rw [if_pos (by omega), if_neg hne, ← ih]
      simp [ByteArray.data_append]
theorem joinTo_mono (xs : List ByteArray) (sep : ByteArray) : ∀ k, (joinTo xs sep k).size ≤ (joinTo xs sep (k + 1)).size := fun k => by
  show _ ≤ ((if 0 < k then joinTo xs sep k ++ sep else joinTo xs sep k) ++ xs.getD k ⟨#[]⟩).size
  rw [ByteArray.size_append]
  split
  · rw [ByteArray.size_append]; omega
  · omega
theorem joinTo_le (xs : List ByteArray) (sep : ByteArray) {j : Nat} : ∀ k, j ≤ k → (joinTo xs sep j).size ≤ (joinTo xs sep k).size
  | 0, h => by obtain rfl : j = 0 := by omega
               exact Nat.le_refl _
  | k + 1, h => by
    by_cases hj : j = k + 1
    · subst hj; exact Nat.le_refl _
    · exact Nat.le_trans (joinTo_le xs sep k (by omega)) (joinTo_mono xs sep k)
/-- texts joined at one byte, and whether they may be -/
def mayJoin (xs : List ByteArray) (sep : ByteArray) : Bool := decide (sep.size = 1) && (!xs.isEmpty && (!xs.any (fun x => hasB (sep.data.toList.headD 0) x) && decide ((joinTo xs sep xs.length).size ≤ 4000)))
def joinV (xs : List ByteArray) (sep : ByteArray) : ByteArray × Bool := if mayJoin xs sep then (joinTo xs sep xs.length, true) else (⟨#[]⟩, false)
set_option maxHeartbeats 2000000 in
theorem JoinS_is (v : Value) (xs : List ByteArray) (sep : ByteArray) (w : World) (h : Is 1 encS w v xs) (hsz : ∀ x ∈ xs, x.size ≤ 5000) (hsep : sep.size ≤ 5000) :
    Calls Tryd.prog 11 #[v, .string sep] w fun e w' => e = .returned (.tuple #[.string (joinV xs sep).1, .bool (joinV xs sep).2]) ∧ Below w.heap.size w w' := by
  have hlen := h.len
  obtain ⟨A, cap, rfl, hr, _, _⟩ := h
  have hno : mayJoin xs sep = false → joinV xs sep = (⟨#[]⟩, false) := fun h => by unfold joinV; rw [h]; rfl
  by_cases h1 : sep.size = 1
  case neg =>
    have hx := hno (by unfold mayJoin; rw [decide_eq_false h1, Bool.false_and])
    have h2 : ((sep.size : Int) != 1) = true := by simp only [bne_iff_ne, ne_eq]; omega
    have HX := hide hx; clear hx hno h1 hr
    go_enter Tryd.func11, Tryd.ntmps11
    go_wp2_with fail
    go_ret2
    rw [HX.out]
    exact ⟨rfl, Below.refl _ _⟩
  obtain ⟨c, rfl⟩ : ∃ c : UInt8, sep = ⟨#[c]⟩ := by
    obtain ⟨⟨l⟩⟩ := sep
    match l, h1 with
    | [c], _ => exact ⟨c, rfl⟩
  have hhd : ((⟨#[c]⟩ : ByteArray).data.toList.headD 0) = c := rfl
  cases hn : xs.length with
  | zero =>
    have hxs : xs = [] := List.eq_nil_of_length_eq_zero hn
    have hx := hno (by unfold mayJoin; rw [hxs]; simp)
    have HX := hide hx; clear hx hno h1 hr hn
    subst hxs
    go_enter Tryd.func11, Tryd.ntmps11
    go_wp2_with fail
    go_ret2
    rw [HX.out]
    exact ⟨rfl, Below.refl _ _⟩
  | succ n0 =>
    rw [← hn]
    have hpos : 0 < xs.length := by omega
    have hpos2 : ((xs.length : Int) == 0) = false := by simp only [beq_eq_false_iff_ne, ne_eq]; omega
    generalize hB : w.heap.size = B at hr ⊢
    have HB := hide hB; have HR := hide hr; have HNO := hide hno; have HSZ := hide hsz; clear hB hr hno hsz hn h1
    go_enter Tryd.func11, Tryd.ntmps11
    go_wp2_with fail
    go_loopw [6, 7] (fun o i wr => ∃ k : Nat, k ≤ xs.length ∧ i = .int .i64 k ∧ o = .string (joinTo xs ⟨#[c]⟩ k) ∧ (∀ x ∈ xs.take k, hasB c x = false) ∧ (joinTo xs ⟨#[c]⟩ k).size ≤ 4000 ∧ Below B w wr) (fun _ i _ => xs.length - (intOf i).toNat)
    case atStart => exact ⟨0, Nat.zero_le _, rfl, rfl, by simp, by show (⟨#[]⟩ : ByteArray).size ≤ 4000; decide, Below.refl _ _⟩
    case round =>
      obtain ⟨k, hk, rfl, rfl, hall, hle, hbel⟩ := hrel
      have HALL := hide hall; clear hall
      by_cases hlt : k < xs.length
      · obtain ⟨b, off, rfl, hb, c0⟩ := Strs.cells HR.out hlt hbel
        have hxz := HSZ.out _ (List.getElem_mem hlt)
        have hstep : joinTo xs ⟨#[c]⟩ (k + 1) = (if 0 < k then joinTo xs ⟨#[c]⟩ k ++ ⟨#[c]⟩ else joinTo xs ⟨#[c]⟩ k) ++ xs[k] := by
          rw [joinTo]; simp [List.getD_eq_getElem?_getD, hlt]
        have htk : xs.take (k + 1) = xs.take k ++ [xs[k]] := take_snoc' hlt
        have hmem : xs[k] ∈ xs := List.getElem_mem hlt
        have hcall := fun W => l1Stands_is xs[k] c W (by omega)
        have hlt2 : (k : Int) < xs.length := by omega
        have hmono := joinTo_le xs ⟨#[c]⟩ (j := k + 1) xs.length (by omega)
        generalize hxk : xs[k] = x at *
        generalize joinTo xs ⟨#[c]⟩ k = a at *
        have HST := hide hstep; have HTK := hide htk; have HM := hide hmem; have HC := hide hcall; have HLT := hide hlt2; have HMO := hide hmono; clear hstep htk hmem hcall hmono hxk
        have q1 : ¬ 9223372036854775807 < a.size + 1 := by omega
        have q2 : ¬ 9223372036854775807 < a.size + 1 + x.size := by omega
        have q3 : ¬ 9223372036854775807 < a.size + x.size := by omega
        have n0' := fun n => later_cell c0 n
        go_wp2_with fail
        cases hs : hasB c x with
        | true =>
          rw [hs] at HC
          have hx := HNO.out (by
            unfold mayJoin
            have : xs.any (fun x => hasB ((⟨#[c]⟩ : ByteArray).data.toList.headD 0) x) = true := List.any_eq_true.2 ⟨x, HM.out, hs⟩
            rw [this]; simp)
          have HX := hide hx; clear hx hs
          (refine wp_region_later (by kernel_rfl) (by kernel_rfl) ?_; (repeat (go_big_quiet_step ((go_at_call 55; exact later_same (HC.out _))))); refine wpQuiet_nil ?_; intro _ hw'; obtain ⟨nq, hw''⟩ := hw'; subst hw'')
          have HBE := hide (hbel.trans (nq.h.mono (by rw [← HB.out]; exact Nat.le_trans (by rw [HB.out]; exact Nat.le_refl _) hbel.size)))
          go_wp2_with fail
          go_ret2
          rw [HX.out]
          exact ⟨rfl, HBE.out⟩
        | false =>
          rw [hs] at HC
          have HS := hide hs; clear hs
          (refine wp_region_later (by kernel_rfl) (by kernel_rfl) ?_; (repeat (go_big_quiet_step ((go_at_call 55; exact later_same (HC.out _))))); refine wpQuiet_nil ?_; intro _ hw'; obtain ⟨nq, hw''⟩ := hw'; subst hw'')
          have hbsz : B ≤ wr.heap.size := by have := hbel.size; rw [HB.out] at this; exact this
          have HBE := hide (hbel.trans (nq.h.mono hbsz))
          replace c0 := later_cell c0 nq
          clear n0'
          generalize nq.W = W2 at *
          by_cases h0 : k = 0
          · subst h0
            have hst := HST.out
            rw [if_neg (by omega)] at hst
            rw [Nat.add_zero] at c0
            have hsz1 : (joinTo xs ⟨#[c]⟩ (0 + 1)).size = a.size + x.size := by rw [hst, ByteArray.size_append]
            by_cases h4 : (4000 : Int) < (a.size : Int) + (x.size : Int)
            · have hx := HNO.out (by
                unfold mayJoin
                have h5 : ¬ (joinTo xs ⟨#[c]⟩ xs.length).size ≤ 4000 := by have := HMO.out; omega
                rw [decide_eq_false h5]; simp)
              have HX := hide hx; clear hx hst hsz1
              go_wp2_with fail
              go_ret2
              rw [HX.out]
              exact ⟨rfl, HBE.out⟩
            · have HST2 := hide hst; have HSZ1 := hide hsz1; clear hst hsz1
              go_wp2_with fail
              go_round
              case measure => (have hq := HLT.out; simp [intOf]; omega)
              case rel =>
                have hq := HLT.out
                refine ⟨0 + 1, by omega, by go_num, by rw [HST2.out], ?_, by rw [HSZ1.out]; omega, HBE.out⟩
                rw [HTK.out]
                intro y hy
                rcases List.mem_append.1 hy with hy | hy
                · exact HALL.out y hy
                · rw [List.mem_singleton.1 hy]; exact HS.out
          · have h0' : (0 : Int) < (k : Int) := by omega
            have hst := HST.out
            rw [if_pos (by omega)] at hst
            have hsz1 : (joinTo xs ⟨#[c]⟩ (k + 1)).size = a.size + 1 + x.size := by rw [hst, ByteArray.size_append, ByteArray.size_append]; rfl
            by_cases h4 : (4000 : Int) < (a.size : Int) + 1 + (x.size : Int)
            · have hx := HNO.out (by
                unfold mayJoin
                have h5 : ¬ (joinTo xs ⟨#[c]⟩ xs.length).size ≤ 4000 := by have := HMO.out; omega
                rw [decide_eq_false h5]; simp)
              have HX := hide hx; clear hx hst hsz1
              go_wp2_with fail
              go_ret2
              rw [HX.out]
              exact ⟨rfl, HBE.out⟩
            · have HST2 := hide hst; have HSZ1 := hide hsz1; clear hst hsz1
              go_wp2_with fail
              go_round
              case measure => (have hq := HLT.out; simp [intOf]; omega)
              case rel =>
                have hq := HLT.out
                refine ⟨k + 1, by omega, by go_num, by rw [HST2.out], ?_, by rw [HSZ1.out]; omega, HBE.out⟩
                rw [HTK.out]
                intro y hy
                rcases List.mem_append.1 hy with hy | hy
                · exact HALL.out y hy
                · rw [List.mem_singleton.1 hy]; exact HS.out
      · have hke : k = xs.length := by omega
        subst hke
        have hj : joinV xs ⟨#[c]⟩ = (joinTo xs ⟨#[c]⟩ xs.length, true) := by
          unfold joinV
          rw [if_pos]
          unfold mayJoin
          have h5 : xs.any (fun x => hasB ((⟨#[c]⟩ : ByteArray).data.toList.headD 0) x) = false := by
            rw [List.any_eq_false]
            intro x hx
            have := HALL.out x (by rw [List.take_length]; exact hx)
            show ¬ hasB c x = true
            rw [this]; simp
          have h6 : xs.isEmpty = false := by cases xs with
            | nil => simp at hpos
            | cons => rfl
          rw [h5, h6, decide_eq_true hle]; rfl
        have HJ := hide hj; clear hj
        generalize joinTo xs ⟨#[c]⟩ xs.length = a at *
        go_wp2_with fail
        go_ret2
        rw [HJ.out]
        exact ⟨rfl, hbel⟩
end Go.Proofs.YtplemibckjnbhaaDoor
