/- The marks tied to one, in plain Lean (tiedN), and the contract of spec's l8Tied. Condition: claims for n marks. -/
import Derived.Test.YtijjecckfcbaoaaL8L
namespace Go.Proofs.Ytijjecckfcbaoaa
open Go.RowKit
set_option linter.unusedVariables false
theorem l1Put_any (v : Value) (xs : List Int) (x : Int) (w : World) (h : Is 1 encI w v xs) (h0 : 1 ≤ xs.length) (h1 : xs.length ≤ 1000) :
    Calls Try.prog 93 #[v, .int .i64 x] w fun e w' => ∃ r, e = .returned r ∧ Is 1 encI w' r (putL xs x) ∧ Below w.heap.size w w' := by
  obtain ⟨A, cap, rfl, hr, hc, hm⟩ := h
  obtain ⟨b, off, rfl, _, _⟩ := hr.get (show 0 < xs.length by omega)
  exact l1Put_is b off cap xs x w hr h0 h1 hc hm
/-- the marks below n at which T holds -/
def tl (n : Nat) (T : Nat → Bool) : List Int := ((List.range n).filter T).map fun (v : Nat) => (v : Int)
def addT (T : Nat → Bool) (v : Nat) : Nat → Bool := fun u => T u || u == v
theorem range_at {n v : Nat} (h : v < n) : List.range n = List.range v ++ v :: List.range' (v + 1) (n - v - 1) := by
  rw [List.range_eq_range', List.range_eq_range']
  have h1 : v :: List.range' (v + 1) (n - v - 1) = List.range' v (n - v) := by
    rw [show n - v = (n - v - 1) + 1 by omega, List.range'_succ]
    simp
  rw [h1]
  have := List.range'_append_1 (s := 0) (m := v) (n := n - v)
  rw [Nat.zero_add] at this
  rw [this]
  congr 1
  omega
theorem putL_tl {n : Nat} {T : Nat → Bool} {v : Nat} (h : v < n) : putL (tl n T) (v : Int) = tl n (addT T v) := by
  have hr := range_at h
  have hA : ∀ c ∈ ((List.range v).filter T).map (fun (v : Nat) => (v : Int)), (fun c : Int => decide (c < (v : Int))) c = true := by
    intro c hc
    obtain ⟨u, hu, rfl⟩ := List.mem_map.1 hc
    have := List.mem_range.1 (List.mem_filter.1 hu).1
    simp; exact this
  have hC : ∀ T' : Nat → Bool, ∀ c ∈ ((List.range' (v + 1) (n - v - 1)).filter T').map (fun (v : Nat) => (v : Int)), (v : Int) < c := by
    intro T' c hc
    obtain ⟨u, hu, rfl⟩ := List.mem_map.1 hc
    have := (List.mem_range'_1.1 (List.mem_filter.1 hu).1).1
    omega
  have hC2 : ∀ l : List Int, (∀ c ∈ l, (v : Int) < c) → l.takeWhile (fun c : Int => decide (c < (v : Int))) = [] ∧ l.dropWhile (fun c : Int => decide (c < (v : Int))) = l := by
    intro l hl
    cases l with
    | nil => simp
    | cons c l =>
      have := hl c List.mem_cons_self
      exact ⟨List.takeWhile_cons_of_neg (by simp; omega), List.dropWhile_cons_of_neg (by simp; omega)⟩
  have e1 : (List.range v).filter (addT T v) = (List.range v).filter T := List.filter_congr fun u hu => by
    have := List.mem_range.1 hu
    unfold addT
    rw [show (u == v) = false from beq_false_of_ne (by omega), Bool.or_false]
  have e2 : (List.range' (v + 1) (n - v - 1)).filter (addT T v) = (List.range' (v + 1) (n - v - 1)).filter T := List.filter_congr fun u hu => by
    have := (List.mem_range'_1.1 hu).1
    unfold addT
    rw [show (u == v) = false from beq_false_of_ne (by omega), Bool.or_false]
  have hR : tl n (addT T v) = ((List.range v).filter T).map (fun (v : Nat) => (v : Int)) ++ (v : Int) :: ((List.range' (v + 1) (n - v - 1)).filter T).map (fun (v : Nat) => (v : Int)) := by
    unfold tl
    rw [hr, List.filter_append, e1, List.filter_cons_of_pos (by unfold addT; simp), e2, List.map_append, List.map_cons]
  rw [hR]
  unfold putL
  cases hT : T v with
  | true =>
    have hL : tl n T = ((List.range v).filter T).map (fun (v : Nat) => (v : Int)) ++ (v : Int) :: ((List.range' (v + 1) (n - v - 1)).filter T).map (fun (v : Nat) => (v : Int)) := by
      unfold tl
      rw [hr, List.filter_append, List.filter_cons_of_pos hT, List.map_append, List.map_cons]
    rw [hL, List.takeWhile_append_of_pos hA, List.dropWhile_append_of_pos hA, List.takeWhile_cons_of_neg (by simp), List.dropWhile_cons_of_neg (by simp), List.head?_cons, if_pos rfl, List.append_nil]
  | false =>
    have hL : tl n T = ((List.range v).filter T).map (fun (v : Nat) => (v : Int)) ++ ((List.range' (v + 1) (n - v - 1)).filter T).map (fun (v : Nat) => (v : Int)) := by
      unfold tl
      rw [hr, List.filter_append, List.filter_cons_of_neg (by rw [hT]; simp), List.map_append]
    obtain ⟨k1, k2⟩ := hC2 _ (hC T)
    rw [hL, List.takeWhile_append_of_pos hA, List.dropWhile_append_of_pos hA, k1, k2, List.append_nil, if_neg]
    intro hh
    cases hl : ((List.range' (v + 1) (n - v - 1)).filter T).map (fun (v : Nat) => (v : Int)) with
    | nil => rw [hl] at hh; simp at hh
    | cons c l =>
      rw [hl] at hh
      have := hC T c (by rw [hl]; exact List.mem_cons_self)
      simp at hh
      omega
theorem tl_mem {n : Nat} {T : Nat → Bool} {x : Int} (h0 : 0 ≤ x) (h1 : x < n) : decide (x ∈ tl n T) = T x.toNat := by
  rw [Bool.eq_iff_iff, decide_eq_true_eq]
  unfold tl
  rw [List.mem_map]
  constructor
  · rintro ⟨u, hu, rfl⟩
    rw [Int.toNat_natCast]
    exact (List.mem_filter.1 hu).2
  · intro h
    exact ⟨x.toNat, List.mem_filter.2 ⟨List.mem_range.2 (by omega), h⟩, by omega⟩
theorem tl_len (n : Nat) (T : Nat → Bool) : (tl n T).length ≤ n := by
  unfold tl
  rw [List.length_map]
  have := List.length_filter_le T (List.range n)
  simpa using this
theorem tl_pos {n : Nat} {T : Nat → Bool} {v : Nat} (hv : v < n) (h : T v = true) : 1 ≤ (tl n T).length := by
  unfold tl
  rw [List.length_map]
  exact List.length_pos_of_mem (List.mem_filter.2 ⟨List.mem_range.2 hv, h⟩)
def tieC (T : Nat → Bool) (c : SClaim) : Nat → Bool := if T c.low.toNat || T c.high.toNat then addT (addT T c.low.toNat) c.high.toNat else T
def tieS (xs : List SClaim) (T : Nat → Bool) : Nat → Bool := xs.foldl tieC T
def tieN (xs : List SClaim) : Nat → (Nat → Bool) → (Nat → Bool)
  | 0, T => T
  | r + 1, T => tieS xs (tieN xs r T)
def oneT (k : Nat) : Nat → Bool := fun u => u == k
theorem tieC_mono {T : Nat → Bool} {c : SClaim} {v : Nat} (h : T v = true) : tieC T c v = true := by
  unfold tieC; split
  · unfold addT; simp [h]
  · exact h
theorem tieS_mono {xs : List SClaim} : ∀ {T : Nat → Bool} {v : Nat}, T v = true → tieS xs T v = true := by
  induction xs with
  | nil => intro T v h; exact h
  | cons c xs ih => intro T v h; exact ih (T := tieC T c) (tieC_mono h)
theorem tieN_mono {xs : List SClaim} {T : Nat → Bool} {v : Nat} (h : T v = true) : ∀ r, tieN xs r T v = true
  | 0 => h
  | r + 1 => tieS_mono (tieN_mono h r)
theorem tl_one {n k : Nat} (h : k < n) : tl n (oneT k) = [(k : Int)] := by
  unfold tl
  rw [range_at h, List.filter_append, List.filter_cons_of_pos (by unfold oneT; simp)]
  rw [List.filter_eq_nil_iff.2 (fun u hu => by have := List.mem_range.1 hu; unfold oneT; simp; omega), List.filter_eq_nil_iff.2 (fun u hu => by have := (List.mem_range'_1.1 hu).1; unfold oneT; simp; omega)]
  rfl
theorem own_one8 (w : World) (x : Int) : Is 1 encI (w.alloc (.cells #[.int .i64 x] 3)) (.slice (some ⟨w.heap.size, 0, none⟩) 1 1) [x] :=
  Is.lit (cs := #[.int .i64 x]) rfl (by simp only [maxLen, List.length_singleton]; omega) (by
    intro j z hj hz k hk
    have hj0 : j = 0 := by simpa using hj
    subst hj0
    simp at hz
    subst hz
    obtain rfl : k = 0 := by omega
    rfl)
set_option maxHeartbeats 2000000 in
theorem l8Tied_is (n : Nat) (v : Value) (xs : List SClaim) (k0 : Nat) (w : World) (h : Is 4 SClaim.enc w v xs) (hok : areB n xs = true) (hk0 : k0 < n) :
    Calls Try.prog 76 #[.int .i64 (n : Int), v, .int .i64 (k0 : Int)] w fun e w' => ∃ r, e = .returned r ∧ Is 1 encI w' r (tl n (tieN xs n (oneT k0))) ∧ Below w.heap.size w w' := by
  obtain ⟨A, cap, rfl, hr, _, _⟩ := h
  obtain ⟨hc1, ⟨hn1, hn10⟩, hx24⟩ := areB_iff.1 hok
  have hcl := fun i (hi : i < xs.length) => oneB_iff.1 (hc1 xs[i] (List.getElem_mem hi))
  have ho := own_one8 w (k0 : Int)
  rw [← tl_one hk0] at ho
  have B0 := below_alloc w (.cells #[.int .i64 (k0 : Int)] 3)
  have h00 : oneT k0 k0 = true := by unfold oneT; simp
  generalize hB : w.heap.size = B at *
  have HR := hide hr; have HCL := hide hcl; have HO := hide ho; have HB := hide hB
  clear hr hok hc1 hcl ho
  go_enter Try.func76, Try.ntmps76
  go_wp2_with fail
  generalize w.alloc (.cells #[.int .i64 (k0 : Int)] 3) = w0 at *
  go_loopw [7, 8] (fun s i wr => ∃ q : Nat, q ≤ n ∧ i = .int .i64 (q : Int) ∧ Is 1 encI wr s (tl n (tieN xs q (oneT k0))) ∧ Below B w wr) (fun _ i _ => n - (intOf i).toNat)
  case atStart => exact ⟨0, Nat.zero_le _, rfl, HO.out, B0⟩
  case round =>
    clear B0 HO
    obtain ⟨q, hq, rfl, hs, hbel⟩ := hrel
    have HS := hide hs; clear hs
    by_cases hlq : q < n
    · have hlq' : (q : Int) < n := by omega
      have hT0 := tieN_mono (xs := xs) h00 q
      have hsucc : tieN xs (q + 1) (oneT k0) = tieS xs (tieN xs q (oneT k0)) := rfl
      have HSU := hide hsucc; clear hsucc
      generalize tieN xs q (oneT k0) = T0 at *
      go_wp2_with fail
      go_loopw [7, 9] (fun s i wr => ∃ j : Nat, j ≤ xs.length ∧ i = .int .i64 (j : Int) ∧ Is 1 encI wr s (tl n (tieS (xs.take j) T0)) ∧ Below B w wr) (fun _ i _ => xs.length - (intOf i).toNat)
      case atStart => exact ⟨0, Nat.zero_le _, rfl, HS.out, hbel⟩
      case round =>
        clear hbel HS
        obtain ⟨j, hj, rfl, hs, hbel⟩ := hrel
        have HS := hide hs; clear hs
        have hsz : B ≤ wr.heap.size := by have := hbel.size; rw [HB.out] at this; exact this
        by_cases hlj : j < xs.length
        · have hlj' : (j : Int) < xs.length := by omega
          obtain ⟨b, off, rfl, hb, c0, c1, _, _⟩ := SClaim.cells HR.out hlj hbel
          have hcl := HCL.out j hlj
          have hst : tieS (xs.take (j + 1)) T0 = tieC (tieS (xs.take j) T0) xs[j] := by unfold tieS; rw [take_snoc' hlj, List.foldl_append]; rfl
          have hT1 : tieS (xs.take j) T0 k0 = true := tieS_mono hT0
          generalize xs[j] = c at *
          obtain ⟨lo, hi, le, mo⟩ := c
          simp only at c0 c1 hcl
          obtain ⟨l0, l1, i0, i1, _⟩ := hcl
          generalize tieS (xs.take j) T0 = T at *
          have hm1 := tl_mem (T := T) l0 l1
          have hm2 := tl_mem (T := T) i0 i1
          have hpos := tl_pos hk0 hT1
          have hlen := tl_len n T
          have hput1 := putL_tl (T := T) (show lo.toNat < n by omega)
          rw [show ((lo.toNat : Nat) : Int) = lo by omega] at hput1
          have hput2 := putL_tl (T := addT T lo.toNat) (show hi.toNat < n by omega)
          rw [show ((hi.toNat : Nat) : Int) = hi by omega] at hput2
          have hpos2 : 1 ≤ (tl n (addT T lo.toNat)).length := tl_pos hk0 (by unfold addT; rw [hT1]; rfl)
          have hlen2 := tl_len n (addT T lo.toNat)
          have hh1 := l1Has_is _ _ lo wr HS.out
          have hh2 := l1Has_is _ _ hi wr HS.out
          rw [hm1] at hh1
          rw [hm2] at hh2
          unfold tieC at hst
          simp only at hst
          have HH1 := hide hh1; have HH2 := hide hh2; have HST := hide hst; have HP1 := hide hput1; have HP2 := hide hput2
          clear hm1 hm2 hh1 hh2 hst hput1 hput2 hT1
          generalize T lo.toNat = t1 at *
          generalize T hi.toNat = t2 at *
          have hbw : b < wr.heap.size := by omega
          have hpp := fun (W : World) (hW : Below wr.heap.size wr W) => l1Put_any _ _ lo W (HS.out.below hW (Nat.le_refl _)) hpos (by omega)
          have hdw : Below wr.heap.size wr wr.drew := (Below.refl _ wr).drew
          have HPP := hide (hpp _ hdw); clear hpp
          have HDW := hide hdw; clear hdw
          cases hor : (t1 || t2) with
          | false =>
            rw [hor, if_neg (by simp)] at HST
            rw [Bool.or_eq_false_iff] at hor
            obtain ⟨rfl, rfl⟩ := hor
            go_wp2_with (first | (go_at_call 92; with_reducible refine HH1.out.mono ?_; rintro e w' ⟨rfl, rfl⟩) | (go_at_call 92; with_reducible refine HH2.out.mono ?_; rintro e w' ⟨rfl, rfl⟩))
            go_round
            case measure => (simp [intOf] <;> omega)
            case rel => exact ⟨j + 1, by omega, by go_num, by rw [HST.out]; exact HS.out, hbel⟩
          | true =>
            rw [hor, if_pos rfl] at HST
            cases t1 <;> cases t2
            · simp at hor
            all_goals
              clear hor
              go_wp2_with (first | (go_at_call 92; with_reducible refine HH1.out.mono ?_; rintro e w' ⟨rfl, rfl⟩) | (go_at_call 92; with_reducible refine HH2.out.mono ?_; rintro e w' ⟨rfl, rfl⟩))
              go_region_held3 (fun w' => w'.cell? ⟨b, off + j * 4, none⟩ = some (.int .i64 lo) ∧ w'.cell? ⟨b, off + j * 4 + 1, none⟩ = some (.int .i64 hi)) (go_keep)
                (first
                  | (go_at_call_of 93 (u7); refine HPP.out.mono ?_; rintro e w5 ⟨r5, rfl, hi5, hb5⟩; rw [HP1.out] at hi5; have hc5 : ∀ o, w5.cell? ⟨b, o, none⟩ = wr.cell? ⟨b, o, none⟩ := (fun o => hb5.cell (p := ⟨b, o, none⟩) hbw); have B5 := bstep hbel.drew hb5 hsz; have hbw5 : b < w5.heap.size := (by have := hb5.size; exact Nat.lt_of_lt_of_le hbw this); have HI5 := hide hi5; clear hi5 hb5)
                  | (go_at_call 93; refine (l1Put_any _ _ hi _ HI5.out hpos2 (by omega)).mono ?_; rintro e w6 ⟨r6, rfl, hi6, hb6⟩; rw [HP2.out] at hi6; have hc6 : ∀ o, w6.cell? ⟨b, o, none⟩ = wr.cell? ⟨b, o, none⟩ := (fun o => (hb6.cell (p := ⟨b, o, none⟩) hbw5).trans (hc5 o)); have B6 := bstep B5 hb6 (by rw [← hB]; exact B5.size); have HI6 := hide hi6; clear hi6 hb6))
              all_goals
                go_wp2_with fail
                go_round
                case measure => (simp [intOf] <;> omega)
                case rel => exact ⟨j + 1, by omega, by go_num, by rw [HST.out]; exact HI6.out, B6⟩
        · have hjx : j = xs.length := by omega
          have hfin : Is 1 encI wr u7 (tl n (tieN xs (q + 1) (oneT k0))) := by
            rw [HSU.out]
            have h1 := HS.out
            rw [hjx, List.take_length] at h1
            exact h1
          have HF := hide hfin; have HJ := hide hjx; clear hfin hjx
          go_wp2_with fail
          go_round
          case measure => (simp [intOf] <;> omega)
          case rel => exact ⟨q + 1, by omega, by go_num, HF.out, hbel⟩
    · have hqn : q = n := by omega
      have HQ := hide hqn; clear hqn
      go_wp2_with fail
      go_ret
      have h1 := HS.out
      rw [HQ.out] at h1
      exact ⟨_, rfl, h1, hbel⟩
end Go.Proofs.Ytijjecckfcbaoaa
