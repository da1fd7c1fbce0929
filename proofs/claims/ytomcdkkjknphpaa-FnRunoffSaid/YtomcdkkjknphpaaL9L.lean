/- Contracts of PitsOf, in impl and spec: the Lean function pitsV. No condition. -/
import Derived.Test.YtomcdkkjknphpaaL9K
import Derived.Test.YtomcdkkjknphpaaL9P
namespace Go.Proofs.Ytomcdkkjknphpaa
open Go.RowKit
set_option linter.unusedVariables false
theorem IsG.slice {w : World} {v : Value} {xss : List (List Int)} (h : IsG w v xss) : ∃ A cap, v = .slice A xss.length cap ∧ xss.length ≤ cap ∧ cap ≤ maxLen := by
  obtain ⟨rs, hmap, his, _⟩ := h
  obtain ⟨A, cap, rfl, _, h1, h2⟩ := his
  have hxl : xss.length = rs.length := by rw [← hmap]; simp
  exact ⟨A, cap, by rw [hxl], by omega, h2⟩
def pits (xss : List (List Int)) (l : List SA2) : List SA2 := l.filter fun p => !runN xss p.x p.y
def pitsV (xss : List (List Int)) : List SA2 × Bool := if reliefB xss then (pits xss (allS xss), true) else ([], false)
theorem allS_len {xss : List (List Int)} (h : reliefB xss = true) : (allS xss).length ≤ 64 := by
  have hdm := relief_dims h
  unfold allS
  rw [sqTo_len]
  have : xss.length * hdLen xss ≤ 8 * 8 := Nat.mul_le_mul (by omega) (by omega)
  omega
theorem pits_len (xss : List (List Int)) (l : List SA2) : (pits xss l).length ≤ l.length := List.length_filter_le _ _
theorem pitsV_len (xss : List (List Int)) : (pitsV xss).1.length ≤ 1048576 := by
  unfold pitsV; split
  · rename_i h; have := pits_len xss (allS xss); have := allS_len h; show (pits xss (allS xss)).length ≤ _; omega
  · simp
theorem pits1_any (v : Value) (xss : List (List Int)) (b : Nat) (x y : Int) (w : World) (h : IsG w v xss) (hrel : reliefB xss = true) (hx : 0 ≤ x ∧ x < xss.length) (hy : 0 ≤ y ∧ y < hdLen xss) (hc : w.cell? ⟨b, 0, none⟩ = some v) :
    Calls Try.prog 79 #[.agg #[.int .i64 x, .int .i64 y], .pointer (some ⟨b, 0, none⟩)] w fun e w' => e = .returned (.bool (runN xss x y)) ∧ Below w.heap.size w w' := by
  have hbl := World.block_lt_of_cell? w _ hc
  have B1 := below_alloc w (.cells #[.int .i64 x, .int .i64 y] 50)
  have hc2 : (w.alloc (.cells #[.int .i64 x, .int .i64 y] 50)).cell? ⟨b, 0, none⟩ = some v := ((bcell B1).1 b 0 hbl).trans hc
  have hcall := next_is v xss x y _ (h.below B1 (Nat.le_refl _)) hrel hx hy
  obtain ⟨A, cap, rfl, _, _⟩ := h.slice
  have HC := hide hcall; clear hcall h hrel
  go_enter Try.func79, Try.ntmps79
  go_wp2_with fail
  refine HC.out.mono ?_; rintro e w1 ⟨rfl, hb1⟩
  have B2 := bstep B1 hb1 B1.size
  have B3 := fun v => B2.alloc B2.size (.cells #[.int .i64 (bestN xss x y).x, v] 50)
  go_wp2_with fail
  go_ret
  exact ⟨rfl, B3 _⟩
set_option maxHeartbeats 1000000 in
theorem implPitsOf_any (v : Value) (xss : List (List Int)) (w : World) (h : IsG w v xss) :
    Calls Try.prog 47 #[v] w fun e w' => ∃ r, e = .returned (.tuple #[r, .bool (pitsV xss).2]) ∧ Own 2 SA2.enc 50 w' w.heap.size r (pitsV xss).1 ∧ Below w.heap.size w w' := by
  obtain ⟨A, cap, rfl, _, _⟩ := h.slice
  have B0 := below_alloc w (.cells #[.slice A xss.length cap] 22)
  have hgood := implIsRelief_any _ xss _ (h.below B0 (Nat.le_refl _))
  have HI := hide h
  have hbox : ∀ W, Below (w.heap.size + 1) (w.alloc (.cells #[.slice A xss.length cap] 22)) W → W.cell? ⟨w.heap.size, 0, none⟩ = some (.slice A xss.length cap) := fun W hb => by
    rw [hb.cell (p := ⟨w.heap.size, 0, none⟩) (by simp), (Blk.new w _ _).cell]; rfl
  have HBX := hide hbox; clear hbox h
  by_cases hg : reliefB xss = true
  case neg =>
    rw [Bool.not_eq_true] at hg
    rw [show pitsV xss = ([], false) by unfold pitsV; rw [hg]; rfl]
    rw [hg] at hgood
    have HG := hide hgood; clear hgood hg
    go_enter Try.func47, Try.ntmps47
    go_wp2_with fail
    refine HG.out.mono ?_; rintro e w1 ⟨rfl, hb1⟩
    go_wp2_with fail
    go_ret2
    exact ⟨_, rfl, Own.nil, bstep B0 hb1 B0.size⟩
  have hlen := allS_len hg
  rw [show pitsV xss = (pits xss (allS xss), true) by unfold pitsV; rw [hg]; rfl]
  rw [hg] at hgood
  have HG := hide hgood; clear hgood
  have HREL := hide hg; clear hg
  go_enter Try.func47, Try.ntmps47
  go_wp2_with fail
  refine HG.out.mono ?_; rintro e w1 ⟨rfl, hb1⟩
  have hbx1 := hb1.mono (show w.heap.size + 1 ≤ _ by simp)
  have c1 := HBX.out w1 hbx1
  have B1 := bstep B0 hb1 B0.size
  have s1 : w.heap.size + 1 ≤ w1.heap.size := by have := hb1.size; simpa using this
  go_wp2_with fail
  refine (allSquares_is _ xss _ (HI.out.below B1 (Nat.le_refl _)) HREL.out).mono ?_; rintro e w2 ⟨r, rfl, ho, hb2⟩
  have B2 := bstep B1 hb2 B1.size
  have hbx2 := hbx1.trans (hb2.mono s1)
  have HBX2 := hide hbx2; clear hbx1 hbx2
  have hp : ∀ (W : World) (c : SA2), c ∈ allS xss → Below w1.heap.size w2 W → Calls Try.prog 79 (#[.agg #[.int .i64 c.x, .int .i64 c.y]] ++ #[.pointer (some ⟨w.heap.size, 0, none⟩)]) W fun e w' => e = .returned (.bool (runN xss c.x c.y)) ∧ Below W.heap.size W w' :=
    fun W c hc hb => pits1_any _ xss _ _ _ W (HI.out.below (B2.trans (hb.mono B1.size)) (Nat.le_refl _)) HREL.out (allS_in hc).1 (allS_in hc).2 (HBX.out W (HBX2.out.trans (hb.mono s1)))
  have hdel := DeleteFuncA2_is 79 #[.pointer (some ⟨w.heap.size, 0, none⟩)] (fun c => runN xss c.x c.y) w1.heap.size r (allS xss) w2 ho (by omega) hb2.size (fun _ _ => by kernel_rfl) hp
  have HD := hide hdel; clear hdel hp ho c1
  go_wp2_with fail
  refine HD.out.mono ?_; rintro e w3 ⟨r3, rfl, ho3, hb3⟩
  have B3 := B2.trans (hb3.mono B1.size)
  have HO3 := hide (ho3.mono B1.size); clear ho3
  go_wp2_with fail
  go_ret2
  exact ⟨_, rfl, HO3.out, B3⟩
theorem pits_succ (xss : List (List Int)) (l : List SA2) (p : SA2) : pits xss (l ++ [p]) = pits xss l ++ if runN xss p.x p.y then [] else [p] := by
  unfold pits
  rw [List.filter_append]
  congr 1
  cases h : runN xss p.x p.y <;> simp [h]
set_option maxHeartbeats 1000000 in
theorem specPitsOf_any (v : Value) (xss : List (List Int)) (w : World) (h : IsG w v xss) :
    Calls Try.prog 46 #[v] w fun e w' => ∃ r, e = .returned (.tuple #[r, .bool (pitsV xss).2]) ∧ Own 2 SA2.enc 50 w' w.heap.size r (pitsV xss).1 ∧ Below w.heap.size w w' := by
  have B0 := below_alloc w (.cells #[] 50)
  have hgood := l9Good_is v xss _ (h.below B0 (Nat.le_refl _))
  have HE := hide (own_emptyP w (Below.refl w.heap.size w) (Nat.le_refl w.heap.size))
  by_cases hg : reliefB xss = true
  case neg =>
    rw [Bool.not_eq_true] at hg
    rw [show pitsV xss = ([], false) by unfold pitsV; rw [hg]; rfl]
    rw [hg] at hgood
    have HG := hide hgood; clear hgood hg h
    go_enter Try.func46, Try.ntmps46
    go_wp2_with fail
    refine HG.out.mono ?_; rintro e w1 ⟨rfl, hb1⟩
    go_wp2_with fail
    go_ret2
    exact ⟨_, rfl, HE.out.below hb1, bstep B0 hb1 B0.size⟩
  have hlen := allS_len hg
  have hdm := relief_dims hg
  rw [show pitsV xss = (pits xss (allS xss), true) by unfold pitsV; rw [hg]; rfl]
  rw [hg] at hgood
  have hnx := fun (x y : Int) (hx : 0 ≤ x ∧ x < xss.length) (hy : 0 ≤ y ∧ y < hdLen xss) W (hb : Below w.heap.size w W) => l9Next_is v xss x y W (h.below hb (Nat.le_refl _)) hg hx hy
  obtain ⟨rs, hmap, his, hrs⟩ := h
  obtain ⟨A, cap, rfl, hrow, _, _⟩ := his
  have hxl : xss.length = rs.length := by rw [← hmap]; simp
  have hrl : ∀ i, (hi : i < rs.length) → rs[i].xs.length = hdLen xss := fun i hi => by
    have := relief_row hg (i := i) (by omega)
    rw [← this]; simp [← hmap]
  unfold allS at hlen ⊢
  have hps := pits_len xss
  have hsq := sqTo_len (hdLen xss)
  rw [hxl] at hnx hdm hlen ⊢
  generalize hdLen xss = m at *
  generalize hB : w.heap.size = B at *
  have HG := hide hgood; have HNX := hide hnx; have HR := hide hrow; have HRL := hide hrl; have HPS := hide hps
  clear hgood hg hnx hmap hrow hrs hrl hps
  go_enter Try.func46, Try.ntmps46
  go_wp2_with fail
  refine HG.out.mono ?_; rintro e w1 ⟨rfl, hb1⟩
  have B1 := bstep B0 hb1 (by rw [← hB]; exact B0.size)
  have HE1 := hide (HE.out.below hb1)
  clear hb1 HE B0
  go_wp2_with fail
  go_loopw [4, 5] (fun s i wr => ∃ n : Nat, n ≤ rs.length ∧ i = .int .i64 (n : Int) ∧ Own 2 SA2.enc 50 wr B s (pits xss (sqTo m n)) ∧ Below B w wr) (fun _ i _ => rs.length - (intOf i).toNat)
  case atStart => exact ⟨0, Nat.zero_le _, rfl, HE1.out, B1⟩
  case round =>
    obtain ⟨n, hn, rfl, hown0, hbel0⟩ := hrel
    have HOW0 := hide hown0; clear hown0
    by_cases hltn : n < rs.length
    · have hltn' : (n : Int) < rs.length := by omega
      go_wp2_with fail
      go_loopw [4, 6] (fun s i wr => ∃ k : Nat, k ≤ m ∧ i = .int .i64 (k : Int) ∧ Own 2 SA2.enc 50 wr B s (pits xss (sqTo m n ++ sqRow n k)) ∧ Below B w wr) (fun _ i _ => m - (intOf i).toNat)
      case atStart => exact ⟨0, Nat.zero_le _, rfl, by simpa [sqRow] using HOW0.out, hbel0⟩
      case round =>
        obtain ⟨k, hk, rfl, hown, hbel⟩ := hrel
        have HOW := hide hown; clear hown
        have hsz : B ≤ wr.heap.size := by have := hbel.size; omega
        obtain ⟨rb, roff, rfl, hrb, rc0⟩ := SRow.cell HR.out (show n < rs.length by omega) hbel
        rw [HRL.out n (by omega)] at rc0
        by_cases hlt : k < m
        · have hlt' : (k : Int) < m := by omega
          have hst := pits_succ xss (sqTo m n ++ sqRow n k) ⟨(n : Int), (k : Int)⟩
          rw [List.append_assoc, ← sqRow_succ] at hst
          have hdl : (pits xss (sqTo m n ++ sqRow n k)).length ≤ 16777216 := by
            have h1 := HPS.out (sqTo m n ++ sqRow n k)
            rw [List.length_append, hsq, show (sqRow n k).length = k by simp [sqRow]] at h1
            have : n * m ≤ 8 * 8 := Nat.mul_le_mul (by omega) (by omega)
            omega
          have BX := hbel.alloc hsz (.cells #[.int .i64 (n : Int), .int .i64 (k : Int)] 50)
          have hox := HOW.out.alloc (.cells #[.int .i64 (n : Int), .int .i64 (k : Int)] 50)
          have hnew := Blk.new wr 50 #[.int .i64 (n : Int), .int .i64 (k : Int)]
          have hcall := HNX.out (n : Int) (k : Int) ⟨by omega, by omega⟩ ⟨by omega, by omega⟩ _ BX
          simp only at hst
          generalize bestN xss (n : Int) (k : Int) = q at *
          generalize runN xss (n : Int) (k : Int) = rn at *
          obtain ⟨qx, qy⟩ := q
          have HC := hide hcall; have HBX := hide BX; have HOX := hide hox; have HNEW := hide hnew; have HST := hide hst
          clear BX hox hnew hcall hst
          have x0 : (wr.alloc (.cells #[.int .i64 (n : Int), .int .i64 (k : Int)] 50)).cell? ⟨wr.heap.size, 0, none⟩ = some (.int .i64 (n : Int)) := HNEW.out.cell 0
          have x1 : (wr.alloc (.cells #[.int .i64 (n : Int), .int .i64 (k : Int)] 50)).cell? ⟨wr.heap.size, 1, none⟩ = some (.int .i64 (k : Int)) := HNEW.out.cell 1
          go_wp2_with fail
          refine HC.out.mono ?_; rintro e w5 ⟨rfl, hb5⟩
          clear x0 x1
          have B5 := bstep HBX.out hb5 (by simp; omega)
          have hn5 := HNEW.out.below hb5 (by simp)
          have ho5 := HOX.out.below hb5
          have hs5 : B ≤ w5.heap.size := by have := B5.size; omega
          have B6 := B5.alloc hs5 (.cells #[.int .i64 qx, .int .i64 qy] 50)
          have ho6 := ho5.alloc (.cells #[.int .i64 qx, .int .i64 qy] 50)
          have hn6 := hn5.alloc (.cells #[.int .i64 qx, .int .i64 qy] 50)
          have e0 : (w5.alloc (.cells #[.int .i64 qx, .int .i64 qy] 50)).cell? ⟨wr.heap.size, 0, none⟩ = some (.int .i64 (n : Int)) := hn6.cell 0
          have e1 : (w5.alloc (.cells #[.int .i64 qx, .int .i64 qy] 50)).cell? ⟨wr.heap.size, 1, none⟩ = some (.int .i64 (k : Int)) := hn6.cell 1
          have HO6 := hide ho6; have HB6 := hide B6
          clear hn5 hn6 ho5 ho6 hb5 rc0 B6
          cases rn with
          | true =>
            rw [if_pos rfl, List.append_nil] at HST
            go_wp2_with fail
            go_round
            case measure => (simp [intOf] <;> omega)
            case rel => exact ⟨k + 1, by omega, by go_num, by rw [HST.out]; exact HO6.out, HB6.out⟩
          | false =>
            go_wp2_with (at_builtin; refine wpList_push1s (k := 2) (enc := SA2.enc) _ rfl _ _ 44 rfl 50 (.agg #[.int .i64 0, .int .i64 0]) 16 Try.underlying44 SA2.info rfl (by omega) (by omega) SA2.one B _ (pits xss (sqTo m n ++ sqRow n k)) rfl HO6.out (⟨(n : Int), (k : Int)⟩ : SA2) _ _ (by simp) rfl rfl hdl (by simp; omega) HB6.out (Nat.le_refl _) rfl ?_; intro v1 w2 ho1 hb1 hg1)
            go_round
            case measure => (simp [intOf] <;> omega)
            case rel => exact ⟨k + 1, by omega, by go_num, by rw [HST.out]; exact ho1, hb1⟩
        · have hkm : k = m := by omega
          have HKM := hide hkm; clear hkm
          go_wp2_with fail
          go_round
          case measure => (simp [intOf] <;> omega)
          case rel => exact ⟨n + 1, by omega, by go_num, by rw [sqTo_succ]; have := HOW.out; rw [HKM.out] at this; exact this, hbel⟩
    · have hnn : rs.length = n := by omega
      have HNN := hide hnn; clear hnn
      go_wp2_with fail
      go_ret2
      exact ⟨_, rfl, by rw [HNN.out]; exact HOW0.out, hbel0⟩
end Go.Proofs.Ytomcdkkjknphpaa
