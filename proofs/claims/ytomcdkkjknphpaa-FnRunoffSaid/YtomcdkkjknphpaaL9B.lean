/- Contracts of the squares of a relief and of their neighbors, in impl and spec. Condition: the relief has a row. -/
import Derived.Test.YtomcdkkjknphpaaL9A
import Derived.Test.YtomcdkkjknphpaaStA2
namespace Go.Proofs.Ytomcdkkjknphpaa
open Go.RowKit
set_option linter.unusedVariables false
section
variable {P : Program} {α : Type} {k : Nat} {enc : α → Nat → Value}
theorem wpList_push1s (w : World) {w0 : World} {cs : Array Value} {ops : Array Oper} {rest : List Oper} {o : Oper} {a : Act} {Q : Exit → Act → World → Prop} (hgd : o.guard = none) (s x : Operand) (t : TypeId)
    (ho : o.op = .call { callee := .builtin .append, args := #[s, x], argTypes := #[t, t] })
    (e : TypeId) (z : Value) (bytes : Nat) (ht : P.underlying t = some (.slice e)) (hi : (P.info? e).map (fun i => (i.zero, i.size, i.bytes)) = some (some z, k, bytes))
    (hzs : z.cells.size = k) (hk : 0 < k) (hby : bytes ≤ 4096) (hone : ∀ x j, (enc x j).oneCell' = true)
    (base : Nat) (v : Value) (xs : List α) (hs : a.eval s = v) (hown : Own k enc e w0 base v xs) (y : α) (c m : Nat) (hm : m = w0.heap.size) (hx : a.eval x = .slice (some ⟨m, 0, none⟩) 1 c) (hcs : cs.toList = flat k enc [y])
    (hlen : xs.length ≤ 16777216) (hbase : base ≤ w0.heap.size) {B : Nat} {a0 : World} (hbel : Below B a0 w0) (hB : B ≤ base) (hw : w = w0.alloc (.cells cs e))
    (h : ∀ v' w', Own k enc e w' base v' (xs ++ [y]) → Below B a0 w' → (w0.alloc (.cells cs e)).grownBy w' v.ownBlock → wpList P ops Q rest (a.put o.dst v') w') : wpList P ops Q (o :: rest) a w := by
  subst hm
  exact wpList_push1 w hgd s x t ho e z bytes ht hi hzs hk hby hone base v xs hs hown y c hx hcs hlen hbase hbel hB hw h
end
def hasSq (xss : List (List Int)) (r c : Int) : Bool := inB r 0 ((xss.length : Int) - 1) && inB c 0 ((hdLen xss : Int) - 1)
def listedG (xss : List (List Int)) (r c : Int) : Bool := reliefB xss && hasSq xss r c
theorem relief_dims {xss : List (List Int)} (h : reliefB xss = true) : 1 ≤ xss.length ∧ xss.length ≤ 8 ∧ 1 ≤ hdLen xss ∧ hdLen xss ≤ 8 := by
  unfold reliefB at h
  rw [Bool.and_eq_true] at h
  have h1 := inB_iff.1 h.1
  have hp : 0 < xss.length := by omega
  have h2 := List.all_eq_true.1 h.2 xss[0] (List.getElem_mem hp)
  unfold rowB at h2
  rw [Bool.and_eq_true, Bool.and_eq_true] at h2
  have h3 := inB_iff.1 h2.2.1
  have h4 := beq_iff_eq.1 h2.1
  omega
theorem hasSquare_is (v : Value) (xss : List (List Int)) (r c : Int) (w : World) (h : IsG w v xss) (hne : 0 < xss.length) :
    Calls Try.prog 90 #[v, .int .i64 r, .int .i64 c] w fun e w' => e = .returned (.bool (hasSq xss r c)) ∧ w = w' := by
  obtain ⟨rs, hmap, his, hrs⟩ := h
  have hlen := his.len
  obtain ⟨A, cap, rfl, hrow, _, _⟩ := his
  have hxl : xss.length = rs.length := by rw [← hmap]; simp
  have hpos : 0 < rs.length := by omega
  have hpos' : (0 : Int) < rs.length := by omega
  have hd : hdLen xss = rs[0].xs.length := by rw [hdLen_eq hne]; simp [← hmap]
  obtain ⟨b0, off, rfl, hb, d0⟩ := SRow.cell hrow hpos (Below.refl _ _)
  rw [Nat.add_zero] at d0
  have hl0 := ((hrs rs[0] (List.getElem_mem hpos)).is).len
  unfold hasSq
  rw [hxl, hd]
  generalize rs[0].A = A0 at *; generalize rs[0].xs = ys0 at *; generalize rs[0].cap = cp0 at *
  have hin1 := fun W => within_any r 0 ((rs.length : Int) - 1) W
  have hin2 := fun W => within_any c 0 ((ys0.length : Int) - 1) W
  generalize inB r 0 ((rs.length : Int) - 1) = i1 at *
  generalize inB c 0 ((ys0.length : Int) - 1) = i2 at *
  have H1 := hide hin1; have H2 := hide hin2
  clear hin1 hin2 hrow hrs hmap hxl hd hne
  cases i1
  · go_enter Try.func90, Try.ntmps90
    go_wp2_with fail
    refine (H1.out _).mono ?_; rintro e w' ⟨rfl, rfl⟩
    go_wp2_with fail
    go_ret
    exact ⟨rfl, rfl⟩
  · go_enter Try.func90, Try.ntmps90
    go_wp2_with fail
    refine (H1.out _).mono ?_; rintro e w' ⟨rfl, rfl⟩
    go_wp2_with fail
    refine (H2.out _).mono ?_; rintro e w' ⟨rfl, rfl⟩
    go_wp2_with fail
    go_ret
    exact ⟨rfl, rfl⟩
theorem isListedSquare_is (v : Value) (xss : List (List Int)) (r c : Int) (w : World) (h : IsG w v xss) :
    Calls Try.prog 68 #[v, .int .i64 r, .int .i64 c] w fun e w' => e = .returned (.bool (listedG xss r c)) ∧ Below w.heap.size w w' := by
  have hg := implIsRelief_any v xss w h
  by_cases hr : reliefB xss = true
  · have hs := fun W (hb : Below w.heap.size w W) => hasSquare_is v xss r c W (h.below hb (Nat.le_refl _)) (by have := relief_dims hr; omega)
    rw [show listedG xss r c = hasSq xss r c by unfold listedG; rw [hr, Bool.true_and]]
    rw [hr] at hg
    generalize hasSq xss r c = s at hs
    have HG := hide hg; have HS := hide hs; clear hg hs hr h
    go_enter Try.func68, Try.ntmps68
    go_wp2_with fail
    refine HG.out.mono ?_; rintro e w1 ⟨rfl, hb1⟩
    go_wp2_with fail
    refine (HS.out _ hb1).mono ?_; rintro e w' ⟨rfl, rfl⟩
    go_wp2_with fail
    go_ret
    exact ⟨rfl, hb1⟩
  · rw [Bool.not_eq_true] at hr
    rw [show listedG xss r c = false by unfold listedG; rw [hr]; rfl]
    rw [hr] at hg
    have HG := hide hg; clear hg hr h
    go_enter Try.func68, Try.ntmps68
    go_wp2_with fail
    refine HG.out.mono ?_; rintro e w1 ⟨rfl, hb1⟩
    go_wp2_with fail
    go_ret
    exact ⟨rfl, hb1⟩
set_option maxHeartbeats 1000000 in
theorem l9Square_is (v : Value) (xss : List (List Int)) (r c : Int) (w : World) (h : IsG w v xss) :
    Calls Try.prog 69 #[v, .int .i64 r, .int .i64 c] w fun e w' => e = .returned (.bool (listedG xss r c)) ∧ Below w.heap.size w w' := by
  have hg := l9Good_is v xss w h
  by_cases hr : reliefB xss = true
  case neg =>
    rw [Bool.not_eq_true] at hr
    rw [show listedG xss r c = false by unfold listedG; rw [hr]; rfl]
    rw [hr] at hg
    have HG := hide hg; clear hg hr h
    go_enter Try.func69, Try.ntmps69
    go_wp2_with fail
    refine HG.out.mono ?_; rintro e w1 ⟨rfl, hb1⟩
    go_wp2_with fail
    go_ret
    exact ⟨rfl, hb1⟩
  rw [hr] at hg
  have hdm := relief_dims hr
  obtain ⟨rs, hmap, his, hrs⟩ := h
  obtain ⟨A, cap, rfl, hrow, _, _⟩ := his
  have hxl : xss.length = rs.length := by rw [← hmap]; simp
  have hpos : 0 < rs.length := by omega
  have hpos' : (0 : Int) < rs.length := by omega
  have hd : hdLen xss = rs[0].xs.length := by rw [hdLen_eq (by omega)]; simp [← hmap]
  have hL : listedG xss r c = decide (0 ≤ r ∧ r < rs.length ∧ 0 ≤ c ∧ c < rs[0].xs.length) := by
    unfold listedG hasSq
    rw [hr, Bool.true_and, hxl, hd, Bool.eq_iff_iff, Bool.and_eq_true, inB_iff, inB_iff, decide_eq_true_eq]
    omega
  rw [hL]
  have hcell := fun W (hW : Below w.heap.size w W) => SRow.cell hrow hpos hW
  have HCL := hide hcell; have HG := hide hg
  have h8 : rs.length ≤ 8 ∧ rs[0].xs.length ≤ 8 := by omega
  obtain ⟨h8a, h8b⟩ := h8
  generalize rs[0].A = A0 at *; generalize rs[0].xs = ys0 at *; generalize rs[0].cap = cp0 at *
  clear hcell hg hrow hrs hmap hxl hd hL hr hdm
  by_cases q1 : 0 ≤ r
  case neg =>
    rw [decide_eq_false (by omega)]
    go_enter Try.func69, Try.ntmps69
    go_wp2_with fail
    refine HG.out.mono ?_; rintro e w1 ⟨rfl, hb1⟩
    go_wp2_with fail
    go_ret
    exact ⟨rfl, hb1⟩
  by_cases q2 : r < rs.length
  case neg =>
    rw [decide_eq_false (by omega)]
    go_enter Try.func69, Try.ntmps69
    go_wp2_with fail
    refine HG.out.mono ?_; rintro e w1 ⟨rfl, hb1⟩
    go_wp2_with fail
    go_ret
    exact ⟨rfl, hb1⟩
  by_cases q3 : 0 ≤ c
  case neg =>
    rw [decide_eq_false (by omega)]
    go_enter Try.func69, Try.ntmps69
    go_wp2_with fail
    refine HG.out.mono ?_; rintro e w1 ⟨rfl, hb1⟩
    go_wp2_with fail
    go_ret
    exact ⟨rfl, hb1⟩
  by_cases q4 : c < ys0.length
  · rw [decide_eq_true ⟨q1, q2, q3, q4⟩]
    go_enter Try.func69, Try.ntmps69
    go_wp2_with fail
    refine HG.out.mono ?_; rintro e w1 ⟨rfl, hb1⟩
    obtain ⟨b0, off, rfl, hb, d0⟩ := HCL.out _ hb1
    rw [Nat.add_zero] at d0
    go_wp2_with fail
    go_ret
    exact ⟨ret_bool (by first | (simp; done) | (simp; omega)), hb1⟩
  · rw [decide_eq_false (by omega)]
    go_enter Try.func69, Try.ntmps69
    go_wp2_with fail
    refine HG.out.mono ?_; rintro e w1 ⟨rfl, hb1⟩
    obtain ⟨b0, off, rfl, hb, d0⟩ := HCL.out _ hb1
    rw [Nat.add_zero] at d0
    go_wp2_with fail
    go_ret
    exact ⟨ret_bool (by first | (simp; done) | (simp; omega)), hb1⟩
/-- the neighbors of a square -/
def cands (r c : Int) : List SA2 := [⟨r - 1, c⟩, ⟨r, c + 1⟩, ⟨r + 1, c⟩, ⟨r, c - 1⟩]
def nearS (xss : List (List Int)) (r c : Int) : List SA2 := (cands r c).filter fun p => hasSq xss p.x p.y
def nearTo (xss : List (List Int)) (r c : Int) (k : Nat) : List SA2 := ((cands r c).take k).filter fun p => hasSq xss p.x p.y
theorem nearTo_succ {xss : List (List Int)} {r c : Int} {k : Nat} (h : k < (cands r c).length) : nearTo xss r c (k + 1) = nearTo xss r c k ++ if hasSq xss (cands r c)[k].x (cands r c)[k].y then [(cands r c)[k]] else [] := by
  unfold nearTo
  rw [take_snoc' h, List.filter_append]
  congr 1
  cases hp : hasSq xss (cands r c)[k].x (cands r c)[k].y <;> simp [hp]
theorem nearTo_le (xss : List (List Int)) (r c : Int) (k : Nat) : (nearTo xss r c k).length ≤ 4 := by
  unfold nearTo
  exact Nat.le_trans (List.length_filter_le _ _) (by simp [cands]; omega)
set_option maxHeartbeats 1000000 in
theorem around_is (v : Value) (xss : List (List Int)) (r c : Int) (w : World) (h : IsG w v xss) (hne : 0 < xss.length) (hr : 0 ≤ r ∧ r ≤ 100) (hc : 0 ≤ c ∧ c ≤ 100) :
    Calls Try.prog 87 #[v, .int .i64 r, .int .i64 c] w fun e w' => ∃ x, e = .returned x ∧ Own 2 SA2.enc 50 w' w.heap.size x (nearS xss r c) ∧ Below w.heap.size w w' := by
  obtain ⟨r0, r1⟩ := hr; obtain ⟨c0, c1⟩ := hc
  have hfl : Filled 2 SA2.enc #[.int .i64 (r - 1), .int .i64 c, .int .i64 r, .int .i64 (c + 1), .int .i64 (r + 1), .int .i64 c, .int .i64 r, .int .i64 (c - 1)] (cands r c).length (cands r c) := by
    intro j x hj hx k hk
    have hj' : j = 0 ∨ j = 1 ∨ j = 2 ∨ j = 3 := by simp [cands] at hj; omega
    have hk' : k = 0 ∨ k = 1 := by omega
    rcases hj' with rfl | rfl | rfl | rfl <;> simp [cands] at hx <;> subst hx <;> rcases hk' with rfl | rfl <;> rfl
  have hlit := hfl.row (Blk.new w 50 _) (show w.heap.size < w.heap.size + 1 by omega)
  have B1 := below_alloc w (.cells #[.int .i64 (r - 1), .int .i64 c, .int .i64 r, .int .i64 (c + 1), .int .i64 (r + 1), .int .i64 c, .int .i64 r, .int .i64 (c - 1)] 50)
  have hsq := fun p q W (hb : Below w.heap.size w W) => hasSquare_is v xss p q W (h.below hb (Nat.le_refl _)) hne
  have HSQ := hide hsq; have HLIT := hide hlit; clear hsq hlit h hne
  generalize hB : w.heap.size = B at HSQ B1 HLIT
  have HB := hide hB
  go_enter Try.func87, Try.ntmps87
  go_wp2_with fail
  generalize hw1 : w.alloc (.cells #[.int .i64 (r - 1), .int .i64 c, .int .i64 r, .int .i64 (c + 1), .int .i64 (r + 1), .int .i64 c, .int .i64 r, .int .i64 (c - 1)] 50) = w1 at B1 HLIT ⊢
  have s1 : B + 1 ≤ w1.heap.size := by rw [← hw1]; simp [hB]
  go_loopw [7, 28] (fun s i wr => ∃ k : Nat, k ≤ 4 ∧ i = .int .i64 (k : Int) ∧ Own 2 SA2.enc 50 wr (B + 1) s (nearTo xss r c k) ∧ Below (B + 1) w1 wr) (fun _ i _ => 4 - (intOf i).toNat)
  case atStart => exact ⟨0, by omega, rfl, Own.nil, Below.refl _ _⟩
  case round =>
    obtain ⟨k, hk, rfl, hown, hbel⟩ := hrel
    have HOW := hide hown; clear hown
    have hsz : B + 1 ≤ wr.heap.size := Nat.le_trans s1 hbel.size
    have hbelB : Below B w wr := B1.trans (hbel.mono (Nat.le_succ _))
    by_cases hlt : k < 4
    · have hlc : k < (cands r c).length := hlt
      obtain ⟨b', off', hA, hb', d0, d1⟩ := SA2.cells HLIT.out (i := k) hlc hbel
      injection hA with hA; injection hA with hA1 hA2; subst hA1 hA2
      rw [Nat.zero_add] at d0 d1
      have hst := nearTo_succ (xss := xss) hlc
      have hdl : (nearTo xss r c k).length ≤ 16777216 := by have := nearTo_le xss r c k; omega
      rw [show (cands r c)[k] = ⟨(cands r c)[k].x, (cands r c)[k].y⟩ from rfl] at hst
      generalize (cands r c)[k].x = px at *; generalize (cands r c)[k].y = py at *
      have hlt' : (k : Int) < 4 := by omega
      have BX := hbel.alloc hsz (.cells #[.int .i64 px, .int .i64 py] 50)
      have BXB := hbelB.alloc (by omega) (.cells #[.int .i64 px, .int .i64 py] 50)
      have hcall := HSQ.out px py _ BXB
      have hox := HOW.out.alloc (.cells #[.int .i64 px, .int .i64 py] 50)
      generalize hasSq xss px py = sq at hcall hst
      have HC := hide hcall; have HBX := hide BX; have HOX := hide hox; clear hcall BX hox BXB
      cases sq with
      | true =>
        rw [if_pos rfl] at hst
        have HST := hide hst; clear hst
        go_wp2_with (first | (go_at_call 90; refine HC.out.mono ?_; rintro e w' ⟨rfl, rfl⟩) | (at_builtin; refine wpList_push1s (k := 2) (enc := SA2.enc) _ rfl _ _ 44 rfl 50 (.agg #[.int .i64 0, .int .i64 0]) 16 Try.underlying44 SA2.info rfl (by omega) (by omega) SA2.one (B + 1) _ (nearTo xss r c k) rfl HOX.out (⟨px, py⟩ : SA2) _ _ (by simp) rfl rfl hdl (by simp; omega) HBX.out (Nat.le_refl _) rfl ?_; intro v1 w2 ho1 hb1 hg1))
        go_round
        case measure => (simp [intOf] <;> omega)
        case rel => exact ⟨k + 1, by omega, by go_num, by rw [HST.out]; exact ho1, hb1⟩
      | false =>
        have HST := hide hst; clear hst
        go_wp2_with (go_at_call 90; refine HC.out.mono ?_; rintro e w' ⟨rfl, rfl⟩)
        go_round
        case measure => (simp [intOf] <;> omega)
        case rel => exact ⟨k + 1, by omega, by go_num, by rw [HST.out]; simpa using HOX.out, HBX.out⟩
    · have hk4 : k = 4 := by omega
      subst hk4
      go_wp2_with fail
      go_ret
      refine ⟨_, rfl, HOW.out.mono (Nat.le_succ _), hbelB⟩
end Go.Proofs.Ytomcdkkjknphpaa
