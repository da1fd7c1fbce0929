/- Contracts of the library's search of a pair, of impl's catchment, and of impl's Catchment and GreatestRiver. Condition of catchment: the square is one of the relief. -/
import Derived.Test.YtomcdkkjknphpaaL9Q
namespace Go.Proofs.Ytomcdkkjknphpaa
open Go.RowKit
set_option linter.unusedVariables false
theorem SA2.eql_run (a b c d : Int) (w : World) : (binOp .eql 50 (.agg #[.int .i64 a, .int .i64 b]) (.agg #[.int .i64 c, .int .i64 d])).run Try.prog w = .ok (.bool (!neqP a b c d)) w := by
  have u3 := Try.underlying3
  obtain ⟨i, hi, h2, h3, h4⟩ := info_parts' infoI
  rw [run_eql_struct, show (10000 : Nat) = 9999 + 1 from rfl, run_equalIn_array w 9999 _ _ Try.underlying50 hi]
  have hce : Try.prog.cellsOf 3 = 1 := by kernel_rfl
  have hpk : Try.prog.plainKey 3 = true := by kernel_rfl
  have p0 := fun (x y : Int) W => run_part_plain (P := Try.prog) (w := W) hpk (xs := #[.int .i64 x, .int .i64 y]) (off := 0) rfl
  have p1 := fun (x y : Int) W => run_part_plain (P := Try.prog) (w := W) hpk (xs := #[.int .i64 x, .int .i64 y]) (off := 1) rfl
  unfold neqP
  rw [hce]
  simp only [show List.range 2 = [0, 1] from rfl, Op.eqItems, Sem.run_bind, Nat.zero_mul, Nat.one_mul, p0, p1, Result.andThen_ok]
  go_simp
  by_cases h1 : a = c <;> by_cases h2 : b = d <;> simp [h1, h2]
theorem neqP_eq (p q : SA2) : (!neqP p.x p.y q.x q.y) = decide (p = q) := by
  obtain ⟨a, b⟩ := p
  obtain ⟨c, d⟩ := q
  unfold neqP
  by_cases h1 : a = c <;> by_cases h2 : b = d <;> simp [h1, h2]
theorem IndexA2_any (A : Option Addr) (cap : Nat) (xs : List SA2) (q : SA2) (w : World) (hr : Row 2 SA2.enc w w.heap.size A xs) (hm : xs.length ≤ 9223372036854775807) :
    Calls Try.prog 97 #[.slice A xs.length cap, .agg #[.int .i64 q.x, .int .i64 q.y]] w fun e w' => e = .returned (.int .i64 (idxF (fun c => decide (q = c)) xs)) ∧ Below w.heap.size w w' := by
  obtain ⟨qx, qy⟩ := q
  have B0 := below_alloc w (.cells #[.int .i64 qx, .int .i64 qy] 50)
  have hbx := Blk.new w 50 #[.int .i64 qx, .int .i64 qy]
  have hs0 : (w.alloc (.cells #[.int .i64 qx, .int .i64 qy] 50)).heap.size = w.heap.size + 1 := by simp
  generalize hB : w.heap.size = B at *
  have HR := hide hr; have HBX := hide hbx; have HB := hide hB; clear hr hbx
  simp only
  go_enter Try.func97, Try.ntmps97
  go_wp2_with fail
  generalize hw0 : w.alloc (.cells #[.int .i64 qx, .int .i64 qy] 50) = w0 at *
  go_loopw [8] (fun i wr => ∃ (k : Nat), k ≤ xs.length ∧ i = .int .i64 k ∧ (∀ c ∈ xs.take k, (decide ((⟨qx, qy⟩ : SA2) = c)) = false) ∧ Below (B + 1) w0 wr) (fun i _ => xs.length - (intOf i).toNat)
  case atStart => exact ⟨0, Nat.zero_le _, rfl, by simp, Below.refl _ _⟩
  case round =>
    obtain ⟨i, hi, rfl, hno, hbel⟩ := hrel
    have HN := hide hno; clear hno
    have hsz : B + 1 ≤ wr.heap.size := by have := hbel.size; omega
    have hb0 := B0.trans (hbel.mono (Nat.le_succ B))
    have hk0 := HBX.out.below hbel (Nat.lt_succ_self B)
    obtain ⟨b0, b1⟩ := boxed2_cell (p := ⟨qx, qy⟩) hk0
    simp only at b0 b1
    by_cases hlt : i < xs.length
    · have hlt' : (i : Int) < xs.length := by omega
      obtain ⟨b, off, rfl, hb, c0, c1⟩ := SA2.cells HR.out hlt hb0
      have hhit := fun h => idxF_hit (p := fun c => decide ((⟨qx, qy⟩ : SA2) = c)) hlt h HN.out
      have htk := take_snoc' hlt
      have heq := neqP_eq ⟨qx, qy⟩ xs[i]
      have HH := hide hhit; have HTK := hide htk; clear hhit htk
      generalize xs[i] = y at *
      obtain ⟨yx, yy⟩ := y
      simp only at c0 c1 heq
      have hrun := fun W => SA2.eql_run qx qy yx yy W
      rw [heq] at hrun
      have m0 := fun n => later_cell b0 n; have m1 := fun n => later_cell b1 n; have m2 := fun n => later_cell c0 n; have m3 := fun n => later_cell c1 n
      clear hk0
      cases hq : decide ((⟨qx, qy⟩ : SA2) = ⟨yx, yy⟩) with
      | true =>
        rw [hq] at hrun
        have HQ := hide hq; clear hq heq
        go_wp2_with fail
        (refine wp_region_later (by kernel_rfl) (by kernel_rfl) ?_; (repeat (go_big_quiet_step (fail))); refine wpQuiet_nil ?_; intro _ hw'; obtain ⟨nq, hw''⟩ := hw'; subst hw'')
        have B3 := bstep hb0 nq.h (by omega)
        go_wp2_with fail
        go_ret
        exact ⟨ret_int (HH.out HQ.out).symm, B3⟩
      | false =>
        rw [hq] at hrun
        have HQ := hide hq; clear hq heq
        go_wp2_with fail
        (refine wp_region_later (by kernel_rfl) (by kernel_rfl) ?_; (repeat (go_big_quiet_step (fail))); refine wpQuiet_nil ?_; intro _ hw'; obtain ⟨nq, hw''⟩ := hw'; subst hw'')
        have B3 := hbel.trans (nq.h.mono hsz)
        go_wp2_with fail
        refine ⟨⟨i + 1, by omega, by go_num, ?_, B3⟩, by simp [intOf]; omega⟩
        rw [HTK.out]
        intro c hc
        rcases List.mem_append.1 hc with h | h
        · exact HN.out c h
        · rw [List.mem_singleton.1 h]; exact HQ.out
    · have hk : i = xs.length := by omega
      have HK := hide hk; clear hk
      go_wp2_with fail
      go_ret
      refine ⟨ret_int (idxF_miss ?_).symm, hb0⟩
      have := HN.out; rw [HK.out, List.take_length] at this; exact this
theorem ContainsA2_any (A : Option Addr) (cap : Nat) (xs : List SA2) (q : SA2) (w : World) (hr : Row 2 SA2.enc w w.heap.size A xs) (hm : xs.length ≤ 9223372036854775807) :
    Calls Try.prog 91 #[.slice A xs.length cap, .agg #[.int .i64 q.x, .int .i64 q.y]] w fun e w' => e = .returned (.bool (decide (q ∈ xs))) ∧ Below w.heap.size w w' := by
  have B0 := below_alloc w (.cells #[.int .i64 q.x, .int .i64 q.y] 50)
  have hbx := Blk.new w 50 q.boxed
  obtain ⟨b0, b1⟩ := boxed2_cell hbx
  have hidx := IndexA2_any A cap xs q _ (hr.below B0 (Nat.le_refl _) B0.size) hm
  have hany : decide (0 ≤ idxF (fun c => decide (q = c)) xs) = decide (q ∈ xs) := by
    rw [idxF_any, Bool.eq_iff_iff, List.any_eq_true, decide_eq_true_eq]
    constructor
    · rintro ⟨c, hc, he⟩; rw [of_decide_eq_true he]; exact hc
    · intro h; exact ⟨q, h, by simp⟩
  have HX := hide hidx; have HA := hide hany; clear hidx hany hbx hr
  generalize decide (q ∈ xs) = dq at *
  obtain ⟨qx, qy⟩ := q
  simp only [SA2.boxed] at *
  go_enter Try.func91, Try.ntmps91
  go_wp2_with fail
  refine HX.out.mono ?_; rintro e w1 ⟨rfl, hb1⟩
  go_wp2_with fail
  go_ret
  exact ⟨ret_bool HA.out, bstep B0 hb1 B0.size⟩
set_option maxHeartbeats 1000000 in
theorem catchment_is (v : Value) (xss : List (List Int)) (r c : Int) (w : World) (h : IsG w v xss) (hrel : reliefB xss = true) (hr : 0 ≤ r ∧ r < xss.length) (hc : 0 ≤ c ∧ c < hdLen xss) :
    Calls Try.prog 73 #[v, .int .i64 r, .int .i64 c] w fun e w' => e = .returned (.int .i64 (catN xss ⟨r, c⟩ : Int)) ∧ Below w.heap.size w w' := by
  have hall := allS_len hrel
  have hsq := fun W (hb : Below w.heap.size w W) => allSquares_is v xss W (h.below hb (Nat.le_refl _)) hrel
  have hrun := fun (p : SA2) (hp : InS xss p) W (hb : Below w.heap.size w W) => runOff_is v xss p.x p.y W (h.below hb (Nat.le_refl _)) hrel hp.1 hp.2
  have hrl := fun (p : SA2) (hp : InS xss p) => runL_len hrel hp
  have hin := fun (p : SA2) (hp : p ∈ allS xss) => allS_in hp
  have hts := fun k (hk : k < (allS xss).length) => catTo_succ (q := ⟨r, c⟩) hk
  have hle := fun k => catTo_le (xss := xss) ⟨r, c⟩ k
  have hca := catTo_all (xss := xss) ⟨r, c⟩
  have h0 : catTo xss ⟨r, c⟩ 0 = 0 := by simp [catTo]
  rw [show sqTo (hdLen xss) xss.length = allS xss from rfl] at hsq
  unfold overB at hts
  have HSQ := hide hsq; have HRUN := hide hrun; have HRL := hide hrl; have HIN := hide hin; have HTS := hide hts; have HLE := hide hle; have HCA := hide hca; have H0 := hide h0
  clear hsq hrun hrl hin hts hle hca h0 h hrel hr hc
  generalize allS xss = l at *
  generalize hB : w.heap.size = B at *
  have HB := hide hB
  go_enter Try.func73, Try.ntmps73
  go_wp2_with fail
  refine (HSQ.out _ (Below.refl _ _)).mono ?_; rintro e w1 ⟨x, rfl, ho, hb1⟩
  rw [hB] at hb1 ho
  obtain ⟨A', cap', rfl, _, _, _⟩ := ho.row
  have HO := hide ho; clear ho
  go_wp2_with fail
  go_loopw [7, 13] (fun t i wr => ∃ k : Nat, k ≤ l.length ∧ i = .int .i64 (k : Int) ∧ t = .int .i64 (catTo xss ⟨r, c⟩ k : Int) ∧ Own 2 SA2.enc 50 wr B (.slice A' l.length cap') l ∧ Below B w wr) (fun _ i _ => l.length - (intOf i).toNat)
  case atStart => exact ⟨0, Nat.zero_le _, rfl, by rw [H0.out]; rfl, HO.out, hb1⟩
  case round =>
    obtain ⟨k, hk, rfl, rfl, hown, hbel⟩ := hrel
    have hsz : B ≤ wr.heap.size := by have := hbel.size; rw [HB.out] at this; exact this
    by_cases hlt : k < l.length
    · have hlt' : (k : Int) < l.length := by omega
      obtain ⟨A2, c2, he, hrl, _, _⟩ := hown.row
      injection he with he1 he2 he3; subst he1 he3
      obtain ⟨b, off, rfl, hb, d0, d1⟩ := SA2.cells hrl hlt (Below.refl _ _)
      have hpin := HIN.out l[k] (List.getElem_mem hlt)
      have hts := HTS.out k hlt
      have hle := HLE.out k
      have hrun := HRUN.out l[k] hpin
      have hrln := HRL.out l[k] hpin
      generalize l[k] = p at *
      obtain ⟨px, py⟩ := p
      simp only at hrun d0 d1
      have BX := hbel.alloc hsz (.cells #[.int .i64 px, .int .i64 py] 50)
      have hox := hown.alloc (.cells #[.int .i64 px, .int .i64 py] 50)
      generalize runL xss ⟨px, py⟩ = rl at *
      generalize catTo xss ⟨r, c⟩ k = ct at *
      have HRN := hide hrun; have HOX := hide hox; have HTS2 := hide hts; have HBX := hide BX
      clear hrun hox hts hown hrl BX
      go_wp2_with fail
      refine (HRN.out _ HBX.out).mono ?_; rintro e w5 ⟨x5, rfl, ho5, hb5⟩
      have B5 := bstep HBX.out hb5 (by simp; omega)
      obtain ⟨A5, c5, rfl, hr5, _, _⟩ := ho5.row
      have hcon := ContainsA2_any A5 c5 rl ⟨r, c⟩ w5 hr5 (by omega)
      simp only at hcon
      have HO5 := hide (HOX.out.below hb5); have HCON := hide hcon
      have hs5 : B ≤ w5.heap.size := by have := hb5.size; simp at this; omega
      clear ho5 hr5 hcon hb5
      generalize hd : decide ((⟨r, c⟩ : SA2) ∈ rl) = dq at *
      go_wp2_with fail
      refine HCON.out.mono ?_; rintro e w6 ⟨rfl, hb6⟩
      have B6 := bstep B5 hb6 hs5
      have HO6 := hide (HO5.out.below hb6)
      cases dq with
      | true =>
        rw [if_pos (by simp)] at HTS2
        go_wp2_with fail
        go_round
        case measure => (simp [intOf] <;> omega)
        case rel => exact ⟨k + 1, by omega, by go_num, by rw [HTS2.out]; congr 1, HO6.out, B6⟩
      | false =>
        rw [if_neg (by simp)] at HTS2
        go_wp2_with fail
        go_round
        case measure => (simp [intOf] <;> omega)
        case rel => exact ⟨k + 1, by omega, by go_num, by rw [HTS2.out]; congr 1, HO6.out, B6⟩
    · have hkl : l.length = k := by omega
      have hca := HCA.out
      rw [hkl] at hca
      have HCA2 := hide hca; have HKL := hide hkl; clear hca hkl hown
      go_wp2_with fail
      go_ret
      exact ⟨ret_int (by rw [HCA2.out]), hbel⟩
theorem implCatchment_any (v : Value) (xss : List (List Int)) (r c : Int) (w : World) (h : IsG w v xss) :
    Calls Try.prog 37 #[v, .int .i64 r, .int .i64 c] w fun e w' => e = .returned (.tuple #[.int .i64 (catV xss r c).1, .bool (catV xss r c).2]) ∧ Below w.heap.size w w' := by
  have hsq := isListedSquare_is v xss r c w h
  by_cases hl : listedG xss r c = true
  case neg =>
    rw [Bool.not_eq_true] at hl
    rw [show catV xss r c = (0, false) by unfold catV; rw [hl]; rfl]
    rw [hl] at hsq
    have HS := hide hsq; clear hsq hl h
    go_enter Try.func37, Try.ntmps37
    go_wp2_with fail
    refine HS.out.mono ?_; rintro e w1 ⟨rfl, hb1⟩
    go_wp2_with fail
    go_ret2
    exact ⟨rfl, hb1⟩
  rw [hl] at hsq
  obtain ⟨hrel, hr, hc⟩ := listed_parts hl
  rw [show catV xss r c = ((catN xss ⟨r, c⟩ : Int), true) by unfold catV; rw [hl]; rfl]
  have hcat := fun W (hb : Below w.heap.size w W) => catchment_is v xss r c W (h.below hb (Nat.le_refl _)) hrel hr hc
  generalize (catN xss ⟨r, c⟩ : Int) = ct at *
  have HS := hide hsq; have HN := hide hcat; clear hsq hcat hl h hrel hr hc
  go_enter Try.func37, Try.ntmps37
  go_wp2_with fail
  refine HS.out.mono ?_; rintro e w1 ⟨rfl, hb1⟩
  go_wp2_with fail
  refine (HN.out _ hb1).mono ?_; rintro e w2 ⟨rfl, hb2⟩
  have B2 := bstep hb1 hb2 hb1.size
  go_wp2_with fail
  go_ret2
  exact ⟨rfl, B2⟩
end Go.Proofs.Ytomcdkkjknphpaa
