/- Contracts of the last maker of a line and of impl's test of one family: the place endI of the line's end. Conditions: a valid list. -/
import Derived.Test.YtapbnggdclpokaaL7O
import Derived.Test.YtapbnggdclpokaaStOG
namespace Go.Proofs.Ytapbnggdclpokaa
open Go.RowKit Go.Lib
set_option linter.unusedVariables false
/-- the library's search over rows, where the predicate is told for these rows alone -/
theorem IndexFuncR_any (g : FuncId) (cp : Array Value) (p : List Int → Bool) (A : Option Addr) (cap : Nat) (rs : List SRow) (w : World) (hr : Row 1 SRow.enc w w.heap.size A rs) (hm : rs.length ≤ 9223372036854775807)
    (eg : ∀ args w, (callFunc g args).run Try.prog w = .ok (.enter g args) w) (hp : ∀ (W : World) (r : SRow), Below w.heap.size w W → r ∈ rs → Calls Try.prog g (#[.slice r.A r.xs.length r.cap] ++ cp) W fun e w' => e = .returned (.bool (p r.xs)) ∧ Below w.heap.size w w') :
    Calls Try.prog 76 #[.slice A rs.length cap, .func (.func g) #[] cp] w fun e w' => e = .returned (.int .i64 (idxF (fun r : SRow => p r.xs) rs)) ∧ Below w.heap.size w w' := by
  generalize hB : w.heap.size = B at hr hp ⊢
  have HB := hide hB; clear hB
  have HR := hide hr; clear hr
  have HP := hide hp; clear hp
  go_enter Try.func76, Try.ntmps76
  go_wp2_with fail
  go_loopw [8] (fun i wr => ∃ (k : Nat), k ≤ rs.length ∧ i = .int .i64 k ∧ (∀ c ∈ rs.take k, p c.xs = false) ∧ Below B w wr) (fun i _ => rs.length - (intOf i).toNat)
  case atStart => exact ⟨0, Nat.zero_le _, rfl, by simp, Below.refl _ _⟩
  case round =>
    obtain ⟨i, hi, rfl, hno, hbel⟩ := hrel
    have HN := hide hno; clear hno
    by_cases hlt : i < rs.length
    · obtain ⟨b, off, rfl, hb, c0⟩ := SRow.cell HR.out hlt hbel
      have hcall := HP.out wr rs[i] hbel (List.getElem_mem hlt)
      have hhit := fun h => idxF_hit (p := fun r : SRow => p r.xs) hlt h HN.out
      have htk := take_snoc' hlt
      have HH := hide hhit; have HTK := hide htk; clear hhit htk
      generalize rs[i] = y at *
      cases hq : p y.xs with
      | true =>
        rw [hq] at hcall
        have HQ := hide hq; clear hq
        go_wp2_with (go_at_fn g; refine hcall.mono ?_; rintro e w' ⟨rfl, hb'⟩)
        go_ret
        refine ⟨ret_int ?_, hb'⟩
        exact (HH.out HQ.out).symm
      | false =>
        rw [hq] at hcall
        have HQ := hide hq; clear hq
        go_wp2_with (go_at_fn g; refine hcall.mono ?_; rintro e w' ⟨rfl, hb'⟩)
        refine ⟨⟨i + 1, by omega, by go_num, ?_, hb'⟩, by simp [intOf]; omega⟩
        rw [HTK.out]
        intro c hc
        rcases List.mem_append.1 hc with h | h
        · exact HN.out c h
        · rw [List.mem_singleton.1 h]; exact HQ.out
    · have hk : i = rs.length := by omega
      have HK := hide hk; clear hk
      go_wp2_with fail
      go_ret
      refine ⟨ret_int (idxF_miss ?_).symm, hbel⟩
      have := HN.out; rw [HK.out, List.take_length] at this; exact this
theorem end_last (xs : List SMaker) (k : Nat) {m : Nat} (hm : m + 1 = (lineL xs k).length) (h : m < (lineL xs k).length) : (lineL xs k)[m] = endI xs k := by
  unfold endI
  rw [List.getLastD_eq_getLast?, List.getLast?_eq_getElem?, show (lineL xs k).length - 1 = m by omega, List.getElem?_eq_getElem h]; rfl
set_option maxHeartbeats 1000000 in
theorem lastOf_is (v : Value) (xs : List SMaker) (id : Int) (k : Nat) (w : World) (h : Is 5 SMaker.enc w v xs) (hg : goodB xs = true) (hid : findM xs id = (k : Int)) (hk : k < xs.length) :
    Calls Try.prog 78 #[v, .int .i64 id] w fun e w' => e = .returned (.agg #[.int .i64 (SMaker.at xs (endI xs k)).ident, .string (SMaker.at xs (endI xs k)).name, .int .i64 (SMaker.at xs (endI xs k)).frm, .int .i64 (SMaker.at xs (endI xs k)).untl, .int .i64 (SMaker.at xs (endI xs k)).heir]) ∧ Below w.heap.size w w' := by
  have hl := lineL_from hg hk
  have hne := hl.ne
  have hpos : 0 < (lineL xs k).length := by cases hh : lineL xs k with | nil => exact absurd hh hne | cons a b => simp
  have hlen := lineL_len xs k
  have hend := fun (h : (lineL xs k).length - 1 < (lineL xs k).length) => end_last xs k (m := (lineL xs k).length - 1) (by omega) h
  have hcall := fun W (hi : Is 5 SMaker.enc W v xs) => line_is v xs id k W hi hid (lineL xs k) hl hlen
  generalize lineL xs k = l at *
  generalize endI xs k = ee at *
  generalize hme : SMaker.at xs ee = me at *
  obtain ⟨z0, z1, z2, z3, z4⟩ := me
  have HME := hide hme; clear hme
  simp only
  generalize hB : w.heap.size = B
  have hi : Is 5 SMaker.enc (w.alloc (.cells #[.int .i64 0, .string ⟨#[]⟩, .int .i64 0, .int .i64 0, .int .i64 0] 60)) v xs := h.below (below_alloc w _) (Nat.le_refl _)
  have hk0 : Blk (w.alloc (.cells #[.int .i64 0, .string ⟨#[]⟩, .int .i64 0, .int .i64 0, .int .i64 0] 60)) B 60 #[.int .i64 0, .string ⟨#[]⟩, .int .i64 0, .int .i64 0, .int .i64 0] := by subst hB; exact Blk.new w _ _
  have hbe : Below B w (w.alloc (.cells #[.int .i64 0, .string ⟨#[]⟩, .int .i64 0, .int .i64 0, .int .i64 0] 60)) := by subst hB; exact below_alloc w _
  have hsz : (w.alloc (.cells #[.int .i64 0, .string ⟨#[]⟩, .int .i64 0, .int .i64 0, .int .i64 0] 60)).heap.size = B + 1 := by subst hB; simp
  have HC := hide hcall; have HEND := hide hend
  clear hcall hend h hl hne
  go_enter Try.func78, Try.ntmps78
  go_upto_region 1 with fail
  generalize w.alloc (.cells #[.int .i64 0, .string ⟨#[]⟩, .int .i64 0, .int .i64 0, .int .i64 0] 60) = W0 at *
  have HK0 := hide hk0; have HBE := hide hbe; have HI := hide hi; clear hk0 hbe hi
  go_wp2_with fail
  refine (HC.out _ HI.out).mono ?_; rintro e w1 ⟨r, rfl, ho, hb1⟩
  have K1 := HK0.out.below hb1 (by omega)
  have B1 := bstep HBE.out hb1 (by omega)
  obtain ⟨A, cap, rfl, hr, _, _⟩ := ho.is
  have hml : (mks xs l).length = l.length := by simp [mks]
  rw [hml]
  have hm : l.length - 1 < l.length := by omega
  obtain ⟨b, off, rfl, hb, c0, c1, c2, c3, c4⟩ := Mks.cells hr hm (Below.refl _ _)
  rw [HEND.out hm, HME.out] at c0 c1 c2 c3 c4
  simp only at c0 c1 c2 c3 c4
  have hidx : ((l.length : Int) - 1).toNat = l.length - 1 := by omega
  have ix0 : (0 : Int) ≤ (l.length : Int) - 1 := by omega
  have ix1 : (l.length : Int) - 1 < (l.length : Int) := by omega
  have k0 := K1.cell 0; have k1 := K1.cell 1; have k2 := K1.cell 2; have k3 := K1.cell 3; have k4 := K1.cell 4
  simp at k0 k1 k2 k3 k4
  have kf := fun o => K1.frozen o
  have HK1 := hide K1; have HB1 := hide B1; clear K1 B1 hb1 ho hr
  go_wp2_with fail
  have hF := ((((HK1.out.set 0 (.int .i64 z0)).set 1 (.string z1)).set 2 (.int .i64 z2)).set 3 (.int .i64 z3)).set 4 (.int .i64 z4)
  have f0 := hF.cell 0; have f1 := hF.cell 1; have f2 := hF.cell 2; have f3 := hF.cell 3; have f4 := hF.cell 4
  simp at f0 f1 f2 f3 f4
  exact bodyPost_ret (v := .agg #[.int .i64 z0, .string z1, .int .i64 z2, .int .i64 z3, .int .i64 z4]) (by simp [results, Try.results78, go_sem, f0, f1, f2, f3, f4]) rfl ⟨rfl, ((((HB1.out.setCell (p := ⟨B, 0, none⟩) (Nat.le_refl _) _).setCell (p := ⟨B, 1, none⟩) (Nat.le_refl _) _).setCell (p := ⟨B, 2, none⟩) (Nat.le_refl _) _).setCell (p := ⟨B, 3, none⟩) (Nat.le_refl _) _).setCell (p := ⟨B, 4, none⟩) (Nat.le_refl _) _⟩
/-- the family of an id, told by the end of its line -/
def famP (xs : List SMaker) (n : Nat) (l : List Int) : Bool := decide (endI xs (findM xs (l.headD 0)).toNat = endI xs n)
set_option maxHeartbeats 2000000 in
theorem fam1_any (xs : List SMaker) (n j : Nat) (gl gm : Nat) (AL : Option Addr) (cl : Nat) (A : Option Addr) (cap : Nat) (r : List Int) (W : World) (hn : n < xs.length) (hj : j < xs.length) (hg : goodB xs = true)
    (hL : W.cell? ⟨gl, 0, none⟩ = some (.slice AL xs.length cl)) (hi : Is 5 SMaker.enc W (.slice AL xs.length cl) xs) (hM : W.cell? ⟨gm, 0, none⟩ = some (.int .i64 (idOf xs n)))
    (hr : Row 1 encI W W.heap.size A r) (h0 : r.head? = some (idOf xs j)) (hlr : r.length ≤ 9223372036854775807) :
    Calls Try.prog 77 #[.slice A r.length cap, .pointer (some ⟨gl, 0, none⟩), .pointer (some ⟨gm, 0, none⟩)] W fun e w' => e = .returned (.bool (famP xs n r)) ∧ Below W.heap.size W w' := by
  have hfp : famP xs n r = decide (endI xs j = endI xs n) := by
    unfold famP
    have : r.headD 0 = idOf xs j := by cases r with | nil => simp at h0 | cons a r => simpa using h0
    rw [this, find_self hg hj, Int.toNat_natCast]
  rw [hfp]
  have hpos : 0 < r.length := by cases r with | nil => simp at h0 | cons a r => simp
  obtain ⟨b, off, rfl, hb, hc⟩ := hr.get hpos
  have c0 := hc 0 (by omega)
  have hrj : r[0] = idOf xs j := by cases r with | nil => simp at h0 | cons a r => simpa using h0
  rw [hrj] at c0
  simp only [encI, Nat.zero_mul, Nat.add_zero] at c0
  clear hrj
  have cj := fun (n' : Later W) => lastOf_is _ xs (idOf xs j) j n'.W (hi.below n'.h (Nat.le_refl _)) hg (find_self hg hj) hj
  have cn := fun (n' : Later W) => lastOf_is _ xs (idOf xs n) n n'.W (hi.below n'.h (Nat.le_refl _)) hg (find_self hg hn) hn
  have hel := end_lt hg hj; have hel2 := end_lt hg hn
  have hpos' : (0 : Int) < r.length := by omega
  by_cases he : endI xs j = endI xs n
  · rw [decide_eq_true he]
    rw [he] at cj
    have hrun := fun W => SMaker.eql_same (SMaker.at xs (endI xs n)).ident (SMaker.at xs (endI xs n)).name (SMaker.at xs (endI xs n)).frm (SMaker.at xs (endI xs n)).untl (SMaker.at xs (endI xs n)).heir W
    generalize SMaker.at xs (endI xs n) = me at *
    obtain ⟨z0, z1, z2, z3, z4⟩ := me
    simp only at *
    generalize idOf xs j = ij at *; generalize idOf xs n = iN at *
    have CJ := hide cj; have CN := hide cn; clear cj cn hfp hc h0 he hr
    have m0 := fun n => later_cell hL n; have m1 := fun n => later_cell hM n; have m2 := fun n => later_cell c0 n
    go_enter Try.func77, Try.ntmps77
    go_wp2_with fail
    (refine wp_region_later (by kernel_rfl) (by kernel_rfl) ?_; (repeat (go_big_quiet_step ((first | (go_at_call 78; (with_reducible exact later_call (CJ.out _))) | (go_at_call 78; (with_reducible exact later_call (CN.out _))))))); refine wpQuiet_nil ?_; intro _ hw'; obtain ⟨nq, hw''⟩ := hw'; subst hw'')
    have B3 := nq.h
    generalize nq.W = W5 at B3
    go_wp2_with fail
    go_ret
    exact ⟨rfl, B3⟩
  · rw [decide_eq_false he]
    have hne := good_inj hg hel hel2 he
    have hrun := fun W => SMaker.eql_other (SMaker.at xs (endI xs j)).ident (SMaker.at xs (endI xs j)).name (SMaker.at xs (endI xs j)).frm (SMaker.at xs (endI xs j)).untl (SMaker.at xs (endI xs j)).heir (SMaker.at xs (endI xs n)).ident (SMaker.at xs (endI xs n)).name (SMaker.at xs (endI xs n)).frm (SMaker.at xs (endI xs n)).untl (SMaker.at xs (endI xs n)).heir hne W
    clear hne
    generalize SMaker.at xs (endI xs n) = me at *; generalize SMaker.at xs (endI xs j) = mf at *
    obtain ⟨z0, z1, z2, z3, z4⟩ := me
    obtain ⟨y0, y1, y2, y3, y4⟩ := mf
    simp only at *
    generalize idOf xs j = ij at *; generalize idOf xs n = iN at *
    have CJ := hide cj; have CN := hide cn; clear cj cn hfp hc h0 he hr
    have m0 := fun n => later_cell hL n; have m1 := fun n => later_cell hM n; have m2 := fun n => later_cell c0 n
    go_enter Try.func77, Try.ntmps77
    go_wp2_with fail
    (refine wp_region_later (by kernel_rfl) (by kernel_rfl) ?_; (repeat (go_big_quiet_step ((first | (go_at_call 78; (with_reducible exact later_call (CJ.out _))) | (go_at_call 78; (with_reducible exact later_call (CN.out _))))))); refine wpQuiet_nil ?_; intro _ hw'; obtain ⟨nq, hw''⟩ := hw'; subst hw'')
    have B3 := nq.h
    generalize nq.W = W5 at B3
    go_wp2_with fail
    go_ret
    exact ⟨rfl, B3⟩
end Go.Proofs.Ytapbnggdclpokaa
