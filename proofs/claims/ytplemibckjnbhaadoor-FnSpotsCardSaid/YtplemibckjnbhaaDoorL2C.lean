/- Contracts of idsOf (over a predicate) and of NeighborsOf, in impl and spec: the Lean function nbV. Condition: small numbers. -/
import Derived.Test.YtplemibckjnbhaaDoorL2B
import Derived.Test.YtplemibckjnbhaaDoorStPush
namespace Go.Proofs.YtplemibckjnbhaaDoor
open Go.RowKit
set_option linter.unusedVariables false
/-- the predicate g with the captured values cp answers p at each of xs, in whatever world in which what lay below B stays -/
def PredIn (g : FuncId) (cp : Array Value) (p : SSheet → Bool) (xs : List SSheet) (B : Nat) (w : World) : Prop :=
  ∀ (W : World) (c : SSheet), c ∈ xs → Below B w W → Calls Tryd.prog g (#[.agg #[.int .i64 c.id, .int .i64 c.row, .int .i64 c.col, .int .i64 c.scale, .int .i64 c.year]] ++ cp) W fun e w' => e = .returned (.bool (p c)) ∧ Below W.heap.size W w'
theorem mk5S {w : World} {g : Nat} {t : TypeId} {a b c d e : Value} (h : Blk w g t #[a, b, c, d, e]) : w.cell? ⟨g, 0, none⟩ = some a ∧ w.cell? ⟨g, 1, none⟩ = some b ∧ w.cell? ⟨g, 2, none⟩ = some c ∧ w.cell? ⟨g, 3, none⟩ = some d ∧ w.cell? ⟨g, 4, none⟩ = some e :=
  ⟨by rw [h.cell]; rfl, by rw [h.cell]; rfl, by rw [h.cell]; rfl, by rw [h.cell]; rfl, by rw [h.cell]; rfl⟩
set_option maxHeartbeats 2000000 in
theorem idsOf_is (g : FuncId) (cp : Array Value) (p : SSheet → Bool) (v : Value) (xs : List SSheet) (w : World) (h : Is 5 SSheet.enc w v xs) (hl : xs.length ≤ 1000)
    (eg : ∀ args w, (callFunc g args).run Tryd.prog w = .ok (.enter g args) w) (hp : PredIn g cp p xs w.heap.size w) :
    Calls Tryd.prog 70 #[v, .func (.func g) #[] cp] w fun e w' => ∃ r, e = .returned r ∧ Own 1 encI 3 w' w.heap.size r (filtTo p xs xs.length) ∧ Below w.heap.size w w' := by
  obtain ⟨A, cap, rfl, hr, _, _⟩ := h
  generalize hB : w.heap.size = B at hr hp ⊢
  have HB := hide hB; have HR := hide hr; have HP := hide hp; clear hr hp
  go_enter Tryd.func70, Tryd.ntmps70
  go_wp2_with fail
  go_loopw [5, 10] (fun s i wr => ∃ n : Nat, n ≤ xs.length ∧ i = .int .i64 (n : Int) ∧ Own 1 encI 3 wr B s (filtTo p xs n) ∧ Below B w wr) (fun _ i _ => xs.length - (intOf i).toNat)
  case atStart => exact ⟨0, Nat.zero_le _, rfl, Own.nil, Below.refl _ _⟩
  case round =>
    obtain ⟨n, hn, rfl, hown, hbel⟩ := hrel
    have HOW := hide hown; clear hown
    have hsz : B ≤ wr.heap.size := by have := hbel.size; rw [HB.out] at this; exact this
    by_cases hlt : n < xs.length
    · have hlt' : (n : Int) < xs.length := by omega
      obtain ⟨b, off, rfl, hb, c0, c1, c2, c3, c4⟩ := SSheet.cells HR.out hlt hbel
      have hst := filtTo_succ (p := p) hlt
      have hdl : (filtTo p xs n).length ≤ 16777216 := by have := filtTo_le p xs n; omega
      have hmem := List.getElem_mem hlt
      generalize xs[n] = yy at *
      have HBK := hide (Blk.new wr 88 #[.int .i64 yy.id, .int .i64 yy.row, .int .i64 yy.col, .int .i64 yy.scale, .int .i64 yy.year])
      have HO1 := hide (HOW.out.below (below_alloc wr (.cells #[.int .i64 yy.id, .int .i64 yy.row, .int .i64 yy.col, .int .i64 yy.scale, .int .i64 yy.year] 88)))
      have BB := hide (hbel.alloc hsz (.cells #[.int .i64 yy.id, .int .i64 yy.row, .int .i64 yy.col, .int .i64 yy.scale, .int .i64 yy.year] 88))
      have hsa : wr.heap.size < (wr.alloc (.cells #[.int .i64 yy.id, .int .i64 yy.row, .int .i64 yy.col, .int .i64 yy.scale, .int .i64 yy.year] 88)).heap.size := by simp
      have HCALL := hide (HP.out (wr.alloc (.cells #[.int .i64 yy.id, .int .i64 yy.row, .int .i64 yy.col, .int .i64 yy.scale, .int .i64 yy.year] 88)) yy hmem BB.out)
      generalize p yy = rb at *
      have HST := hide hst
      clear hst HOW hbel hmem
      go_upto_region 5 with fail
      clear c0 c1 c2 c3 c4
      generalize wr.alloc (.cells #[.int .i64 yy.id, .int .i64 yy.row, .int .i64 yy.col, .int .i64 yy.scale, .int .i64 yy.year] 88) = w3 at *
      generalize wr.heap.size = gm at *
      obtain ⟨t0, t1, t2, t3, t4⟩ := mk5S HBK.out
      go_upto_if 16 with (go_at_fn g; refine HCALL.out.mono ?_; rintro e w4 ⟨rfl, hb4⟩)
      have hs3 : B ≤ w3.heap.size := by omega
      have HBK4 := hide (HBK.out.below hb4 hsa)
      have HO4 := hide (HO1.out.below hb4)
      have B4 := bstep BB.out hb4 hs3
      have hs4 : B ≤ w4.heap.size := Nat.le_trans hs3 hb4.size
      clear t0 t1 t2 t3 t4 hb4
      obtain ⟨t0, _, _, _, _⟩ := mk5S HBK4.out
      cases rb with
      | false =>
        go_wp2_with fail
        go_round
        case measure => (simp [intOf] <;> omega)
        case rel => exact ⟨n + 1, by omega, by go_num, by rw [HST.out]; simpa using HO4.out, B4⟩
      | true =>
        go_wp2_with ((at_builtin; refine wpList_push1 (k := 1) (enc := encI) _ rfl _ _ 47 rfl 3 (.int .i64 0) 8 Tryd.underlying47 infoI rfl (by omega) (by omega) encI_one (B) _ (filtTo p xs n) rfl (HO4.out) (yy.id) _ rfl rfl (hdl) (hs4) (B4) (Nat.le_refl _) rfl ?_; intro v1 w1 ho1 hb1 hg1))
        go_round
        case measure => (simp [intOf] <;> omega)
        case rel => exact ⟨n + 1, by omega, by go_num, by rw [HST.out]; exact ho1, hb1⟩
    · have hnn : n = xs.length := by omega
      have HNN := hide hnn; clear hnn
      go_wp2_with fail
      go_ret
      exact ⟨_, rfl, by rw [← HNN.out]; exact HOW.out, hbel⟩
theorem nbV_no {xs : List SSheet} {id : Int} (h : ¬ (goodS xs = true ∧ 0 ≤ findS xs id)) : nbV xs id = ([], false) := if_neg h
theorem nbV_yes {xs : List SSheet} {id : Int} (h1 : goodS xs = true) {k : Nat} (hk : findS xs id = (k : Int)) : nbV xs id = (filtTo (fun c => nbB c (SSheet.at xs k)) xs xs.length, true) := by
  unfold nbV; rw [if_pos ⟨h1, by omega⟩, hk, Int.toNat_natCast]
end Go.Proofs.YtplemibckjnbhaaDoor
