/- The drawing of makers from its third loop on: heirs are set, and the list may be turned once. Conditions: a cursor that has stepped less than 2^60 times; at most twelve makers. (Printed by mkmakers2.py.) -/
import Derived.Test.YtapbnggdclpokaaDoorD7A
import Derived.Test.YtapbnggdclpokaaDoorCurD
import Derived.Test.YtapbnggdclpokaaDoorSec
import Derived.Deep.RegionLaw
namespace Go.Proofs.YtapbnggdclpokaaDoor
open Go.RowKit
set_option linter.unusedVariables false
theorem get5 (cs : Array Value) (a m : Nat) (u0 u1 u2 u3 u4 : Value) (hs : a + 4 < cs.size) :
    (((((cs.setIfInBounds a u0).setIfInBounds (a + 1) u1).setIfInBounds (a + 2) u2).setIfInBounds (a + 3) u3).setIfInBounds (a + 4) u4)[m]? = if m = a then some u0 else if m = a + 1 then some u1 else if m = a + 2 then some u2 else if m = a + 3 then some u3 else if m = a + 4 then some u4 else cs[m]? := by
  simp only [Array.getElem?_setIfInBounds, Array.size_setIfInBounds]
  by_cases h4 : a + 4 = m
  · subst h4; rw [if_pos rfl, if_pos hs, if_neg (by omega), if_neg (by omega), if_neg (by omega), if_neg (by omega), if_pos rfl]
  by_cases h3 : a + 3 = m
  · subst h3; rw [if_neg (by omega), if_pos rfl, if_pos (by omega), if_neg (by omega), if_neg (by omega), if_neg (by omega), if_pos rfl]
  by_cases h2 : a + 2 = m
  · subst h2; rw [if_neg (by omega), if_neg (by omega), if_pos rfl, if_pos (by omega), if_neg (by omega), if_neg (by omega), if_pos rfl]
  by_cases h1 : a + 1 = m
  · subst h1; rw [if_neg (by omega), if_neg (by omega), if_neg (by omega), if_pos rfl, if_pos (by omega), if_neg (by omega), if_pos rfl]
  by_cases h0 : a = m
  · subst h0; rw [if_neg (by omega), if_neg (by omega), if_neg (by omega), if_neg (by omega), if_pos rfl, if_pos (by omega), if_pos rfl]
  rw [if_neg h4, if_neg h3, if_neg h2, if_neg h1, if_neg h0, if_neg (by omega), if_neg (by omega), if_neg (by omega), if_neg (by omega), if_neg (by omega)]
theorem filled_set5 {α : Type} {enc : α → Nat → Value} {cs : Array Value} {xs : List α} (h : Filled 5 enc cs xs.length xs) {j a : Nat} (ha : a = j * 5) (hs : a + 4 < cs.size) (x : α) {u0 u1 u2 u3 u4 : Value} (h0 : enc x 0 = u0) (h1 : enc x 1 = u1) (h2 : enc x 2 = u2) (h3 : enc x 3 = u3) (h4 : enc x 4 = u4) :
    Filled 5 enc (((((cs.setIfInBounds a u0).setIfInBounds (a + 1) u1).setIfInBounds (a + 2) u2).setIfInBounds (a + 3) u3).setIfInBounds (a + 4) u4) (xs.set j x).length (xs.set j x) := by
  intro i y hi hy c hc
  rw [List.length_set] at hi
  rw [get5 cs a (i * 5 + c) u0 u1 u2 u3 u4 hs]
  by_cases hij : j = i
  · subst hij
    rw [List.getElem?_set_self hi] at hy
    have hy2 := Option.some.inj hy
    subst hy2
    by_cases c0 : c = 0
    · subst c0; rw [if_pos (by omega), h0]
    by_cases c1 : c = 1
    · subst c1; rw [if_neg (by omega), if_pos (by omega), h1]
    by_cases c2 : c = 2
    · subst c2; rw [if_neg (by omega), if_neg (by omega), if_pos (by omega), h2]
    by_cases c3 : c = 3
    · subst c3; rw [if_neg (by omega), if_neg (by omega), if_neg (by omega), if_pos (by omega), h3]
    have c4 : c = 4 := by omega
    subst c4; rw [if_neg (by omega), if_neg (by omega), if_neg (by omega), if_neg (by omega), if_pos (by omega), h4]
  · rw [List.getElem?_set_ne hij] at hy
    rw [if_neg (by omega), if_neg (by omega), if_neg (by omega), if_neg (by omega), if_neg (by omega)]
    exact h i y hi hy c hc
/-- an element of five cells of an own row is written -/
theorem Own.set5 {α : Type} {enc : α → Nat → Value} {e : TypeId} {w : World} {base g cap n : Nat} {xs : List α} (h : Own 5 enc e w base (.slice (some ⟨g, 0, none⟩) n cap) xs) {j a : Nat} (ha : a = j * 5) (hj : j < xs.length) (x : α) {u0 u1 u2 u3 u4 : Value} (h0 : enc x 0 = u0) (h1 : enc x 1 = u1) (h2 : enc x 2 = u2) (h3 : enc x 3 = u3) (h4 : enc x 4 = u4) :
    Own 5 enc e (((((w.setCell ⟨g, a, none⟩ u0).setCell ⟨g, a + 1, none⟩ u1).setCell ⟨g, a + 2, none⟩ u2).setCell ⟨g, a + 3, none⟩ u3).setCell ⟨g, a + 4, none⟩ u4) base (.slice (some ⟨g, 0, none⟩) n cap) (xs.set j x) := by
  obtain ⟨g', cap', cs, he, a1, a2, a3, a4, a5, a6⟩ := own_blk h (by omega)
  simp only [Value.slice.injEq, Option.some.injEq, Addr.mk.injEq, true_and, and_true] at he
  obtain ⟨rfl, rfl, rfl⟩ := he
  have hsz : a + 4 < cs.size := by rw [a5]; omega
  have hb := ((((a2.set a u0).set (a + 1) u1).set (a + 2) u2).set (a + 3) u3).set (a + 4) u4
  have hf := filled_set5 a6 ha hsz x h0 h1 h2 h3 h4
  have hs : (((((cs.setIfInBounds a u0).setIfInBounds (a + 1) u1).setIfInBounds (a + 2) u2).setIfInBounds (a + 3) u3).setIfInBounds (a + 4) u4).size = cap * 5 := by simp only [Array.size_setIfInBounds]; exact a5
  generalize ((((cs.setIfInBounds a u0).setIfInBounds (a + 1) u1).setIfInBounds (a + 2) u2).setIfInBounds (a + 3) u3).setIfInBounds (a + 4) u4 = cs5 at hb hf hs
  have hl : (xs.set j x).length = xs.length := List.length_set
  refine Or.inr ⟨g, cap, cs5, ?_, a1, hb, ?_, a4, hs, hf⟩
  · rw [hl]
  · rw [hl]; exact a3
theorem own_adrM {α : Type} {kk : Nat} {enc : α → Nat → Value} {e : TypeId} {w : World} {b : Nat} {v : Value} {xs : List α} (h : Own kk enc e w b v xs) (ha : ∃ gx, v.ownBlock = some gx) : ∃ gx c, v = .slice (some ⟨gx, 0, none⟩) xs.length c := by
  rcases h with ⟨rfl, rfl⟩ | ⟨gx, c, cs, rfl, _⟩
  · obtain ⟨gx, hg⟩ := ha; cases hg
  · exact ⟨gx, c, rfl⟩
theorem own_adrM1 {α : Type} {kk : Nat} {enc : α → Nat → Value} {e : TypeId} {w : World} {b : Nat} {v : Value} {xs : List α} (h : Own kk enc e w b v xs) (hp : 0 < xs.length) : ∃ gx, v.ownBlock = some gx := by
  rcases h with ⟨rfl, rfl⟩ | ⟨gx, c, cs, rfl, _⟩
  · simp at hp
  · exact ⟨gx, rfl⟩
theorem own_noM (w : World) {B : Nat} (hB : B ≤ w.heap.size) : Own 5 SMaker.enc 27 (w.alloc (.cells #[] 27)) B (.slice (some ⟨w.heap.size, 0, none⟩) 0 0) ([] : List SMaker) :=
  Own.made (cs := #[]) rfl hB (Blk.new _ _ _) rfl (by simp only [maxLen, List.length_nil]; omega) (by intro j z hj; simp at hj)
theorem fit_snoc {xs : List SMaker} {z : SMaker} (h : ∀ y ∈ xs, y.Fit) (hz : z.Fit) : ∀ y ∈ xs ++ [z], y.Fit := fun y hy => by
  rcases List.mem_append.1 hy with h1 | h1
  · exact h y h1
  · rw [List.mem_singleton.1 h1]; exact hz
theorem fit_set {xs : List SMaker} {z : SMaker} {n : Nat} (h : ∀ y ∈ xs, y.Fit) (hz : z.Fit) : ∀ y ∈ xs.set n z, y.Fit := fun y hy => by
  rcases List.mem_or_eq_of_mem_set hy with h1 | h1
  · exact h y h1
  · rw [h1]; exact hz
theorem fit_turn {z : SMaker} {xs : List SMaker} (h : ∀ y ∈ z :: xs, y.Fit) : ∀ y ∈ xs ++ [z], y.Fit := fun y hy => by
  rcases List.mem_append.1 hy with h1 | h1
  · exact h y (List.mem_cons_of_mem _ h1)
  · rw [List.mem_singleton.1 h1]; exact h z List.mem_cons_self
/-- the cells of a list behind its first element -/
theorem src_drop1 {w : World} {B gx : Nat} {y : SMaker} {ys : List SMaker} (h : Row 5 SMaker.enc w B (some ⟨gx, 0, none⟩) (y :: ys)) : ∀ W, Below B w W → ∀ j u, (flat 5 SMaker.enc ys)[j]? = some u → W.cell? ((⟨gx, 5, none⟩ : Addr).add j) = some u := by
  intro W hW j u hu
  have h1 := src_row (h.below hW (Nat.le_refl _) (Nat.le_refl _)) (by omega : 0 < 5) (5 + j) u (by
    rw [show flat 5 SMaker.enc (y :: ys) = flat 5 SMaker.enc [y] ++ flat 5 SMaker.enc ys by rw [← flat_append]; rfl, List.getElem?_append_right (by rw [flat_length]; simp), flat_length]
    simpa using hu)
  rw [Addr.add_lit] at h1 ⊢
  simpa using h1
theorem src_blk1 {w : World} {b : Nat} {t : TypeId} {y : SMaker} (h : Blk w b t #[.int .i64 y.ident, .string y.name, .int .i64 y.frm, .int .i64 y.untl, .int .i64 y.heir]) : ∀ j u, (flat 5 SMaker.enc [y])[j]? = some u → w.cell? ((⟨b, 0, none⟩ : Addr).add j) = some u := by
  intro j u hu
  rw [Addr.add_lit, Nat.zero_add, h.cell j, ← hu, flat_one]
  have hj : j < 5 := by
    have := (List.getElem?_eq_some_iff.1 hu).1
    rw [flat_length] at this; simpa using this
  have : j = 0 ∨ j = 1 ∨ j = 2 ∨ j = 3 ∨ j = 4 := by omega
  rcases this with rfl | rfl | rfl | rfl | rfl <;> rfl
noncomputable def tail_makers : Go.Code := (Tryd.f33.body.bind (codeTail 14)).getD .skip
set_option maxRecDepth 1000000 in
set_option maxHeartbeats 8000000 in
theorem makers_rest (w0 w : World) (base g k : Nat) (A : Option Addr) (cap : Nat) (code : List Int) (hD0 : DS w0 base g A cap code k w) (hk : k + 4000 < 2305843009213693952) (gx cx : Nat) (xs : List SMaker) (hfit : ∀ z ∈ xs, z.Fit) (hxl : xs.length ≤ 12) (wc : World)
    (ho : Own 5 SMaker.enc 27 wc w.heap.size (.slice (some ⟨gx, 0, none⟩) xs.length cx) xs) (hD : DS w base g A cap code (k + 1000) wc) (u1 u2 u4 u5 u6 u7 u8 u9 u10 u11 u12 u13 u14 u15 u16 u17 u18 u19 u20 u21 u22 u23 u24 u25 u26 u27 u28 u29 u30 u31 u32 u33 u34 u35 u36 u37 u38 u39 u40 u41 u42 u43 u44 u45 u46 u47 u48 u49 u50 u51 u52 u53 u54 u55 u56 u57 u58 u59 u60 u61 u62 u63 u64 u65 u66 u67 u68 u69 u70 u71 u72 u73 u74 u75 u76 u77 u78 u79 u80 u81 u82 u83 u84 u85 u86 u87 u88 u89 u90 u91 u92 u93 u94 u95 u96 u97 u98 u99 u100 u101 u102 u103 u104 u105 u106 u107 u108 u109 u110 u111 u112 u113 u114 u115 u116 u117 : Value) :
    Go.Code.wp Tryd.prog tail_makers (bodyPost Tryd.prog Tryd.f33 fun e w' => ∃ (v : Value) (xs : List SMaker), e = .returned v ∧ (∀ z ∈ xs, z.Fit) ∧ xs.length ≤ 12 ∧ Own 5 SMaker.enc 27 w' w.heap.size v xs ∧ DS w0 base g A cap code (k + 4000) w' ∧ w.grownBy w' (some g)) ⟨#[.pointer (some ⟨g, 0, none⟩), u1, u2, .slice (some ⟨gx, 0, none⟩) xs.length cx, u4, u5, u6, u7, u8, u9, u10, u11, u12, u13, u14, u15, u16, u17, u18, u19, u20, u21, u22, u23, u24, u25, u26, u27, u28, u29, u30, u31, u32, u33, u34, u35, u36, u37, u38, u39, u40, u41, u42, u43, u44, u45, u46, u47, u48, u49, u50, u51, u52, u53, u54, u55, u56, u57, u58, u59, u60, u61, u62, u63, u64, u65, u66, u67, u68, u69, u70, u71, u72, u73, u74, u75, u76, u77, u78, u79, u80, u81, u82, u83, u84, u85, u86, u87, u88, u89, u90, u91, u92, u93, u94, u95, u96, u97, u98, u99, u100, u101, u102, u103, u104, u105, u106, u107, u108, u109, u110, u111, u112, u113, u114, u115, u116, u117], []⟩ wc := by
  have hgw := hD0.lt
  have HD0 := hide hD0; have HO := hide ho; have HD := hide hD; have HFIT := hide hfit; clear ho hD hfit hD0
  conv => arg 2; whnf
  generalize wc = w50 at *
  go_wp2_with fail
  go_loopw [7] (fun i wr => ∃ (n : Nat) (ys : List SMaker), i = .int .i64 (n : Int) ∧ n ≤ xs.length ∧ ys.length = xs.length ∧ (∀ z ∈ ys, z.Fit) ∧ Own 5 SMaker.enc 27 wr w.heap.size (.slice (some ⟨gx, 0, none⟩) xs.length cx) ys ∧ DS w base g A cap code (k + 1000 + 20 * n) wr) (fun i _ => xs.length - (intOf i).toNat)
  case atStart => exact ⟨0, xs, rfl, by omega, rfl, HFIT.out, HO.out, HD.out.le (by omega)⟩
  case round =>
    clear HO HD HFIT
    obtain ⟨n, ys, rfl, hn, hyl, hfit, ho, hD⟩ := hrel
    generalize wr = w60 at *
    have HYL := hide hyl
    have HO := hide ho; have HD := hide hD; have HFIT := hide hfit; clear ho hD hfit
    by_cases hlt : n < xs.length
    · have hlt' : (n : Int) < xs.length := by omega
      have hny : n < ys.length := by omega
      have hfy := HFIT.out ys[n] (List.getElem_mem hny)
      clear hyl
      obtain ⟨A8, c8, he8, hr8, _, _⟩ := HO.out.is
      simp only [Value.slice.injEq] at he8
      obtain ⟨he9, he10, he11⟩ := he8
      clear he10 he11
      subst he9
      obtain ⟨b8, off8, hA8, _, e0, e1, e2, e3, e4⟩ := SMaker.cells hr8 (i := n) (by have := HYL.out; omega) (Below.refl _ _)
      simp only [Option.some.injEq, Addr.mk.injEq, and_true] at hA8
      obtain ⟨hA9, hA10⟩ := hA8
      subst hA9 hA10
      simp only [Nat.zero_add] at e0 e1 e2 e3 e4
      clear hr8
      generalize hyn : ys[n] = yn at *
      obtain ⟨y0, y1, y2, y3, y4⟩ := yn
      simp only at e0 e1 e2 e3 e4
      have HYN := hide hyn; have HFY := hide hfy; clear hyn hfy
      have HT := hide (Blk.new w60 27 #[.int .i64 y0, .string y1, .int .i64 y2, .int .i64 y3, .int .i64 y4])
      have hlO := (HO.out.lt gx rfl).2
      have hwbt : w.heap.size ≤ w60.heap.size := HD.out.gr.size
      go_upto_region 18 with fail
      clear e0 e1 e2 e3 e4
      replace HO := hide (HO.out.alloc (.cells #[.int .i64 y0, .string y1, .int .i64 y2, .int .i64 y3, .int .i64 y4] 27))
      replace HD := hide (HD.out.alloc (.cells #[.int .i64 y0, .string y1, .int .i64 y2, .int .i64 y3, .int .i64 y4] 27))
      generalize w60.alloc (.cells #[.int .i64 y0, .string y1, .int .i64 y2, .int .i64 y3, .int .i64 y4] 27) = w61 at *
      generalize hbt : w60.heap.size = bt at *
      have hgt : gx ≠ bt := by omega
      go_wp2_with fail
      refine (pickD (xs.length : Int) HD.out (by omega)).mono ?_; rintro e w62 ⟨x62, rfl, p62, q62, hD, hg⟩
      replace HO := hide (HD.out.own HO.out hg (by decide))
      replace HT := hide (HD.out.blk HT.out hg (by decide))
      replace HD := hide hD; clear hD hg
      obtain ⟨q, rfl⟩ : ∃ q : Nat, x62 = (q : Int) := ⟨x62.toNat, by omega⟩
      have hq : q < xs.length := by omega
      have hq' : (q : Int) < xs.length := by omega
      have hqy : q < ys.length := by have := HYL.out; omega
      have hfq := HFIT.out ys[q] (List.getElem_mem hqy)
      obtain ⟨A8, c8, he8, hr8, _, _⟩ := HO.out.is
      simp only [Value.slice.injEq] at he8
      obtain ⟨he9, he10, he11⟩ := he8
      clear he10 he11
      subst he9
      obtain ⟨b8, off8, hA8, _, f0, f1, f2, f3, f4⟩ := SMaker.cells hr8 (i := q) (by have := HYL.out; omega) (Below.refl _ _)
      simp only [Option.some.injEq, Addr.mk.injEq, and_true] at hA8
      obtain ⟨hA9, hA10⟩ := hA8
      subst hA9 hA10
      simp only [Nat.zero_add] at f0 f1 f2 f3 f4
      clear hr8
      generalize hyq : ys[q] = yq at *
      obtain ⟨z0, z1, z2, z3, z4⟩ := yq
      simp only at f0 f1 f2 f3 f4
      have HFQ := hide hfq; have HYQ := hide hyq; clear hfq hyq
      obtain ⟨t0, t1, t2, t3, t4⟩ := mk5 HT.out
      have tf := fun o => HT.out.frozen o
      have hdr := (Below.refl w62.heap.size w62).drew
      have HDd := hide (HD.out.below hdr); have HOd := hide (HO.out.below hdr); have HTd := hide (HT.out.below hdr HT.out.lt)
      clear hdr
      go_upto_region 19 with fail
      by_cases hc1 : y3 < z2
      · have hc1b : decide (y3 < z2) = true := by simpa using hc1
        by_cases hc2 : y4 = 0
        · have hc2b : (y4 == 0) = true := by simpa using hc2
          obtain ⟨x4, hx4⟩ := oneDD 4 (by omega) (by omega) HDd.out (by omega)
          have HX4 := hide hx4; clear hx4
          cases x4 with
          | false =>
            go_wp2_with fail
            go_still_tail 15, (by kernel_rfl)
            change wpList _ _ _ _ _ w62.drew
            generalize w62.drew = w63 at *
            go_upto_if 90 with (go_at_call 34; refine (HX4.out).mono ?_; rintro e w70 ⟨rfl, hD, hg⟩; have HO70 := hide (HDd.out.own HOd.out hg (by decide)); have HT70 := hide (HDd.out.blk HTd.out hg (by decide)); have HD70 := hide hD; clear hD hg)
            go_cut [] from 91 to 96 (fun wx => ∃ hh : Int, (-100000 ≤ hh ∧ hh ≤ 100000) ∧ Blk wx bt 27 #[.int .i64 y0, .string y1, .int .i64 y2, .int .i64 y3, .int .i64 hh] ∧ Own 5 SMaker.enc 27 wx w.heap.size (.slice (some ⟨gx, 0, none⟩) xs.length cx) ys ∧ DS w base g A cap code (k + 1000 + 20 * n + 8) wx)
            case first =>
              obtain ⟨A8, c8, he8, hr8, _, _⟩ := HO70.out.is
              simp only [Value.slice.injEq] at he8
              obtain ⟨he9, he10, he11⟩ := he8
              clear he10 he11
              subst he9
              obtain ⟨b8, off8, hA8, _, f0, f1, f2, f3, f4⟩ := SMaker.cells hr8 (i := q) (by have := HYL.out; omega) (Below.refl _ _)
              simp only [Option.some.injEq, Addr.mk.injEq, and_true] at hA8
              obtain ⟨hA9, hA10⟩ := hA8
              subst hA9 hA10
              simp only [Nat.zero_add] at f0 f1 f2 f3 f4
              clear hr8
              rw [HYQ.out] at f0
              simp only at f0
              obtain ⟨t0, t1, t2, t3, t4⟩ := mk5 HT70.out
              have tf := fun o => HT70.out.frozen o
              go_wp2_with fail
              go_meet
              exact ⟨z0, HFQ.out.1, HT70.out.set 4 (.int .i64 z0), HO70.out.setCell (p := ⟨bt, 4, none⟩) (fun g' hg' => by have e1 : gx = g' := Option.some.inj hg'; simp only; omega) _, (HD70.out.set (b := bt) (by omega) hgw 4 _).le (by omega)⟩
            case rest =>
              obtain ⟨hh, hhb, hT, ho, hD⟩ := hcut
              generalize wc = w80 at *
              have HT8 := hide hT; have HO8 := hide ho; have HD8 := hide hD; clear hT ho hD
              obtain ⟨A8, c8, he8, hr8, _, _⟩ := HO8.out.is
              simp only [Value.slice.injEq] at he8
              obtain ⟨he9, he10, he11⟩ := he8
              clear he10 he11
              subst he9
              obtain ⟨b8, off8, hA8, _, e0, e1, e2, e3, e4⟩ := SMaker.cells hr8 (i := n) (by have := HYL.out; omega) (Below.refl _ _)
              simp only [Option.some.injEq, Addr.mk.injEq, and_true] at hA8
              obtain ⟨hA9, hA10⟩ := hA8
              subst hA9 hA10
              simp only [Nat.zero_add] at e0 e1 e2 e3 e4
              clear hr8
              rw [HYN.out] at e0 e1 e2 e3 e4
              simp only at e0 e1 e2 e3 e4
              obtain ⟨t0, t1, t2, t3, t4⟩ := mk5 HT8.out
              have qf : ∀ o, w80.frozen? ⟨gx, o, none⟩ = false := by
                obtain ⟨g9, c9, cs9, he, _, hb9, _⟩ := own_blk HO8.out (by omega)
                simp only [Value.slice.injEq, Option.some.injEq, Addr.mk.injEq, and_true] at he
                obtain ⟨rfl, _⟩ := he
                exact fun o => hb9.frozen o
              have hset := HO8.out.set5 (a := n * 5) rfl hny (⟨y0, y1, y2, y3, hh⟩ : SMaker) rfl rfl rfl rfl rfl
              have HSET := hide hset; clear hset
              have hgl := (HO8.out.lt gx rfl).1
              go_wp2_with fail
              go_roundw
              case measure => (first | (simp [intOf]; done) | (simp [intOf] <;> omega))
              case rel => exact ⟨n + 1, ys.set n ⟨y0, y1, y2, y3, hh⟩, by go_num, by omega, by rw [List.length_set]; exact HYL.out, fit_set HFIT.out (by have := HFY.out; exact ⟨this.1, this.2.1, this.2.2.1, hhb, this.2.2.2.2⟩), HSET.out, (((((HD8.out.set (b := gx) hgl hgw _ _).set (b := gx) hgl hgw _ _).set (b := gx) hgl hgw _ _).set (b := gx) hgl hgw _ _).set (b := gx) hgl hgw _ _).le (by omega)⟩
          | true =>
            go_wp2_with fail
            go_still_tail 15, (by kernel_rfl)
            change wpList _ _ _ _ _ w62.drew
            generalize w62.drew = w63 at *
            go_upto_if 90 with (first | (go_at_call 34; refine (HX4.out).mono ?_; rintro e w69 ⟨rfl, hD, hg⟩; have HO69 := hide (HDd.out.own HOd.out hg (by decide)); have HT69 := hide (HDd.out.blk HTd.out hg (by decide)); have HD69 := hide hD; clear hD hg) | (go_at_call 34; refine (oneD 100 HD69.out (by omega)).mono ?_; rintro e w70 ⟨x70, rfl, hD, hg⟩; have HO70 := hide (HD69.out.own HO69.out hg (by decide)); have HT70 := hide (HD69.out.blk HT69.out hg (by decide)); have HD70 := hide hD; clear hD hg))
            go_cut [] from 91 to 96 (fun wx => ∃ hh : Int, (-100000 ≤ hh ∧ hh ≤ 100000) ∧ Blk wx bt 27 #[.int .i64 y0, .string y1, .int .i64 y2, .int .i64 y3, .int .i64 hh] ∧ Own 5 SMaker.enc 27 wx w.heap.size (.slice (some ⟨gx, 0, none⟩) xs.length cx) ys ∧ DS w base g A cap code (k + 1000 + 20 * n + 8) wx)
            case first =>
              cases x70 with
              | false =>
                go_wp2_with fail
                go_meet
                exact ⟨y4, HFY.out.2.2.2.1, HT70.out, HO70.out, HD70.out.le (by omega)⟩
              | true =>
                obtain ⟨A8, c8, he8, hr8, _, _⟩ := HO70.out.is
                simp only [Value.slice.injEq] at he8
                obtain ⟨he9, he10, he11⟩ := he8
                clear he10 he11
                subst he9
                obtain ⟨b8, off8, hA8, _, f0, f1, f2, f3, f4⟩ := SMaker.cells hr8 (i := q) (by have := HYL.out; omega) (Below.refl _ _)
                simp only [Option.some.injEq, Addr.mk.injEq, and_true] at hA8
                obtain ⟨hA9, hA10⟩ := hA8
                subst hA9 hA10
                simp only [Nat.zero_add] at f0 f1 f2 f3 f4
                clear hr8
                rw [HYQ.out] at f0
                simp only at f0
                obtain ⟨t0, t1, t2, t3, t4⟩ := mk5 HT70.out
                have tf := fun o => HT70.out.frozen o
                go_wp2_with fail
                go_meet
                exact ⟨z0, HFQ.out.1, HT70.out.set 4 (.int .i64 z0), HO70.out.setCell (p := ⟨bt, 4, none⟩) (fun g' hg' => by have e1 : gx = g' := Option.some.inj hg'; simp only; omega) _, (HD70.out.set (b := bt) (by omega) hgw 4 _).le (by omega)⟩
            case rest =>
              obtain ⟨hh, hhb, hT, ho, hD⟩ := hcut
              generalize wc = w80 at *
              have HT8 := hide hT; have HO8 := hide ho; have HD8 := hide hD; clear hT ho hD
              obtain ⟨A8, c8, he8, hr8, _, _⟩ := HO8.out.is
              simp only [Value.slice.injEq] at he8
              obtain ⟨he9, he10, he11⟩ := he8
              clear he10 he11
              subst he9
              obtain ⟨b8, off8, hA8, _, e0, e1, e2, e3, e4⟩ := SMaker.cells hr8 (i := n) (by have := HYL.out; omega) (Below.refl _ _)
              simp only [Option.some.injEq, Addr.mk.injEq, and_true] at hA8
              obtain ⟨hA9, hA10⟩ := hA8
              subst hA9 hA10
              simp only [Nat.zero_add] at e0 e1 e2 e3 e4
              clear hr8
              rw [HYN.out] at e0 e1 e2 e3 e4
              simp only at e0 e1 e2 e3 e4
              obtain ⟨t0, t1, t2, t3, t4⟩ := mk5 HT8.out
              have qf : ∀ o, w80.frozen? ⟨gx, o, none⟩ = false := by
                obtain ⟨g9, c9, cs9, he, _, hb9, _⟩ := own_blk HO8.out (by omega)
                simp only [Value.slice.injEq, Option.some.injEq, Addr.mk.injEq, and_true] at he
                obtain ⟨rfl, _⟩ := he
                exact fun o => hb9.frozen o
              have hset := HO8.out.set5 (a := n * 5) rfl hny (⟨y0, y1, y2, y3, hh⟩ : SMaker) rfl rfl rfl rfl rfl
              have HSET := hide hset; clear hset
              have hgl := (HO8.out.lt gx rfl).1
              go_wp2_with fail
              go_roundw
              case measure => (first | (simp [intOf]; done) | (simp [intOf] <;> omega))
              case rel => exact ⟨n + 1, ys.set n ⟨y0, y1, y2, y3, hh⟩, by go_num, by omega, by rw [List.length_set]; exact HYL.out, fit_set HFIT.out (by have := HFY.out; exact ⟨this.1, this.2.1, this.2.2.1, hhb, this.2.2.2.2⟩), HSET.out, (((((HD8.out.set (b := gx) hgl hgw _ _).set (b := gx) hgl hgw _ _).set (b := gx) hgl hgw _ _).set (b := gx) hgl hgw _ _).set (b := gx) hgl hgw _ _).le (by omega)⟩
        · have hc2b : (y4 == 0) = false := by simpa using hc2
          go_wp2_with fail
          go_still_tail 15, (by kernel_rfl)
          change wpList _ _ _ _ _ w62.drew
          generalize w62.drew = w63 at *
          go_upto_if 90 with (go_at_call 34; refine (oneD 100 HDd.out (by omega)).mono ?_; rintro e w70 ⟨x70, rfl, hD, hg⟩; have HO70 := hide (HDd.out.own HOd.out hg (by decide)); have HT70 := hide (HDd.out.blk HTd.out hg (by decide)); have HD70 := hide hD; clear hD hg)
          go_cut [] from 91 to 96 (fun wx => ∃ hh : Int, (-100000 ≤ hh ∧ hh ≤ 100000) ∧ Blk wx bt 27 #[.int .i64 y0, .string y1, .int .i64 y2, .int .i64 y3, .int .i64 hh] ∧ Own 5 SMaker.enc 27 wx w.heap.size (.slice (some ⟨gx, 0, none⟩) xs.length cx) ys ∧ DS w base g A cap code (k + 1000 + 20 * n + 8) wx)
          case first =>
            cases x70 with
            | false =>
              go_wp2_with fail
              go_meet
              exact ⟨y4, HFY.out.2.2.2.1, HT70.out, HO70.out, HD70.out.le (by omega)⟩
            | true =>
              obtain ⟨A8, c8, he8, hr8, _, _⟩ := HO70.out.is
              simp only [Value.slice.injEq] at he8
              obtain ⟨he9, he10, he11⟩ := he8
              clear he10 he11
              subst he9
              obtain ⟨b8, off8, hA8, _, f0, f1, f2, f3, f4⟩ := SMaker.cells hr8 (i := q) (by have := HYL.out; omega) (Below.refl _ _)
              simp only [Option.some.injEq, Addr.mk.injEq, and_true] at hA8
              obtain ⟨hA9, hA10⟩ := hA8
              subst hA9 hA10
              simp only [Nat.zero_add] at f0 f1 f2 f3 f4
              clear hr8
              rw [HYQ.out] at f0
              simp only at f0
              obtain ⟨t0, t1, t2, t3, t4⟩ := mk5 HT70.out
              have tf := fun o => HT70.out.frozen o
              go_wp2_with fail
              go_meet
              exact ⟨z0, HFQ.out.1, HT70.out.set 4 (.int .i64 z0), HO70.out.setCell (p := ⟨bt, 4, none⟩) (fun g' hg' => by have e1 : gx = g' := Option.some.inj hg'; simp only; omega) _, (HD70.out.set (b := bt) (by omega) hgw 4 _).le (by omega)⟩
          case rest =>
            obtain ⟨hh, hhb, hT, ho, hD⟩ := hcut
            generalize wc = w80 at *
            have HT8 := hide hT; have HO8 := hide ho; have HD8 := hide hD; clear hT ho hD
            obtain ⟨A8, c8, he8, hr8, _, _⟩ := HO8.out.is
            simp only [Value.slice.injEq] at he8
            obtain ⟨he9, he10, he11⟩ := he8
            clear he10 he11
            subst he9
            obtain ⟨b8, off8, hA8, _, e0, e1, e2, e3, e4⟩ := SMaker.cells hr8 (i := n) (by have := HYL.out; omega) (Below.refl _ _)
            simp only [Option.some.injEq, Addr.mk.injEq, and_true] at hA8
            obtain ⟨hA9, hA10⟩ := hA8
            subst hA9 hA10
            simp only [Nat.zero_add] at e0 e1 e2 e3 e4
            clear hr8
            rw [HYN.out] at e0 e1 e2 e3 e4
            simp only at e0 e1 e2 e3 e4
            obtain ⟨t0, t1, t2, t3, t4⟩ := mk5 HT8.out
            have qf : ∀ o, w80.frozen? ⟨gx, o, none⟩ = false := by
              obtain ⟨g9, c9, cs9, he, _, hb9, _⟩ := own_blk HO8.out (by omega)
              simp only [Value.slice.injEq, Option.some.injEq, Addr.mk.injEq, and_true] at he
              obtain ⟨rfl, _⟩ := he
              exact fun o => hb9.frozen o
            have hset := HO8.out.set5 (a := n * 5) rfl hny (⟨y0, y1, y2, y3, hh⟩ : SMaker) rfl rfl rfl rfl rfl
            have HSET := hide hset; clear hset
            have hgl := (HO8.out.lt gx rfl).1
            go_wp2_with fail
            go_roundw
            case measure => (first | (simp [intOf]; done) | (simp [intOf] <;> omega))
            case rel => exact ⟨n + 1, ys.set n ⟨y0, y1, y2, y3, hh⟩, by go_num, by omega, by rw [List.length_set]; exact HYL.out, fit_set HFIT.out (by have := HFY.out; exact ⟨this.1, this.2.1, this.2.2.1, hhb, this.2.2.2.2⟩), HSET.out, (((((HD8.out.set (b := gx) hgl hgw _ _).set (b := gx) hgl hgw _ _).set (b := gx) hgl hgw _ _).set (b := gx) hgl hgw _ _).set (b := gx) hgl hgw _ _).le (by omega)⟩
      · have hc1b : decide (y3 < z2) = false := by simpa using hc1
        go_wp2_with fail
        go_still_tail 15, (by kernel_rfl)
        change wpList _ _ _ _ _ w62.drew
        generalize w62.drew = w63 at *
        go_upto_if 90 with (go_at_call 34; refine (oneD 100 HDd.out (by omega)).mono ?_; rintro e w70 ⟨x70, rfl, hD, hg⟩; have HO70 := hide (HDd.out.own HOd.out hg (by decide)); have HT70 := hide (HDd.out.blk HTd.out hg (by decide)); have HD70 := hide hD; clear hD hg)
        go_cut [] from 91 to 96 (fun wx => ∃ hh : Int, (-100000 ≤ hh ∧ hh ≤ 100000) ∧ Blk wx bt 27 #[.int .i64 y0, .string y1, .int .i64 y2, .int .i64 y3, .int .i64 hh] ∧ Own 5 SMaker.enc 27 wx w.heap.size (.slice (some ⟨gx, 0, none⟩) xs.length cx) ys ∧ DS w base g A cap code (k + 1000 + 20 * n + 8) wx)
        case first =>
          cases x70 with
          | false =>
            go_wp2_with fail
            go_meet
            exact ⟨y4, HFY.out.2.2.2.1, HT70.out, HO70.out, HD70.out.le (by omega)⟩
          | true =>
            obtain ⟨A8, c8, he8, hr8, _, _⟩ := HO70.out.is
            simp only [Value.slice.injEq] at he8
            obtain ⟨he9, he10, he11⟩ := he8
            clear he10 he11
            subst he9
            obtain ⟨b8, off8, hA8, _, f0, f1, f2, f3, f4⟩ := SMaker.cells hr8 (i := q) (by have := HYL.out; omega) (Below.refl _ _)
            simp only [Option.some.injEq, Addr.mk.injEq, and_true] at hA8
            obtain ⟨hA9, hA10⟩ := hA8
            subst hA9 hA10
            simp only [Nat.zero_add] at f0 f1 f2 f3 f4
            clear hr8
            rw [HYQ.out] at f0
            simp only at f0
            obtain ⟨t0, t1, t2, t3, t4⟩ := mk5 HT70.out
            have tf := fun o => HT70.out.frozen o
            go_wp2_with fail
            go_meet
            exact ⟨z0, HFQ.out.1, HT70.out.set 4 (.int .i64 z0), HO70.out.setCell (p := ⟨bt, 4, none⟩) (fun g' hg' => by have e1 : gx = g' := Option.some.inj hg'; simp only; omega) _, (HD70.out.set (b := bt) (by omega) hgw 4 _).le (by omega)⟩
        case rest =>
          obtain ⟨hh, hhb, hT, ho, hD⟩ := hcut
          generalize wc = w80 at *
          have HT8 := hide hT; have HO8 := hide ho; have HD8 := hide hD; clear hT ho hD
          obtain ⟨A8, c8, he8, hr8, _, _⟩ := HO8.out.is
          simp only [Value.slice.injEq] at he8
          obtain ⟨he9, he10, he11⟩ := he8
          clear he10 he11
          subst he9
          obtain ⟨b8, off8, hA8, _, e0, e1, e2, e3, e4⟩ := SMaker.cells hr8 (i := n) (by have := HYL.out; omega) (Below.refl _ _)
          simp only [Option.some.injEq, Addr.mk.injEq, and_true] at hA8
          obtain ⟨hA9, hA10⟩ := hA8
          subst hA9 hA10
          simp only [Nat.zero_add] at e0 e1 e2 e3 e4
          clear hr8
          rw [HYN.out] at e0 e1 e2 e3 e4
          simp only at e0 e1 e2 e3 e4
          obtain ⟨t0, t1, t2, t3, t4⟩ := mk5 HT8.out
          have qf : ∀ o, w80.frozen? ⟨gx, o, none⟩ = false := by
            obtain ⟨g9, c9, cs9, he, _, hb9, _⟩ := own_blk HO8.out (by omega)
            simp only [Value.slice.injEq, Option.some.injEq, Addr.mk.injEq, and_true] at he
            obtain ⟨rfl, _⟩ := he
            exact fun o => hb9.frozen o
          have hset := HO8.out.set5 (a := n * 5) rfl hny (⟨y0, y1, y2, y3, hh⟩ : SMaker) rfl rfl rfl rfl rfl
          have HSET := hide hset; clear hset
          have hgl := (HO8.out.lt gx rfl).1
          go_wp2_with fail
          go_roundw
          case measure => (first | (simp [intOf]; done) | (simp [intOf] <;> omega))
          case rel => exact ⟨n + 1, ys.set n ⟨y0, y1, y2, y3, hh⟩, by go_num, by omega, by rw [List.length_set]; exact HYL.out, fit_set HFIT.out (by have := HFY.out; exact ⟨this.1, this.2.1, this.2.2.1, hhb, this.2.2.2.2⟩), HSET.out, (((((HD8.out.set (b := gx) hgl hgw _ _).set (b := gx) hgl hgw _ _).set (b := gx) hgl hgw _ _).set (b := gx) hgl hgw _ _).set (b := gx) hgl hgw _ _).le (by omega)⟩
    · have hnl : n = xs.length := by omega
      clear hlt
      go_wp2_with fail
      refine (oneD 60 HD.out (by omega)).mono ?_; rintro e w61 ⟨x61, rfl, hD, hg⟩
      replace HO := hide (HD.out.own HO.out hg (by decide))
      replace HD := hide hD; clear hD hg
      cases x61 with
      | false =>
        go_wp2_with fail
        go_ret
        exact ⟨_, ys, rfl, HFIT.out, by have := HYL.out; omega, HO.out, ⟨(HD.out.le (by omega)).cur, grownTrans HD0.out.gr HD.out.gr, HD0.out.hb⟩, HD.out.gr⟩
      | true =>
        by_cases hl1 : (1 : Int) < (xs.length : Int)
        · obtain ⟨yy, tt, hyt⟩ : ∃ yy tt, ys = yy :: tt := by cases hh : ys with | nil => (have := HYL.out; rw [hh] at this; simp at this; omega) | cons a l => exact ⟨a, l, rfl⟩
          subst hyt
          have hxt : xs.length = tt.length + 1 := by have := HYL.out; simp at this; omega
          have hsp : 0 < tt.length := by omega
          have htl : tt.length ≤ 11 := by omega
          rw [hxt] at HO ⊢
          clear hyl HYL hnl hxt
          obtain ⟨a0, a1, a2, a3, a4⟩ := yy
          have hrow0 := HO.out.is
          obtain ⟨A8, c8, he8, hr8, _, _⟩ := hrow0
          simp only [Value.slice.injEq] at he8
          obtain ⟨he9, he10, he11⟩ := he8
          clear he10 he11
          subst he9
          obtain ⟨b8, off8, hA8, hgs, f0, f1, f2, f3, f4⟩ := SMaker.cells hr8 (i := 0) (by simp) (Below.refl _ _)
          simp only [Option.some.injEq, Addr.mk.injEq, and_true] at hA8
          obtain ⟨hA9, hA10⟩ := hA8
          subst hA9 hA10
          simp only [List.getElem_cons_zero, Nat.zero_mul, Nat.zero_add] at f0 f1 f2 f3 f4
          have hcap : tt.length + 1 ≤ cx := by obtain ⟨g9, c9, cs9, he, _, _, h9, _⟩ := own_blk HO.out (by simp); simp only [Value.slice.injEq] at he; have := he.2.2; simp at h9; omega
          have hsz : w.heap.size ≤ w61.heap.size := HD.out.gr.size
          have HR8 := hide (src_drop1 hr8)
          clear hr8
          go_wp2_with fail
          have hb1 : Below w61.heap.size w61 (w61.drew.alloc (.cells #[] 27)) := ((Below.refl w61.heap.size w61).drew).alloc (Nat.le_refl _) _
          have HE1 := hide (show Own 5 SMaker.enc 27 (w61.drew.alloc (.cells #[] 27)) w61.heap.size (.slice (some ⟨w61.heap.size, 0, none⟩) 0 0) ([] : List SMaker) from own_noM w61.drew (Nat.le_refl w61.drew.heap.size))
          have HS1 := hide (fun j u hj => HR8.out (w61.drew.alloc (.cells #[] 27)) hb1 j u hj)
          have HO1 := hide (HO.out.below hb1); have HD1 := hide (HD.out.below hb1)
          have hz1 : (w61.drew.alloc (.cells #[] 27)).heap.size = w61.heap.size + 1 := by simp
          have g10 := (hb1.cell (p := ⟨gx, 0, none⟩) hgs).trans f0
          have g11 := (hb1.cell (p := ⟨gx, 1, none⟩) hgs).trans f1
          have g12 := (hb1.cell (p := ⟨gx, 2, none⟩) hgs).trans f2
          have g13 := (hb1.cell (p := ⟨gx, 3, none⟩) hgs).trans f3
          have g14 := (hb1.cell (p := ⟨gx, 4, none⟩) hgs).trans f4
          have hb2 : Below w61.heap.size w61 ((w61.drew.alloc (.cells #[] 27)).alloc (.cells #[.int .i64 a0, .string a1, .int .i64 a2, .int .i64 a3, .int .i64 a4] 27)) := (((Below.refl w61.heap.size w61).drew).alloc (Nat.le_refl _) _).alloc (by simp) _
          have HE2 := hide (show Own 5 SMaker.enc 27 ((w61.drew.alloc (.cells #[] 27)).alloc (.cells #[.int .i64 a0, .string a1, .int .i64 a2, .int .i64 a3, .int .i64 a4] 27)) w61.heap.size (.slice (some ⟨w61.heap.size, 0, none⟩) 0 0) ([] : List SMaker) from (own_noM w61.drew (Nat.le_refl w61.drew.heap.size)).alloc (.cells #[.int .i64 a0, .string a1, .int .i64 a2, .int .i64 a3, .int .i64 a4] 27))
          have HS2 := hide (fun j u hj => HR8.out ((w61.drew.alloc (.cells #[] 27)).alloc (.cells #[.int .i64 a0, .string a1, .int .i64 a2, .int .i64 a3, .int .i64 a4] 27)) hb2 j u hj)
          have HO2 := hide (HO.out.below hb2); have HD2 := hide (HD.out.below hb2)
          have hz2 : ((w61.drew.alloc (.cells #[] 27)).alloc (.cells #[.int .i64 a0, .string a1, .int .i64 a2, .int .i64 a3, .int .i64 a4] 27)).heap.size = w61.heap.size + 2 := by simp
          have g20 := (hb2.cell (p := ⟨gx, 0, none⟩) hgs).trans f0
          have g21 := (hb2.cell (p := ⟨gx, 1, none⟩) hgs).trans f1
          have g22 := (hb2.cell (p := ⟨gx, 2, none⟩) hgs).trans f2
          have g23 := (hb2.cell (p := ⟨gx, 3, none⟩) hgs).trans f3
          have g24 := (hb2.cell (p := ⟨gx, 4, none⟩) hgs).trans f4
          have hb3 : Below w61.heap.size w61 ((w61.drew.alloc (.cells #[.int .i64 a0, .string a1, .int .i64 a2, .int .i64 a3, .int .i64 a4] 27)).alloc (.cells #[] 27)) := (((Below.refl w61.heap.size w61).drew).alloc (Nat.le_refl _) _).alloc (by simp) _
          have HE3 := hide (show Own 5 SMaker.enc 27 ((w61.drew.alloc (.cells #[.int .i64 a0, .string a1, .int .i64 a2, .int .i64 a3, .int .i64 a4] 27)).alloc (.cells #[] 27)) w61.heap.size (.slice (some ⟨(w61.heap.size + 1), 0, none⟩) 0 0) ([] : List SMaker) from by simpa using own_noM (w61.drew.alloc (.cells #[.int .i64 a0, .string a1, .int .i64 a2, .int .i64 a3, .int .i64 a4] 27)) (show w61.heap.size ≤ (w61.drew.alloc (.cells #[.int .i64 a0, .string a1, .int .i64 a2, .int .i64 a3, .int .i64 a4] 27)).heap.size by simp))
          have HS3 := hide (fun j u hj => HR8.out ((w61.drew.alloc (.cells #[.int .i64 a0, .string a1, .int .i64 a2, .int .i64 a3, .int .i64 a4] 27)).alloc (.cells #[] 27)) hb3 j u hj)
          have HO3 := hide (HO.out.below hb3); have HD3 := hide (HD.out.below hb3)
          have hz3 : ((w61.drew.alloc (.cells #[.int .i64 a0, .string a1, .int .i64 a2, .int .i64 a3, .int .i64 a4] 27)).alloc (.cells #[] 27)).heap.size = w61.heap.size + 2 := by simp
          have g30 := (hb3.cell (p := ⟨gx, 0, none⟩) hgs).trans f0
          have g31 := (hb3.cell (p := ⟨gx, 1, none⟩) hgs).trans f1
          have g32 := (hb3.cell (p := ⟨gx, 2, none⟩) hgs).trans f2
          have g33 := (hb3.cell (p := ⟨gx, 3, none⟩) hgs).trans f3
          have g34 := (hb3.cell (p := ⟨gx, 4, none⟩) hgs).trans f4
          have HY2 := hide (show Blk ((w61.drew.alloc (.cells #[] 27)).alloc (.cells #[.int .i64 a0, .string a1, .int .i64 a2, .int .i64 a3, .int .i64 a4] 27)) (w61.heap.size + 1) 27 #[.int .i64 a0, .string a1, .int .i64 a2, .int .i64 a3, .int .i64 a4] from by simpa using Blk.new (w61.drew.alloc (.cells #[] 27)) 27 #[.int .i64 a0, .string a1, .int .i64 a2, .int .i64 a3, .int .i64 a4])
          have HY3 := hide (show Blk ((w61.drew.alloc (.cells #[.int .i64 a0, .string a1, .int .i64 a2, .int .i64 a3, .int .i64 a4] 27)).alloc (.cells #[] 27)) w61.heap.size 27 #[.int .i64 a0, .string a1, .int .i64 a2, .int .i64 a3, .int .i64 a4] from (Blk.new w61.drew 27 #[.int .i64 a0, .string a1, .int .i64 a2, .int .i64 a3, .int .i64 a4]).alloc (.cells #[] 27))
          have hx1 : (1 : Int) ≤ (tt.length : Int) + 1 := by omega
          have hx2 : ¬ cx = 1 := by omega
          go_region_law (first | (refine step_push (k := 5) (enc := SMaker.enc) rfl (.tmp 108) (.tmp 110) 32 rfl 27 (.agg #[.int .i64 0, .string ⟨#[]⟩, .int .i64 0, .int .i64 0, .int .i64 0]) 48 Tryd.underlying32 SMaker.info rfl (by omega) SMaker.one w61.heap.size _ ([] : List SMaker) (by first | (simp [Act.eval, Act.put]; done) | (simp [Act.eval, Act.put]; rfl)) HE1.out ⟨gx, 5, none⟩ (cx - 1) tt (by simp [Act.eval, Act.put]) HS1.out (by simp; omega) (by simp; omega) (by first | omega | (simp <;> omega)) ?_; intro v1 W1 ho1 hg1 hnb; rw [List.nil_append] at ho1; obtain ⟨g1, c1, cs1, rfl, hg1b, _, _, _, _, _⟩ := own_blk ho1 hsp; have hs1 := hg1.size; simp at hs1; have HQ1 := hide ho1; have HP1 := hide (HO1.out.grown hg1 (fun g9 h9 e9 => by have e1 : gx = g9 := Option.some.inj h9; have e2 : w61.heap.size = g9 := Option.some.inj e9; omega)); have HDQ1 := hide (HD1.out.grown hg1 (fun b9 e9 => by have e2 : w61.heap.size = b9 := Option.some.inj e9; omega)); have k0 := hg1.cell (a := ⟨gx, 0, none⟩) g10 (fun e9 => by have e2 : gx = w61.heap.size := Option.some.inj e9; omega); have k1 := hg1.cell (a := ⟨gx, 1, none⟩) g11 (fun e9 => by have e2 : gx = w61.heap.size := Option.some.inj e9; omega); have k2 := hg1.cell (a := ⟨gx, 2, none⟩) g12 (fun e9 => by have e2 : gx = w61.heap.size := Option.some.inj e9; omega); have k3 := hg1.cell (a := ⟨gx, 3, none⟩) g13 (fun e9 => by have e2 : gx = w61.heap.size := Option.some.inj e9; omega); have k4 := hg1.cell (a := ⟨gx, 4, none⟩) g14 (fun e9 => by have e2 : gx = w61.heap.size := Option.some.inj e9; omega); clear ho1 hg1 hnb) | (refine step_push (k := 5) (enc := SMaker.enc) rfl (.tmp 108) (.tmp 110) 32 rfl 27 (.agg #[.int .i64 0, .string ⟨#[]⟩, .int .i64 0, .int .i64 0, .int .i64 0]) 48 Tryd.underlying32 SMaker.info rfl (by omega) SMaker.one w61.heap.size _ ([] : List SMaker) (by first | (simp [Act.eval, Act.put]; done) | (simp [Act.eval, Act.put]; rfl)) HE2.out ⟨gx, 5, none⟩ (cx - 1) tt (by simp [Act.eval, Act.put]) HS2.out (by simp; omega) (by simp; omega) (by first | omega | (simp <;> omega)) ?_; intro v1 W1 ho1 hg1 hnb; rw [List.nil_append] at ho1; obtain ⟨g1, c1, cs1, rfl, hg1b, _, _, _, _, _⟩ := own_blk ho1 hsp; have hs1 := hg1.size; simp at hs1; have HQ2 := hide ho1; have HP2 := hide (HO2.out.grown hg1 (fun g9 h9 e9 => by have e1 : gx = g9 := Option.some.inj h9; have e2 : w61.heap.size = g9 := Option.some.inj e9; omega)); have HDQ2 := hide (HD2.out.grown hg1 (fun b9 e9 => by have e2 : w61.heap.size = b9 := Option.some.inj e9; omega)); have k0 := hg1.cell (a := ⟨gx, 0, none⟩) g20 (fun e9 => by have e2 : gx = w61.heap.size := Option.some.inj e9; omega); have k1 := hg1.cell (a := ⟨gx, 1, none⟩) g21 (fun e9 => by have e2 : gx = w61.heap.size := Option.some.inj e9; omega); have k2 := hg1.cell (a := ⟨gx, 2, none⟩) g22 (fun e9 => by have e2 : gx = w61.heap.size := Option.some.inj e9; omega); have k3 := hg1.cell (a := ⟨gx, 3, none⟩) g23 (fun e9 => by have e2 : gx = w61.heap.size := Option.some.inj e9; omega); have k4 := hg1.cell (a := ⟨gx, 4, none⟩) g24 (fun e9 => by have e2 : gx = w61.heap.size := Option.some.inj e9; omega); have HYY2 := hide ((hg1.block (w61.heap.size + 1) (by simp <;> omega) (fun e9 => by have e2 : w61.heap.size + 1 = w61.heap.size := Option.some.inj e9; omega)).trans HY2.out); clear ho1 hg1 hnb) | (refine step_push (k := 5) (enc := SMaker.enc) rfl (.tmp 108) (.tmp 110) 32 rfl 27 (.agg #[.int .i64 0, .string ⟨#[]⟩, .int .i64 0, .int .i64 0, .int .i64 0]) 48 Tryd.underlying32 SMaker.info rfl (by omega) SMaker.one w61.heap.size _ ([] : List SMaker) (by first | (simp [Act.eval, Act.put]; done) | (simp [Act.eval, Act.put]; rfl)) HE3.out ⟨gx, 5, none⟩ (cx - 1) tt (by simp [Act.eval, Act.put]) HS3.out (by simp; omega) (by simp; omega) (by first | omega | (simp <;> omega)) ?_; intro v1 W1 ho1 hg1 hnb; rw [List.nil_append] at ho1; obtain ⟨g1, c1, cs1, rfl, hg1b, _, _, _, _, _⟩ := own_blk ho1 hsp; have hs1 := hg1.size; simp at hs1; have HQ3 := hide ho1; have HP3 := hide (HO3.out.grown hg1 (fun g9 h9 e9 => by have e1 : gx = g9 := Option.some.inj h9; have e2 : (w61.heap.size + 1) = g9 := Option.some.inj e9; omega)); have HDQ3 := hide (HD3.out.grown hg1 (fun b9 e9 => by have e2 : (w61.heap.size + 1) = b9 := Option.some.inj e9; omega)); have k0 := hg1.cell (a := ⟨gx, 0, none⟩) g30 (fun e9 => by have e2 : gx = (w61.heap.size + 1) := Option.some.inj e9; omega); have k1 := hg1.cell (a := ⟨gx, 1, none⟩) g31 (fun e9 => by have e2 : gx = (w61.heap.size + 1) := Option.some.inj e9; omega); have k2 := hg1.cell (a := ⟨gx, 2, none⟩) g32 (fun e9 => by have e2 : gx = (w61.heap.size + 1) := Option.some.inj e9; omega); have k3 := hg1.cell (a := ⟨gx, 3, none⟩) g33 (fun e9 => by have e2 : gx = (w61.heap.size + 1) := Option.some.inj e9; omega); have k4 := hg1.cell (a := ⟨gx, 4, none⟩) g34 (fun e9 => by have e2 : gx = (w61.heap.size + 1) := Option.some.inj e9; omega); have HYY3 := hide ((hg1.block w61.heap.size (by simp <;> omega) (fun e9 => by have e2 : w61.heap.size = (w61.heap.size + 1) := Option.some.inj e9; omega)).trans HY3.out); clear ho1 hg1 hnb) | (have HQA := hide (HQ1.out.alloc (.cells #[.int .i64 a0, .string a1, .int .i64 a2, .int .i64 a3, .int .i64 a4] 27)); refine step_push (k := 5) (enc := SMaker.enc) rfl (.tmp 111) (.tmp 115) 32 rfl 27 (.agg #[.int .i64 0, .string ⟨#[]⟩, .int .i64 0, .int .i64 0, .int .i64 0]) 48 Tryd.underlying32 SMaker.info rfl (by omega) SMaker.one w61.heap.size _ tt (by first | (simp [Act.eval, Act.put]; done) | (simp [Act.eval, Act.put]; rfl)) HQA.out ⟨W1.heap.size, 0, none⟩ 1 [(⟨a0, a1, a2, a3, a4⟩ : SMaker)] (by simp [Act.eval, Act.put]) (src_new W1 rfl) (by simp; omega) (by simp; omega) (by first | omega | (simp <;> omega)) ?_; intro v2 W2 ho2 hg2 hnb2; have HOZ := hide (ho2.mono hsz); have HDZ := hide ((HDQ1.out.alloc (.cells #[.int .i64 a0, .string a1, .int .i64 a2, .int .i64 a3, .int .i64 a4] 27)).grown hg2 (fun b9 e9 => by have e2 : g1 = b9 := Option.some.inj e9; omega)); clear ho2 hg2 hnb2) | (refine step_push (k := 5) (enc := SMaker.enc) rfl (.tmp 111) (.tmp 115) 32 rfl 27 (.agg #[.int .i64 0, .string ⟨#[]⟩, .int .i64 0, .int .i64 0, .int .i64 0]) 48 Tryd.underlying32 SMaker.info rfl (by omega) SMaker.one w61.heap.size _ tt (by first | (simp [Act.eval, Act.put]; done) | (simp [Act.eval, Act.put]; rfl)) HQ2.out ⟨w61.heap.size + 1, 0, none⟩ 1 [(⟨a0, a1, a2, a3, a4⟩ : SMaker)] (by simp [Act.eval, Act.put]) (src_blk1 HYY2.out) (by simp; omega) (by simp; omega) (by first | omega | (simp <;> omega)) ?_; intro v2 W2 ho2 hg2 hnb2; have HOZ := hide (ho2.mono hsz); have HDZ := hide (HDQ2.out.grown hg2 (fun b9 e9 => by have e2 : g1 = b9 := Option.some.inj e9; omega)); clear ho2 hg2 hnb2) | (refine step_push (k := 5) (enc := SMaker.enc) rfl (.tmp 111) (.tmp 115) 32 rfl 27 (.agg #[.int .i64 0, .string ⟨#[]⟩, .int .i64 0, .int .i64 0, .int .i64 0]) 48 Tryd.underlying32 SMaker.info rfl (by omega) SMaker.one w61.heap.size _ tt (by first | (simp [Act.eval, Act.put]; done) | (simp [Act.eval, Act.put]; rfl)) HQ3.out ⟨w61.heap.size, 0, none⟩ 1 [(⟨a0, a1, a2, a3, a4⟩ : SMaker)] (by simp [Act.eval, Act.put]) (src_blk1 HYY3.out) (by simp; omega) (by simp; omega) (by first | omega | (simp <;> omega)) ?_; intro v2 W2 ho2 hg2 hnb2; have HOZ := hide (ho2.mono hsz); have HDZ := hide (HDQ3.out.grown hg2 (fun b9 e9 => by have e2 : g1 = b9 := Option.some.inj e9; omega)); clear ho2 hg2 hnb2))
          all_goals
            go_wp2_with fail
            go_ret
            exact ⟨v2, tt ++ [⟨a0, a1, a2, a3, a4⟩], rfl, fit_turn HFIT.out, by have := hxl; simp; omega, HOZ.out, ⟨(HDZ.out.le (by omega)).cur, grownTrans HD0.out.gr HDZ.out.gr, HD0.out.hb⟩, HDZ.out.gr⟩
        · go_wp2_with fail
          go_ret
          exact ⟨_, ys, rfl, HFIT.out, by have := HYL.out; omega, HO.out, ⟨(HD.out.le (by omega)).cur, grownTrans HD0.out.gr HD.out.gr, HD0.out.hb⟩, HD.out.gr⟩
end Go.Proofs.YtapbnggdclpokaaDoor
