/- The drawing of reliefs over a cursor: rows of the call's own. Condition: a cursor that has stepped less than 2^60 times. (Printed by mkrelief.py.) -/
import Derived.Test.YtomcdkkjknphpaaDr
import Derived.Test.YtomcdkkjknphpaaL9V
import Derived.Deep.RegionWith
namespace Go.Proofs.Ytomcdkkjknphpaa
open Go.RowKit
set_option linter.unusedVariables false
section
variable {w w' : World} {lo hi g : Nat} {v v' : Value} {rs : List SRow}
theorem OwnG.cur (h : OwnG w lo hi v rs) (hg : w.grownBy w' (some g)) (hl : g < lo) : OwnG w' lo hi v rs :=
  h.within (lo' := g) (hi' := g + 1) (Within.of_grown hg fun g' e => by injection e with e; omega) (.inr hl)
/-- another row of the call's own, behind the grid, has grown -/
theorem OwnG.other {xs : List Int} (h : OwnG w lo hi v rs) (ho : Own 1 encI 3 w hi v' xs) (hg : w.grownBy w' v'.ownBlock) : OwnG w' lo hi v rs :=
  h.within (lo' := hi) (hi' := w'.heap.size) (Within.of_grown hg fun g' e => by
    have := ho.lt g' e
    have := hg.size
    omega) (.inl (Nat.le_refl _))
theorem OwnG.empty (w : World) {B : Nat} (hB : B ≤ w.heap.size) : OwnG (w.alloc (.cells #[] 35)) B (w.heap.size + 1) (.slice (some ⟨w.heap.size, 0, none⟩) 0 0) [] := by
  obtain ⟨rs, hm, h⟩ := own_emptyG w hB
  have : rs = [] := List.map_eq_nil_iff.1 hm
  subst this
  exact h
/-- a row that lies behind the grid is appended -/
theorem OwnG.push3 {w2 : World} (h : OwnG w2 lo hi v rs) (hlh : lo ≤ hi) (hhi : hi ≤ w2.heap.size) {r : SRow} (hr : Own 1 encI 3 w2 hi r.v r.xs) (hg : w2.grownBy w' v.ownBlock) (hsp : Own 1 SRow.enc 35 w' lo v' (rs ++ [r])) : OwnG w' lo w'.heap.size v' (rs ++ [r]) := by
  have hold : ∀ (i : Nat) (s : SRow), rs[i]? = some s → Own 1 encI 3 w' lo s.v s.xs := fun i s hs => (h.rows i s hs).grown hg fun g h1 h2 => h.rowSpine i s hs g h1 h2
  have hnew : Own 1 encI 3 w' hi r.v r.xs := hr.grown hg fun g h1 h2 => own_ne hr h.spine (by decide) g h1 h2
  exact h.push hold hsp (hnew.mono hlh) (Nat.le_trans hhi hg.size) (fun g hg' => (hsp.lt g hg').2) (fun i s hs g hg' => own_ne (hold i s hs) hsp (by decide) g hg') (fun g hg' => ⟨(hnew.lt g hg').2, (hnew.lt g hg').1, own_ne hnew hsp (by decide) g hg'⟩)
end
theorem OwnG.rowAt {w : World} {lo hi : Nat} {v : Value} {rs : List SRow} {C i : Nat} (h : OwnG w lo hi v rs) (hrc : ∀ r ∈ rs, r.xs.length = C) (hC : 0 < C) (hi' : i < rs.length) :
    ∃ gs cap gr cr, v = .slice (some ⟨gs, 0, none⟩) rs.length cap ∧ rs[i].v = .slice (some ⟨gr, 0, none⟩) C cr ∧ lo ≤ gr := by
  have hl := hrc _ (List.getElem_mem hi')
  obtain ⟨gs, cap, gr, cr, hv, hr, h1, _⟩ := h.cells (i := i) (j := 0) hi' (by omega)
  exact ⟨gs, cap, gr, cr, hv, by rw [hr, hl], h1⟩
theorem OwnG.corner {w : World} {lo hi gs n cap gr cr C i : Nat} {rs : List SRow} (h : OwnG w lo hi (.slice (some ⟨gs, 0, none⟩) n cap) rs) (hC : 0 < C) (hi' : i < rs.length) (hr : rs[i].v = .slice (some ⟨gr, 0, none⟩) C cr) :
    ∃ y, w.cell? ⟨gs, i, none⟩ = some (.slice (some ⟨gr, 0, none⟩) C cr) ∧ w.cell? ⟨gr, 0, none⟩ = some (.int .i64 y) ∧ (∀ o, w.frozen? ⟨gr, o, none⟩ = false) := by
  have hl : rs[i].xs.length = C := by unfold SRow.v at hr; injection hr
  obtain ⟨gs', cap', gr', cr', hv, hr', _, _, _, c1, c2, hf⟩ := h.cells (i := i) (j := 0) hi' (by omega)
  rw [hl] at c1 hr'
  have e1 := hr.symm.trans hr'
  injection hv with a1; injection a1 with a1; injection a1 with a1; subst a1
  injection e1 with b1 _ b3; injection b1 with b1; injection b1 with b1; subst b1 b3
  exact ⟨_, c1, c2, hf⟩
theorem pickRow {w0 w : World} {base g lo hi gs cap C k : Nat} {A : Option Addr} {cap9 : Nat} {code : List Int} {rs : List SRow} (hG : OwnG w lo hi (.slice (some ⟨gs, 0, none⟩) rs.length cap) rs) (hrc : ∀ r ∈ rs, r.xs.length = C) (hC : 0 < C) (hp : 0 < rs.length) (hD : DS w0 base g A cap9 code k w) (hk : k + 2 < 2305843009213693952) (hl : g < lo) :
    Calls Try.prog 93 #[.pointer (some ⟨g, 0, none⟩), .int .i64 (rs.length : Int)] w fun e w' => ∃ i : Nat, e = .returned (.int .i64 (i : Int)) ∧ ∃ (hi' : i < rs.length) (gr cr : Nat), rs[i].v = .slice (some ⟨gr, 0, none⟩) C cr ∧ lo ≤ gr ∧ OwnG w' lo hi (.slice (some ⟨gs, 0, none⟩) rs.length cap) rs ∧ DS w0 base g A cap9 code (k + 2) w' ∧ w.grownBy w' (some g) := by
  refine (pickD _ hD hk).mono ?_
  rintro e w' ⟨x, rfl, p, q, hD', hg⟩
  obtain ⟨i, rfl⟩ : ∃ i : Nat, x = (i : Int) := ⟨x.toNat, by omega⟩
  have hi' : i < rs.length := by omega
  have hG' := hG.cur hg hl
  obtain ⟨_, _, gr, cr, _, h1, h2⟩ := hG'.rowAt hrc hC hi'
  exact ⟨i, rfl, hi', gr, cr, h1, h2, hG', hD', hg⟩
theorem OwnG.two (w : World) : OwnG (((w.alloc (.cells #[] 3)).alloc (.cells #[] 3)).alloc (.cells #[.slice (some ⟨w.heap.size, 0, none⟩) 0 0, .slice (some ⟨w.heap.size + 1, 0, none⟩) 0 0] 35)) w.heap.size (w.heap.size + 3) (.slice (some ⟨w.heap.size + 2, 0, none⟩) 2 2) [⟨[], some ⟨w.heap.size, 0, none⟩, 0⟩, ⟨[], some ⟨w.heap.size + 1, 0, none⟩, 0⟩] := by
  have h1 := own_emptyI9 w (Nat.le_refl _)
  have s1 : (w.alloc (.cells #[] 3)).heap.size = w.heap.size + 1 := by simp
  generalize w.alloc (.cells #[] 3) = w1 at *
  have h2 := own_emptyI9 w1 (B := w.heap.size) (by omega)
  have s2 : (w1.alloc (.cells #[] 3)).heap.size = w.heap.size + 2 := by simp [s1]
  rw [s1] at h2
  replace h1 := h1.alloc (.cells #[] 3)
  generalize w1.alloc (.cells #[] 3) = w2 at *
  have h3 : Own 1 SRow.enc 35 (w2.alloc (.cells #[.slice (some ⟨w.heap.size, 0, none⟩) 0 0, .slice (some ⟨w.heap.size + 1, 0, none⟩) 0 0] 35)) w.heap.size (.slice (some ⟨w2.heap.size, 0, none⟩) 2 2) ([⟨[], some ⟨w.heap.size, 0, none⟩, 0⟩, ⟨[], some ⟨w.heap.size + 1, 0, none⟩, 0⟩] : List SRow) :=
    Own.made (n := 2) rfl (by omega) (Blk.new w2 _ _) rfl (by simp [maxLen]) (by
      intro j z hj hz k hk
      obtain rfl : k = 0 := by omega
      match j, hz with
      | 0, hz => injection hz with hz; subst hz; rfl
      | 1, hz => injection hz with hz; subst hz; rfl)
  rw [s2] at h3
  replace h1 := h1.alloc (.cells #[.slice (some ⟨w.heap.size, 0, none⟩) 0 0, .slice (some ⟨w.heap.size + 1, 0, none⟩) 0 0] 35)
  replace h2 := h2.alloc (.cells #[.slice (some ⟨w.heap.size, 0, none⟩) 0 0, .slice (some ⟨w.heap.size + 1, 0, none⟩) 0 0] 35)
  refine ⟨h3, fun g hg => ?_, fun i r hr => ?_, fun i r hr g hg => ?_, fun i r hr g hg => ?_, fun i j r s hr hs hij g hg => ?_⟩
  · simp [SRow.v, Value.ownBlock] at hg; omega
  · match i, hr with
    | 0, hr => injection hr with hr; subst hr; exact h1
    | 1, hr => injection hr with hr; subst hr; exact h2
  · match i, hr with
    | 0, hr => injection hr with hr; subst hr; simp [SRow.v, Value.ownBlock] at hg; omega
    | 1, hr => injection hr with hr; subst hr; simp [SRow.v, Value.ownBlock] at hg; omega
  · intro h4
    match i, hr with
    | 0, hr => injection hr with hr; subst hr; simp [SRow.v, Value.ownBlock] at hg h4; omega
    | 1, hr => injection hr with hr; subst hr; simp [SRow.v, Value.ownBlock] at hg h4; omega
  · intro h4
    match i, j, hr, hs, hij with
    | 0, 0, _, _, hij => exact hij rfl
    | 1, 1, _, _, hij => exact hij rfl
    | 0, 1, hr, hs, _ => injection hr with hr; injection hs with hs; subst hr hs; simp [SRow.v, Value.ownBlock] at hg h4; omega
    | 1, 0, hr, hs, _ => injection hr with hr; injection hs with hs; subst hr hs; simp [SRow.v, Value.ownBlock] at hg h4; omega
theorem l1Own_is (A : Option Addr) (cap : Nat) (xs : List Int) (w : World) (hr : Row 1 encI w w.heap.size A xs) (h0 : 1 ≤ xs.length) (h1 : xs.length ≤ 1048576) :
    Calls Try.prog 95 #[.slice A xs.length cap] w fun e w' => ∃ r, e = .returned r ∧ Own 1 encI 3 w' w.heap.size r xs ∧ Below w.heap.size w w' := by
  obtain ⟨b, off, rfl, hb, _⟩ := hr.get (show 0 < xs.length by omega)
  have HR := hide hr; clear hr
  go_enter Try.func95, Try.ntmps95
  have HO := hide (own_emptyI9 w (Nat.le_refl w.heap.size))
  have B1 := below_alloc w (.cells #[] 3)
  go_wp2_with (at_builtin; refine wpList_push (k := 1) (enc := encI) _ rfl _ _ 35 rfl 3 (.int .i64 0) 8 Try.underlying35 infoI rfl (by omega) encI_one w.heap.size _ [] rfl HO.out ⟨b, off, none⟩ cap xs rfl (src_row9 (HR.out.below B1 (Nat.le_refl _) B1.size) (by omega)) (by simp; omega) (by simp; omega) B1.size ?_; intro v1 w1 ho1 hg1 _; have hb1 := HO.out.belowGrown B1 hg1 (Nat.le_refl _) B1.size; rw [List.nil_append] at ho1; have HO1 := hide ho1; clear ho1 hg1)
  go_ret
  exact ⟨_, rfl, HO1.out, hb1⟩
set_option maxRecDepth 100000 in
set_option maxHeartbeats 8000000 in
theorem relief_is (w0 w : World) (base g k : Nat) (A : Option Addr) (cap : Nat) (code : List Int) (hD : DS w0 base g A cap code k w) (hk : k + 5000 < 2305843009213693952) :
    Calls Try.prog 81 #[.pointer (some ⟨g, 0, none⟩)] w fun e w' => ∃ v : Value, e = .returned v ∧ ∃ rs : List SRow, rs.length ≤ 20 ∧ OwnG w' w.heap.size w'.heap.size v rs ∧ DS w0 base g A cap code (k + 5000) w' ∧ w.grownBy w' (some g) := by
  have hgw := hD.lt
  have HD0 := hide hD
  have HD := hide (DS.start hD.cur hD.sz); clear hD
  go_enter Try.func81, Try.ntmps81
  go_wp2_with fail
  refine (pickD 5 HD.out (by omega)).mono ?_; rintro e w1 ⟨x1, rfl, p1, q1, hD, hg⟩
  replace HD := hide hD; clear hD hg
  go_wp2_with fail
  refine (pickD 5 HD.out (by omega)).mono ?_; rintro e w2 ⟨x2, rfl, p2, q2, hD, hg⟩
  replace HD := hide hD; clear hD hg
  obtain ⟨nR, rfl⟩ : ∃ q : Nat, x1 = (q : Int) := ⟨x1.toNat, by omega⟩
  obtain ⟨nC, rfl⟩ : ∃ q : Nat, x2 = (q : Int) := ⟨x2.toNat, by omega⟩
  have hnR : nR ≤ 4 := by omega
  have hnC : nC ≤ 4 := by omega
  skip
  have hs3 : (w2.alloc (.cells #[] 35)).heap.size = w2.heap.size + 1 := by simp
  have hog := OwnG.empty w2 HD.out.gr.size
  have hd3 := HD.out.alloc (.cells #[] 35)
  replace HD := hide hd3; clear hd3
  go_wp2_with fail
  generalize w2.heap.size = s2 at *
  generalize w2.alloc (.cells #[] 35) = w3 at *
  rw [← hs3] at hog
  have HG := hide hog; clear hog hs3
  obtain ⟨R, hR⟩ : ∃ R : Nat, (1 : Int) + (nR : Int) = (R : Int) := ⟨nR + 1, by omega⟩
  obtain ⟨C, hC⟩ : ∃ C : Nat, (1 : Int) + (nC : Int) = (C : Int) := ⟨nC + 1, by omega⟩
  rw [hR, hC]
  have hR5 : 1 ≤ R ∧ R ≤ 5 := by omega
  have hC5 : 1 ≤ C ∧ C ≤ 5 := by omega
  clear hR hC hnR hnC
  go_wp2_with fail
  go_loopw [5, 6] (fun s i wr => ∃ n : Nat, i = .int .i64 (n : Int) ∧ n ≤ R ∧ ∃ rs : List SRow, rs.length = n ∧ (∀ r ∈ rs, r.xs.length = C) ∧ OwnG wr w.heap.size wr.heap.size s rs ∧ DS w base g A cap code (k + 10 + 200 * n) wr) (fun _ i _ => R - (intOf i).toNat)
  case atStart => exact ⟨0, rfl, Nat.zero_le _, [], rfl, by simp, HG.out, HD.out.le (by omega)⟩
  case round =>
    clear HG HD
    obtain ⟨n, rfl, hn, rs, hrl, hrc, hog, hD⟩ := hrel
    generalize wr = w10 at *
    have HG := hide hog; have HD := hide hD; have HRC := hide hrc; clear hog hD hrc
    by_cases hlt : n < R
    case neg =>
      have hlt1 : ¬ (n : Int) < (R : Int) := by omega
      replace HD := hide (HD.out.le (by omega : _ ≤ k + 1100))
      have hR1 : 1 ≤ rs.length := by omega
      have hR2 : rs.length ≤ 5 := by omega
      skip
      go_wp2_with fail
      refine (pickD 32 HD.out (by omega)).mono ?_; rintro e w30 ⟨x30, rfl, _, _, hD, hg⟩
      replace HG := hide ((HG.out.cur hg hgw).mono (Nat.le_refl _) hg.size); replace HD := hide hD; clear hD hg
      clear hrl hn hlt hlt1
      by_cases z0 : x30 = 0
      case pos =>
        subst z0
        have hC0 : 0 < C := by omega
        have hCi : (0 : Int) < (C : Int) := by omega
        have hr0 : 0 < rs.length := by omega
        obtain ⟨gs9, cap9, _, _, rfl, _, _⟩ := HG.out.rowAt HRC.out hC0 hr0
        have hdr := (Below.refl w30.heap.size w30).drew
        have hdra := (below_alloc w30 (.cells #[.int .i64 (-1), .int .i64 9999, .int .i64 10000] 3)).drew
        have HGd := hide (HG.out.below hdr); have HDd := hide (HD.out.below hdr)
        have HGa := hide (HG.out.below hdra); have HDa := hide (HD.out.below hdra)
        have HLa := hide (own_ints w30 [-1, 9999, 10000] base HD.out.sz (by simp [maxLen])).drew
        clear hdr hdra
        go_upto_region 13 with fail
        go_region_with (first | (go_at_call 93; first | (refine (pickRow HGd.out HRC.out hC0 hr0 HDd.out (by omega) hgw).mono ?_; rintro e w31 ⟨i, rfl, hi31, gr, cr, hrv, hlo, hog31, hD, hg⟩; have hiR : (i : Int) < (rs.length : Int) := (by omega); have HG31 := hide hog31; have HD31 := hide hD; have HRV := hide hrv; obtain ⟨y31, c1, c2, hf⟩ := HG31.out.corner hC0 hi31 HRV.out; have hsz31 : w30.heap.size ≤ w31.heap.size := (by have := hg.size; simp at this; omega); obtain ⟨y31a, c1a, c2a, hfa⟩ := (HG31.out.below (below_alloc w31 (.cells #[.int .i64 (-1), .int .i64 9999, .int .i64 10000] 3))).corner hC0 hi31 HRV.out;  clear hog31 hD hg hrv) | (refine (pickRow HGa.out HRC.out hC0 hr0 HDa.out (by omega) hgw).mono ?_; rintro e w31 ⟨i, rfl, hi31, gr, cr, hrv, hlo, hog31, hD, hg⟩; have hiR : (i : Int) < (rs.length : Int) := (by omega); have HG31 := hide hog31; have HD31 := hide hD; have HRV := hide hrv; obtain ⟨y31, c1, c2, hf⟩ := HG31.out.corner hC0 hi31 HRV.out; have hsz31 : w30.heap.size ≤ w31.heap.size := (by have := hg.size; simp at this; omega); obtain ⟨y31a, c1a, c2a, hfa⟩ := (HG31.out.below (below_alloc w31 (.cells #[.int .i64 (-1), .int .i64 9999, .int .i64 10000] 3))).corner hC0 hi31 HRV.out; have HL31 := hide (HDa.out.own HLa.out hg (by decide)); clear hog31 hD hg hrv)) | (go_at_call 94; first | (refine (among_is _ [-1, 9999, 10000] _ base g _ A cap code HL31.out (by simp) (by simp) HD31.out.cur (by omega) HD31.out.sz).mono ?_; rintro e w32 ⟨x32, rfl, _, hC9, hg⟩; have hD := HD31.out.next hC9 hg; have HG32 := hide (HG31.out.cur hg hgw); have HD32 := hide hD; have hsz32 : w31.heap.size ≤ w32.heap.size := hg.size; obtain ⟨y32, d1, d2, hf32⟩ := HG32.out.corner hC0 hi31 HRV.out; clear hD hg) | (refine (amongD [-1, 9999, 10000] HD31.out (by rfl) (by rfl) (by rfl) (by simp) (by simp) (by omega)).mono ?_; rintro e w32 ⟨x32, rfl, _, hD, hg⟩; have HG32 := hide (HG31.out.cur hg hgw); have HD32 := hide hD; have hsz32 : w31.heap.size ≤ w32.heap.size := hg.size; obtain ⟨y32, d1, d2, hf32⟩ := HG32.out.corner hC0 hi31 HRV.out; clear hD hg)))
        all_goals
          go_wp2_with fail
          go_ret
          have hs9 : (w32.setCell ⟨gr, 0, none⟩ (.int .i64 x32)).heap.size = w32.heap.size := by simp
          have hog9 := (HG32.out.mono (Nat.le_refl _) (Nat.le_trans hsz31 hsz32)).set hi31 (j := 0) (by rw [HRC.out _ (List.getElem_mem hi31)]; omega) HRV.out x32
          have hd9 := HD32.out.set hlo hgw 0 (.int .i64 x32)
          rw [← hs9] at hog9
          exact ⟨_, rfl, _, by simp; omega, hog9, ⟨(hd9.le (by omega)).cur, grownTrans HD0.out.gr hd9.gr, HD0.out.hb⟩, hd9.gr⟩
      have z0b : (x30 == 0) = false := by simp [z0]
      by_cases z1 : x30 = 1
      case pos =>
        subst z1
        have hb30 : w.heap.size ≤ w30.heap.size := HD.out.gr.size
        have hll := own_ints w30 [1] w30.heap.size (Nat.le_refl _) (by simp [maxLen])
        have hsz31 : (w30.alloc (.cells #[.int .i64 1] 3)).heap.size = w30.heap.size + 1 := by simp
        have hsp := HG.out.spine.alloc (.cells #[.int .i64 1] 3)
        replace HG := hide (HG.out.below (below_alloc w30 (.cells #[.int .i64 1] 3))); replace HD := hide (HD.out.alloc (.cells #[.int .i64 1] 3))
        skip
        have HLL := hide hll; have HSP := hide hsp; clear hll hsp
        go_wp2_with (at_builtin; refine wpList_push1s (k := 1) (enc := SRow.enc) _ rfl _ _ 22 rfl 35 (.slice none 0 0) 24 Try.underlying22 SRow.info rfl (by omega) (by omega) SRow.one w.heap.size _ rs rfl HSP.out (⟨[1], some ⟨w30.heap.size, 0, none⟩, 1⟩ : SRow) _ _ hsz31.symm rfl (by simp [flat, SRow.enc]) (by omega) HD.out.gr.size (Below.refl w.heap.size _) (Nat.le_refl _) rfl ?_; intro v1 w32 ho1 hb1 hg1)
        have hog9 := (HG.out.below (below_alloc _ (.cells #[SRow.v ⟨[1], some ⟨w30.heap.size, 0, none⟩, 1⟩] 35))).push3 (r := ⟨[1], some ⟨w30.heap.size, 0, none⟩, 1⟩) hb30 (by simp; omega) (HLL.out.alloc (.cells #[SRow.v ⟨[1], some ⟨w30.heap.size, 0, none⟩, 1⟩] 35)) hg1 ho1
        replace HD := hide (HD.out.push HSP.out (Nat.le_refl _) hg1 (by decide))
        have HG9 := hide hog9; clear hog9 ho1 hb1 hg1
        go_wp2_with fail
        go_ret
        exact ⟨_, rfl, rs ++ [_], by simp <;> omega, HG9.out, ⟨(HD.out.le (by omega)).cur, grownTrans HD0.out.gr HD.out.gr, HD0.out.hb⟩, HD.out.gr⟩
      have z1b : (x30 == 1) = false := by simp [z1]
      by_cases z2 : x30 = 2
      case pos =>
        subst z2
        have hog := OwnG.empty w30 HD.out.gr.size
        replace HD := hide (HD.out.alloc (.cells #[] 35))
        have hs9 : (w30.alloc (.cells #[] 35)).heap.size = w30.heap.size + 1 := by simp
        rw [← hs9] at hog
        have HG9 := hide hog; clear hog hs9
        go_wp2_with fail
        go_ret
        exact ⟨_, rfl, [], by simp <;> omega, HG9.out, ⟨(HD.out.le (by omega)).cur, grownTrans HD0.out.gr HD.out.gr, HD0.out.hb⟩, HD.out.gr⟩
      have z2b : (x30 == 2) = false := by simp [z2]
      by_cases z3 : x30 = 3
      case pos =>
        subst z3
        have hog := (OwnG.two w30).mono HD.out.gr.size (Nat.le_refl _)
        replace HD := hide (((HD.out.alloc (.cells #[] 3)).alloc (.cells #[] 3)).alloc (.cells #[.slice (some ⟨w30.heap.size, 0, none⟩) 0 0, .slice (some ⟨w30.heap.size + 1, 0, none⟩) 0 0] 35))
        have hs9 : (((w30.alloc (.cells #[] 3)).alloc (.cells #[] 3)).alloc (.cells #[.slice (some ⟨w30.heap.size, 0, none⟩) 0 0, .slice (some ⟨w30.heap.size + 1, 0, none⟩) 0 0] 35)).heap.size = w30.heap.size + 3 := by simp
        rw [← hs9] at hog
        have HG9 := hide hog; clear hog hs9
        go_wp2_with fail
        go_ret
        exact ⟨_, rfl, _, by simp, HG9.out, ⟨(HD.out.le (by omega)).cur, grownTrans HD0.out.gr HD.out.gr, HD0.out.hb⟩, HD.out.gr⟩
      have z3b : (x30 == 3) = false := by simp [z3]
      by_cases z4 : x30 = 4
      case pos =>
        subst z4
        go_wp2_with fail
        go_loopw [5] (fun s wr => ∃ rs : List SRow, 1 ≤ rs.length ∧ rs.length ≤ 10 ∧ (∀ r ∈ rs, r.xs.length = C) ∧ OwnG wr w.heap.size wr.heap.size s rs ∧ DS w base g A cap code (k + 2000 + 50 * rs.length) wr) (fun s _ => 12 - lenV s)
        case atStart => exact ⟨rs, by omega, by omega, HRC.out, HG.out, HD.out.le (by omega)⟩
        case round =>
          clear HG HD HRC hR1 hR2 rs
          obtain ⟨rs, hl1, hl2, hrc, hog, hD⟩ := hrel
          generalize wr = w40 at *
          have hlv := own_lenV hog.spine
          have HG := hide hog; have HD := hide hD; have HRC := hide hrc; clear hog hD hrc
          have hr40 : 0 < rs.length := by omega
          obtain ⟨gs, caps, gr, cr, rfl, hrv, hlo⟩ := HG.out.rowAt HRC.out (i := 0) (by omega) hr40
          have HRV := hide hrv; have HLV := hide hlv; clear hrv hlv
          go_wp2_with fail
          refine (pickD 2 HD.out (by omega)).mono ?_; rintro e w41 ⟨x41, rfl, p41, q41, hD, hg⟩
          replace HG := hide ((HG.out.cur hg hgw).mono (Nat.le_refl _) hg.size); replace HD := hide hD; clear hD hg
          by_cases hlt : (rs.length : Int) < 8 + x41
          case neg =>
            go_wp2_with fail
            go_ret
            exact ⟨_, rfl, rs, by omega, HG.out, ⟨(HD.out.le (by omega)).cur, grownTrans HD0.out.gr HD.out.gr, HD0.out.hb⟩, HD.out.gr⟩
          have hl9 : rs.length ≤ 8 := by omega
          obtain ⟨y41, c1, c2, hf⟩ := HG.out.corner (show 0 < C by omega) hr40 HRV.out
          have h0r : (0 : Int) < (rs.length : Int) := by omega
          have hrw : Row 1 encI w41 w41.heap.size (some ⟨gr, 0, none⟩) rs[0].xs := by
            obtain ⟨A8, c8, he8, hr8, _, _⟩ := (HG.out.rows 0 _ (List.getElem?_eq_getElem hr40)).is
            rw [HRV.out] at he8
            injection he8 with e1; subst e1
            exact hr8
          have hxl : rs[0].xs.length = C := HRC.out _ (List.getElem_mem hr40)
          have hown := l1Own_is (some ⟨gr, 0, none⟩) cr rs[0].xs w41 hrw (by omega) (by omega)
          rw [hxl] at hown
          have HOWN := hide hown; have HXL := hide hxl; clear hown hxl hrw hf c2
          generalize rs[0].xs = xs at *
          go_wp2_with fail
          refine HOWN.out.mono ?_; rintro e w42 ⟨r, rfl, ho, hb⟩
          have hb41 : w.heap.size ≤ w41.heap.size := HD.out.gr.size
          replace HG := hide (HG.out.below hb); replace HD := hide (HD.out.below hb)
          have hs42 := hb.size
          obtain ⟨AL, cL, rfl, _, _, _⟩ := ho.is
          have hbk := ho.alloc (.cells #[SRow.v ⟨xs, AL, cL⟩] 35)
          have hsp := HG.out.spine
          have HG2 := hide (HG.out.below (below_alloc w42 (.cells #[SRow.v ⟨xs, AL, cL⟩] 35)))
          have HSP := hide hsp; have HBK := hide hbk; clear hsp hbk ho hb HOWN c1
          go_wp2_with (at_builtin; refine wpList_push1 (k := 1) (enc := SRow.enc) _ rfl _ _ 22 rfl 35 (.slice none 0 0) 24 Try.underlying22 SRow.info rfl (by omega) (by omega) SRow.one w.heap.size _ rs rfl HSP.out (⟨xs, AL, cL⟩ : SRow) _ rfl (by simp [flat, SRow.enc]) (by omega) (Nat.le_trans hb41 hs42) (Below.refl w.heap.size w42) (Nat.le_refl _) rfl ?_; intro v1 w43 ho1 hb1 hg1)
          have HP := hide (HG2.out.push3 (r := ⟨xs, AL, cL⟩) hb41 (by simp; omega) HBK.out hg1 ho1)
          replace HD := hide (HD.out.push HSP.out (Nat.le_refl _) hg1 (by decide))
          have hlv2 := own_lenV ho1
          have hrc2 : ∀ r ∈ rs ++ [(⟨xs, AL, cL⟩ : SRow)], r.xs.length = C := fun r hr => by
              rcases List.mem_append.1 hr with h | h
              · exact HRC.out r h
              · rw [List.mem_singleton.1 h]; exact HXL.out
          have HRC2 := hide hrc2; have HLV2 := hide hlv2; clear ho1 hb1 hg1 hrc2 hlv2
          go_wp2_with fail
          go_round
          case measure => have e1 := HLV.out; have e2 := HLV2.out; simp only [List.length_append, List.length_singleton] at e2; omega
          case rel => exact ⟨rs ++ [_], by simp, by simp; omega, HRC2.out, HP.out, HD.out.le (by simp; omega)⟩
      have z4b : (x30 == 4) = false := by simp [z4]
      go_wp2_with fail
      go_ret
      exact ⟨_, rfl, rs, by omega, HG.out, ⟨(HD.out.le (by omega)).cur, grownTrans HD0.out.gr HD.out.gr, HD0.out.hb⟩, HD.out.gr⟩
    have hlt1 : (n : Int) < (R : Int) := by omega
    have hol := own_emptyI9 w10 (Nat.le_refl _)
    have hb10 : w.heap.size ≤ w10.heap.size := HD.out.gr.size
    have hs11 : (w10.alloc (.cells #[] 3)).heap.size = w10.heap.size + 1 := by simp
    replace HG := hide (HG.out.below (below_alloc w10 (.cells #[] 3)))
    replace HD := hide (HD.out.alloc (.cells #[] 3))
    go_wp2_with fail
    generalize hh10 : w10.heap.size = h10 at *
    generalize w10.alloc (.cells #[] 3) = w11 at *
    have HL := hide hol; clear hol
    go_wp2_with fail
    go_loopw [7, 8] (fun s i wr => ∃ m : Nat, i = .int .i64 (m : Int) ∧ m ≤ C ∧ ∃ xs : List Int, xs.length = m ∧ h10 ≤ wr.heap.size ∧ Own 1 encI 3 wr h10 s xs ∧ OwnG wr w.heap.size h10 _ rs ∧ DS w base g A cap code (k + 20 + 200 * n + 10 * m) wr) (fun _ i _ => C - (intOf i).toNat)
    case atStart => exact ⟨0, rfl, Nat.zero_le _, [], rfl, by omega, HL.out, HG.out, HD.out.le (by omega)⟩
    case round =>
      clear HL HG HD hs11 hh10
      obtain ⟨m, rfl, hm, xs, hxl, hh10, hol, hog, hD⟩ := hrel
      generalize wr = w20 at *
      have HL := hide hol; have HG := hide hog; have HD := hide hD; clear hol hog hD
      by_cases hlt2 : m < C
      · have hlt3 : (m : Int) < (C : Int) := by omega
        go_wp2_with fail
        refine (amongD [0, 1, 2, 3, 5, 8, 8, 13] HD.out (by rfl) (by rfl) (by rfl) (by simp) (by simp) (by omega)).mono ?_; rintro e w21 ⟨x21, rfl, _, hD, hg⟩
        replace HL := hide (HD.out.own HL.out hg (by decide)); replace HG := hide (HG.out.cur hg hgw); replace HD := hide hD; have hh21 : h10 ≤ w21.heap.size := Nat.le_trans hh10 hg.size; clear hD hg
        have hp21 := HL.out.alloc (.cells #[.int .i64 x21] 3)
        go_wp2_with (at_builtin; refine wpList_push1 (k := 1) (enc := encI) _ rfl _ _ 35 rfl 3 (.int .i64 0) 8 Try.underlying35 infoI rfl (by omega) (by omega) encI_one h10 _ (xs) rfl HL.out _ _ rfl rfl (by omega) hh21 (Below.refl h10 w21) (Nat.le_refl _) rfl ?_; intro v1 w22 ho1 hb1 hg1)
        replace HG := hide ((HG.out.below (below_alloc w21 (.cells #[.int .i64 x21] 3))).other hp21 hg1)
        replace HD := hide (HD.out.push HL.out hb10 hg1 (by decide)); replace HL := hide ho1
        have hh22 : h10 ≤ w22.heap.size := by have := hg1.size; simp at this; omega
        clear ho1 hb1 hg1 hp21
        go_wp2_with fail
        go_round
        case measure => (first | (simp [intOf]; done) | (simp [intOf] <;> omega))
        case rel => exact ⟨m + 1, by go_num, by omega, xs ++ [_], by simp; omega, hh22, HL.out, HG.out, HD.out.le (by omega)⟩
      · have hlt3 : ¬ (m : Int) < (C : Int) := by omega
        have hxb : xs.length ≤ 5 := by omega
        have HXL := hide (show xs.length = C by omega)
        clear hxl
        obtain ⟨AL, cL, rfl, _, _, _⟩ := HL.out.is
        have hbk := HL.out.alloc (.cells #[SRow.v ⟨xs, AL, cL⟩] 35)
        have hsp := HG.out.spine
        have HG2 := hide (HG.out.below (below_alloc w20 (.cells #[SRow.v ⟨xs, AL, cL⟩] 35)))
        have HSP := hide hsp; have HBK := hide hbk; clear hsp hbk
        go_wp2_with (at_builtin; refine wpList_push1 (k := 1) (enc := SRow.enc) _ rfl _ _ 22 rfl 35 (.slice none 0 0) 24 Try.underlying22 SRow.info rfl (by omega) (by omega) SRow.one w.heap.size _ rs rfl HSP.out (⟨xs, AL, cL⟩ : SRow) _ rfl (by simp [flat, SRow.enc]) (by omega) (Nat.le_trans hb10 hh10) (Below.refl w.heap.size w20) (Nat.le_refl _) rfl ?_; intro v1 w21 ho1 hb1 hg1)
        have HP := hide (HG2.out.push3 (r := ⟨xs, AL, cL⟩) hb10 (by simp; omega) HBK.out hg1 ho1)
        replace HD := hide (HD.out.push HSP.out (Nat.le_refl _) hg1 (by decide))
        have hrc2 : ∀ r ∈ rs ++ [(⟨xs, AL, cL⟩ : SRow)], r.xs.length = C := fun r hr => by
            rcases List.mem_append.1 hr with h | h
            · exact HRC.out r h
            · rw [List.mem_singleton.1 h]; exact HXL.out
        have HRC2 := hide hrc2; clear ho1 hb1 hg1 hrc2
        go_wp2_with fail
        go_round
        case measure => (first | (simp [intOf]; done) | (simp [intOf] <;> omega))
        case rel => exact ⟨n + 1, by go_num, by omega, rs ++ [_], by simp; omega, HRC2.out, HP.out, HD.out.le (by omega)⟩
end Go.Proofs.Ytomcdkkjknphpaa
