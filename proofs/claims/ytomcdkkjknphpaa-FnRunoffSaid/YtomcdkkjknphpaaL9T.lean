/- Own grids of a relief's size: one square read and written, a row appended; contract of spec's l9Rivers. Condition: a relief. -/
import Derived.Test.YtomcdkkjknphpaaL9S
namespace Go.Proofs.Ytomcdkkjknphpaa
open Go.RowKit
set_option linter.unusedVariables false
theorem own_ne {α β : Type} {k k' : Nat} {enc : α → Nat → Value} {enc' : β → Nat → Value} {e e' : TypeId} {w : World} {b b' : Nat} {v v' : Value} {xs : List α} {ys : List β} (h : Own k enc e w b v xs) (h' : Own k' enc' e' w b' v' ys) (hne : e ≠ e') : ∀ g, v.ownBlock = some g → v'.ownBlock ≠ some g := by
  intro g hg hg'
  rcases h with ⟨rfl, _⟩ | ⟨g1, cap, cs, rfl, _, hb, _⟩
  · simp [Value.ownBlock] at hg
  rcases h' with ⟨rfl, _⟩ | ⟨g2, cap2, cs2, rfl, _, hb2, _⟩
  · simp [Value.ownBlock] at hg'
  simp only [Value.ownBlock, Option.some.injEq] at hg hg'
  subst hg hg'
  unfold Blk at hb hb2
  rw [hb] at hb2
  injection hb2 with h1
  injection h1 with _ h2 _
  exact hne h2
/-- a row made behind w is appended -/
theorem OwnG.push2 {w w2 w' : World} {lo hi : Nat} {v v' : Value} {rs : List SRow} (h : OwnG w lo hi v rs) (hhi : hi ≤ w.heap.size) (hlo : lo ≤ w.heap.size) {r : SRow} (hb : Below w.heap.size w w2) (hr : Own 1 encI 3 w2 w.heap.size r.v r.xs) (hg : w2.grownBy w' v.ownBlock) (hsp : Own 1 SRow.enc 35 w' lo v' (rs ++ [r])) : OwnG w' lo w'.heap.size v' (rs ++ [r]) := by
  have hsp2 := h.spine.below hb
  have hold : ∀ (i : Nat) (s : SRow), rs[i]? = some s → Own 1 encI 3 w' lo s.v s.xs := fun i s hs => ((h.rows i s hs).below hb).grown hg fun g h1 h2 => h.rowSpine i s hs g h1 h2
  have hnew : Own 1 encI 3 w' w.heap.size r.v r.xs := hr.grown hg fun g h1 h2 => own_ne hr hsp2 (by decide) g h1 h2
  refine h.push hold hsp (hnew.mono hlo) (Nat.le_trans hhi (Nat.le_trans hb.size hg.size)) (fun g hg' => (hsp.lt g hg').2) (fun i s hs g hg' => own_ne (hold i s hs) hsp (by decide) g hg') (fun g hg' => ⟨(hnew.lt g hg').2, Nat.le_trans hhi (hnew.lt g hg').1, own_ne hnew hsp (by decide) g hg'⟩)
theorem shape_row {xss G : List (List Int)} (hs : Shape xss G) {i : Nat} (hi : i < xss.length) (h : i < G.length) : G[i].length = hdLen xss := by
  have := hs.2 i hi
  simpa [List.getD_eq_getElem?_getD, h] using this
/-- all about one square of an own grid -/
theorem OwnX.cells {w : World} {lo hi : Nat} {v : Value} {xss G : List (List Int)} (h : OwnX w lo hi v G) (hs : Shape xss G) {p : SA2} (hp : InS xss p) :
    ∃ gs cap gr cr, v = .slice (some ⟨gs, 0, none⟩) xss.length cap ∧ lo ≤ gr ∧ gr < hi ∧ gr ≠ gs ∧ (w.cell? ⟨gs, p.x.toNat, none⟩ = some (.slice (some ⟨gr, 0, none⟩) (hdLen xss) cr) ∧ w.cell? ⟨gr, p.y.toNat, none⟩ = some (.int .i64 (cellS G p))) ∧ (∀ o, w.frozen? ⟨gr, o, none⟩ = false) ∧ ∀ x, OwnX (w.setCell ⟨gr, p.y.toNat, none⟩ (.int .i64 x)) lo hi v (setS G p x) := by
  obtain ⟨rs, hmap, hog⟩ := h
  obtain ⟨⟨x0, x1⟩, y0, y1⟩ := hp
  have hrl : rs.length = xss.length := by have := congrArg List.length hmap; rw [List.length_map] at this; exact this.trans hs.1
  have hi' : p.x.toNat < rs.length := by omega
  have hiG : p.x.toNat < G.length := by rw [hs.1]; omega
  have hxe : rs[p.x.toNat].xs = G[p.x.toNat] := by simp [← hmap]
  have hrow := shape_row hs (show p.x.toNat < xss.length by omega) hiG
  have hj : p.y.toNat < rs[p.x.toNat].xs.length := by rw [hxe, hrow]; omega
  obtain ⟨gs, cap, gr, cr, hv, hrv, hlo, hhi, hne, c0, c1, hf⟩ := hog.cells hi' hj
  have hset := fun x => hog.set hi' hj hrv x
  rw [hrl] at hv
  rw [hxe, hrow] at c0
  refine ⟨gs, cap, gr, cr, hv, hlo, hhi, hne, ⟨c0, ?_⟩, hf, fun x => ⟨_, ?_, hset x⟩⟩
  · rw [c1]
    unfold cellS
    simp only [hxe, List.getD_eq_getElem?_getD, List.getElem?_eq_getElem hiG, Option.getD_some, List.getElem?_eq_getElem (show p.y.toNat < G[p.x.toNat].length by omega)]
  · unfold setS setXY
    rw [List.map_set, hmap, hxe]
    simp [List.getD_eq_getElem?_getD, hiG]
theorem own_zeros (w : World) {B : Nat} (hB : B ≤ w.heap.size) (n : Nat) (hn : n ≤ maxLen) : Own 1 encI 3 (w.alloc (.cells (madeCells #[.int .i64 0] n) 3)) B (.slice (some ⟨w.heap.size, 0, none⟩) n n) (List.replicate n (0 : Int)) := by
  refine Own.made (by simp) hB (Blk.new _ _ _) (by simp [size_madeCells]) (by simpa using hn) ?_
  intro j x hj hx c hc
  obtain rfl : c = 0 := by omega
  rw [List.length_replicate] at hj
  have hx0 : x = 0 := by
    rw [List.getElem?_replicate, if_pos hj] at hx
    exact (Option.some.inj hx).symm
  subst hx0
  rw [Nat.mul_one, Nat.add_zero]
  have := toList_madeCells_one (.int .i64 0) n
  have h2 : (madeCells #[(.int .i64 0 : Value)] n).toList[j]? = some (.int .i64 0) := by rw [this, List.getElem?_replicate, if_pos hj]
  show _ = some (Value.int .i64 0)
  simpa using h2
theorem own_emptyG (w : World) {B : Nat} (hB : B ≤ w.heap.size) : OwnX (w.alloc (.cells #[] 35)) B (w.heap.size + 1) (.slice (some ⟨w.heap.size, 0, none⟩) 0 0) [] :=
  ⟨[], rfl, Own.made (cs := #[]) rfl hB (Blk.new _ _ _) rfl (Nat.zero_le _) Filled.zero, fun g hg => by have : w.heap.size = g := Option.some.inj hg; omega, by simp, by simp, by simp, by simp⟩
theorem own_nilG (w : World) (B hi : Nat) : OwnX w B hi (.slice none 0 0) [] :=
  ⟨[], rfl, Own.nil, by simp [Value.ownBlock], by simp, by simp, by simp, by simp⟩
def zrow (m n : Nat) : List (List Int) := (List.range n).map fun _ => (List.range m).map fun _ => (0 : Int)
theorem zrow_succ (m n : Nat) : zrow m (n + 1) = zrow m n ++ [List.replicate m (0 : Int)] := by
  unfold zrow
  rw [List.range_succ, List.map_append]
  congr 1
  rw [List.map_cons, List.map_nil]
  congr 1
  apply List.ext_getElem
  · simp
  · intro i h1 h2; simp
theorem map_len {rs : List SRow} {G : List (List Int)} (h : rs.map (·.xs) = G) : rs.length = G.length := by rw [← h]; simp
set_option maxHeartbeats 2000000 in
theorem l9Rivers_is (v : Value) (xss : List (List Int)) (w : World) (h : IsG w v xss) (hrel : reliefB xss = true) :
    Calls Try.prog 72 #[v] w fun e w' => ∃ x, e = .returned x ∧ OwnX w' w.heap.size w'.heap.size x (rivG xss) ∧ Below w.heap.size w w' := by
  have hdm := relief_dims hrel
  have hrun := fun (p : SA2) (hp : InS xss p) W (hb : Below w.heap.size w W) => l9Run_is v xss p.x p.y W (h.below hb (Nat.le_refl _)) hrel hp.1 hp.2
  have hrl := fun (p : SA2) (hp : InS xss p) => runL_len hrel hp
  have hrin := fun (p : SA2) (hp : InS xss p) => runL_in hrel hp
  have hsmall := fun (l : List SA2) (hl : ∀ s ∈ l, InS xss s) k (hk : l.length ≤ 64) (s : SA2) (hs : InS xss s) (q : SA2) (hq : InS xss q) => rivTo_small hrel hl k hk hs hq
  have hz : zrow (hdLen xss) xss.length = zeroG xss := rfl
  have hriv : rivG xss = rivTo xss (sqTo (hdLen xss) xss.length) := rfl
  have hr0 : rivTo xss [] = zeroG xss := rfl
  have hmk := fun W => run_make_n (P := Try.prog) 35 3 _ 1 8 Try.underlying35 infoI (hdLen xss) (by omega) (by omega) W
  obtain ⟨rs, hmap, his, hrs⟩ := h
  obtain ⟨A, cap, rfl, hrow, _, _⟩ := his
  have hxl : xss.length = rs.length := by rw [← hmap]; simp
  have hrll : ∀ i, (hi : i < rs.length) → rs[i].xs.length = hdLen xss := fun i hi => by
    have := relief_row hrel (i := i) (by omega)
    rw [← this]; simp [← hmap]
  have hinS : ∀ (n k : Nat), n < rs.length → k < hdLen xss → InS xss ⟨(n : Int), (k : Int)⟩ := fun n k hn hk => ⟨⟨by simp, by simp only; omega⟩, by simp, by simp only; omega⟩
  have hsqm : ∀ (n k : Nat), n ≤ rs.length → k ≤ hdLen xss → (n < rs.length ∨ k = 0) → ∀ s ∈ sqTo (hdLen xss) n ++ sqRow n k, InS xss s := fun n k hn hk hnk s hs => by
    rcases List.mem_append.1 hs with hs | hs
    · obtain ⟨⟨a, b⟩, c, d⟩ := sqTo_mem hs
      exact ⟨⟨a, by omega⟩, c, d⟩
    · unfold sqRow at hs
      obtain ⟨c, hc, rfl⟩ := List.mem_map.1 hs
      rw [List.mem_range] at hc
      exact hinS n c (by omega) (by omega)
  rw [hxl] at hz hriv hdm
  have hsl := sqTo_len (hdLen xss)
  have hshape := fun l => rivTo_shape (xss := xss) l
  have HRUN := hide hrun; have HRL := hide hrl; have HRIN := hide hrin; have HSMALL := hide hsmall; have HZ := hide hz; have HRIV := hide hriv; have HR0 := hide hr0; have HR := hide hrow; have HRLL := hide hrll; have HIN := hide hinS; have HSQM := hide hsqm; have HXL := hide hxl; have HSL := hide hsl
  clear hrun hrl hrin hsmall hz hriv hr0 hrow hrll hinS hsqm hmap hrs hrel hsl
  generalize hm : hdLen xss = m at *
  have HM := hide hm
  have he := own_emptyG w (Nat.le_refl w.heap.size)
  have B0 := below_alloc w (.cells #[] 35)
  have hs0 : (w.alloc (.cells #[] 35)).heap.size = w.heap.size + 1 := by simp
  generalize hB : w.heap.size = B at *
  have HE := hide he; have HB := hide hB; clear he
  have u0 := Try.underlying35
  go_enter Try.func72, Try.ntmps72
  go_wp2_with fail
  generalize hw0 : w.alloc (.cells #[] 35) = w0 at *
  go_loopw [3, 4] (fun s i wr => ∃ n : Nat, n ≤ rs.length ∧ i = .int .i64 (n : Int) ∧ OwnX wr B wr.heap.size s (zrow m n) ∧ Below B w wr) (fun _ i _ => rs.length - (intOf i).toNat)
  case atStart => exact ⟨0, Nat.zero_le _, rfl, by rw [hs0]; exact HE.out, B0⟩
  case round =>
    obtain ⟨n, hn, rfl, hown, hbel⟩ := hrel
    have hsz : B ≤ wr.heap.size := by have := hbel.size; rw [HB.out] at this; exact this
    by_cases hlt : n < rs.length
    · have hlt' : (n : Int) < rs.length := by omega
      obtain ⟨b, off, rfl, hb, c0⟩ := SRow.cell HR.out hlt hbel
      rw [HRLL.out n hlt] at c0
      have hmk1 := hmk wr
      rw [show (madeCells (Value.cells (.int .i64 0)) (m * 1)) = madeCells #[.int .i64 0] m by rw [Nat.mul_one]; rfl] at hmk1
      have hrow1 := own_zeros wr (Nat.le_refl _) m (by simp only [maxLen]; omega)
      have BX := below_alloc wr (.cells (madeCells #[.int .i64 0] m) 3)
      obtain ⟨qs, hqm, hqo⟩ := hown
      have hql := map_len hqm
      rw [show (zrow m n).length = n by simp [zrow]] at hql
      have hspx := hqo.spine.below BX
      have hbx := bstep hbel BX hsz
      have hz1 : (wr.alloc (.cells (madeCells #[.int .i64 0] m) 3)).heap.size = wr.heap.size + 1 := by simp
      generalize hW1 : wr.alloc (.cells (madeCells #[.int .i64 0] m) 3) = W1 at *
      have HSP := hide hspx; have HQ := hide hqo; have HQM := hide hqm; have HROW := hide hrow1; have HBX := hide BX
      clear hqm hqo hspx hrow1 hmk BX
      go_wp2_with (at_builtin; refine wpList_push1s (k := 1) (enc := SRow.enc) _ rfl _ _ 22 rfl 35 (.slice none 0 0) 24 Try.underlying22 SRow.info rfl (by omega) (by omega) SRow.one B _ qs rfl HSP.out (⟨List.replicate m (0 : Int), some ⟨wr.heap.size, 0, none⟩, m⟩ : SRow) _ _ (by rw [hz1]) rfl (by simp [flat, SRow.enc]) (by omega) (by omega) hbx (Nat.le_refl _) rfl ?_; intro v1 w1 ho1 hb1 hg1)
      have hpush := HQ.out.push2 (r := ⟨List.replicate m (0 : Int), some ⟨wr.heap.size, 0, none⟩, m⟩) (Nat.le_refl _) hsz (HBX.out.alloc (by omega) (.cells #[SRow.v ⟨List.replicate m (0 : Int), some ⟨wr.heap.size, 0, none⟩, m⟩] 35)) (by
        have := HROW.out.alloc (.cells #[SRow.v ⟨List.replicate m (0 : Int), some ⟨wr.heap.size, 0, none⟩, m⟩] 35)
        simpa [SRow.v] using this) (by simp only [SRow.v, List.length_replicate]; exact hg1) ho1
      have hmp : (qs ++ [(⟨List.replicate m (0 : Int), some ⟨wr.heap.size, 0, none⟩, m⟩ : SRow)]).map (·.xs) = zrow m (n + 1) := by rw [List.map_append, HQM.out, zrow_succ]; rfl
      have HP := hide (show OwnX w1 B w1.heap.size v1 (zrow m (n + 1)) from ⟨_, hmp, hpush⟩)
      clear hpush hmp ho1 hg1
      go_round
      case measure => (simp [intOf] <;> omega)
      case rel => exact ⟨n + 1, by omega, by go_num, HP.out, hb1⟩
    · have hnn : n = rs.length := by omega
      subst hnn
      rw [HZ.out] at hown
      generalize hhi : wr.heap.size = hi at hown
      obtain ⟨A3, cap3, hv3, hc3, hc4⟩ := hown.isG.slice
      rw [show (zeroG xss).length = rs.length by rw [zeroG_shape.1]; exact HXL.out] at hv3 hc3
      subst hv3
      have HOWN := hide hown; clear hown
      go_wp2_with fail
      go_loopw [5] (fun i wx => ∃ n : Nat, n ≤ rs.length ∧ i = .int .i64 (n : Int) ∧ OwnX wx B hi (.slice A3 rs.length cap3) (rivTo xss (sqTo m n)) ∧ Below B w wx ∧ hi ≤ wx.heap.size) (fun i _ => rs.length - (intOf i).toNat)
      case atStart => exact ⟨0, Nat.zero_le _, rfl, by rw [show sqTo m 0 = [] from rfl, HR0.out]; exact HOWN.out, hbel, by omega⟩
      clear hbel hhi hsz HOWN hlt
      case round =>
        obtain ⟨n, hn, rfl, hown0, hbel0, hh0⟩ := hrel
        have HOW0 := hide hown0; clear hown0
        by_cases hltn : n < rs.length
        · have hltn' : (n : Int) < rs.length := by omega
          go_wp2_with fail
          go_loopw [6] (fun i wx => ∃ k : Nat, k ≤ m ∧ i = .int .i64 (k : Int) ∧ OwnX wx B hi (.slice A3 rs.length cap3) (rivTo xss (sqTo m n ++ sqRow n k)) ∧ Below B w wx ∧ hi ≤ wx.heap.size) (fun i _ => m - (intOf i).toNat)
          case atStart => exact ⟨0, Nat.zero_le _, rfl, by simpa [sqRow] using HOW0.out, hbel0, hh0⟩
          clear hbel0 hh0 HOW0
          case round =>
            obtain ⟨k, hk, rfl, hown, hbel, hhs⟩ := hrel
            have HOW := hide hown; clear hown
            have hsz : B ≤ wr.heap.size := by have := hbel.size; omega
            obtain ⟨rb, roff, rfl, hrb, rc0⟩ := SRow.cell HR.out (show n < rs.length by omega) hbel
            rw [HRLL.out n (by omega)] at rc0
            by_cases hlt : k < m
            · have hlt' : (k : Int) < m := by omega
              have hin := HIN.out n k hltn hlt
              have hcall := HRUN.out _ hin _ hbel
              have hrl := HRL.out _ hin
              have hrin := HRIN.out _ hin
              have hsm := fun i => HSMALL.out (sqTo m n ++ sqRow n k) (HSQM.out n k hn hk (.inl hltn)) i (by
                rw [List.length_append, HSL.out, show (sqRow n k).length = k by simp [sqRow]]
                have : n * m ≤ 7 * 8 := Nat.mul_le_mul (by omega) (by omega)
                omega) _ hin
              have hst : rivTo xss (sqTo m n ++ sqRow n (k + 1)) = (runL xss ⟨(n : Int), (k : Int)⟩).foldl bump (rivTo xss (sqTo m n ++ sqRow n k)) := by rw [sqRow_succ, ← List.append_assoc, rivTo_snoc]
              have hshp := hshape (sqTo m n ++ sqRow n k)
              simp only at hcall
              generalize runL xss ⟨(n : Int), (k : Int)⟩ = rl at *
              generalize rivTo xss (sqTo m n ++ sqRow n k) = G0 at *
              have HC := hide hcall; have HRI := hide hrin; have HSM := hide hsm; have HST := hide hst; have HSHP := hide hshp
              clear hcall hrin hsm hst hshp
              go_wp2_with fail
              refine HC.out.mono ?_; rintro e w5 ⟨x5, rfl, ho5, hb5⟩
              have B5 := bstep hbel hb5 hsz
              have hw5 := HOW.out.below hb5
              have hs5 : hi ≤ w5.heap.size := Nat.le_trans hhs hb5.size
              obtain ⟨A5, c5, rfl, _, _, _⟩ := ho5.row
              have HO5 := hide (ho5.mono hhs); have HW5 := hide hw5
              clear ho5 hw5 hb5
              go_wp2_with fail
              go_loopw [8] (fun i wx => ∃ j : Nat, j ≤ rl.length ∧ i = .int .i64 (j : Int) ∧ OwnX wx B hi (.slice A3 rs.length cap3) ((rl.take j).foldl bump G0) ∧ Own 2 SA2.enc 50 wx hi (.slice A5 rl.length c5) rl ∧ Below B w wx ∧ hi ≤ wx.heap.size) (fun i _ => rl.length - (intOf i).toNat)
              case atStart => exact ⟨0, Nat.zero_le _, rfl, HW5.out, HO5.out, B5, hs5⟩
              case round =>
                clear hs5 B5 HW5 HO5 hbel hhs hrb rc0 hsz
                obtain ⟨j, hj, rfl, hown, hrun, hbel, hhs⟩ := hrel
                have hsz : B ≤ wr.heap.size := by have := hbel.size; omega
                by_cases hltj : j < rl.length
                · have hltj' : (j : Int) < rl.length := by omega
                  obtain ⟨A6, c6, he, hrr, _, _⟩ := hrun.row
                  injection he with he1 he2 he3; subst he1 he3
                  obtain ⟨b, off, rfl, hb, d0, d1⟩ := SA2.cells hrr hltj (Below.refl _ _)
                  have hpin := HRI.out rl[j] (List.getElem_mem hltj)
                  have hsm := HSM.out j rl[j] hpin
                  have hst : (rl.take (j + 1)).foldl bump G0 = bump ((rl.take j).foldl bump G0) rl[j] := by rw [take_snoc' hltj, List.foldl_append]; rfl
                  have hsh := bumps_shape (rl.take j) HSHP.out
                  generalize rl[j] = p at *
                  generalize (rl.take j).foldl bump G0 = G at *
                  obtain ⟨gs, gcap, gr, cr, hv, hlo, hhi2, hne, hcell, hfz, hset⟩ := hown.cells hsh hpin
                  injection hv with hv1 hv2 hv3
                  subst hv1 hv3
                  obtain ⟨c0, c1⟩ := hcell
                  obtain ⟨⟨px0, px1⟩, py0, py1⟩ := hpin
                  obtain ⟨px, py⟩ := p
                  rw [HXL.out] at px1
                  rw [HM.out] at py1 c0
                  simp only at *
                  obtain ⟨sm0, sm1⟩ := hsm
                  have hne2 : ∀ g, Value.ownBlock (.slice (some ⟨b, off, none⟩) rl.length c5) = some g → g ≠ gr := fun g hg => by have := (hrun.lt g hg).1; omega
                  have HSET := hide hset; have HRUN2 := hide hrun; have HNE := hide hne2; have HSTT := hide hst
                  unfold bump at HSTT
                  generalize cellS G ⟨px, py⟩ = cv at *
                  clear hset hrun hne2 hst hrr hown hsh hv2
                  go_wp2_with fail
                  go_region
                  have B8 : Below B w (wr.setCell ⟨gr, py.toNat, none⟩ (.int .i64 (cv + 1))).drew := (hbel.setCell (p := ⟨gr, py.toNat, none⟩) hlo (.int .i64 (cv + 1))).drew
                  have X8 : OwnX (wr.setCell ⟨gr, py.toNat, none⟩ (.int .i64 (cv + 1))).drew B hi (.slice (some ⟨gs, 0, none⟩) rs.length cap3) (setS G ⟨px, py⟩ (cv + 1)) := (HSET.out (cv + 1)).below (Below.refl _ _).drew
                  have R8 : Own 2 SA2.enc 50 (wr.setCell ⟨gr, py.toNat, none⟩ (.int .i64 (cv + 1))).drew hi (.slice (some ⟨b, off, none⟩) rl.length c5) rl := HRUN2.out.setCell (p := ⟨gr, py.toNat, none⟩) HNE.out _
                  have s8 : hi ≤ (wr.setCell ⟨gr, py.toNat, none⟩ (.int .i64 (cv + 1))).drew.heap.size := by
                    have : (wr.setCell ⟨gr, py.toNat, none⟩ (.int .i64 (cv + 1))).drew.heap.size = wr.heap.size := by simp [World.drew, World.setCell]
                    omega
                  rw [← HSTT.out] at X8
                  generalize (wr.setCell ⟨gr, py.toNat, none⟩ (.int .i64 (cv + 1))).drew = w8 at *
                  have HX8 := hide X8; have HR8 := hide R8; clear X8 R8 HSTT HSET HRUN2 d0 d1 c0 c1
                  go_wp2_with fail
                  go_round
                  case measure => (simp [intOf] <;> omega)
                  case rel => exact ⟨j + 1, by omega, by go_num, HX8.out, HR8.out, B8, s8⟩
                · have hjr : rl.length = j := by omega
                  have hfin : OwnX wr B hi (.slice A3 rs.length cap3) (rivTo xss (sqTo m n ++ sqRow n (k + 1))) := by
                    rw [HST.out]
                    have := hown
                    rw [← hjr, List.take_length] at this
                    exact this
                  have HF := hide hfin; have HJ := hide hjr; clear hfin hjr hown hrun
                  go_wp2_with fail
                  go_round
                  case measure => (simp [intOf] <;> omega)
                  case rel => exact ⟨k + 1, by omega, by go_num, HF.out, hbel, hhs⟩
            · have hkm : k = m := by omega
              have hfin : OwnX wr B hi (.slice A3 rs.length cap3) (rivTo xss (sqTo m (n + 1))) := by
                rw [sqTo_succ, ← hkm]
                rw [hkm]
                have := HOW.out
                rw [hkm] at this
                exact this
              have HF := hide hfin; have HKM := hide hkm; clear hfin hkm HOW
              go_wp2_with fail
              go_round
              case measure => (simp [intOf] <;> omega)
              case rel => exact ⟨n + 1, by omega, by go_num, HF.out, hbel, hhs⟩
        · have hnn : rs.length = n := by omega
          have hfin : OwnX wr B wr.heap.size (.slice A3 rs.length cap3) (rivG xss) := by
            rw [HRIV.out]
            have := HOW0.out.mono (Nat.le_refl B) hh0
            rw [← hnn] at this
            exact this
          have HF := hide hfin; have HN := hide hnn; clear hfin hnn HOW0
          go_wp2_with fail
          go_ret
          exact ⟨_, rfl, HF.out, hbel0⟩
end Go.Proofs.Ytomcdkkjknphpaa
