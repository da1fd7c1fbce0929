/- Contract of impl's GreatestRiver: the Lean function riverV. No condition. -/
import Derived.Test.YtomcdkkjknphpaaL9R
namespace Go.Proofs.Ytomcdkkjknphpaa
open Go.RowKit
set_option linter.unusedVariables false
set_option maxHeartbeats 2000000 in
theorem implGreatestRiver_any (v : Value) (xss : List (List Int)) (w : World) (h : IsG w v xss) :
    Calls Try.prog 39 #[v] w fun e w' => e = .returned (.tuple #[.int .i64 (riverV xss).1.1, .int .i64 (riverV xss).1.2, .bool (riverV xss).2]) ∧ Below w.heap.size w w' := by
  have hgood := implIsRelief_any v xss w h
  by_cases hrel : reliefB xss = true
  case neg =>
    rw [Bool.not_eq_true] at hrel
    rw [show riverV xss = ((0, 0), false) by unfold riverV; rw [hrel]; rfl]
    rw [hrel] at hgood
    have HG := hide hgood; clear hgood hrel h
    go_enter Try.func39, Try.ntmps39
    go_wp2_with fail
    refine HG.out.mono ?_; rintro e w1 ⟨rfl, hb1⟩
    go_wp2_with fail
    go_ret3
    exact ⟨rfl, hb1⟩
  rw [hrel] at hgood
  have HG := hide hgood
  have hV : riverV xss = (((grTo xss (allS xss) (allS xss).length).1.x, (grTo xss (allS xss) (allS xss).length).1.y), true) := by unfold riverV; rw [hrel]; rfl
  have hall := fun W (hb : Below w.heap.size w W) => allSquares_is v xss W (h.below hb (Nat.le_refl _)) hrel
  rw [show sqTo (hdLen xss) xss.length = allS xss from rfl] at hall
  have hll := allS_len hrel
  have hin := fun (p : SA2) (hp : p ∈ allS xss) => allS_in hp
  have hgi := fun k hk => grTo_in hrel (l := allS xss) hin k hk
  have hcat := fun (p : SA2) (hp : InS xss p) W (hb : Below w.heap.size w W) => catchment_is v xss p.x p.y W (h.below hb (Nat.le_refl _)) hrel hp.1 hp.2
  have hcl := fun p => catN_le hrel p
  have HV := hide hV; have HALL := hide hall; have HIN := hide hin; have HGI := hide hgi; have HCAT := hide hcat; have HCL := hide hcl
  clear hgood hV hall hin hgi hcat hcl hrel h
  generalize allS xss = l at *
  go_enter Try.func39, Try.ntmps39
  go_wp2_with fail
  refine HG.out.mono ?_; rintro e w1 ⟨rfl, hb1⟩
  have B1a := hb1.alloc hb1.size (.cells #[.int .i64 0, .int .i64 0] 50)
  have hbx0 := Blk.new w1 50 #[.int .i64 0, .int .i64 0]
  have HBX0 := hide hbx0; clear hbx0
  go_wp2_with fail
  refine (HALL.out _ B1a).mono ?_; rintro e w2 ⟨x, rfl, ho, hb2⟩
  have B2 := bstep B1a hb2 B1a.size
  have hq0 := HBX0.out.below hb2 (by simp)
  obtain ⟨A', cap', rfl, _, _, _⟩ := ho.row
  have hGB : w.heap.size ≤ w1.heap.size := hb1.size
  have ho2 := ho.mono (show w1.heap.size + 1 ≤ _ by simp)
  have HO := hide ho2; have HQ := hide hq0; clear ho ho2 hq0 hb2 B1a hb1
  generalize hG : w1.heap.size = G at *
  generalize hB : w.heap.size = B at *
  go_wp2_with fail
  go_loopw [6, 17] (fun t i wr => ∃ k : Nat, k ≤ l.length ∧ i = .int .i64 (k : Int) ∧ t = .int .i64 ((grTo xss l k).2 : Int) ∧ Own 2 SA2.enc 50 wr (G + 1) (.slice A' l.length cap') l ∧ Blk wr G 50 (grTo xss l k).1.boxed ∧ Below B w wr) (fun _ i _ => l.length - (intOf i).toNat)
  case atStart => exact ⟨0, Nat.zero_le _, rfl, rfl, HO.out, HQ.out, B2⟩
  case round =>
    obtain ⟨k, hk, rfl, rfl, hown, hblk, hbel⟩ := hrel
    have hgl := hblk.lt
    have hsz : B ≤ wr.heap.size := by omega
    by_cases hlt : k < l.length
    · have hlt' : (k : Int) < l.length := by omega
      obtain ⟨A2, c2, he, hrl, _, _⟩ := hown.row
      injection he with he1 he2 he3; subst he1 he3
      obtain ⟨b, off, rfl, hb, d0, d1⟩ := SA2.cells hrl hlt (Below.refl _ _)
      have hst := grTo_next (xss := xss) l hlt
      have hpin := HIN.out l[k] (List.getElem_mem hlt)
      have hgi := (HGI.out k hk).2.1
      have hcall := HCAT.out l[k] hpin
      have hcl := HCL.out l[k]
      generalize l[k] = p at *
      generalize grTo xss l k = so at *
      obtain ⟨bs, ms⟩ := so
      obtain ⟨px, py⟩ := p
      simp only at *
      generalize catN xss ⟨px, py⟩ = ct at *
      have BX := hbel.alloc hsz (.cells #[.int .i64 px, .int .i64 py] 50)
      have hox := hown.alloc (.cells #[.int .i64 px, .int .i64 py] 50)
      have hkx := hblk.alloc (.cells #[.int .i64 px, .int .i64 py] 50)
      have hnew := Blk.new wr 50 #[.int .i64 px, .int .i64 py]
      have HC := hide (hcall _ BX)
      have HBX := hide BX; have HOX := hide hox; have HKX := hide hkx; have HNEW := hide hnew; have HST := hide hst
      clear BX hox hkx hnew hcall hst hown hblk hrl
      go_wp2_with fail
      refine HC.out.mono ?_; rintro e w5 ⟨rfl, hb5⟩
      have B5 := bstep HBX.out hb5 (by simp; omega)
      have ho5 := HOX.out.below hb5
      have hk5 := HKX.out.below hb5 (by simp; omega)
      have hn5 := HNEW.out.below hb5 (by simp)
      have e0 : w5.cell? ⟨wr.heap.size, 0, none⟩ = some (.int .i64 px) := hn5.cell 0
      have e1 : w5.cell? ⟨wr.heap.size, 1, none⟩ = some (.int .i64 py) := hn5.cell 1
      have g0 := hk5.some (i := 0) (show 0 < 2 by omega); have g1 := hk5.some (i := 1) (show 1 < 2 by omega)
      have hfz := hk5.frozen
      have hne : ∀ g, Value.ownBlock (.slice (some ⟨b, off, none⟩) l.length cap') = some g → g ≠ G := fun g hg => by have := (ho5.lt g hg).1; omega
      have HO7 := hide ho5; have HK7 := hide hk5; have HNE := hide hne; clear ho5 hk5 hn5 hne hb5 d0 d1
      by_cases hlow : ms < ct
      · have hlow' : (ms : Int) < (ct : Int) := by omega
        have hst2 := HST.out
        rw [if_pos hlow] at hst2
        have HS2 := hide hst2; clear hst2
        go_wp2_with fail
        go_round
        case measure => (simp [intOf] <;> omega)
        case rel => exact ⟨k + 1, by omega, by go_num, by rw [HS2.out], (HO7.out.setCell (p := ⟨G, 0, none⟩) HNE.out _).setCell (p := ⟨G, 1, none⟩) HNE.out _, by rw [HS2.out]; exact (HK7.out.set 0 _).set 1 _, (B5.setCell (p := ⟨G, 0, none⟩) hGB _).setCell (p := ⟨G, 1, none⟩) hGB _⟩
      · have hlow' : ¬ (ms : Int) < (ct : Int) := by omega
        have hst2 := HST.out
        rw [if_neg hlow] at hst2
        have HS2 := hide hst2; clear hst2
        go_wp2_with fail
        go_round
        case measure => (simp [intOf] <;> omega)
        case rel => exact ⟨k + 1, by omega, by go_num, by rw [HS2.out], HO7.out, by rw [HS2.out]; exact HK7.out, B5⟩
    · have hkl : l.length = k := by omega
      have hv := HV.out
      rw [hkl] at hv
      generalize grTo xss l k = so at *
      obtain ⟨bs, ms⟩ := so
      obtain ⟨bx, by_⟩ := bs
      simp only at *
      obtain ⟨e0, e1⟩ := boxed2_cell hblk
      have HKL := hide hkl; have HVV := hide hv; clear hkl hown hblk hv
      have m0 := fun n => later_cell e0 n; have m1 := fun n => later_cell e1 n
      go_wp2_with fail
      (refine wp_region_later (by kernel_rfl) (by kernel_rfl) ?_; (repeat (go_big_quiet_step (fail))); refine wpQuiet_nil ?_; intro _ hw'; obtain ⟨nq, hw''⟩ := hw'; subst hw'')
      have B7 := hbel.trans (nq.h.mono hsz)
      go_wp2_with fail
      go_ret3
      rw [HVV.out]
      exact ⟨rfl, by rw [hB]; exact B7⟩
end Go.Proofs.Ytomcdkkjknphpaa
