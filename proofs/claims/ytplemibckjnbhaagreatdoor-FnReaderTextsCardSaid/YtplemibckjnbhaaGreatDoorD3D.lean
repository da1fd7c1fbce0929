/- The drawing functions of FnReaderTexts. No condition beyond a cursor that has stepped less than 2^60 times. (Printed by mkd3d.py.) -/
import Derived.Test.YtplemibckjnbhaaGreatDoorD3C
import Derived.Test.YtplemibckjnbhaaGreatDoorDSp
import Derived.Test.YtplemibckjnbhaaGreatDoorL3V
namespace Go.Proofs.YtplemibckjnbhaaGreatDoor
open Go.RowKit
set_option linter.unusedVariables false
theorem below5D {w w' : World} {B g : Nat} (h : Below B w w') (hg : B ≤ g) (p q r s u : Value) : Below B w (((((w'.setCell ⟨g, 0, none⟩ p).setCell ⟨g, 1, none⟩ q).setCell ⟨g, 2, none⟩ r).setCell ⟨g, 3, none⟩ s).setCell ⟨g, 4, none⟩ u) := ((((h.setCell (p := ⟨g, 0, none⟩) hg p).setCell (p := ⟨g, 1, none⟩) hg q).setCell (p := ⟨g, 2, none⟩) hg r).setCell (p := ⟨g, 3, none⟩) hg s).setCell (p := ⟨g, 4, none⟩) hg u
set_option maxRecDepth 100000 in
set_option maxHeartbeats 4000000 in
theorem drawIsReader_is (w : World) (v : Value) (A : Option Addr) (cap : Nat) (code : List Int) (h : Code w v A cap code) :
    Calls Tryz.prog 44 #[v] w fun e w' => ∃ z : SReader, z.Fit ∧ e = .returned (.agg #[.int .i64 z.ident, .string z.name, .int .i64 z.joined, .int .i64 z.cls, .int .i64 z.fines]) ∧ Below w.heap.size w w' := by
  have hk := Blk.new w 25 #[.int .i64 0, .string ⟨#[]⟩, .int .i64 0, .int .i64 0, .int .i64 0]
  have hbz := below_alloc w (.cells #[.int .i64 0, .string ⟨#[]⟩, .int .i64 0, .int .i64 0, .int .i64 0] 25)
  have hcz := h.below hbz (Nat.le_refl _)
  have hgz : w.heap.size < (w.alloc (.cells #[.int .i64 0, .string ⟨#[]⟩, .int .i64 0, .int .i64 0, .int .i64 0] 25)).heap.size := by simp
  generalize hwz : w.alloc (.cells #[.int .i64 0, .string ⟨#[]⟩, .int .i64 0, .int .i64 0, .int .i64 0] 25) = wz at *
  obtain rfl := h.eq
  have HCZ := hide hcz; have HK := hide hk; have HZ := hide hbz; clear h hcz hk hbz
  go_enter Tryz.func44, Tryz.ntmps44
  go_upto_region 1 with fail
  (try simp only [hwz])
  clear hwz
  have HD := hide (DS.new HCZ.out)
  have hgw : wz.heap.size < (wz.alloc (.cells #[.slice A code.length cap, .int .i64 0, .int .u64 0] 83)).heap.size := by simp
  go_upto_region 2 with fail
  generalize hb0 : w.heap.size = b0 at *
  have HEQ := hide hb0
  generalize hgs : wz.heap.size = g at *
  generalize hw0 : wz.alloc (.cells #[.slice A code.length cap, .int .i64 0, .int .u64 0] 83) = w0 at *
  have HB0 := hide (Nat.le_of_lt hgw)
  go_wp2_with fail
  refine (amongD [1, 42, 999] HD.out (by rfl) (by rfl) (by rfl) (by simp) (by simp) (by omega)).mono ?_; rintro e w1 ⟨x1, rfl, hm, hD, hg⟩
  replace HD := hide hD; clear hD hg
  have b1 := (by decide : ∀ x ∈ ([1, 42, 999] : List Int), 0 ≤ x ∧ x ≤ 1000) _ hm; clear hm
  go_wp2_with fail
  refine (reader_is w0 _ g g _ A cap code HD.out x1 ⟨by omega, by omega⟩ (by omega)).mono ?_; rintro e w2 ⟨⟨zi, zr, zc, zs, zy⟩, rfl, hf, hD, hg⟩
  replace HD := hide hD; have HFT := hide hf; clear hD hg hf b1
  have hend : Below g wz w2 := by subst hw0 hgs; exact HD.out.end
  have K1 := HK.out.below hend hgz
  have HBF := hide (HZ.out.trans (hend.mono (by omega))); clear hend
  obtain ⟨c0, c1, c2, c3, c4⟩ := mk5 K1
  have cf := fun o => K1.frozen o
  have HK1 := hide K1; clear K1
  go_wp2_with fail
  have hF := ((((HK1.out.set 0 (.int .i64 zi)).set 1 (.string zr)).set 2 (.int .i64 zc)).set 3 (.int .i64 zs)).set 4 (.int .i64 zy)
  have f0 := hF.cell 0; have f1 := hF.cell 1; have f2 := hF.cell 2; have f3 := hF.cell 3; have f4 := hF.cell 4
  simp at f0 f1 f2 f3 f4
  exact bodyPost_ret (v := .agg #[.int .i64 zi, .string zr, .int .i64 zc, .int .i64 zs, .int .i64 zy]) (by simp [results, Tryz.results44, go_sem, f0, f1, f2, f3, f4]) rfl ⟨⟨zi, zr, zc, zs, zy⟩, HFT.out, rfl, by rw [HEQ.out]; exact below5D HBF.out (Nat.le_refl _) _ _ _ _ _⟩
set_option maxRecDepth 100000 in
set_option maxHeartbeats 4000000 in
theorem drawReaderText_is (w : World) (v : Value) (A : Option Addr) (cap : Nat) (code : List Int) (h : Code w v A cap code) :
    Calls Tryz.prog 6 #[v] w fun e w' => ∃ z : SReader, z.Fit ∧ e = .returned (.agg #[.int .i64 z.ident, .string z.name, .int .i64 z.joined, .int .i64 z.cls, .int .i64 z.fines]) ∧ Below w.heap.size w w' := by
  have hk := Blk.new w 25 #[.int .i64 0, .string ⟨#[]⟩, .int .i64 0, .int .i64 0, .int .i64 0]
  have hbz := below_alloc w (.cells #[.int .i64 0, .string ⟨#[]⟩, .int .i64 0, .int .i64 0, .int .i64 0] 25)
  have hcz := h.below hbz (Nat.le_refl _)
  have hgz : w.heap.size < (w.alloc (.cells #[.int .i64 0, .string ⟨#[]⟩, .int .i64 0, .int .i64 0, .int .i64 0] 25)).heap.size := by simp
  generalize hwz : w.alloc (.cells #[.int .i64 0, .string ⟨#[]⟩, .int .i64 0, .int .i64 0, .int .i64 0] 25) = wz at *
  obtain rfl := h.eq
  have HCZ := hide hcz; have HK := hide hk; have HZ := hide hbz; clear h hcz hk hbz
  go_enter Tryz.func6, Tryz.ntmps6
  go_upto_region 1 with fail
  (try simp only [hwz])
  clear hwz
  generalize hb0 : w.heap.size = b0 at *
  have HEQ := hide hb0
  go_wp2_with fail
  refine (drawIsReader_is wz _ A cap code HCZ.out).mono ?_; rintro e w1 ⟨⟨zi, zr, zc, zs, zy⟩, hf, rfl, hend⟩
  have HFT := hide hf; clear hf
  have K1 := HK.out.below hend hgz
  have HBF := hide (HZ.out.trans (hend.mono (by omega))); clear hend
  obtain ⟨c0, c1, c2, c3, c4⟩ := mk5 K1
  have cf := fun o => K1.frozen o
  have HK1 := hide K1; clear K1
  go_wp2_with fail
  have hF := ((((HK1.out.set 0 (.int .i64 zi)).set 1 (.string zr)).set 2 (.int .i64 zc)).set 3 (.int .i64 zs)).set 4 (.int .i64 zy)
  have f0 := hF.cell 0; have f1 := hF.cell 1; have f2 := hF.cell 2; have f3 := hF.cell 3; have f4 := hF.cell 4
  simp at f0 f1 f2 f3 f4
  exact bodyPost_ret (v := .agg #[.int .i64 zi, .string zr, .int .i64 zc, .int .i64 zs, .int .i64 zy]) (by simp [results, Tryz.results6, go_sem, f0, f1, f2, f3, f4]) rfl ⟨⟨zi, zr, zc, zs, zy⟩, HFT.out, rfl, by rw [HEQ.out]; exact below5D HBF.out (Nat.le_refl _) _ _ _ _ _⟩
set_option maxRecDepth 100000 in
set_option maxHeartbeats 4000000 in
theorem drawParseReader_is (w : World) (v : Value) (A : Option Addr) (cap : Nat) (code : List Int) (h : Code w v A cap code) :
    Calls Tryz.prog 11 #[v] w fun e w' => ∃ t : ByteArray, e = .returned (.string t) ∧ t.size ≤ 200 ∧ Below w.heap.size w w' := by
  have hD := DS.new h
  have HCO := hide (h.below (below_alloc w (.cells #[.slice A code.length cap, .int .i64 0, .int .u64 0] 83)) (Nat.le_refl _))
  obtain rfl := h.eq
  have HD := hide hD; clear hD h
  have hgw : w.heap.size < (w.alloc (.cells #[.slice A code.length cap, .int .i64 0, .int .u64 0] 83)).heap.size := by simp
  go_enter Tryz.func11, Tryz.ntmps11
  go_upto_region 2 with fail
  generalize hgs : w.heap.size = g at *
  generalize hw0 : w.alloc (.cells #[.slice A code.length cap, .int .i64 0, .int .u64 0] 83) = w0 at *
  have HB0 := hide (Nat.le_of_lt hgw)
  go_wp2_with fail
  refine (drawIsReader_is _ _ A cap code HCO.out).mono ?_; rintro e w1 ⟨⟨z0, z1, z2, z3, z4⟩, hf, rfl, hb⟩
  replace HD := hide (HD.out.below hb)
  have hwf : z1.size ≤ 9223372036854775807 := Nat.le_trans (SReader.Fit.wf hf).2.1 (by decide)
  have ct := fun W => ReaderTextS_is z0 z1 z2 z3 z4 W hwf
  have hz := textR_size ⟨z0, z1, z2, z3, z4⟩
  generalize (textR ⟨z0, z1, z2, z3, z4⟩).1 = tx at *
  generalize (textR ⟨z0, z1, z2, z3, z4⟩).2 = ok at *
  have CT := hide ct; have HSZ := hide hz; clear hf hb hwf ct hz
  go_wp2_with fail
  refine (CT.out _).mono ?_; rintro e w2 ⟨rfl, hb⟩
  replace HD := hide (HD.out.below hb); clear hb
  go_wp2_with fail
  refine (oneD 3 HD.out (by omega)).mono ?_; rintro e w8 ⟨x8, rfl, hD, hg⟩
  replace HD := hide hD; clear hD hg
  cases x8 with
  | false =>
    go_wp2_with fail
    go_ret
    subst hw0 hgs
    exact ⟨_, rfl, by have := HSZ.out; omega, HD.out.end⟩
  | true =>
    go_wp2_with fail
    refine (spoilt_is w0 _ g g _ A cap code HD.out tx ⟨#[48, 32, 99, 115, 49, 97, 111]⟩ (by have := HSZ.out; omega) (by decide) (by decide) (by omega)).mono ?_; rintro e w9 ⟨tt, rfl, htt, hD, hg⟩
    replace HD := hide hD; have HTT := hide htt; clear hD hg htt
    go_wp2_with fail
    go_ret
    subst hw0 hgs
    exact ⟨tt, rfl, by have := HTT.out; have := HSZ.out; omega, HD.out.end⟩
theorem results_tmp2_d {fn : Func} {t u : Tmp} (h : fn.results = #[.tmp t, .tmp u]) (tmps : Array Value) (P : Program) (w : World) :
    (results fn tmps).run P w = .ok (.tuple #[tmps.getD t undef, tmps.getD u undef]) w := by
  simp [results, h]
set_option maxRecDepth 100000 in
set_option maxHeartbeats 4000000 in
theorem drawOweMost_is (w : World) (v : Value) (A : Option Addr) (cap : Nat) (code : List Int) (h : Code w v A cap code) :
    Calls Tryz.prog 18 #[v] w fun e w' => ∃ (v : Value) (xs : List SReader) (x : Int), e = .returned (.tuple #[v, .int .i64 x]) ∧ (∀ z ∈ xs, z.Fit) ∧ xs.length ≤ 12 ∧ (-1 ≤ x ∧ x ≤ 11) ∧ Own 5 SReader.enc 25 w' w.heap.size v xs ∧ Below w.heap.size w w' := by
  have hD := DS.new h
  obtain rfl := h.eq
  have HD := hide hD; clear hD h
  have hgw : w.heap.size < (w.alloc (.cells #[.slice A code.length cap, .int .i64 0, .int .u64 0] 83)).heap.size := by simp
  go_enter Tryz.func18, Tryz.ntmps18
  go_wp2_with fail
  generalize hgs : w.heap.size = g at *
  generalize hw0 : w.alloc (.cells #[.slice A code.length cap, .int .i64 0, .int .u64 0] 83) = w0 at *
  have HB0 := hide (Nat.le_of_lt hgw)
  have HGS := hide HD.out.gr.size
  refine (readers_is w0 _ g g _ A cap code HD.out (by omega)).mono ?_; rintro e w1 ⟨v1, xs, rfl, hfit, hl, ho, hD, hg⟩
  replace HD := hide hD; clear hD hg
  have HX := hide (ownLow ho HGS.out); clear ho HGS
  have HWF := hide hfit; clear hfit
  have HB := hide (Blk.new w1 3 #[.int .i64 0, .int .i64 1, .int .i64 3, .int .i64 10, .int .i64 (-1), .int .i64 11])
  have hbs : g ≤ w1.heap.size := HD.out.sz
  replace HX := hide (HX.out.below (below_alloc w1 (.cells #[.int .i64 0, .int .i64 1, .int .i64 3, .int .i64 10, .int .i64 (-1), .int .i64 11] 3)))
  replace HD := hide (HD.out.alloc (.cells #[.int .i64 0, .int .i64 1, .int .i64 3, .int .i64 10, .int .i64 (-1), .int .i64 11] 3))
  go_wp2_with fail
  generalize hb0 : w1.heap.size = b0 at *
  generalize w1.alloc (.cells #[.int .i64 0, .int .i64 1, .int .i64 3, .int .i64 10, .int .i64 (-1), .int .i64 11] 3) = w2 at *
  refine (pickD 24 HD.out (by omega)).mono ?_; rintro e w3 ⟨x2, rfl, p2, q2, hD, hg⟩
  replace HB := hide (HD.out.blk HB.out hg (by decide))
  replace HX := hide (HD.out.own HX.out hg (by decide))
  replace HD := hide hD; clear hD hg
  have hs1 : g ≤ w3.heap.size := HD.out.sz
  have hdv : x2 / 11 = 0 ∨ x2 / 11 = 1 ∨ x2 / 11 = 2 := by omega
  rcases hdv with hdv | hdv | hdv
  · have hO := own_take (n := 4) (l := [0, 1, 3, 10, -1, 11]) HB.out hbs rfl (by decide) (by decide)
    have ha := among_is _ _ w3 g g _ A cap code hO (by decide) (by decide) HD.out.cur (by omega) hs1
    have HA := hide ha; clear ha hO
    go_wp2_with fail
    refine HA.out.mono ?_; rintro e w4 ⟨x3, rfl, hm, hC, hg⟩
    have hb3 := (by decide : ∀ x ∈ ([0, 1, 3, 10, -1, 11] : List Int), -1 ≤ x ∧ x ≤ 11) _ (List.mem_of_mem_take hm); clear hm
    replace HX := hide (HD.out.own HX.out hg (by decide))
    replace HD := hide (HD.out.next hC hg); clear hC hg
    go_wp2_with fail
    (try simp only [Exit.inBlock, Exit.then]); refine bodyPost_ret (results_tmp2_d rfl _ _ _) rfl ?_
    subst hw0 hgs
    exact ⟨_, _, _, rfl, HWF.out, hl, hb3, ownLow HX.out HB0.out, HD.out.end⟩
  · have hO := own_take (n := 5) (l := [0, 1, 3, 10, -1, 11]) HB.out hbs rfl (by decide) (by decide)
    have ha := among_is _ _ w3 g g _ A cap code hO (by decide) (by decide) HD.out.cur (by omega) hs1
    have HA := hide ha; clear ha hO
    go_wp2_with fail
    refine HA.out.mono ?_; rintro e w4 ⟨x3, rfl, hm, hC, hg⟩
    have hb3 := (by decide : ∀ x ∈ ([0, 1, 3, 10, -1, 11] : List Int), -1 ≤ x ∧ x ≤ 11) _ (List.mem_of_mem_take hm); clear hm
    replace HX := hide (HD.out.own HX.out hg (by decide))
    replace HD := hide (HD.out.next hC hg); clear hC hg
    go_wp2_with fail
    (try simp only [Exit.inBlock, Exit.then]); refine bodyPost_ret (results_tmp2_d rfl _ _ _) rfl ?_
    subst hw0 hgs
    exact ⟨_, _, _, rfl, HWF.out, hl, hb3, ownLow HX.out HB0.out, HD.out.end⟩
  · have hO := own_take (n := 6) (l := [0, 1, 3, 10, -1, 11]) HB.out hbs rfl (by decide) (by decide)
    have ha := among_is _ _ w3 g g _ A cap code hO (by decide) (by decide) HD.out.cur (by omega) hs1
    have HA := hide ha; clear ha hO
    go_wp2_with fail
    refine HA.out.mono ?_; rintro e w4 ⟨x3, rfl, hm, hC, hg⟩
    have hb3 := (by decide : ∀ x ∈ ([0, 1, 3, 10, -1, 11] : List Int), -1 ≤ x ∧ x ≤ 11) _ (List.mem_of_mem_take hm); clear hm
    replace HX := hide (HD.out.own HX.out hg (by decide))
    replace HD := hide (HD.out.next hC hg); clear hC hg
    go_wp2_with fail
    (try simp only [Exit.inBlock, Exit.then]); refine bodyPost_ret (results_tmp2_d rfl _ _ _) rfl ?_
    subst hw0 hgs
    exact ⟨_, _, _, rfl, HWF.out, hl, hb3, ownLow HX.out HB0.out, HD.out.end⟩
end Go.Proofs.YtplemibckjnbhaaGreatDoor
