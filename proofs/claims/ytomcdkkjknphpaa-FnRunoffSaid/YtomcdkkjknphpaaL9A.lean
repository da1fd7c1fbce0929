/- Contracts of the test of a relief, in impl and spec: the Lean function reliefB. No condition. -/
import Derived.Test.YtomcdkkjknphpaaStGrid
import Derived.Test.YtomcdkkjknphpaaL1
namespace Go.Proofs.Ytomcdkkjknphpaa
open Go.RowKit
set_option linter.unusedVariables false
def hdLen (xss : List (List Int)) : Nat := (xss.headD []).length
def rowB (m : Nat) (r : List Int) : Bool := (r.length == m) && (inB r.length 1 8 && r.all fun h => inB h 0 9999)
def reliefB (xss : List (List Int)) : Bool := inB xss.length 1 8 && xss.all (rowB (hdLen xss))
theorem relief_no {xss : List (List Int)} {i : Nat} (hi : i < xss.length) (h : rowB (hdLen xss) xss[i] = false) : reliefB xss = false := by
  unfold reliefB
  rw [Bool.and_eq_false_iff]; right
  rw [List.all_eq_false]
  exact ⟨xss[i], List.getElem_mem hi, by rw [h]; simp⟩
theorem hdLen_eq {xss : List (List Int)} (h : 0 < xss.length) : hdLen xss = xss[0].length := by
  unfold hdLen
  cases xss with
  | nil => simp at h
  | cons a l => rfl
set_option maxHeartbeats 1000000 in
theorem l9Good_is (v : Value) (xss : List (List Int)) (w : World) (h : IsG w v xss) :
    Calls Try.prog 55 #[v] w fun e w' => e = .returned (.bool (reliefB xss)) ∧ Below w.heap.size w w' := by
  obtain ⟨rs, hmap, his, hrs⟩ := h
  have hlen := his.len
  obtain ⟨A, cap, rfl, hr, _, _⟩ := his
  have hxl : xss.length = rs.length := by rw [← hmap]; simp
  by_cases h0 : inB rs.length 1 8 = true
  case neg =>
    rw [Bool.not_eq_true] at h0
    rw [show reliefB xss = false by unfold reliefB; rw [hxl, h0]; rfl]
    have hin := fun W => l1In_any (rs.length : Int) 1 8 W
    rw [h0] at hin
    have HIN := hide hin; clear hin h0 hr hrs hmap hxl
    go_enter Try.func55, Try.ntmps55
    go_wp2_with fail
    refine (HIN.out _).mono ?_; rintro e w' ⟨rfl, rfl⟩
    go_wp2_with fail
    go_ret
    exact ⟨rfl, Below.refl _ _⟩
  have h08 := inB_iff.1 h0
  have hin := fun W => l1In_any (rs.length : Int) 1 8 W
  rw [h0] at hin
  have hpos : 0 < rs.length := by omega
  have hpos' : (0 : Int) < rs.length := by omega
  have hd : hdLen xss = rs[0].xs.length := by rw [hdLen_eq (by omega)]; simp [← hmap]
  have hget : ∀ i, (hi : i < rs.length) → ∃ h : i < xss.length, xss[i] = rs[i].xs := fun i hi => ⟨by omega, by simp [← hmap]⟩
  have hrel : reliefB xss = xss.all (rowB (hdLen xss)) := by unfold reliefB; rw [hxl, h0]; rfl
  generalize hB : w.heap.size = B at hr hrs
  have HB := hide hB; have HIN := hide hin; have HR := hide hr; have HRS := hide hrs; have HXL := hide hxl; have HD := hide hd; have HGET := hide hget; have HREL := hide hrel
  clear hin hr hrs hxl hd hget hrel h0 hmap
  go_enter Try.func55, Try.ntmps55
  go_wp2_with fail
  refine (HIN.out _).mono ?_; rintro e w' ⟨rfl, rfl⟩
  go_wp2_with fail
  go_loopw [3] (fun i wr => ∃ (k : Nat), k ≤ rs.length ∧ i = .int .i64 k ∧ (xss.take k).all (rowB (hdLen xss)) = true ∧ Below B w wr) (fun i _ => rs.length - (intOf i).toNat)
  case atStart => exact ⟨0, Nat.zero_le _, rfl, by simp, by rw [← hB]; exact Below.refl _ _⟩
  case round =>
    obtain ⟨i, hi, rfl, hall, hbel0⟩ := hrel
    have HALL := hide hall; clear hall
    have hsz0 : B ≤ wr.heap.size := by have := hbel0.size; rw [hB] at this; exact this
    by_cases hlt : i < rs.length
    · have hlt' : (i : Int) < rs.length := by omega
      obtain ⟨hix, hxe⟩ := HGET.out i hlt
      obtain ⟨b, off, rfl, hb, c0⟩ := SRow.cell HR.out hlt hbel0
      obtain ⟨b', off', hA, hb', d0⟩ := SRow.cell HR.out hpos hbel0
      injection hA with hA; injection hA with hA1 hA2; subst hA1 hA2
      rw [Nat.add_zero] at d0
      have hrow : rowB (hdLen xss) xss[i] = ((rs[i].xs.length == rs[0].xs.length) && (inB rs[i].xs.length 1 8 && rs[i].xs.all fun h => inB h 0 9999)) := by rw [HD.out, hxe]; rfl
      have hno := relief_no hix
      have hok := HRS.out rs[i] (List.getElem_mem hlt)
      have hml : rs[i].xs.length ≤ 9223372036854775807 := by have := hok.2.1; have := hok.2.2; simp only [maxLen] at *; omega
      have htk : (xss.take (i + 1)).all (rowB (hdLen xss)) = ((xss.take i).all (rowB (hdLen xss)) && rowB (hdLen xss) xss[i]) := all_take_succ hix
      have hcellI := fun W (hW : Below B w W) => SRow.cell HR.out hlt hW
      have HCI := hide hcellI; have HTK := hide htk; clear hcellI htk
      generalize rowB (hdLen xss) xss[i] = rw1 at *
      generalize rs[0].A = A0 at *; generalize rs[0].xs = ys0 at *; generalize rs[0].cap = cp0 at *
      generalize hry : rs[i] = ry at *
      obtain ⟨ys, Ay, cy⟩ := ry
      simp only at c0 hrow hml hok HCI
      have HOK := hide hok; clear hok hxe hry
      have n0 := fun n => later_cell c0 n; have m0 := fun n => later_cell d0 n
      by_cases hq : ys.length = ys0.length
      case neg =>
        have hq2 : (ys.length == ys0.length) = false := beq_false_of_ne hq
        have hq3 : ((ys.length : Int) != (ys0.length : Int)) = true := by simp [bne]; omega
        rw [hq2, Bool.false_and] at hrow
        have HN := hide (hno hrow); clear hno hrow hq hq2
        go_wp2_with fail
        (refine wp_region_later (by kernel_rfl) (by kernel_rfl) ?_; (repeat (go_big_quiet_step (fail))); refine wpQuiet_nil ?_; intro _ hw'; obtain ⟨nq, hw''⟩ := hw'; subst hw'')
        have B3 := bstep hbel0 nq.h hsz0
        go_wp2_with fail
        go_ret
        exact ⟨ret_bool HN.out.symm, B3⟩
      have hq2 : (ys.length == ys0.length) = true := beq_iff_eq.2 hq
      have hq3 : ((ys.length : Int) != (ys0.length : Int)) = false := by simp [bne]; omega
      rw [hq2, Bool.true_and] at hrow
      have hin2 := fun W => l1In_any (ys.length : Int) 1 8 W
      generalize inB ys.length 1 8 = iv at hin2 hrow
      have HIN2 := hide hin2; clear hin2 hq hq2
      cases iv with
      | false =>
        rw [Bool.false_and] at hrow
        have HN := hide (hno hrow); clear hno hrow
        go_wp2_with fail
        (refine wp_region_later (by kernel_rfl) (by kernel_rfl) ?_; (repeat (go_big_quiet_step ((go_at_call 83; exact later_same (HIN2.out _))))); refine wpQuiet_nil ?_; intro _ hw'; obtain ⟨nq, hw''⟩ := hw'; subst hw'')
        have B3 := bstep hbel0 nq.h hsz0
        go_wp2_with fail
        go_ret
        exact ⟨ret_bool HN.out.symm, B3⟩
      | true =>
        rw [Bool.true_and] at hrow
        have HNO := hide hno; have HROW := hide hrow; clear hno hrow
        go_wp2_with fail
        (refine wp_region_later (by kernel_rfl) (by kernel_rfl) ?_; (repeat (go_big_quiet_step ((go_at_call 83; exact later_same (HIN2.out _))))); refine wpQuiet_nil ?_; intro _ hw'; obtain ⟨nq, hw''⟩ := hw'; subst hw'')
        have B3 := bstep hbel0 nq.h hsz0
        generalize nq.W = W3 at B3
        clear nq n0 m0 c0 d0
        go_wp2_with fail
        go_loopw [4] (fun c wx => ∃ k : Nat, k ≤ ys.length ∧ c = .int .i64 (k : Int) ∧ (ys.take k).all (fun h => inB h 0 9999) = true ∧ Below B w wx) (fun c _ => ys.length - (intOf c).toNat)
        case atStart => exact ⟨0, Nat.zero_le _, rfl, by simp, B3⟩
        case round =>
          obtain ⟨k, hk, rfl, hcl, hbel⟩ := hrel
          have HCL := hide hcl; clear hcl
          have hsz : B ≤ wr.heap.size := by have := hbel.size; rw [hB] at this; exact this
          obtain ⟨b', off', hA, hb', c0⟩ := HCI.out _ hbel
          injection hA with hA; injection hA with hA1 hA2; subst hA1 hA2
          by_cases hlk : k < ys.length
          · have hlk' : (k : Int) < ys.length := by omega
            obtain ⟨b2, off2, rfl, hb2, e0⟩ := Ints.cells HOK.out.1 hlk hbel
            have hst : (ys.take (k + 1)).all (fun h => inB h 0 9999) = ((ys.take k).all (fun h => inB h 0 9999) && inB ys[k] 0 9999) := all_take_succ hlk
            have hmem := List.getElem_mem hlk
            generalize ys[k] = y at *
            have hin3 := fun W => l1In_any y 0 9999 W
            have hnv : inB y 0 9999 = false → reliefB xss = false := fun h => HNO.out (by rw [HROW.out, List.all_eq_false]; exact ⟨y, hmem, by rw [h]; simp⟩)
            have HNV := hide hnv; clear hnv
            generalize inB y 0 9999 = yv at *
            have HIN3 := hide hin3; have HST := hide hst; clear hin3 hst hmem
            cases yv with
            | false =>
              have HN := hide (HNV.out rfl)
              go_wp2_with fail
              refine (HIN3.out _).mono ?_; rintro e w' ⟨rfl, rfl⟩
              go_wp2_with fail
              go_ret
              exact ⟨ret_bool HN.out.symm, hbel⟩
            | true =>
              go_wp2_with fail
              refine (HIN3.out _).mono ?_; rintro e w' ⟨rfl, rfl⟩
              go_wp2_with fail
              go_round
              case measure => (simp [intOf] <;> omega)
              case rel => exact ⟨k + 1, by omega, by go_num, by rw [HST.out, HCL.out]; rfl, hbel⟩
          · have hkk : k = ys.length := by omega
            have hrt : rw1 = true := by rw [HROW.out]; have := HCL.out; rw [hkk, List.take_length] at this; exact this
            have HRT := hide hrt; have HKK := hide hkk; clear hrt hkk
            go_wp2_with fail
            go_round
            case measure => (simp [intOf] <;> omega)
            case rel => exact ⟨i + 1, by omega, by go_num, by rw [HTK.out, HALL.out, HRT.out]; rfl, hbel⟩
    · have hk : i = rs.length := by omega
      have hg : reliefB xss = true := by rw [HREL.out]; have := HALL.out; rw [hk, ← HXL.out, List.take_length] at this; exact this
      have HG := hide hg; have HK := hide hk; clear hg hk
      go_wp2_with fail
      go_ret
      exact ⟨ret_bool HG.out.symm, hbel0⟩
theorem specIsRelief_any (v : Value) (xss : List (List Int)) (w : World) (h : IsG w v xss) :
    Calls Try.prog 16 #[v] w fun e w' => e = .returned (.bool (reliefB xss)) ∧ Below w.heap.size w w' := by
  have HG := hide (l9Good_is v xss w h); clear h
  go_enter Try.func16, Try.ntmps16
  go_wp2_with fail
  refine HG.out.mono ?_; rintro e w1 ⟨rfl, hb1⟩
  go_wp2_with fail
  go_ret
  exact ⟨rfl, hb1⟩
theorem notHigh_any (h : Int) (w : World) : Calls Try.prog 61 #[.int .i64 h] w fun e w' => e = .returned (.bool (!inB h 0 9999)) ∧ w = w' := by
  go_enter Try.func61, Try.ntmps61
  go_wp2_with (first | (go_at_call 57; refine (within_any _ _ _ _).mono ?_; rintro e w' ⟨rfl, rfl⟩))
  go_ret
  exact ⟨rfl, rfl⟩
def badRow (m : Nat) (r : List Int) : Bool := (r.length != m) || r.any fun h => !inB h 0 9999
set_option maxHeartbeats 1000000 in
theorem relief1_any (b : Nat) (v : Value) (xss : List (List Int)) (r : SRow) (w : World) (hc : w.cell? ⟨b, 0, none⟩ = some v) (h : IsG w v xss) (hne : 0 < xss.length) (hr : r.ok w w.heap.size) :
    Calls Try.prog 59 #[.slice r.A r.xs.length r.cap, .pointer (some ⟨b, 0, none⟩)] w fun e w' => e = .returned (.bool (badRow (hdLen xss) r.xs)) ∧ Below w.heap.size w w' := by
  obtain ⟨rs, hmap, his, hrs⟩ := h
  have hlen := his.len
  obtain ⟨A, cap, rfl, hrow, _, _⟩ := his
  have hxl : xss.length = rs.length := by rw [← hmap]; simp
  have hpos : 0 < rs.length := by omega
  have hpos' : (0 : Int) < rs.length := by omega
  have hd : hdLen xss = rs[0].xs.length := by rw [hdLen_eq (by omega)]; simp [← hmap]
  obtain ⟨b0, off, rfl, hb, d0⟩ := SRow.cell hrow hpos (Below.refl _ _)
  rw [Nat.add_zero] at d0
  rw [hd]
  have hcall := ContainsFuncI_any 61 #[] (fun h => !inB h 0 9999) r.A r.cap r.xs w hr.1 hr.is.len (fun _ _ => by kernel_rfl) (fun W c hb => (notHigh_any c W).mono fun e w' ⟨h1, h2⟩ => ⟨h1, h2 ▸ hb⟩)
  have hl1 := hr.is.len
  unfold badRow
  generalize rs[0].A = A0 at *; generalize rs[0].xs = ys0 at *; generalize rs[0].cap = cp0 at *
  generalize r.A = Ay at *; generalize r.xs = ys at *; generalize r.cap = cy at *
  have HC := hide hcall; clear hcall hr hrs hmap hd hrow hxl hne
  by_cases hq : ys.length = ys0.length
  · have hq2 : (ys.length != ys0.length) = false := by simp [hq]
    have hq3 : ((ys.length : Int) != (ys0.length : Int)) = false := by simp [hq]
    rw [hq2, Bool.false_or]
    have HQ := hide hq; clear hq hq2
    go_enter Try.func59, Try.ntmps59
    go_wp2_with (go_at_call 60; refine HC.out.mono ?_; rintro e w1 ⟨rfl, hb1⟩)
    go_ret
    exact ⟨rfl, hb1⟩
  · have hq2 : (ys.length != ys0.length) = true := by simp [bne, hq]
    have hq3 : ((ys.length : Int) != (ys0.length : Int)) = true := by simp [bne]; omega
    rw [hq2, Bool.true_or]
    have HQ := hide hq; clear hq hq2
    go_enter Try.func59, Try.ntmps59
    go_wp2_with fail
    go_ret
    exact ⟨rfl, Below.refl _ _⟩
set_option maxHeartbeats 1000000 in
theorem implIsRelief_any (v : Value) (xss : List (List Int)) (w : World) (h : IsG w v xss) :
    Calls Try.prog 18 #[v] w fun e w' => e = .returned (.bool (reliefB xss)) ∧ Below w.heap.size w w' := by
  have HIG := hide h
  have B0 := below_alloc w (.cells #[v] 22)
  have hbox : ∀ W, Below (w.heap.size + 1) (w.alloc (.cells #[v] 22)) W → W.cell? ⟨w.heap.size, 0, none⟩ = some v := fun W hb => by
    rw [hb.cell (p := ⟨w.heap.size, 0, none⟩) (by simp), (Blk.new w _ _).cell]; rfl
  obtain ⟨rs, hmap, his, hrs⟩ := h.below B0 (Nat.le_refl _)
  have hlen := his.len
  obtain ⟨A, cap, rfl, hrow, _, _⟩ := his
  have hxl : xss.length = rs.length := by rw [← hmap]; simp
  have c0 := hbox _ (Below.refl _ _)
  have HBX := hide hbox; clear hbox
  have hin := fun W => within_any (rs.length : Int) 1 8 W
  by_cases h0 : inB rs.length 1 8 = true
  case neg =>
    rw [Bool.not_eq_true] at h0
    rw [show reliefB xss = false by unfold reliefB; rw [hxl, h0]; rfl]
    rw [h0] at hin
    have HIN := hide hin; clear hin h0 hrow hrs hmap hxl
    go_enter Try.func18, Try.ntmps18
    go_wp2_with fail
    refine (HIN.out _).mono ?_; rintro e w' ⟨rfl, rfl⟩
    go_wp2_with fail
    go_ret
    exact ⟨rfl, B0⟩
  have h08 := inB_iff.1 h0
  rw [h0] at hin
  have hpos : 0 < rs.length := by omega
  have hpos' : (0 : Int) < rs.length := by omega
  have hpx : 0 < xss.length := by omega
  have hd : hdLen xss = rs[0].xs.length := by rw [hdLen_eq hpx]; simp [← hmap]
  obtain ⟨b0, off, rfl, hb, d0⟩ := SRow.cell hrow hpos (Below.refl _ _)
  rw [Nat.add_zero] at d0
  have hin2 := fun W => within_any (rs[0].xs.length : Int) 1 8 W
  have hl0 := ((hrs rs[0] (List.getElem_mem hpos)).is).len
  by_cases h1 : inB (hdLen xss) 1 8 = true
  case neg =>
    rw [Bool.not_eq_true] at h1
    have hno : reliefB xss = false := relief_no hpx (by unfold rowB; rw [hdLen_eq hpx] at h1 ⊢; rw [h1, Bool.false_and, Bool.and_false])
    rw [hno]
    rw [hd] at h1
    rw [h1] at hin2
    have HIN := hide hin; have HIN2 := hide hin2
    generalize rs[0].A = A0 at *; generalize rs[0].xs = ys0 at *; generalize rs[0].cap = cp0 at *
    clear hin hin2 h0 h1 hrow hrs hmap hxl hd hno hpx
    go_enter Try.func18, Try.ntmps18
    go_wp2_with fail
    refine (HIN.out _).mono ?_; rintro e w' ⟨rfl, rfl⟩
    go_wp2_with fail
    refine (HIN2.out _).mono ?_; rintro e w' ⟨rfl, rfl⟩
    go_wp2_with fail
    go_ret
    exact ⟨rfl, B0⟩
  have hres : reliefB xss = !(rs.any fun r => badRow (hdLen xss) r.xs) := by
    unfold reliefB
    rw [hxl, h0, Bool.true_and]
    rw [Bool.eq_iff_iff, Bool.not_eq_true', List.all_eq_true, List.any_eq_false]
    constructor
    · intro hx r hr
      have := hx r.xs (by rw [← hmap]; exact List.mem_map.2 ⟨r, hr, rfl⟩)
      unfold rowB at this
      rw [Bool.and_eq_true, Bool.and_eq_true] at this
      unfold badRow
      rw [Bool.not_eq_true, Bool.or_eq_false_iff]
      refine ⟨by simp only [bne, this.1]; rfl, ?_⟩
      rw [List.any_eq_false]
      intro y hy
      have := List.all_eq_true.1 this.2.2 y hy
      rw [this]; simp
    · intro hx l hl
      rw [← hmap] at hl
      obtain ⟨r, hr, rfl⟩ := List.mem_map.1 hl
      have := hx r hr
      unfold badRow at this
      rw [Bool.not_eq_true, Bool.or_eq_false_iff] at this
      have he : (r.xs.length == hdLen xss) = true := by
        have h5 := this.1
        cases hz : (r.xs.length == hdLen xss) with
        | true => rfl
        | false => simp [bne, hz] at h5
      unfold rowB
      rw [he, Bool.true_and, beq_iff_eq.1 he, h1, Bool.true_and, List.all_eq_true]
      intro y hy
      have h6 := List.any_eq_false.1 this.2 y hy
      simpa using h6
  rw [hres]
  rw [hd] at h1
  rw [h1] at hin2
  have hp : PredG 59 #[.pointer (some ⟨w.heap.size, 0, none⟩)] (badRow (hdLen xss)) (w.alloc (.cells #[.slice (some ⟨b0, off, none⟩) rs.length cap] 22)).heap.size (w.alloc (.cells #[.slice (some ⟨b0, off, none⟩) rs.length cap] 22)) := fun W r hb hok =>
    (relief1_any w.heap.size _ xss r W (HBX.out W (hb.mono (by simp))) (HIG.out.below (B0.trans (hb.mono B0.size)) (Nat.le_refl _)) hpx (hok.below hb hb.size)).mono fun e w' ⟨h1, h2⟩ => ⟨h1, bstep hb h2 hb.size⟩
  have hcall := ContainsFuncG_any 59 #[.pointer (some ⟨w.heap.size, 0, none⟩)] (badRow (hdLen xss)) _ cap rs _ hrow hrs hlen (fun _ _ => by kernel_rfl) hp
  have HIN := hide hin; have HIN2 := hide hin2; have HC := hide hcall
  generalize rs.any (fun r => badRow (hdLen xss) r.xs) = anyb at HC ⊢
  generalize rs[0].A = A0 at *; generalize rs[0].xs = ys0 at *; generalize rs[0].cap = cp0 at *
  clear hin hin2 h0 h1 hrow hrs hmap hxl hd hpx hres hp hcall
  go_enter Try.func18, Try.ntmps18
  go_wp2_with fail
  refine (HIN.out _).mono ?_; rintro e w' ⟨rfl, rfl⟩
  go_wp2_with fail
  refine (HIN2.out _).mono ?_; rintro e w' ⟨rfl, rfl⟩
  go_wp2_with fail
  refine HC.out.mono ?_; rintro e w1 ⟨rfl, hb1⟩
  go_wp2_with fail
  go_ret
  exact ⟨rfl, bstep B0 hb1 B0.size⟩
end Go.Proofs.Ytomcdkkjknphpaa
