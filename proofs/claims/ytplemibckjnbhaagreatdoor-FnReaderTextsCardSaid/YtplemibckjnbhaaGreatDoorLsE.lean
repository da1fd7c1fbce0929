/- The contract of spec's l1Read and ParseInt: the number of a text, where it is a numeral within bounds. No condition. (Printed by mkread1.py.) -/
import Derived.Test.YtplemibckjnbhaaGreatDoorLsD
import Derived.IntWalk
namespace Go.Proofs.YtplemibckjnbhaaGreatDoor
open Go.RowKit Go.Lib
set_option linter.unusedVariables false
/-- what a text parses to -/
def parseW (s : ByteArray) : Int × Bool := parseV s.data.toList
theorem pow_small {v k : Nat} (h : v < 10 ^ k) (hk : k ≤ 6) : v < 1000000 := Nat.lt_of_lt_of_le h (Nat.pow_le_pow_right (by decide) hk)
theorem read_no1 {s : ByteArray} {l : List UInt8} (hl : l = tOf s.data.toList) (h : ¬ (1 ≤ l.length ∧ l.length ≤ 6)) : parseW s = (0, false) := by
  refine parseV_no fun n hn e => h ?_
  rw [hl, ← e, (tOf_itoa n).1]
  exact ⟨List.length_pos_iff.2 (dec_ne _), (itoa_len hn).2⟩
theorem read_no2 {s : ByteArray} {l : List UInt8} {c : UInt8} (hl : l = tOf s.data.toList) (hc : c ∈ l) (h : ¬ (48 ≤ c.toNat ∧ c.toNat ≤ 57)) : parseW s = (0, false) := by
  refine parseV_no fun n hn e => h ?_
  rw [hl, ← e, (tOf_itoa n).1] at hc
  exact dec_dig _ c hc
theorem read_end {s : ByteArray} {l : List UInt8} {v : Nat} {n : Int} (hl : l = tOf s.data.toList) (h6 : l.length ≤ 6) (hd : decFrom 0 l = some v) (hn : (l.length < s.size ∧ n = -(v : Int)) ∨ (¬ l.length < s.size ∧ n = (v : Int))) :
    (numS n = s → parseW s = (n, true)) ∧ (¬ numS n = s → parseW s = (0, false)) := by
  constructor
  · intro h
    have hi : itoa n = s.data.toList := by rw [← h]; unfold numS; simp
    have h1 := (tOf_itoa n).1
    rw [hi, ← hl] at h1
    have h2 := dec_lo 6 n.natAbs (by rw [← h1]; exact h6)
    unfold parseW
    rw [← hi]
    exact parseV_yes (by omega)
  · intro h
    refine parseV_no fun m hm e => h ?_
    have h1 := tOf_itoa m
    rw [e, ← hl] at h1
    rw [h1.1, dec_val] at hd
    injection hd with hd
    have h2 := h1.2
    have hsl : s.data.toList.length = s.size := rfl
    rw [hsl] at h2
    have hnm : n = m := by
      rcases hn with ⟨h3, rfl⟩ | ⟨h3, rfl⟩
      · have := h2.1 h3; omega
      · have : ¬ m < 0 := fun h4 => h3 (h2.2 h4); omega
    rw [hnm]
    have : numS m = ⟨s.data.toList.toArray⟩ := by unfold numS; rw [e]
    rw [this]
theorem tail_eq (s : ByteArray) (h : 1 < s.size) (h0 : s.data.toList.head? = some 45) : (s.extract 1 s.size).data.toList = tOf s.data.toList := by
  unfold tOf
  rw [if_pos ⟨h, h0⟩]
  rw [ByteArray.data_extract, Array.toList_extract, List.extract_eq_take_drop, List.take_of_length_le (by rw [List.length_drop]; exact Nat.le_refl _), List.drop_one]
set_option maxRecDepth 100000 in
set_option maxHeartbeats 4000000 in
theorem l1Read_is (s : ByteArray) (w : World) (hm : s.size ≤ 1000000) :
    Calls Tryz.prog 58 #[.string s] w fun e w' => e = .returned (.tuple #[.int .i64 (parseW s).1, .bool (parseW s).2]) ∧ Below w.heap.size w w' := by
  by_cases h1 : 1 < s.size
  · have h1' : (1 : Int) < s.size := by omega
    have h0s : 0 < s.size := by omega
    have hhd : s.data.toList.head? = some s[0] := by
      rw [List.head?_eq_getElem?, List.getElem?_eq_getElem (show 0 < s.data.toList.length from h0s)]; rfl
    by_cases h45 : s[0] = 45
    · have hTl := tail_eq s h1 (by rw [hhd, h45])
      have hsz0 : (s.extract 1 s.size).size = s.size - 1 := by rw [ByteArray.size_extract]; omega
      have hc45 : ((s[0].toNat : Int) == 45) = true := by rw [h45]; rfl
      generalize hX : s.extract 1 s.size = t at *
      have hsz : t.data.toList.length < s.size := by show t.size < s.size; omega
      have hsz' : (t.size : Int) < s.size := by omega
      clear hhd h45 hsz0
      cases hin : inB t.size 1 6 with
      | false =>
        have hx : parseW s = (0, false) := read_no1 hTl (fun h => by rw [inB_iff.2 (by have e : t.data.toList.length = t.size := rfl; omega)] at hin; cases hin)
        have HX := hide hx; have HIN := hide hin; clear hx hin hTl
        go_enter Tryz.func58, Tryz.ntmps58
        go_wp2_with (go_at_call 75; refine (l1In_any _ _ _ _).mono ?_; rintro e w' ⟨rfl, rfl⟩; rw [HIN.out])
        go_ret2
        rw [HX.out]
        exact ⟨rfl, Below.refl _ _⟩
      | true =>
        have hb := inB_iff.1 hin
        have HTL := hide hTl; have HIN := hide hin; clear hTl hin
        have hlen : t.data.toList.length = t.size := rfl
        obtain ⟨hb1, hb2⟩ := hb
        go_enter Tryz.func58, Tryz.ntmps58
        go_wp2_with (go_at_call 75; refine (l1In_any _ _ _ _).mono ?_; rintro e w' ⟨rfl, rfl⟩; rw [HIN.out])
        go_loop [5, 6] (fun n i => ∃ (k v : Nat), k ≤ t.size ∧ i = .int .i64 k ∧ n = .int .i64 (v : Nat) ∧ decFrom 0 (t.data.toList.take k) = some v ∧ v < 10 ^ k) (fun _ i => t.size - (intOf i).toNat)
        case atStart => exact ⟨0, 0, Nat.zero_le _, rfl, rfl, rfl, by decide⟩
        case round =>
          obtain ⟨k, v, hk, rfl, rfl, hdec, hv⟩ := hrel
          have hv6 : v < 1000000 := pow_small hv (by omega)
          have HD := hide hdec; have HV := hide hv; clear hdec hv
          by_cases hlt : k < t.size
          · have hlt2 : k < t.data.toList.length := hlt
            have hg : t.data.toList[k] = t[k] := rfl
            have hmem : t[k] ∈ t.data.toList := hg ▸ List.getElem_mem hlt2
            have htk : t.data.toList.take (k + 1) = t.data.toList.take k ++ [t[k]] := by rw [take_snoc' hlt2]; rfl
            have HM := hide hmem; have HTK := hide htk; clear hmem htk hg
            by_cases hc : 48 ≤ (t[k].toNat : Int) ∧ (t[k].toNat : Int) ≤ 57
            · obtain ⟨hc1, hc2⟩ := hc
              have hnew : decFrom 0 (t.data.toList.take (k + 1)) = some (v * 10 + (t[k].toNat - 48)) := by
                rw [HTK.out, decFrom_app, HD.out]
                simp only [Option.bind_some, digitVal]
                rw [if_pos (by omega)]; rfl
              have hpow : v * 10 + (t[k].toNat - 48) < 10 ^ (k + 1) := by have := HV.out; rw [Nat.pow_succ]; omega
              have HN := hide hnew; have HP := hide hpow; clear hnew hpow
              have hsub : IntKind.u8.wrap ((t[k].toNat : Int) - 48) = (t[k].toNat : Int) - 48 := IntWalk.u8_in _ (by omega)
              go_wp2_with fail
              exact ⟨⟨k + 1, v * 10 + (t[k].toNat - 48), by omega, by go_num, by congr 1; omega, HN.out, HP.out⟩, by simp [intOf]; omega⟩
            · have hx : parseW s = (0, false) := read_no2 HTL.out HM.out (fun h => hc (by omega))
              have HX := hide hx; clear hx
              by_cases hc1 : (t[k].toNat : Int) < 48
              · clear hc
                go_wp2_with fail
                go_ret2
                rw [HX.out]
                exact ⟨rfl, Below.refl _ _⟩
              · have hc2 : (57 : Int) < t[k].toNat := by omega
                clear hc
                go_wp2_with fail
                go_ret2
                rw [HX.out]
                exact ⟨rfl, Below.refl _ _⟩
          · have hke : k = t.size := by omega
            have hall : decFrom 0 t.data.toList = some v := by
              have := HD.out
              rw [hke, ← hlen, List.take_length] at this; exact this
            have hend := read_end (n := -(v : Int)) HTL.out (by omega) hall (by exact .inl ⟨hsz, rfl⟩)
            have hcn := fun w => num_is (-(v : Int)) w (by omega) (by omega)
            have HE := hide hend; have HCN := hide hcn; have HK := hide hke; clear hend hcn hke hall
            by_cases he : numS (-(v : Int)) = s
            · have hx : parseW s = (-(v : Int), true) := HE.out.1 he
              have t1 : (s.toList == s.toList) = true := by simp
              rw [he] at HCN
              have HX := hide hx; clear hx he
              go_wp2_with (go_at_call 99; refine (HCN.out _).mono ?_; rintro e w1 ⟨rfl, hb⟩; have HB1 := hide hb; clear hb)
              go_ret2
              rw [HX.out]
              exact ⟨rfl, HB1.out⟩
            · have hx : parseW s = (0, false) := HE.out.2 he
              have t1 := ne_toList he
              generalize numS (-(v : Int)) = q at *
              have HX := hide hx; clear hx he
              go_wp2_with (go_at_call 99; refine (HCN.out _).mono ?_; rintro e w1 ⟨rfl, hb⟩; have HB1 := hide hb; clear hb)
              go_ret2
              rw [HX.out]
              exact ⟨rfl, HB1.out⟩
    · have hc45 : ((s[0].toNat : Int) == 45) = false := by
        simp only [beq_eq_false_iff_ne, ne_eq]
        intro h; exact h45 (UInt8.toNat_inj.1 (by show s[0].toNat = 45; omega))
      have hTl : s.data.toList = tOf s.data.toList := by
        unfold tOf; rw [if_neg]; rintro ⟨_, h⟩; rw [hhd] at h; exact h45 (Option.some.inj h)
      have hsz : ¬ s.data.toList.length < s.size := Nat.lt_irrefl _
      have hsz' : ¬ (s.size : Int) < s.size := by omega
      clear hhd h45
      cases hin : inB s.size 1 6 with
      | false =>
        have hx : parseW s = (0, false) := read_no1 hTl (fun h => by rw [inB_iff.2 (by have e : s.data.toList.length = s.size := rfl; omega)] at hin; cases hin)
        have HX := hide hx; have HIN := hide hin; clear hx hin hTl
        go_enter Tryz.func58, Tryz.ntmps58
        go_wp2_with (go_at_call 75; refine (l1In_any _ _ _ _).mono ?_; rintro e w' ⟨rfl, rfl⟩; rw [HIN.out])
        go_ret2
        rw [HX.out]
        exact ⟨rfl, Below.refl _ _⟩
      | true =>
        have hb := inB_iff.1 hin
        have HTL := hide hTl; have HIN := hide hin; clear hTl hin
        have hlen : s.data.toList.length = s.size := rfl
        obtain ⟨hb1, hb2⟩ := hb
        go_enter Tryz.func58, Tryz.ntmps58
        go_wp2_with (go_at_call 75; refine (l1In_any _ _ _ _).mono ?_; rintro e w' ⟨rfl, rfl⟩; rw [HIN.out])
        go_loop [5, 6] (fun n i => ∃ (k v : Nat), k ≤ s.size ∧ i = .int .i64 k ∧ n = .int .i64 (v : Nat) ∧ decFrom 0 (s.data.toList.take k) = some v ∧ v < 10 ^ k) (fun _ i => s.size - (intOf i).toNat)
        case atStart => exact ⟨0, 0, Nat.zero_le _, rfl, rfl, rfl, by decide⟩
        case round =>
          obtain ⟨k, v, hk, rfl, rfl, hdec, hv⟩ := hrel
          have hv6 : v < 1000000 := pow_small hv (by omega)
          have HD := hide hdec; have HV := hide hv; clear hdec hv
          by_cases hlt : k < s.size
          · have hlt2 : k < s.data.toList.length := hlt
            have hg : s.data.toList[k] = s[k] := rfl
            have hmem : s[k] ∈ s.data.toList := hg ▸ List.getElem_mem hlt2
            have htk : s.data.toList.take (k + 1) = s.data.toList.take k ++ [s[k]] := by rw [take_snoc' hlt2]; rfl
            have HM := hide hmem; have HTK := hide htk; clear hmem htk hg
            by_cases hc : 48 ≤ (s[k].toNat : Int) ∧ (s[k].toNat : Int) ≤ 57
            · obtain ⟨hc1, hc2⟩ := hc
              have hnew : decFrom 0 (s.data.toList.take (k + 1)) = some (v * 10 + (s[k].toNat - 48)) := by
                rw [HTK.out, decFrom_app, HD.out]
                simp only [Option.bind_some, digitVal]
                rw [if_pos (by omega)]; rfl
              have hpow : v * 10 + (s[k].toNat - 48) < 10 ^ (k + 1) := by have := HV.out; rw [Nat.pow_succ]; omega
              have HN := hide hnew; have HP := hide hpow; clear hnew hpow
              have hsub : IntKind.u8.wrap ((s[k].toNat : Int) - 48) = (s[k].toNat : Int) - 48 := IntWalk.u8_in _ (by omega)
              go_wp2_with fail
              exact ⟨⟨k + 1, v * 10 + (s[k].toNat - 48), by omega, by go_num, by congr 1; omega, HN.out, HP.out⟩, by simp [intOf]; omega⟩
            · have hx : parseW s = (0, false) := read_no2 HTL.out HM.out (fun h => hc (by omega))
              have HX := hide hx; clear hx
              by_cases hc1 : (s[k].toNat : Int) < 48
              · clear hc
                go_wp2_with fail
                go_ret2
                rw [HX.out]
                exact ⟨rfl, Below.refl _ _⟩
              · have hc2 : (57 : Int) < s[k].toNat := by omega
                clear hc
                go_wp2_with fail
                go_ret2
                rw [HX.out]
                exact ⟨rfl, Below.refl _ _⟩
          · have hke : k = s.size := by omega
            have hall : decFrom 0 s.data.toList = some v := by
              have := HD.out
              rw [hke, ← hlen, List.take_length] at this; exact this
            have hend := read_end (n := (v : Int)) HTL.out (by omega) hall (by exact .inr ⟨hsz, rfl⟩)
            have hcn := fun w => num_is ((v : Int)) w (by omega) (by omega)
            have HE := hide hend; have HCN := hide hcn; have HK := hide hke; clear hend hcn hke hall
            by_cases he : numS ((v : Int)) = s
            · have hx : parseW s = ((v : Int), true) := HE.out.1 he
              have t1 : (s.toList == s.toList) = true := by simp
              rw [he] at HCN
              have HX := hide hx; clear hx he
              go_wp2_with (go_at_call 99; refine (HCN.out _).mono ?_; rintro e w1 ⟨rfl, hb⟩; have HB1 := hide hb; clear hb)
              go_ret2
              rw [HX.out]
              exact ⟨rfl, HB1.out⟩
            · have hx : parseW s = (0, false) := HE.out.2 he
              have t1 := ne_toList he
              generalize numS ((v : Int)) = q at *
              have HX := hide hx; clear hx he
              go_wp2_with (go_at_call 99; refine (HCN.out _).mono ?_; rintro e w1 ⟨rfl, hb⟩; have HB1 := hide hb; clear hb)
              go_ret2
              rw [HX.out]
              exact ⟨rfl, HB1.out⟩
  · have h1' : ¬ (1 : Int) < s.size := by omega
    have hTl : s.data.toList = tOf s.data.toList := by
      unfold tOf; rw [if_neg]; rintro ⟨h, _⟩; exact h1 h
    have hsz : ¬ s.data.toList.length < s.size := Nat.lt_irrefl _
    have hsz' : ¬ (s.size : Int) < s.size := by omega
    cases hin : inB s.size 1 6 with
    | false =>
      have hx : parseW s = (0, false) := read_no1 hTl (fun h => by rw [inB_iff.2 (by have e : s.data.toList.length = s.size := rfl; omega)] at hin; cases hin)
      have HX := hide hx; have HIN := hide hin; clear hx hin hTl
      go_enter Tryz.func58, Tryz.ntmps58
      go_wp2_with (go_at_call 75; refine (l1In_any _ _ _ _).mono ?_; rintro e w' ⟨rfl, rfl⟩; rw [HIN.out])
      go_ret2
      rw [HX.out]
      exact ⟨rfl, Below.refl _ _⟩
    | true =>
      have hb := inB_iff.1 hin
      have HTL := hide hTl; have HIN := hide hin; clear hTl hin
      have hlen : s.data.toList.length = s.size := rfl
      obtain ⟨hb1, hb2⟩ := hb
      go_enter Tryz.func58, Tryz.ntmps58
      go_wp2_with (go_at_call 75; refine (l1In_any _ _ _ _).mono ?_; rintro e w' ⟨rfl, rfl⟩; rw [HIN.out])
      go_loop [5, 6] (fun n i => ∃ (k v : Nat), k ≤ s.size ∧ i = .int .i64 k ∧ n = .int .i64 (v : Nat) ∧ decFrom 0 (s.data.toList.take k) = some v ∧ v < 10 ^ k) (fun _ i => s.size - (intOf i).toNat)
      case atStart => exact ⟨0, 0, Nat.zero_le _, rfl, rfl, rfl, by decide⟩
      case round =>
        obtain ⟨k, v, hk, rfl, rfl, hdec, hv⟩ := hrel
        have hv6 : v < 1000000 := pow_small hv (by omega)
        have HD := hide hdec; have HV := hide hv; clear hdec hv
        by_cases hlt : k < s.size
        · have hlt2 : k < s.data.toList.length := hlt
          have hg : s.data.toList[k] = s[k] := rfl
          have hmem : s[k] ∈ s.data.toList := hg ▸ List.getElem_mem hlt2
          have htk : s.data.toList.take (k + 1) = s.data.toList.take k ++ [s[k]] := by rw [take_snoc' hlt2]; rfl
          have HM := hide hmem; have HTK := hide htk; clear hmem htk hg
          by_cases hc : 48 ≤ (s[k].toNat : Int) ∧ (s[k].toNat : Int) ≤ 57
          · obtain ⟨hc1, hc2⟩ := hc
            have hnew : decFrom 0 (s.data.toList.take (k + 1)) = some (v * 10 + (s[k].toNat - 48)) := by
              rw [HTK.out, decFrom_app, HD.out]
              simp only [Option.bind_some, digitVal]
              rw [if_pos (by omega)]; rfl
            have hpow : v * 10 + (s[k].toNat - 48) < 10 ^ (k + 1) := by have := HV.out; rw [Nat.pow_succ]; omega
            have HN := hide hnew; have HP := hide hpow; clear hnew hpow
            have hsub : IntKind.u8.wrap ((s[k].toNat : Int) - 48) = (s[k].toNat : Int) - 48 := IntWalk.u8_in _ (by omega)
            go_wp2_with fail
            exact ⟨⟨k + 1, v * 10 + (s[k].toNat - 48), by omega, by go_num, by congr 1; omega, HN.out, HP.out⟩, by simp [intOf]; omega⟩
          · have hx : parseW s = (0, false) := read_no2 HTL.out HM.out (fun h => hc (by omega))
            have HX := hide hx; clear hx
            by_cases hc1 : (s[k].toNat : Int) < 48
            · clear hc
              go_wp2_with fail
              go_ret2
              rw [HX.out]
              exact ⟨rfl, Below.refl _ _⟩
            · have hc2 : (57 : Int) < s[k].toNat := by omega
              clear hc
              go_wp2_with fail
              go_ret2
              rw [HX.out]
              exact ⟨rfl, Below.refl _ _⟩
        · have hke : k = s.size := by omega
          have hall : decFrom 0 s.data.toList = some v := by
            have := HD.out
            rw [hke, ← hlen, List.take_length] at this; exact this
          have hend := read_end (n := (v : Int)) HTL.out (by omega) hall (by exact .inr ⟨hsz, rfl⟩)
          have hcn := fun w => num_is ((v : Int)) w (by omega) (by omega)
          have HE := hide hend; have HCN := hide hcn; have HK := hide hke; clear hend hcn hke hall
          by_cases he : numS ((v : Int)) = s
          · have hx : parseW s = ((v : Int), true) := HE.out.1 he
            have t1 : (s.toList == s.toList) = true := by simp
            rw [he] at HCN
            have HX := hide hx; clear hx he
            go_wp2_with (go_at_call 99; refine (HCN.out _).mono ?_; rintro e w1 ⟨rfl, hb⟩; have HB1 := hide hb; clear hb)
            go_ret2
            rw [HX.out]
            exact ⟨rfl, HB1.out⟩
          · have hx : parseW s = (0, false) := HE.out.2 he
            have t1 := ne_toList he
            generalize numS ((v : Int)) = q at *
            have HX := hide hx; clear hx he
            go_wp2_with (go_at_call 99; refine (HCN.out _).mono ?_; rintro e w1 ⟨rfl, hb⟩; have HB1 := hide hb; clear hb)
            go_ret2
            rw [HX.out]
            exact ⟨rfl, HB1.out⟩
end Go.Proofs.YtplemibckjnbhaaGreatDoor
