/- The plain law of FnStrings: a number's text parses back; a sealed text verifies, and one changed byte is told. Nothing here speaks of the program. (Printed by mkfnstrings.py.) -/
import Derived.Test.YtplemibckjnbhaaDoorLsF
import Derived.Test.YtplemibckjnbhaaDoorDrS
namespace Go.Proofs.YtplemibckjnbhaaDoor
open Go.RowKit Go.Lib
set_option linter.unusedVariables false
theorem bytes_eq {a b : ByteArray} (h : a.data.toList = b.data.toList) : a = b := by cases a; cases b; simp_all
theorem sealW_eq (s : ByteArray) : (sealW s).1.data.toList = (sealV s.data.toList).1 ∧ (sealW s).2 = (sealV s.data.toList).2 := by
  unfold sealW sealV
  have hb : badS s = true ↔ (35 ∈ s.data.toList ∨ 4000 < (sealB s.data.toList).length) := by
    unfold badS hasB
    rw [Bool.or_eq_true, decide_eq_true_iff, decide_eq_true_iff, sealS_size]
    constructor
    · rintro (h | h)
      · exact .inl h
      · exact .inr (by omega)
    · rintro (h | h)
      · exact .inl h
      · exact .inr (by omega)
  by_cases h : badS s = true
  · rw [if_pos h, if_pos (hb.1 h)]; exact ⟨rfl, rfl⟩
  · rw [if_neg h, if_neg (fun h2 => h (hb.2 h2))]; exact ⟨sealS_eq s, rfl⟩
theorem verW_eq (s : ByteArray) : (verW s).1.data.toList = (verV s.data.toList).1 ∧ (verW s).2 = (verV s.data.toList).2 := by
  unfold verW verV
  have hq := sealW_eq (headS s)
  rw [headS_eq] at hq
  have hc : sealW (headS s) = (s, true) ↔ sealV (headB s.data.toList) = (s.data.toList, true) := by
    constructor
    · intro h
      rw [h] at hq
      exact Prod.ext hq.1.symm hq.2.symm
    · intro h
      rw [h] at hq
      exact Prod.ext (bytes_eq hq.1) hq.2
  by_cases h : sealW (headS s) = (s, true)
  · rw [if_pos h, if_pos (hc.1 h)]; exact ⟨headS_eq s, rfl⟩
  · rw [if_neg h, if_neg (fun h2 => h (hc.2 h2))]; exact ⟨rfl, rfl⟩
/-- a sealed text verifies; with one changed byte it does not -/
theorem seal_law {x : ByteArray} (h : (sealW x).2 = true) : verW (sealW x).1 = (x, true) ∧ ∀ (k : Nat) (c : UInt8) (hk : k < (sealW x).1.size), c ≠ (sealW x).1[k] → (verW ⟨((sealW x).1.data.toList.set k c).toArray⟩).2 = false := by
  have hq := sealW_eq x
  have hs : sealV x.data.toList = ((sealW x).1.data.toList, true) := Prod.ext hq.1.symm (hq.2.symm.trans h)
  refine ⟨?_, fun k c hk hc => ?_⟩
  · have hv := verW_eq (sealW x).1
    rw [ver_seal hs] at hv
    exact Prod.ext (bytes_eq hv.1) hv.2
  · have hv := verW_eq ⟨((sealW x).1.data.toList.set k c).toArray⟩
    rw [hv.2]
    exact ver_change hs (k := k) hk hc
theorem seal_no {x : ByteArray} (h : (sealW x).2 = false) : (sealW x).1 = ⟨#[]⟩ := by
  unfold sealW at *
  split at h
  · next hb => rw [if_pos hb]
  · cases h
theorem seal_sz {x : ByteArray} (hx : x.size ≤ 4000) (h : (sealW x).2 = true) : 1 ≤ (sealW x).1.size ∧ (sealW x).1.size ≤ 5000 := by
  unfold sealW at *
  split at h
  · cases h
  · next hb =>
    rw [if_neg hb]
    have := sealS_bounds x (by omega)
    show 1 ≤ (sealS x).size ∧ (sealS x).size ≤ 5000
    omega
theorem fmt_law {n : Int} (h : (fmtV n).2 = true) : parseW (fmtV n).1 = (n, true) := by
  unfold fmtV at *
  by_cases hb : inB n (-999999) 999999 = true
  · rw [if_pos hb]
    unfold parseW
    have : (numS n).data.toList = itoa n := by unfold numS; simp
    show parseV (numS n).data.toList = _
    rw [this]
    exact parseV_yes (inB_iff.1 hb)
  · rw [if_neg hb] at h; cases h
theorem fmt_sz (n : Int) : (fmtV n).1.size ≤ 30 := by
  unfold fmtV
  by_cases hb : inB n (-999999) 999999 = true
  · rw [if_pos hb]
    have h2 := inB_iff.1 hb
    have := (numS_size n (by omega) (by omega)).2
    show (numS n).size ≤ 30
    omega
  · rw [if_neg hb]; decide
/-- what vAt reads -/
def vAtV (code : List Int) (i : Nat) : Int := if h : i < code.length then code[i] else ((i : Int) * 7 + code.length) % 256
theorem vAtV_bd {code : List Int} (hz : ∀ z ∈ code, 0 ≤ z ∧ z ≤ 255) (i : Nat) : 0 ≤ vAtV code i ∧ vAtV code i ≤ 255 := by
  unfold vAtV
  split
  · next h => have := hz _ (List.getElem_mem h); omega
  · omega
theorem vAtV_is (v : Value) (A : Option Addr) (cap : Nat) (code : List Int) (i : Nat) (w : World) (h : Code w v A cap code) (h1 : i ≤ 1000) :
    Calls Tryd.prog 47 #[v, .int .i64 (i : Int)] w fun e w' => e = .returned (.int .i64 (vAtV code i)) ∧ w = w' := by
  obtain ⟨rfl, hr, hz, hl, hc⟩ := h
  by_cases hlt : i < code.length
  · have hlt' : (i : Int) < code.length := by omega
    obtain ⟨b, off, rfl, _, hcc⟩ := hr.get hlt
    have c0 := hcc 0 (by omega)
    simp only [encU, Nat.mul_one, Nat.add_zero] at c0
    have hb := hz _ (List.getElem_mem hlt)
    have hv : vAtV code i = code[i] := dif_pos hlt
    generalize code[i] = y at *
    have HV := hide hv
    clear hz hr hcc hv
    go_enter Tryd.func47, Tryd.ntmps47
    go_wp2_with fail
    go_ret
    exact ⟨ret_int HV.out.symm, rfl⟩
  · have hlt' : ¬ (i : Int) < code.length := by omega
    have hm : cap ≤ 9223372036854775807 := hc
    have hv : vAtV code i = ((i : Int) * 7 + code.length) % 256 := dif_neg hlt
    have HV := hide hv
    clear hr hz hv
    go_enter Tryd.func47, Tryd.ntmps47
    go_wp2_with fail
    go_ret
    exact ⟨ret_int HV.out.symm, rfl⟩
theorem vBig_is (A : Option Addr) (len cap : Nat) (w : World) :
    Calls Tryd.prog 6 #[.slice A len cap] w fun e w' => e = .returned (.bool (decide ((65536 : Int) < len))) ∧ w = w' := by
  go_enter Tryd.func6, Tryd.ntmps6
  go_wp2_with fail
  go_ret
  exact ⟨rfl, rfl⟩
end Go.Proofs.YtplemibckjnbhaaDoor
