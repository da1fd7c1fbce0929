/- The contract of impl's ParseInt (over strconv.Atoi). Conditions: the table of powers of ten and the two errors are laid as the row lists them; a text of at most a million bytes. -/
import Derived.Test.YtplemibckjnbhaaGreatDoorLsE
import Derived.Test.YtplemibckjnbhaaGreatDoorLayX
import Derived.Lib.AtoiTie
namespace Go.Proofs.YtplemibckjnbhaaGreatDoor
open Go.RowKit Go.Lib
set_option linter.unusedVariables false
theorem atoiAll_itoa {n : Int} (h : -999999 ≤ n ∧ n ≤ 999999) : atoiAll (itoa n) = .ok n := by
  have hl := (itoa_len h).1
  rw [atoiAll_short _ (by omega), atoi_itoa]
  rfl
theorem var_below {P : Program} {w w' : World} {nm : String} {cs : Array Value} {B : Nat} (h : w.var? P nm = some cs) (hb : Below B w w') (hB : w.heap.size ≤ B) : w'.var? P nm = some cs := by
  unfold World.var? at h ⊢
  cases hg : P.globalNamed nm with
  | none => rw [hg] at h; cases h
  | some g =>
    rw [hg] at h
    simp only [Option.bind_some] at h ⊢
    have hk : g < w.heap.size := by
      rcases Nat.lt_or_ge g w.heap.size with h' | h'
      · exact h'
      · rw [Array.getElem?_eq_none h'] at h; simp at h
    rw [hb.block _ (Nat.lt_of_lt_of_le hk hB)]
    exact h
/-- the two errors of strconv lie as pointers of some type -/
def Errs (w : World) : Prop := (∃ tp p, w.var? Tryz.prog "strconv.ErrSyntax" = some #[.iface tp p]) ∧ (∃ tp p, w.var? Tryz.prog "strconv.ErrRange" = some #[.iface tp p])
theorem Errs.below {w w' : World} {B : Nat} (h : Errs w) (hb : Below B w w') (hB : w.heap.size ≤ B) : Errs w' := by
  obtain ⟨⟨t1, p1, h1⟩, t2, p2, h2⟩ := h
  exact ⟨⟨t1, p1, var_below h1 hb hB⟩, t2, p2, var_below h2 hb hB⟩
/-- strconv.Atoi: a number and no error, or an error -/
theorem Atoi_is (s : ByteArray) (w : World) (hm : s.size ≤ 1000000) (he : Errs w) :
    Calls Tryz.prog 124 #[.string s] w fun e w' => ((∃ v, atoiAll s.data.toList = .ok v ∧ e = .returned (.tuple #[.int .i64 v, .nilIface])) ∨ ((∀ v, atoiAll s.data.toList ≠ .ok v) ∧ ∃ x t p, e = .returned (.tuple #[.int .i64 x, .iface t p]))) ∧ Below w.heap.size w w' := by
  obtain ⟨⟨t1, p1, h1⟩, t2, p2, h2⟩ := he
  rcases hr : atoiAll s.data.toList with v | _ | _
  · refine (show Calls Tryz.prog 124 #[.string s] w _ from Any.strconv_Atoi_ok layA s (by omega) v hr w).mono ?_
    rintro e w' ⟨rfl, hw⟩
    refine ⟨.inl ⟨v, rfl, rfl⟩, ?_⟩
    rcases hw with rfl | ⟨t, rfl⟩
    · exact Below.refl _ _
    · exact below_bytesS _ _ _
  · refine (show Calls Tryz.prog 124 #[.string s] w _ from Any.strconv_Atoi_syntax_var layA s (by omega) hr t1 p1 w h1).mono ?_
    rintro e w' ⟨N, rfl, _, _, hb⟩
    exact ⟨.inr ⟨(fun v h => by cases h), _, _, _, rfl⟩, hb⟩
  · refine (show Calls Tryz.prog 124 #[.string s] w _ from Any.strconv_Atoi_range_var layA s (by omega) hr t2 p2 w h2).mono ?_
    rintro e w' ⟨N, rfl, _, _, hb⟩
    exact ⟨.inr ⟨(fun v h => by cases h), _, _, _, rfl⟩, hb⟩
theorem parse_err {s : ByteArray} (h : ∀ v, atoiAll s.data.toList ≠ .ok v) : parseW s = (0, false) :=
  parseV_no fun n hn e => h n (by rw [← e]; exact atoiAll_itoa hn)
theorem parse_ok {s : ByteArray} {v : Int} (h : atoiAll s.data.toList = .ok v) : (inB v (-999999) 999999 = true ∧ numS v = s ∧ parseW s = (v, true)) ∨ ((inB v (-999999) 999999 = false ∨ ¬ numS v = s) ∧ parseW s = (0, false)) := by
  by_cases hc : inB v (-999999) 999999 = true ∧ numS v = s
  · refine .inl ⟨hc.1, hc.2, ?_⟩
    have hi : itoa v = s.data.toList := by rw [← hc.2]; unfold numS; simp
    unfold parseW
    rw [← hi]
    exact parseV_yes (inB_iff.1 hc.1)
  · refine .inr ⟨?_, parseV_no fun n hn e => hc ?_⟩
    · by_cases h1 : inB v (-999999) 999999 = true
      · exact .inr fun h2 => hc ⟨h1, h2⟩
      · exact .inl (by simpa using h1)
    · rw [← e, atoiAll_itoa hn] at h
      injection h with h
      subst h
      exact ⟨inB_iff.2 hn, by unfold numS; rw [e]⟩
set_option maxHeartbeats 1000000 in
theorem ParseI_is (s : ByteArray) (w : World) (hm : s.size ≤ 1000000) (ht : Tab w) (he : Errs w) :
    Calls Tryz.prog 103 #[.string s] w fun e w' => e = .returned (.tuple #[.int .i64 (parseW s).1, .bool (parseW s).2]) ∧ Below w.heap.size w w' := by
  have hc := Atoi_is s w hm he
  have HC := hide hc; have HT := hide ht; clear hc he ht
  go_enter Tryz.func103, Tryz.ntmps103
  go_wp2_with fail
  refine HC.out.mono ?_; rintro e w1 ⟨h | h, hb⟩
  · obtain ⟨v, hv, rfl⟩ := h
    have HB1 := hide hb; have HT1 := hide (HT.out.below hb (Nat.le_refl _)); clear hb
    rcases parse_ok hv with ⟨h1, h2, h3⟩ | ⟨h1, h3⟩
    · have hbd := inB_iff.1 h1
      have hcn := fun w h => text_is v w (by omega) (by omega) h
      rw [h2] at hcn
      have t1 : (s.toList == s.toList) = true := by simp
      have H1 := hide h1; have H3 := hide h3; have HCN := hide hcn; clear h1 h2 h3 hcn hv hbd
      go_wp2_with (first | (go_at_call 51; refine (within_any _ _ _ _).mono ?_; rintro e w' ⟨rfl, rfl⟩; rw [H1.out]) | (go_at_call 45; refine (HCN.out _ HT1.out).mono ?_; rintro e w2 ⟨rfl, hb⟩; have HB2 := hide (bstep HB1.out hb HB1.out.size); clear hb))
      go_ret2
      rw [H3.out]
      exact ⟨rfl, HB2.out⟩
    · cases hin : inB v (-999999) 999999 with
      | false =>
        have H1 := hide hin; have H3 := hide h3; clear h1 h3 hv hin
        go_wp2_with (go_at_call 51; refine (within_any _ _ _ _).mono ?_; rintro e w' ⟨rfl, rfl⟩; rw [H1.out])
        go_ret2
        rw [H3.out]
        exact ⟨rfl, HB1.out⟩
      | true =>
        have hbd := inB_iff.1 hin
        have hne : ¬ numS v = s := by rcases h1 with h | h; · rw [hin] at h; cases h
                                      · exact h
        have t1 := ne_toList hne
        have hcn := fun w h => text_is v w (by omega) (by omega) h
        generalize numS v = q at *
        have H1 := hide hin; have H3 := hide h3; have HCN := hide hcn; clear h1 h3 hcn hv hbd hin hne
        go_wp2_with (first | (go_at_call 51; refine (within_any _ _ _ _).mono ?_; rintro e w' ⟨rfl, rfl⟩; rw [H1.out]) | (go_at_call 45; refine (HCN.out _ HT1.out).mono ?_; rintro e w2 ⟨rfl, hb⟩; have HB2 := hide (bstep HB1.out hb HB1.out.size); clear hb))
        go_ret2
        rw [H3.out]
        exact ⟨rfl, HB2.out⟩
  · obtain ⟨hv, x, t, p, rfl⟩ := h
    have H3 := hide (parse_err hv); have HB1 := hide hb; clear hv hb
    go_wp2_with fail
    go_ret2
    rw [H3.out]
    exact ⟨rfl, HB1.out⟩
end Go.Proofs.YtplemibckjnbhaaGreatDoor
