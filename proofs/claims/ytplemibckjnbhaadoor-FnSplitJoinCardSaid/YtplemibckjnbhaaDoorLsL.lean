/- Contracts of strings.Join and strings.Split at one byte, of impl's SplitString, JoinStrings, and of LessString. Conditions: texts of at most 5000 bytes; for Split, that internal/bytealg.MaxLen holds some int. -/
import Derived.Test.YtplemibckjnbhaaDoorLsK
import Derived.Test.YtplemibckjnbhaaDoorLayJ
import Derived.Test.YtplemibckjnbhaaDoorLayP
import Derived.Lib.SplitLaws
namespace Go.Proofs.YtplemibckjnbhaaDoor
open Go.RowKit Go.Lib Go.Shelf
set_option linter.unusedVariables false
/-- internal/bytealg.MaxLen holds some int -/
def MaxL (w : World) : Prop := ∃ m, w.cell? ⟨0, 0, none⟩ = some (.int .i64 m)
theorem MaxL.below {w w' : World} {B : Nat} (h : MaxL w) (hb : Below B w w') (hB : w.heap.size ≤ B) : MaxL w' := by
  obtain ⟨m, hm⟩ := h
  exact ⟨m, (hb.cell (p := ⟨0, 0, none⟩) (Nat.lt_of_lt_of_le (World.block_lt_of_cell? w _ hm) hB)).trans hm⟩
theorem split_is (s : ByteArray) (c : UInt8) (w : World) (hm : MaxL w) (hs : s.size ≤ 5000) :
    Calls Tryd.prog 50 #[.string s, .string ⟨#[c]⟩] w fun e w' => ∃ v, e = .returned v ∧ Own 1 encS 9 w' w.heap.size v (splitS c s) ∧ (splitS c s).length ≤ 5001 ∧ Below w.heap.size w w' := by
  obtain ⟨m, hm⟩ := hm
  have hlen : (splitS c s).length = countB s ⟨#[c]⟩ + 1 := splitB_all ⟨#[c]⟩ (Nat.le_refl 1) 0 _ s rfl
  have hcl := countB_le ⟨#[c]⟩ (Nat.le_refl 1) s.size s (Nat.le_refl _)
  have key : Calls Tryd.prog 50 #[.string s, .string ⟨#[c]⟩] w fun e w' =>
      e = .returned (.slice (some ⟨w.heap.size, 0, none⟩) (countB s ⟨#[c]⟩ + 1) (countB s ⟨#[c]⟩ + 1)) ∧ w' = w.alloc (.cells ((splitS c s).map Value.string).toArray 9) :=
    Any.strings_Split layP (by kernel_rfl) s ⟨#[c]⟩ m w (by omega) hm (Nat.le_refl 1)
  refine key.mono ?_
  rintro e w' ⟨rfl, rfl⟩
  refine ⟨_, rfl, ?_, by omega, below_alloc _ _⟩
  rw [← hlen]
  refine Own.made rfl (Nat.le_refl _) (Blk.new w _ _) (by simp) (by simp only [maxLen]; omega) ?_
  intro j x hj hx k hk
  obtain rfl : k = 0 := by omega
  simp [hx, encS]
theorem join_is (v : Value) (xs : List ByteArray) (sep : ByteArray) (w : World) (h : Is 1 encS w v xs) (hp : 0 < xs.length) (hn : xs.length ≤ 10000) (hl : (joinTo xs sep xs.length).size ≤ 100000000) :
    Calls Tryd.prog 54 #[v, .string sep] w fun e w' => e = .returned (.string (joinTo xs sep xs.length)) ∧ Below w.heap.size w w' := by
  obtain ⟨A, cap, rfl, hr, hc, _⟩ := h
  obtain ⟨b, off, rfl, hb, _⟩ := Strs.cells hr (i := 0) hp (Below.refl _ _)
  have he := joinTo_eq xs sep xs.length (Nat.le_refl _)
  rw [List.take_length] at he
  have hj : joinTo xs sep xs.length = ⟨(join (xs.map (·.data.toList)) sep.data.toList).toArray⟩ := by
    rw [← he]
  have key : Calls Tryd.prog 54 #[.slice (some ⟨b, off, none⟩) xs.length cap, .string sep] w fun e w' => e = .returned (.string ⟨(join (xs.map (·.data.toList)) sep.data.toList).toArray⟩) ∧ Below w.heap.size w w' :=
    Any.strings_Join layJ layJX b off cap xs sep w (fun j x hx => by
      obtain ⟨hj, rfl⟩ := List.getElem?_eq_some_iff.1 hx
      obtain ⟨b2, off2, he2, _, c0⟩ := Strs.cells hr hj (Below.refl _ _)
      injection he2 with he2; injection he2 with e1 e2; subst e1 e2
      exact c0) hb (by omega) hc (by rw [← he]; show (joinTo xs sep xs.length).size ≤ _; omega)
  rw [hj]
  exact key
theorem SplitI_is (s sep : ByteArray) (w : World) (hm : MaxL w) (hs : s.size ≤ 4000) (hsep : sep.size ≤ 5000) :
    Calls Tryd.prog 8 #[.string s, .string sep] w fun e w' => ∃ v, e = .returned (.tuple #[v, .bool (decide (sep.size = 1))]) ∧ ∃ xs, (Own 1 encS 9 w' w.heap.size v xs ∧ xs.length ≤ 5001) ∧ (¬ sep.size = 1 → xs = []) ∧ (∀ c, sep = ⟨#[c]⟩ → xs = splitS c s) ∧ Below w.heap.size w w' := by
  have hs4 : ¬ (4000 : Int) < s.size := by omega
  have HM := hide hm; clear hm
  by_cases h1 : sep.size = 1
  · obtain ⟨c, rfl⟩ : ∃ c : UInt8, sep = ⟨#[c]⟩ := by
      obtain ⟨⟨l⟩⟩ := sep
      match l, h1 with
      | [c], _ => exact ⟨c, rfl⟩
    have hc := fun w h => split_is s c w h (by omega)
    have HC := hide hc; clear hc h1
    go_enter Tryd.func8, Tryd.ntmps8
    go_wp2_with fail
    refine (HC.out _ HM.out).mono ?_; rintro e w1 ⟨v, rfl, ho, hl, hb⟩
    have HO := hide ho; have HB := hide hb; clear ho hb
    go_wp2_with fail
    go_ret2
    exact ⟨v, rfl, _, ⟨HO.out, hl⟩, fun h => absurd rfl h, fun c' h => by injection h with h; injection h with h; injection h with h; rw [h], HB.out⟩
  · have h2 : ((sep.size : Int) != 1) = true := by simp only [bne_iff_ne, ne_eq]; omega
    have H1 := hide h1; clear h1
    go_enter Tryd.func8, Tryd.ntmps8
    go_wp2_with fail
    go_ret2
    refine ⟨_, ?_, [], ⟨.inl ⟨rfl, rfl⟩, by simp⟩, fun _ => rfl, fun c h => absurd (by rw [h]; rfl) H1.out, Below.refl _ _⟩
    rw [decide_eq_false H1.out]
    rfl
end Go.Proofs.YtplemibckjnbhaaDoor
