/- Words of a text between bytes (spec's l1Split), cut ends (strings.TrimPrefix, TrimSuffix), and impl's number. Conditions: texts of at most 5000 bytes; the tables and errors of strconv are laid, for impl's. -/
import Derived.Test.YtplemibckjnbhaaGreatDoorLsL
import Derived.Test.YtplemibckjnbhaaGreatDoorLsF
namespace Go.Proofs.YtplemibckjnbhaaGreatDoor
open Go.RowKit Go.Lib
set_option linter.unusedVariables false
theorem bytes_ext {a b : ByteArray} (h : a.data.toList = b.data.toList) : a = b := by cases a; cases b; simp_all
theorem indexByte_app (a r : List UInt8) (c : UInt8) (ha : c ∉ a) : indexByte (a ++ c :: r) c = (a.length : Int) := by
  induction a with
  | nil => simp [indexByte]
  | cons b a ih =>
    rw [List.mem_cons, not_or] at ha
    have hb : (b == c) = false := by simpa using fun e : b = c => ha.1 e.symm
    simp only [List.cons_append, indexByte, hb, ih ha.2]
    have hn : ((a.length : Int) == -1) = false := by simp only [beq_eq_false_iff_ne, ne_eq]; omega
    simp [hn]
theorem indexByte_no (a : List UInt8) (c : UInt8) (ha : c ∉ a) : indexByte a c = -1 := by
  induction a with
  | nil => rfl
  | cons b a ih =>
    rw [List.mem_cons, not_or] at ha
    have hb : (b == c) = false := by simpa using fun e : b = c => ha.1 e.symm
    simp [indexByte, hb, ih ha.2]
theorem splitS_miss {c : UInt8} {s : ByteArray} (h : c ∉ s.data.toList) : splitS c s = [s] := by
  have hix : indexB s ⟨#[c]⟩ = indexByte s.data.toList c := index_one s.data.toList c
  unfold splitS
  exact splitB_miss _ _ _ _ (hix.trans (indexByte_no _ _ h))
theorem ex_list (s : ByteArray) (i j : Nat) (hj : j ≤ s.size) : (s.extract i j).data.toList = (s.data.toList.take j).drop i := by
  rw [ByteArray.data_extract, Array.toList_extract, List.extract_eq_take_drop, List.drop_take]
theorem splitS_hit {c : UInt8} {a r : ByteArray} (h : c ∉ a.data.toList) : splitS c (a ++ ⟨#[c]⟩ ++ r) = a :: splitS c r := by
  have hl : (a ++ ⟨#[c]⟩ ++ r).data.toList = a.data.toList ++ c :: r.data.toList := by simp [ByteArray.data_append]
  have hsz : (a ++ ⟨#[c]⟩ ++ r).size = a.size + 1 + r.size := by rw [ByteArray.size_append, ByteArray.size_append]; rfl
  have hix : indexB (a ++ ⟨#[c]⟩ ++ r) ⟨#[c]⟩ = (a.size : Int) := by
    refine (index_one (a ++ ⟨#[c]⟩ ++ r).data.toList c).trans ?_
    rw [hl]; exact indexByte_app _ _ _ h
  have h1 : (a ++ ⟨#[c]⟩ ++ r).extract 0 a.size = a := bytes_ext (by
    rw [ex_list _ _ _ (by omega), hl, List.drop_zero]
    exact List.take_left' rfl)
  have h2 : (a ++ ⟨#[c]⟩ ++ r).extract (a.size + 1) (a ++ ⟨#[c]⟩ ++ r).size = r := bytes_ext (by
    have ht : List.take (a ++ ⟨#[c]⟩ ++ r).size (a ++ ⟨#[c]⟩ ++ r).data.toList = (a ++ ⟨#[c]⟩ ++ r).data.toList := List.take_of_length_le (Nat.le_refl _)
    rw [ex_list _ _ _ (Nat.le_refl _), ht, hl]
    have : a.data.toList ++ c :: r.data.toList = (a.data.toList ++ [c]) ++ r.data.toList := by simp
    rw [this]
    refine List.drop_left' ?_
    show (a.data.toList ++ [c]).length = a.data.toList.length + 1
    simp)
  unfold splitS
  rw [countB_hit _ ⟨#[c]⟩ a.size (Nat.le_refl 1) hix, Nat.add_comm]
  have h3 := splitB_hit (⟨#[c]⟩ : ByteArray) 0 (countB ((a ++ ⟨#[c]⟩ ++ r).extract (a.size + 1) (a ++ ⟨#[c]⟩ ++ r).size) ⟨#[c]⟩) (a ++ ⟨#[c]⟩ ++ r) a.size hix
  refine h3.trans ?_
  show (a ++ ⟨#[c]⟩ ++ r).extract 0 a.size :: splitB ⟨#[c]⟩ 0 _ ((a ++ ⟨#[c]⟩ ++ r).extract (a.size + 1) (a ++ ⟨#[c]⟩ ++ r).size) = _
  rw [h1, h2]
/-- the words of a text, from left to right -/
theorem split_step {c : UInt8} {s : ByteArray} {f i : Nat} (hf : f ≤ i) (hi : i < s.size) (hno : ∀ j, f ≤ j → j < i → ∀ h : j < s.size, s[j] ≠ c) (hc : s[i] = c) : splitS c (s.extract f s.size) = s.extract f i :: splitS c (s.extract (i + 1) s.size) := by
  have hsl : s.data.toList.length = s.size := rfl
  have hm : c ∉ (s.extract f i).data.toList := by
    rw [ex_list _ _ _ (by omega)]
    intro h
    obtain ⟨k, hk, he⟩ := List.getElem_of_mem h
    rw [List.length_drop, List.length_take, hsl] at hk
    rw [List.getElem_drop, List.getElem_take] at he
    exact hno (f + k) (by omega) (by omega) (by omega) he
  have hs : s.extract f s.size = s.extract f i ++ ⟨#[c]⟩ ++ s.extract (i + 1) s.size := bytes_ext (by
    have e1 : (s.extract f i ++ ⟨#[c]⟩ ++ s.extract (i + 1) s.size).data.toList = (s.extract f i).data.toList ++ c :: (s.extract (i + 1) s.size).data.toList := by simp [ByteArray.data_append]
    have ht : List.take s.size s.data.toList = s.data.toList := List.take_of_length_le (Nat.le_refl _)
    rw [e1, ex_list _ _ _ (Nat.le_refl _), ex_list _ _ _ (by omega), ex_list _ _ _ (Nat.le_refl _), ht]
    have hg : s.data.toList[i] = c := hc
    have h2 : s.data.toList = s.data.toList.take i ++ c :: s.data.toList.drop (i + 1) := by
      conv => lhs; rw [← List.take_append_drop i s.data.toList, List.drop_eq_getElem_cons (show i < s.data.toList.length from hi), hg]
    conv => lhs; rw [h2]
    rw [List.drop_append_of_le_length (by rw [List.length_take]; omega)])
  rw [hs, splitS_hit hm]
theorem split_last {c : UInt8} {s : ByteArray} {f : Nat} (hno : ∀ j, f ≤ j → j < s.size → ∀ h : j < s.size, s[j] ≠ c) : splitS c (s.extract f s.size) = [s.extract f s.size] := by
  refine splitS_miss ?_
  rw [ex_list _ _ _ (Nat.le_refl _)]
  intro h
  have hsl : s.data.toList.length = s.size := rfl
  obtain ⟨k, hk, he⟩ := List.getElem_of_mem h
  rw [List.length_drop, List.length_take, hsl] at hk
  rw [List.getElem_drop, List.getElem_take] at he
  exact hno (f + k) (by omega) (by omega) (by omega) he
theorem own_noSt (w : World) {B : Nat} (hB : B ≤ w.heap.size) : Own 1 encS 9 (w.alloc (.cells #[] 9)) B (.slice (some ⟨w.heap.size, 0, none⟩) 0 0) ([] : List ByteArray) :=
  Own.made (cs := #[]) rfl hB (Blk.new _ _ _) rfl (Nat.zero_le _) Filled.zero
set_option maxHeartbeats 2000000 in
theorem l1Split_is (s : ByteArray) (c : UInt8) (w : World) (hs : s.size ≤ 5000) :
    Calls Tryz.prog 57 #[.string s, .int .u8 (c.toNat : Int)] w fun e w' => ∃ v, e = .returned v ∧ Own 1 encS 9 w' w.heap.size v (splitS c s) ∧ Below w.heap.size w w' := by
  have hE := own_noSt w (Nat.le_refl w.heap.size)
  have hbe := below_alloc w (.cells #[] 9)
  have hs0 : s.extract 0 s.size = s := bytes_ext (by
    have ht : List.take s.size s.data.toList = s.data.toList := List.take_of_length_le (Nat.le_refl _)
    rw [ex_list _ _ _ (Nat.le_refl _), ht, List.drop_zero])
  generalize hB : w.heap.size = B at *
  have HB := hide hB; have HE := hide hE; have HBE := hide hbe; have HS0 := hide hs0; clear hE hbe hs0
  go_enter Tryz.func57, Tryz.ntmps57
  go_upto_region 2 with fail
  (try simp only [hB])
  generalize w.alloc (.cells #[] 9) = w1 at *
  clear hB
  have hsz1 : B ≤ w1.heap.size := by have := HBE.out.size; rw [HB.out] at this; exact this
  go_wp2_with fail
  go_loopw [5, 6, 7] (fun o f i wr => ∃ (a b : Nat) (xs : List ByteArray), a ≤ b ∧ b ≤ s.size ∧ f = .int .i64 (a : Int) ∧ i = .int .i64 (b : Int) ∧ xs.length ≤ a ∧ Hid (xs ++ splitS c (s.extract a s.size) = splitS c s) ∧ Hid (∀ j, a ≤ j → j < b → ∀ h : j < s.size, s[j] ≠ c) ∧ Own 1 encS 9 wr B o xs ∧ Below B w wr) (fun _ _ i _ => s.size - (intOf i).toNat)
  case atStart => exact ⟨0, 0, [], Nat.le_refl _, Nat.zero_le _, rfl, rfl, Nat.le_refl _, by rw [HS0.out]; rfl, fun j h1 h2 => absurd h2 (by omega), HE.out, HBE.out⟩
  case round =>
    clear HE HBE hsz1
    obtain ⟨a, b, xs, hab, hb, rfl, rfl, hxl, HX, HNO, hown, hbel⟩ := hrel
    have HO := hide hown; clear hown
    have hszr : B ≤ wr.heap.size := by have := hbel.size; rw [HB.out] at this; exact this
    by_cases hlt : b < s.size
    · have hlt' : (b : Int) < s.size := by omega
      by_cases hcb : s[b] = c
      · have hst := split_step hab hlt HNO.out hcb
        have hxs := HX.out
        rw [hst] at hxs
        have hxs2 : (xs ++ [s.extract a b]) ++ splitS c (s.extract (b + 1) s.size) = splitS c s := by rw [← hxs]; simp
        have HXS := hide hxs2
        have he : ((s[b].toNat : Int) == (c.toNat : Int)) = true := by rw [hcb]; simp
        have hbl : xs.length ≤ 16777216 := by omega
        clear hst hxs hxs2
        go_wp2_with (at_builtin; refine wpList_push1 (k := 1) (enc := encS) _ rfl _ _ 76 rfl 9 (.string ⟨#[]⟩) 16 Tryz.underlying76 (by kernel_rfl) rfl (by omega) (by omega) encS_one B _ (xs) rfl (HO.out) (s.extract a b) _ rfl rfl (hbl) (hszr) (hbel) (Nat.le_refl _) rfl ?_; intro v1 w9 ho1 hb1 hg1)
        go_round
        case measure => (simp [intOf] <;> omega)
        case rel => exact ⟨b + 1, b + 1, xs ++ [s.extract a b], Nat.le_refl _, by omega, by go_num, by go_num, by simp; omega, HXS.out, fun j h1 h2 => absurd h2 (by omega), ho1, hb1⟩
      · have he : ((s[b].toNat : Int) == (c.toNat : Int)) = false := by
          simp only [beq_eq_false_iff_ne, ne_eq]
          intro h
          exact hcb (UInt8.toNat_inj.1 (by omega))
        have HCB := hide hcb; clear hcb
        go_wp2_with fail
        go_round
        case measure => (simp [intOf] <;> omega)
        case rel =>
          refine ⟨a, b + 1, xs, by omega, by omega, rfl, by go_num, hxl, HX, ?_, HO.out, hbel⟩
          intro j h1 h2 h
          by_cases hj : j = b
          · subst hj; exact HCB.out
          · exact HNO.out j h1 (by omega) h
    · have hbs : b = s.size := by omega
      subst hbs
      have hx := HX.out
      rw [split_last HNO.out] at hx
      have HXX := hide hx; clear hx
      have hbl : xs.length ≤ 16777216 := by omega
      go_wp2_with (at_builtin; refine wpList_push1 (k := 1) (enc := encS) _ rfl _ _ 76 rfl 9 (.string ⟨#[]⟩) 16 Tryz.underlying76 (by kernel_rfl) rfl (by omega) (by omega) encS_one B _ (xs) rfl (HO.out) (s.extract a s.size) _ rfl rfl (hbl) (hszr) (hbel) (Nat.le_refl _) rfl ?_; intro v1 w9 ho1 hb1 hg1)
      go_ret
      exact ⟨_, rfl, by rw [← HXX.out]; exact ho1, hb1⟩
end Go.Proofs.YtplemibckjnbhaaGreatDoor
