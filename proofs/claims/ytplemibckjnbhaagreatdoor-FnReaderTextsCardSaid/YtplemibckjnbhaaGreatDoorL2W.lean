/- The plain law of sheets' texts: a text's words, and that a sheet is recovered from its text, in impl's way and in spec's. Nothing here speaks of the program. No condition. -/
import Derived.Test.YtplemibckjnbhaaGreatDoorLsX
import Derived.Test.YtplemibckjnbhaaGreatDoorL2T
namespace Go.Proofs.YtplemibckjnbhaaGreatDoor
open Go.RowKit Go.Lib
set_option linter.unusedVariables false
theorem numS_list (n : Int) : (numS n).data.toList = itoa n := by unfold numS; simp
theorem numS_no {c : UInt8} (hc : c.toNat < 45) (n : Int) : c ∉ (numS n).data.toList := by
  rw [numS_list]
  intro h
  by_cases hn : n < 0
  · rw [itoa_neg hn, List.mem_cons] at h
    rcases h with h | h
    · rw [h] at hc; exact absurd hc (by decide)
    · have := dec_dig _ _ h; omega
  · rw [itoa_pos (by omega)] at h
    have := dec_dig _ _ h; omega
theorem app_list (a b : ByteArray) : (a ++ b).data.toList = a.data.toList ++ b.data.toList := by simp [ByteArray.data_append]
theorem parseW_num {n : Int} (h : -999999 ≤ n ∧ n ≤ 999999) : parseW (numS n) = (n, true) := by
  unfold parseW; rw [numS_list]; exact parseV_yes h
theorem numW_num {n : Int} (h : -999999 ≤ n ∧ n ≤ 999999) : numW (numS n) = n := by unfold numW; rw [parseW_num h]; rfl
theorem ex_app1 (a b : ByteArray) : (a ++ b).extract 0 a.size = a := bytes_ext (by
  rw [ex_list _ _ _ (by rw [ByteArray.size_append]; omega), app_list, List.drop_zero]; exact List.take_left' rfl)
theorem ex_app2 (a b : ByteArray) : (a ++ b).extract a.size (a ++ b).size = b := bytes_ext (by
  have ht : List.take (a ++ b).size (a ++ b).data.toList = (a ++ b).data.toList := List.take_of_length_le (Nat.le_refl _)
  rw [ex_list _ _ _ (Nat.le_refl _), ht, app_list]; exact List.drop_left' rfl)
theorem trimP_app (p a : ByteArray) : trimP (p ++ a) p = a := by
  have h : preB (p ++ a) p = true := by
    unfold preB
    rw [ex_app1, decide_eq_true (by rw [ByteArray.size_append]; omega)]; simp
  unfold trimP
  rw [if_pos h, ex_app2]
theorem trimS_app (a p : ByteArray) : trimS (a ++ p) p = a := by
  have hk : (a ++ p).size - p.size = a.size := by rw [ByteArray.size_append]; omega
  have h : sufB (a ++ p) p = true := by
    unfold sufB
    rw [hk, ex_app2, decide_eq_true (by rw [ByteArray.size_append]; omega)]; simp
  unfold trimS
  rw [if_pos h, hk, ex_app1]
theorem cutW_mid (p m q : ByteArray) (n : Int) (hm : parseW m = (n, true)) (h0 : 0 < m.size) : cutW (p ++ m ++ q) p.size q.size = n := by
  have hs : (p ++ m ++ q).size = p.size + m.size + q.size := by rw [ByteArray.size_append, ByteArray.size_append]
  unfold cutW
  rw [if_neg (by rw [hs]; omega)]
  have he : (p ++ m ++ q).extract p.size ((p ++ m ++ q).size - q.size) = m := bytes_ext (by
    rw [ex_list _ _ _ (by omega), app_list, app_list]
    have h1 : List.take ((p ++ m ++ q).size - q.size) (p.data.toList ++ m.data.toList ++ q.data.toList) = p.data.toList ++ m.data.toList := List.take_left' (by
      rw [List.length_append, hs]; show p.size + m.size = _; omega)
    rw [h1]; exact List.drop_left' rfl)
  rw [he, hm]; rfl
theorem empty_app (a : ByteArray) : (⟨#[]⟩ : ByteArray) ++ a = a := bytes_ext (by rw [app_list]; rfl)
theorem app_empty (a : ByteArray) : a ++ (⟨#[]⟩ : ByteArray) = a := bytes_ext (by rw [app_list]; simp)
theorem num_pos (n : Int) : 0 < (numS n).size := by
  have h : (numS n).data.toList.length = (numS n).size := rfl
  rw [← h, numS_list]
  exact List.length_pos_iff.2 (itoa_ne n)
theorem sheet_words (z : SSheet) : splitS 32 (sheetT z) = [numS z.id ++ ⟨#[58]⟩, ⟨#[114]⟩ ++ numS z.row, ⟨#[99]⟩ ++ numS z.col, ⟨#[49, 58]⟩ ++ numS z.scale ++ ⟨#[48, 48, 48]⟩, numS z.year] := by
  have h : sheetT z = (numS z.id ++ ⟨#[58]⟩) ++ ⟨#[32]⟩ ++ ((⟨#[114]⟩ ++ numS z.row) ++ ⟨#[32]⟩ ++ ((⟨#[99]⟩ ++ numS z.col) ++ ⟨#[32]⟩ ++ ((⟨#[49, 58]⟩ ++ numS z.scale ++ ⟨#[48, 48, 48]⟩) ++ ⟨#[32]⟩ ++ numS z.year))) := bytes_ext (by
    unfold sheetT; simp only [app_list]; simp)
  have n0 := numS_no (c := 32) (by decide)
  rw [h, splitS_hit, splitS_hit, splitS_hit, splitS_hit, splitS_miss (n0 _)]
  · rw [app_list, app_list]; simp [n0]
  · rw [app_list]; simp [n0]
  · rw [app_list]; simp [n0]
  · rw [app_list]; simp [n0]
/-- the sheet of five words, in impl's way -/
def shI (l : List ByteArray) : SSheet := ⟨numW (trimS (l.getD 0 ⟨#[]⟩) ⟨#[58]⟩), numW (trimP (l.getD 1 ⟨#[]⟩) ⟨#[114]⟩), numW (trimP (l.getD 2 ⟨#[]⟩) ⟨#[99]⟩), numW (trimS (trimP (l.getD 3 ⟨#[]⟩) ⟨#[49, 58]⟩) ⟨#[48, 48, 48]⟩), numW (l.getD 4 ⟨#[]⟩)⟩
/-- .. and in spec's -/
def shS (l : List ByteArray) : SSheet := ⟨cutW (l.getD 0 ⟨#[]⟩) 0 1, cutW (l.getD 1 ⟨#[]⟩) 1 0, cutW (l.getD 2 ⟨#[]⟩) 1 0, cutW (l.getD 3 ⟨#[]⟩) 2 3, cutW (l.getD 4 ⟨#[]⟩) 0 0⟩
theorem ok_small {z : SSheet} (h : z.okB = true) : ((-999999 ≤ z.id ∧ z.id ≤ 999999) ∧ (-999999 ≤ z.row ∧ z.row ≤ 999999)) ∧ ((-999999 ≤ z.col ∧ z.col ≤ 999999) ∧ (-999999 ≤ z.scale ∧ z.scale ≤ 999999)) ∧ (-999999 ≤ z.year ∧ z.year ≤ 999999) := by
  have := SSheet.okB_iff.1 h; omega
theorem shI_text {z : SSheet} (h : z.okB = true) : shI (splitS 32 (sheetT z)) = z := by
  obtain ⟨⟨h0, h1⟩, ⟨h2, h3⟩, h4⟩ := ok_small h
  rw [sheet_words]
  unfold shI
  show (⟨numW (trimS (numS z.id ++ ⟨#[58]⟩) ⟨#[58]⟩), numW (trimP (⟨#[114]⟩ ++ numS z.row) ⟨#[114]⟩), numW (trimP (⟨#[99]⟩ ++ numS z.col) ⟨#[99]⟩), numW (trimS (trimP (⟨#[49, 58]⟩ ++ numS z.scale ++ ⟨#[48, 48, 48]⟩) ⟨#[49, 58]⟩) ⟨#[48, 48, 48]⟩), numW (numS z.year)⟩ : SSheet) = z
  have he : (⟨#[49, 58]⟩ : ByteArray) ++ numS z.scale ++ ⟨#[48, 48, 48]⟩ = ⟨#[49, 58]⟩ ++ (numS z.scale ++ ⟨#[48, 48, 48]⟩) := ByteArray.append_assoc
  rw [he, trimS_app, trimP_app, trimP_app, trimP_app, trimS_app, numW_num h0, numW_num h1, numW_num h2, numW_num h3, numW_num h4]
theorem shS_text {z : SSheet} (h : z.okB = true) : shS (splitS 32 (sheetT z)) = z := by
  obtain ⟨⟨h0, h1⟩, ⟨h2, h3⟩, h4⟩ := ok_small h
  rw [sheet_words]
  unfold shS
  show (⟨cutW (numS z.id ++ ⟨#[58]⟩) 0 1, cutW (⟨#[114]⟩ ++ numS z.row) 1 0, cutW (⟨#[99]⟩ ++ numS z.col) 1 0, cutW (⟨#[49, 58]⟩ ++ numS z.scale ++ ⟨#[48, 48, 48]⟩) 2 3, cutW (numS z.year) 0 0⟩ : SSheet) = z
  have e0 := cutW_mid ⟨#[]⟩ (numS z.id) ⟨#[58]⟩ _ (parseW_num h0) (num_pos _)
  have e1 := cutW_mid ⟨#[114]⟩ (numS z.row) ⟨#[]⟩ _ (parseW_num h1) (num_pos _)
  have e2 := cutW_mid ⟨#[99]⟩ (numS z.col) ⟨#[]⟩ _ (parseW_num h2) (num_pos _)
  have e3 := cutW_mid ⟨#[49, 58]⟩ (numS z.scale) ⟨#[48, 48, 48]⟩ _ (parseW_num h3) (num_pos _)
  have e4 := cutW_mid ⟨#[]⟩ (numS z.year) ⟨#[]⟩ _ (parseW_num h4) (num_pos _)
  rw [empty_app] at e0 e4
  rw [app_empty] at e1 e2 e4
  have s0 : (⟨#[]⟩ : ByteArray).size = 0 := rfl
  have s1 : (⟨#[58]⟩ : ByteArray).size = 1 := rfl
  have s2 : (⟨#[114]⟩ : ByteArray).size = 1 := rfl
  have s3 : (⟨#[99]⟩ : ByteArray).size = 1 := rfl
  have s4 : (⟨#[49, 58]⟩ : ByteArray).size = 2 := rfl
  have s5 : (⟨#[48, 48, 48]⟩ : ByteArray).size = 3 := rfl
  rw [s0, s1] at e0; rw [s2, s0] at e1; rw [s3, s0] at e2; rw [s4, s5] at e3; rw [s0] at e4
  rw [e0, e1, e2, e3, e4]
/-- whether a text is that of the sheet z, found in its words -/
def isSh (s : ByteArray) (z : SSheet) : Bool := decide ((splitS 32 s).length = 5) && (z.okB && decide (sheetT z = s))
def parSh (s : ByteArray) : SSheet × Bool := if isSh s (shI (splitS 32 s)) then (shI (splitS 32 s), true) else (⟨0, 0, 0, 0, 0⟩, false)
theorem isSh_iff {s : ByteArray} {z : SSheet} : isSh s z = true ↔ (splitS 32 s).length = 5 ∧ z.okB = true ∧ sheetT z = s := by
  unfold isSh; rw [Bool.and_eq_true, Bool.and_eq_true, decide_eq_true_iff, decide_eq_true_iff]
theorem parSh_S (s : ByteArray) : parSh s = if isSh s (shS (splitS 32 s)) then (shS (splitS 32 s), true) else (⟨0, 0, 0, 0, 0⟩, false) := by
  unfold parSh
  by_cases h : isSh s (shI (splitS 32 s)) = true
  · obtain ⟨h1, h2, h3⟩ := isSh_iff.1 h
    have e : shS (splitS 32 s) = shI (splitS 32 s) := by
      have := shS_text h2
      rw [h3] at this
      exact this
    rw [e]
  · rw [if_neg h]
    by_cases h' : isSh s (shS (splitS 32 s)) = true
    · obtain ⟨h1, h2, h3⟩ := isSh_iff.1 h'
      have e : shI (splitS 32 s) = shS (splitS 32 s) := by
        have := shI_text h2
        rw [h3] at this
        exact this
      rw [e] at h; exact absurd h' h
    · rw [if_neg h']
theorem parSh_text {z : SSheet} (h : z.okB = true) : parSh (sheetT z) = (z, true) := by
  have e := shI_text h
  unfold parSh
  rw [e, if_pos (isSh_iff.2 ⟨by rw [sheet_words]; rfl, h, rfl⟩)]
theorem text_parSh {s : ByteArray} (h : (parSh s).2 = true) : textSh (parSh s).1 = (s, true) := by
  unfold parSh at h ⊢
  by_cases hc : isSh s (shI (splitS 32 s)) = true
  · obtain ⟨h1, h2, h3⟩ := isSh_iff.1 hc
    rw [if_pos hc]
    unfold textSh
    rw [if_pos h2, h3]
  · rw [if_neg hc] at h; cases h
theorem textSh_par {z : SSheet} (h : (textSh z).2 = true) : parSh (textSh z).1 = (z, true) := by
  unfold textSh at h ⊢
  by_cases hc : z.okB = true
  · rw [if_pos hc]; exact parSh_text hc
  · rw [if_neg hc] at h; cases h
theorem split_le (c : UInt8) (s : ByteArray) : ∀ x ∈ splitS c s, x.size ≤ s.size := by
  obtain ⟨h1, h2, h3⟩ := split_law c s.size s (Nat.le_refl _)
  have he := joinTo_eq (splitS c s) ⟨#[c]⟩ _ (Nat.le_refl _)
  rw [List.take_length] at he
  have hj : joinTo (splitS c s) ⟨#[c]⟩ (splitS c s).length = s := bytes_ext (he.trans h2)
  intro x hx
  obtain ⟨k, hk, rfl⟩ := List.getElem_of_mem hx
  have h7 := joinTo_le (splitS c s) ⟨#[c]⟩ (j := k + 1) (splitS c s).length (by omega)
  rw [hj, joinTo, ByteArray.size_append] at h7
  have hg : (splitS c s).getD k ⟨#[]⟩ = (splitS c s)[k] := by simp [List.getD_eq_getElem?_getD, hk]
  rw [hg] at h7
  omega
end Go.Proofs.YtplemibckjnbhaaGreatDoor
