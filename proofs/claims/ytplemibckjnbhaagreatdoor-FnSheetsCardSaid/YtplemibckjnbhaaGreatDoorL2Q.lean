/- The longest strip, as impl asks for it (over the sheets of a scale in order), is the one that spec finds. Nothing here speaks of the program. No condition. -/
import Derived.Test.YtplemibckjnbhaaGreatDoorL2P
namespace Go.Proofs.YtplemibckjnbhaaGreatDoor
open Go.RowKit
set_option linter.unusedVariables false
def keyS (c : SSheet) : Nat := (c.row * 100 + c.col).toNat
/-- goes on from the one ahead -/
def flagS (ys : List SSheet) (k : Nat) : Bool := decide (k ≠ 0 ∧ (SSheet.at ys k).row = (SSheet.at ys (k - 1)).row ∧ (SSheet.at ys k).col = (SSheet.at ys (k - 1)).col + 1)
/-- the strip that ends at the n-th sheet, and the best one so far -/
def stripTo (ys : List SSheet) (n : Nat) : List Int × List Int := ((List.range n).map fun k => (flagS ys k, (SSheet.at ys k).id)).foldl stepL ([], [])
theorem stripTo_succ (ys : List SSheet) (n : Nat) : stripTo ys (n + 1) = stepL (stripTo ys n) (flagS ys n, (SSheet.at ys n).id) := by
  simp [stripTo, List.range_succ]
theorem flagsK_get : ∀ (l : List (Nat × Int)) (p : Option Nat) (k : Nat) (hk : k < l.length), (flagsK p l)[k]? = some (decide ((if k = 0 then p else (l[k - 1]?).map (·.1)) = some ((l[k]).1 - 1) ∧ (l[k]).1 % 100 ≠ 0), (l[k]).2) := by
  intro l
  induction l with
  | nil => intro p k hk; simp at hk
  | cons q l ih =>
    intro p k hk
    obtain ⟨a, x⟩ := q
    cases k with
    | zero => simp [flagsK]
    | succ k =>
      have hk' : k < l.length := by simpa using hk
      simp only [flagsK, List.getElem?_cons_succ, List.getElem_cons_succ]
      rw [ih (some a) k hk']
      cases k with
      | zero => simp
      | succ k => simp; exact decide_eq_decide.2 Iff.rfl
theorem flagsK_len : ∀ (l : List (Nat × Int)) (p : Option Nat), (flagsK p l).length = l.length := by
  intro l
  induction l with
  | nil => intro p; rfl
  | cons q l ih => intro p; simp [flagsK, ih]
theorem flags_eq (ys : List SSheet) (hb : ∀ c ∈ ys, 0 ≤ c.row ∧ c.row ≤ 99 ∧ 0 ≤ c.col ∧ c.col ≤ 99) : ((List.range ys.length).map fun k => (flagS ys k, (SSheet.at ys k).id)) = flagsK none (ys.map fun c => (keyS c, c.id)) := by
  apply List.ext_getElem?
  intro k
  by_cases hk : k < ys.length
  · rw [flagsK_get _ none k (by simpa using hk)]
    simp only [List.getElem?_map, List.getElem?_range hk, Option.map_some, List.getElem_map]
    congr 1
    have h1 := hb _ (List.getElem_mem hk)
    refine Prod.ext ?_ (by simp [SSheet.at_lt hk])
    simp only
    unfold flagS
    by_cases h0 : k = 0
    · subst h0; simp
    · have hk1 : k - 1 < ys.length := by omega
      have h2 := hb _ (List.getElem_mem hk1)
      rw [if_neg h0, SSheet.at_lt hk, SSheet.at_lt hk1, List.getElem?_eq_getElem hk1]
      simp only [Option.map_some, keyS]
      apply decide_eq_decide.2
      simp only [Option.some.injEq]
      omega
  · rw [List.getElem?_eq_none (by simpa using hk), List.getElem?_eq_none (by rw [flagsK_len]; simpa using hk)]
theorem good_bd {xs : List SSheet} (h : goodS xs = true) {c : SSheet} (hc : c ∈ xs) : ∃ j, ∃ hj : j < xs.length, SSheet.at xs j = c ∧ (0 ≤ c.row ∧ c.row ≤ 99 ∧ 0 ≤ c.col ∧ c.col ≤ 99) ∧ atV xs c.row c.col c.scale = (j : Int) := by
  obtain ⟨j, hj, rfl⟩ := List.mem_iff_getElem.1 hc
  have hok := goodS_ok h hj
  have hat := SSheet.at_lt hj
  rw [hat] at hok
  have := SSheet.okB_iff.1 (show SSheet.okB ⟨xs[j].id, xs[j].row, xs[j].col, xs[j].scale, xs[j].year⟩ = true from hok.1)
  exact ⟨j, hj, hat, ⟨by omega, by omega, by omega, by omega⟩, hok.2.2⟩
/-- ahead in rows and then in columns -/
def ltS (a b : SSheet) : Bool := decide (a.row < b.row ∨ (a.row = b.row ∧ a.col < b.col))
theorem strip_impl {xs ys : List SSheet} {scale : Int} (h : goodS xs = true) (hp : ys.Perm (xs.filter fun c => decide (c.scale = scale))) (hs : ∀ i j, i < j → j < ys.length → ltS (SSheet.at ys j) (SSheet.at ys i) = false) :
    (stripTo ys ys.length).2 = foldK (gS xs scale) 10000 := by
  have hin : ∀ c, c ∈ ys ↔ c ∈ xs ∧ c.scale = scale := fun c => by rw [hp.mem_iff]; simp
  have hb : ∀ c ∈ ys, 0 ≤ c.row ∧ c.row ≤ 99 ∧ 0 ≤ c.col ∧ c.col ≤ 99 := fun c hc => by
    obtain ⟨j, hj, _, hb, _⟩ := good_bd h ((hin c).1 hc).1
    exact hb
  have hnd : xs.Nodup := by
    rw [List.nodup_iff_pairwise_ne, List.pairwise_iff_getElem]
    intro i j hi hj hij he
    have := goodS_asc h hij hj
    rw [SSheet.at_lt hi, SSheet.at_lt hj, he] at this
    omega
  have hnd2 : ys.Nodup := hp.nodup_iff.2 (hnd.filter _)
  have hpw : (ys.map fun c => (keyS c, c.id)).Pairwise (fun a b => a.1 < b.1) := by
    rw [List.pairwise_iff_getElem]
    intro i j hi hj hij
    simp only [List.length_map] at hi hj
    simp only [List.getElem_map]
    have h1 := hs i j hij hj
    rw [SSheet.at_lt hi, SSheet.at_lt hj] at h1
    have h1' := of_decide_eq_false h1
    have b1 := hb _ (List.getElem_mem hi)
    have b2 := hb _ (List.getElem_mem hj)
    have hne : ¬ (ys[i].row = ys[j].row ∧ ys[i].col = ys[j].col) := by
      rintro ⟨e1, e2⟩
      obtain ⟨m, hm, em, _, am⟩ := good_bd h ((hin _).1 (List.getElem_mem hi)).1
      obtain ⟨n, hn, en, _, an⟩ := good_bd h ((hin _).1 (List.getElem_mem hj)).1
      rw [e1, e2, ((hin _).1 (List.getElem_mem hi)).2] at am
      rw [((hin _).1 (List.getElem_mem hj)).2] at an
      have hmn : m = n := by omega
      subst hmn
      rw [em] at en
      rw [List.nodup_iff_pairwise_ne, List.pairwise_iff_getElem] at hnd2
      exact hnd2 i j hi hj hij en
    simp only [keyS]
    omega
  have hg : ∀ j y, 0 ≤ j → (gS xs scale j = some y ↔ (j, y) ∈ ys.map fun c => (keyS c, c.id)) := by
    intro j y _
    constructor
    · intro hj
      obtain ⟨m, hm, e1, e2, e3, e4⟩ := gS_some hj
      rw [List.mem_map]
      refine ⟨SSheet.at xs m, (hin _).2 ⟨by rw [SSheet.at_lt hm]; exact List.getElem_mem hm, e4⟩, ?_⟩
      rw [Prod.mk.injEq]
      refine ⟨?_, e1⟩
      simp only [keyS, e2, e3]
      omega
    · intro hj
      rw [List.mem_map] at hj
      obtain ⟨c, hc, he⟩ := hj
      rw [Prod.mk.injEq] at he
      obtain ⟨rfl, rfl⟩ := he
      obtain ⟨m, hm, em, hbd, am⟩ := good_bd h ((hin c).1 hc).1
      have e1 : ((keyS c / 100 : Nat) : Int) = c.row := by simp only [keyS]; omega
      have e2 : ((keyS c % 100 : Nat) : Int) = c.col := by simp only [keyS]; omega
      unfold gS
      rw [e1, e2, ← ((hin c).1 hc).2, am, if_neg (by omega), Int.toNat_natCast, em]
  have hbest := fold_best (gS xs scale) 10000 0 (ys.map fun c => (keyS c, c.id)) none rfl (fun q hq => by
    rw [List.mem_map] at hq
    obtain ⟨c, hc, rfl⟩ := hq
    have := hb c hc
    refine ⟨Nat.zero_le _, ?_⟩
    simp only [keyS]; omega) hpw hg
  rw [hbest]
  unfold stripTo
  rw [flags_eq ys hb, strips _ [] [] (Nat.le_refl _)]
  show _ = bestL [] _
  cases ys with
  | nil => rfl
  | cons c l => simp [flagsK, chainL, updL]
end Go.Proofs.YtplemibckjnbhaaGreatDoor
