/- Plain facts of the places within all sheets of a scale at which there is none (MissingSheets): how many there are. Nothing here speaks of the program. No condition. -/
import Derived.Test.YtplemibckjnbhaaGreatDoorL2P
namespace Go.Proofs.YtplemibckjnbhaaGreatDoor
set_option linter.unusedVariables false
structure SPair where
  (x y : Int)
/-- the places of a row from column c on, of which g holds -/
def rowP (g : Int → Int → Bool) (r c : Int) : Nat → List SPair
  | 0 => []
  | j + 1 => rowP g r c j ++ if g r (c + j) then [⟨r, c + j⟩] else []
/-- the places of rows from a on -/
def boxP (g : Int → Int → Bool) (a c : Int) (nc : Nat) : Nat → List SPair
  | 0 => []
  | i + 1 => boxP g a c nc i ++ rowP g (a + i) c nc
theorem rowP_mem {g : Int → Int → Bool} {r c : Int} {p : SPair} : ∀ {n : Nat}, p ∈ rowP g r c n ↔ p.x = r ∧ c ≤ p.y ∧ p.y < c + n ∧ g p.x p.y = true
  | 0 => by constructor
            · intro h; cases h
            · rintro ⟨_, h1, h2, _⟩; omega
  | n + 1 => by
    unfold rowP
    rw [List.mem_append, rowP_mem (n := n)]
    constructor
    · rintro (⟨h1, h2, h3, h4⟩ | h)
      · exact ⟨h1, h2, by omega, h4⟩
      · split at h
        · next hg => rw [List.mem_singleton] at h; subst h; exact ⟨rfl, by show c ≤ c + (n : Int); omega, by show c + (n : Int) < _; omega, hg⟩
        · cases h
    · rintro ⟨h1, h2, h3, h4⟩
      by_cases h : p.y < c + n
      · exact .inl ⟨h1, h2, h, h4⟩
      · right
        have hy : p.y = c + n := by omega
        rw [h1, hy] at h4
        rw [if_pos h4, List.mem_singleton]
        cases p; simp only at h1 hy; rw [h1, hy]
theorem boxP_mem {g : Int → Int → Bool} {a c : Int} {nc : Nat} {p : SPair} : ∀ {n : Nat}, p ∈ boxP g a c nc n ↔ (a ≤ p.x ∧ p.x < a + n) ∧ c ≤ p.y ∧ p.y < c + nc ∧ g p.x p.y = true
  | 0 => by constructor
            · intro h; cases h
            · rintro ⟨⟨h1, h2⟩, _⟩; omega
  | n + 1 => by
    unfold boxP
    rw [List.mem_append, boxP_mem (n := n), rowP_mem]
    constructor
    · rintro (⟨⟨h1, h2⟩, h3⟩ | ⟨h1, h3⟩)
      · exact ⟨⟨h1, by omega⟩, h3⟩
      · exact ⟨⟨by omega, by omega⟩, h3⟩
    · rintro ⟨⟨h1, h2⟩, h3⟩
      by_cases h : p.x < a + n
      · exact .inl ⟨⟨h1, h⟩, h3⟩
      · exact .inr ⟨by omega, h3⟩
theorem rowP_nodup {g : Int → Int → Bool} {r c : Int} : ∀ n : Nat, (rowP g r c n).Nodup
  | 0 => List.nodup_nil
  | n + 1 => by
    unfold rowP
    rw [List.nodup_append]
    refine ⟨rowP_nodup n, ?_, ?_⟩
    · split <;> simp
    · intro p hp q hq
      rw [rowP_mem] at hp
      split at hq
      · rw [List.mem_singleton] at hq; subst hq
        intro h; rw [h] at hp; simp only at hp; omega
      · cases hq
theorem boxP_nodup {g : Int → Int → Bool} {a c : Int} {nc : Nat} : ∀ n : Nat, (boxP g a c nc n).Nodup
  | 0 => List.nodup_nil
  | n + 1 => by
    unfold boxP
    rw [List.nodup_append]
    refine ⟨boxP_nodup n, rowP_nodup nc, ?_⟩
    intro p hp q hq h
    rw [boxP_mem] at hp
    rw [rowP_mem] at hq
    rw [h] at hp; omega
theorem rowP_both (g : Int → Int → Bool) (r c : Int) : ∀ n : Nat, (rowP g r c n).length + (rowP (fun x y => !g x y) r c n).length = n
  | 0 => rfl
  | n + 1 => by
    have ih := rowP_both g r c n
    unfold rowP
    rw [List.length_append, List.length_append]
    cases h : g r (c + n) <;> simp [h] <;> omega
theorem boxP_both (g : Int → Int → Bool) (a c : Int) (nc : Nat) : ∀ n : Nat, (boxP g a c nc n).length + (boxP (fun x y => !g x y) a c nc n).length = n * nc
  | 0 => by simp [boxP]
  | n + 1 => by
    have ih := boxP_both g a c nc n
    have hr := rowP_both g (a + n) c nc
    unfold boxP
    rw [List.length_append, List.length_append, Nat.succ_mul]
    omega
theorem rowP_le (g : Int → Int → Bool) (r c : Int) (n : Nat) : (rowP g r c n).length ≤ n := by have := rowP_both g r c n; omega
theorem boxP_le (g : Int → Int → Bool) (a c : Int) (nc n : Nat) : (boxP g a c nc n).length ≤ n * nc := by have := boxP_both g a c nc n; omega
/-- the sheets of a scale -/
def ofSc (xs : List SSheet) (sc : Int) : List SSheet := xs.filter (fun s => decide (s.scale = sc))
/-- there is none -/
def noneAt (xs : List SSheet) (sc : Int) (r c : Int) : Bool := decide (atV xs r c sc < 0)
theorem noneAt_iff {xs : List SSheet} {sc r c : Int} : noneAt xs sc r c = true ↔ ∀ s ∈ xs, s.scale = sc → ¬ (s.row = r ∧ s.col = c) := by
  unfold noneAt
  rw [decide_eq_true_iff]
  rcases atV_cases xs r c sc with ⟨h1, h2⟩ | ⟨k, hk, h1, h2, h3, h4⟩
  · rw [h1]
    refine ⟨fun _ s hs hsc hrc => ?_, fun _ => by omega⟩
    have := h2 s hs
    unfold onP at this
    rw [decide_eq_false_iff_not] at this
    exact this ⟨hrc.1, hrc.2, hsc⟩
  · rw [h1]
    refine ⟨fun h => by omega, fun h => ?_⟩
    exact absurd ⟨h2, h3⟩ (h (SSheet.at xs k) (by rw [SSheet.at_lt hk]; exact List.getElem_mem hk) h4)
/-- the places of the sheets of a scale differ -/
theorem places_nodup {xs : List SSheet} (hg : goodS xs = true) (sc : Int) : ((ofSc xs sc).map (fun s => (⟨s.row, s.col⟩ : SPair))).Nodup := by
  unfold ofSc
  rw [List.nodup_iff_pairwise_ne, List.pairwise_map]
  have hp : xs.Pairwise (fun s t => s.scale = sc → t.scale = sc → (⟨s.row, s.col⟩ : SPair) ≠ ⟨t.row, t.col⟩) := by
    rw [List.pairwise_iff_getElem]
    intro i j hi hj hij h1 h2 he
    injection he with e1 e2
    have a1 := (goodS_ok hg hi).2.2
    have a2 := (goodS_ok hg hj).2.2
    rw [SSheet.at_lt hi] at a1; rw [SSheet.at_lt hj] at a2
    rw [e1, e2, h1, ← h2, a2] at a1
    omega
  refine (hp.filter _).imp_of_mem ?_
  intro s t hs ht h
  rw [List.mem_filter, decide_eq_true_iff] at hs ht
  exact h hs.2 ht.2
/-- how many places are free within bounds that hold all sheets of a scale -/
theorem free_count {xs : List SSheet} (hg : goodS xs = true) {sc a c : Int} {nr nc : Nat} (hb : ∀ s ∈ ofSc xs sc, (a ≤ s.row ∧ s.row < a + nr) ∧ c ≤ s.col ∧ s.col < c + nc) :
    (boxP (noneAt xs sc) a c nc nr).length + (ofSc xs sc).length = nr * nc := by
  have h1 := boxP_both (noneAt xs sc) a c nc nr
  have h2 : (boxP (fun x y => !noneAt xs sc x y) a c nc nr).length = (ofSc xs sc).length := by
    have hp : (boxP (fun x y => !noneAt xs sc x y) a c nc nr).Perm ((ofSc xs sc).map (fun s => (⟨s.row, s.col⟩ : SPair))) := by
      rw [List.perm_ext_iff_of_nodup (boxP_nodup nr) (places_nodup hg sc)]
      intro p
      rw [boxP_mem, List.mem_map]
      constructor
      · rintro ⟨_, _, _, h⟩
        have hn : ¬ noneAt xs sc p.x p.y = true := by simpa using h
        rw [noneAt_iff] at hn
        simp only [Classical.not_forall, Classical.not_not] at hn
        obtain ⟨s, hs, hsc, hrc⟩ := hn
        refine ⟨s, ?_, ?_⟩
        · unfold ofSc; rw [List.mem_filter, decide_eq_true_iff]; exact ⟨hs, hsc⟩
        · cases p; simp only at hrc; rw [hrc.1, hrc.2]
      · rintro ⟨s, hs, rfl⟩
        obtain ⟨b1, b2, b3⟩ := hb s hs
        refine ⟨b1, b2, b3, ?_⟩
        unfold ofSc at hs
        rw [List.mem_filter, decide_eq_true_iff] at hs
        cases hq : noneAt xs sc s.row s.col with
        | false => simp [hq]
        | true => exact absurd ⟨rfl, rfl⟩ (noneAt_iff.1 hq s hs.1 hs.2)
    rw [hp.length_eq, List.length_map]
  omega
end Go.Proofs.YtplemibckjnbhaaGreatDoor
