/- The least sums of steps, sweeps and potentials, in plain Lean; states of marks as lists. Nothing here speaks of the program. No condition. (Printed by mkl8g.py.) -/
import Derived.Test.YtijjecckfcbaoaaL8F
namespace Go.Proofs.Ytijjecckfcbaoaa
open Go.RowKit
set_option linter.unusedVariables false
/-! ### distances with no bound as none -/
def leO : Option Int → Option Int → Prop
  | _, none => True
  | none, some _ => False
  | some a, some b => a ≤ b
def addO : Option Int → Int → Option Int
  | none, _ => none
  | some a, w => some (a + w)
def minO : Option Int → Option Int → Option Int
  | none, b => b
  | a, none => a
  | some a, some b => some (min a b)
theorem leO.refl (a : Option Int) : leO a a := by cases a <;> simp [leO]
theorem leO.trans {a b c : Option Int} (h : leO a b) (k : leO b c) : leO a c := by
  cases a <;> cases b <;> cases c <;> simp_all [leO]; omega
theorem leO.antisymm {a b : Option Int} (h : leO a b) (k : leO b a) : a = b := by
  cases a <;> cases b <;> simp_all [leO]; omega
theorem leO_add {a b : Option Int} (h : leO a b) (w : Int) : leO (addO a w) (addO b w) := by
  cases a <;> cases b <;> simp_all [leO, addO]
theorem leO_total (a b : Option Int) : leO a b ∨ leO b a := by
  cases a <;> cases b <;> simp [leO]; omega
theorem minO_le (a b : Option Int) : leO (minO a b) a ∧ leO (minO a b) b := by
  cases a <;> cases b <;> simp [minO, leO] <;> omega
theorem minO_cases (a b : Option Int) : minO a b = a ∨ minO a b = b := by
  cases a <;> cases b <;> simp [minO]; omega
theorem foldl_minO (cs : List (Option Int)) : ∀ a, leO (cs.foldl minO a) a ∧ (∀ c ∈ cs, leO (cs.foldl minO a) c) ∧ (cs.foldl minO a = a ∨ cs.foldl minO a ∈ cs) := by
  induction cs with
  | nil => intro a; exact ⟨leO.refl _, by simp, .inl rfl⟩
  | cons c cs ih =>
    intro a
    obtain ⟨h1, h2, h3⟩ := ih (minO a c)
    simp only [List.foldl_cons, List.mem_cons, forall_eq_or_imp]
    refine ⟨h1.trans (minO_le a c).1, ⟨h1.trans (minO_le a c).2, h2⟩, ?_⟩
    rcases h3 with h3 | h3
    · rcases minO_cases a c with h | h
      · left; rw [h3, h]
      · right; left; rw [h3, h]
    · exact .inr (.inr h3)

/-! ### the least sums of at most r steps -/
abbrev Step := Nat × Nat × Int
def dist (es : List Step) (s0 : Nat → Option Int) : Nat → Nat → Option Int
  | 0, v => s0 v
  | r + 1, v => ((es.filter fun e => e.2.1 == v).map fun e => addO (dist es s0 r e.1) e.2.2).foldl minO (dist es s0 r v)
section
variable {es : List Step} {s0 : Nat → Option Int}
theorem dist_le (r v : Nat) : leO (dist es s0 (r+1) v) (dist es s0 r v) := (foldl_minO _ _).1
theorem dist_edge (r : Nat) {e : Step} (he : e ∈ es) : leO (dist es s0 (r+1) e.2.1) (addO (dist es s0 r e.1) e.2.2) :=
  (foldl_minO _ _).2.1 _ (List.mem_map.2 ⟨e, List.mem_filter.2 ⟨he, by simp⟩, rfl⟩)
theorem dist_cases (r v : Nat) : dist es s0 (r+1) v = dist es s0 r v ∨ ∃ e ∈ es, e.2.1 = v ∧ dist es s0 (r+1) v = addO (dist es s0 r e.1) e.2.2 := by
  rcases (foldl_minO ((es.filter fun e => e.2.1 == v).map fun e => addO (dist es s0 r e.1) e.2.2) (dist es s0 r v)).2.2 with h | h
  · exact .inl h
  · obtain ⟨e, he, hd⟩ := List.mem_map.1 h
    obtain ⟨h1, h2⟩ := List.mem_filter.1 he
    exact .inr ⟨e, h1, by simpa using h2, hd.symm⟩
theorem dist_mono {r : Nat} (v : Nat) : ∀ {q : Nat}, r ≤ q → leO (dist es s0 q v) (dist es s0 r v)
  | 0, h => by obtain rfl : r = 0 := by omega
               exact leO.refl _
  | q + 1, h => by
    by_cases hr : r = q + 1
    · subst hr; exact leO.refl _
    · exact (dist_le q v).trans (dist_mono v (show r ≤ q by omega))
theorem late_chain {n : Nat} {h : Nat → Int} (hp : ∀ e ∈ es, h e.2.1 ≤ h e.1 + e.2.2) (hn : ∀ e ∈ es, e.2.1 < n) : ∀ (r v : Nat) (x : Int), dist es s0 (r+1) v = some x → dist es s0 (r+1) v ≠ dist es s0 r v →
    ∃ L : List Nat, L.length = r + 1 ∧ L.Nodup ∧ (∀ u ∈ L, u < n) ∧ ∀ u ∈ L, ∃ j y, j ≤ r ∧ dist es s0 (j+1) u = some y ∧ y - h u ≤ x - h v
  | 0, v, x, hx, hne => by
    rcases dist_cases (es := es) (s0 := s0) 0 v with h0 | ⟨e, he, rfl, hd⟩
    · exact absurd h0 hne
    · exact ⟨[e.2.1], rfl, by simp, by simpa using hn e he, fun u hu => by
        obtain rfl : u = e.2.1 := by simpa using hu
        exact ⟨0, x, Nat.le_refl _, hx, Int.le_refl _⟩⟩
  | r + 1, v, x, hx, hne => by
    rcases dist_cases (es := es) (s0 := s0) (r+1) v with h0 | ⟨e, he, rfl, hd⟩
    · exact absurd h0 hne
    · rw [hx] at hd
      cases ha : dist es s0 (r+1) e.1 with
      | none => rw [ha] at hd; simp [addO] at hd
      | some a =>
        have hxa : x = a + e.2.2 := by rw [ha] at hd; simpa [addO] using hd
        have hpe := hp e he
        have hl : dist es s0 (r+1) e.1 ≠ dist es s0 r e.1 := by
          intro heq
          have h1 := dist_edge (es := es) (s0 := s0) r he
          rw [← heq, ← hd, ← hx] at h1
          exact hne ((dist_le (es := es) (s0 := s0) (r+1) e.2.1).antisymm h1)
        obtain ⟨L, hL, hnd, hlt, hch⟩ := late_chain hp hn r e.1 a ha hl
        refine ⟨e.2.1 :: L, by simp [hL], List.nodup_cons.2 ⟨fun hv => ?_, hnd⟩, ?_, ?_⟩
        · obtain ⟨j, y, hj, hy, hle⟩ := hch _ hv
          have h1 : leO (dist es s0 (r+1) e.2.1) (dist es s0 (j+1) e.2.1) := dist_mono _ (by omega)
          have h2 := dist_le (es := es) (s0 := s0) (r+1) e.2.1
          rw [hx] at h2 hne
          rw [hy] at h1
          cases hm : dist es s0 (r+1) e.2.1 with
          | none => rw [hm] at h1; simp [leO] at h1
          | some m =>
            rw [hm] at h1 h2 hne
            simp only [leO] at h1 h2
            exact hne (by congr 1; omega)
        · intro u hu
          rcases List.mem_cons.1 hu with rfl | hu
          · exact hn e he
          · exact hlt u hu
        · intro u hu
          rcases List.mem_cons.1 hu with rfl | hu
          · exact ⟨r+1, x, Nat.le_refl _, hx, Int.le_refl _⟩
          · obtain ⟨j, y, hj, hy, hle⟩ := hch u hu
            exact ⟨j, y, by omega, hy, by omega⟩
end
theorem nodup_le : ∀ (n : Nat) (L : List Nat), L.Nodup → (∀ u ∈ L, u < n) → L.length ≤ n
  | 0, L, _, h => by
    cases L with
    | nil => simp
    | cons a L => exact absurd (h a (by simp)) (by omega)
  | n + 1, L, hd, h => by
    have h1 := nodup_le n (L.erase n) (hd.erase n) (fun u hu => by
      have h2 := h u (List.mem_of_mem_erase hu)
      have h3 : u ≠ n := fun e => by subst e; exact (hd.not_mem_erase) hu
      omega)
    have h4 := List.length_erase (a := n) (l := L)
    split at h4 <;> omega
theorem dist_stable {es : List Step} {s0 : Nat → Option Int} {n : Nat} {h : Nat → Int} (hp : ∀ e ∈ es, h e.2.1 ≤ h e.1 + e.2.2) (hn : ∀ e ∈ es, e.2.1 < n) (v : Nat) : dist es s0 (n+1) v = dist es s0 n v := by
  by_cases hne : dist es s0 (n+1) v = dist es s0 n v
  · exact hne
  · exfalso
    cases hx : dist es s0 (n+1) v with
    | none =>
      have := dist_le (es := es) (s0 := s0) n v
      rw [hx] at this hne
      cases hd : dist es s0 n v with
      | none => exact hne hd.symm
      | some a => rw [hd] at this; simp [leO] at this
    | some x =>
      obtain ⟨L, h1, h2, h3, _⟩ := late_chain hp hn n v x hx hne
      have := nodup_le n L h2 h3
      omega

/-! ### sweeps -/
/-- whether a step makes its end lower -/
def fires (s : Nat → Option Int) (e : Step) : Bool :=
  match s e.1, s e.2.1 with
  | none, _ => false
  | some _, none => true
  | some a, some b => decide (a + e.2.2 < b)
def relax (s : Nat → Option Int) (e : Step) : Nat → Option Int := if fires s e then fun v => if v = e.2.1 then addO (s e.1) e.2.2 else s v else s
def sweep (es : List Step) (s : Nat → Option Int) : Nat → Option Int := es.foldl relax s
def sweeps (es : List Step) (s : Nat → Option Int) : Nat → Nat → Option Int
  | 0 => s
  | r + 1 => sweep es (sweeps es s r)
theorem relax_le (s : Nat → Option Int) (e : Step) (v : Nat) : leO (relax s e v) (s v) := by
  unfold relax
  split
  · rename_i hf
    by_cases hv : v = e.2.1
    · subst hv
      simp only [if_true]
      unfold fires at hf
      cases h1 : s e.1 <;> cases h2 : s e.2.1 <;> simp_all [leO, addO]; omega
    · simp only [if_neg hv]; exact leO.refl _
  · exact leO.refl _
theorem relax_edge (s : Nat → Option Int) (e : Step) : leO (relax s e e.2.1) (addO (s e.1) e.2.2) := by
  unfold relax
  split
  · simp only [if_true]; exact leO.refl _
  · rename_i hf
    unfold fires at hf
    cases h1 : s e.1 <;> cases h2 : s e.2.1 <;> simp_all [leO, addO]
theorem relax_ge {s P : Nat → Option Int} {e : Step} (hP : leO (P e.2.1) (addO (P e.1) e.2.2)) (h : ∀ v, leO (P v) (s v)) (v : Nat) : leO (P v) (relax s e v) := by
  unfold relax
  split
  · by_cases hv : v = e.2.1
    · subst hv; simp only [if_true]; exact hP.trans (leO_add (h _) _)
    · simp only [if_neg hv]; exact h v
  · exact h v
theorem sweep_le : ∀ (es : List Step) (s : Nat → Option Int) (v : Nat), leO (sweep es s v) (s v)
  | [], s, v => leO.refl _
  | e :: es, s, v => (sweep_le es (relax s e) v).trans (relax_le s e v)
theorem sweep_edge : ∀ (es : List Step) (s : Nat → Option Int) {e : Step}, e ∈ es → leO (sweep es s e.2.1) (addO (s e.1) e.2.2)
  | [], s, e, he => by simp at he
  | d :: es, s, e, he => by
    rcases List.mem_cons.1 he with rfl | he
    · exact (sweep_le es _ _).trans (relax_edge s e)
    · exact (sweep_edge es (relax s d) he).trans (leO_add (relax_le s d _) _)
theorem sweep_ge : ∀ {es : List Step} {s P : Nat → Option Int}, (∀ e ∈ es, leO (P e.2.1) (addO (P e.1) e.2.2)) → (∀ v, leO (P v) (s v)) → ∀ v, leO (P v) (sweep es s v)
  | [], s, P, _, h, v => h v
  | e :: es, s, P, hP, h, v => sweep_ge (es := es) (fun d hd => hP d (List.mem_cons_of_mem _ hd)) (relax_ge (hP e (by simp)) h) v
theorem sweeps_le_dist (es : List Step) (s : Nat → Option Int) : ∀ r v, leO (sweeps es s r v) (dist es s r v)
  | 0, v => leO.refl _
  | r + 1, v => by
    rcases dist_cases (es := es) (s0 := s) r v with h | ⟨e, he, rfl, h⟩
    · rw [h]; exact (sweep_le es _ v).trans (sweeps_le_dist es s r v)
    · rw [h]; exact (sweep_edge es _ he).trans (leO_add (sweeps_le_dist es s r _) _)
theorem sweeps_ge {es : List Step} {s P : Nat → Option Int} (hP : ∀ e ∈ es, leO (P e.2.1) (addO (P e.1) e.2.2)) (h : ∀ v, leO (P v) (s v)) : ∀ r v, leO (P v) (sweeps es s r v)
  | 0, v => h v
  | r + 1, v => sweep_ge hP (sweeps_ge hP h r) v
/-- a potential -/
def Pot (es : List Step) : Prop := ∃ h : Nat → Int, ∀ e ∈ es, h e.2.1 ≤ h e.1 + e.2.2
theorem dist_fix {es : List Step} {s : Nat → Option Int} {n : Nat} (hp : Pot es) (hn : ∀ e ∈ es, e.2.1 < n) : ∀ e ∈ es, leO (dist es s n e.2.1) (addO (dist es s n e.1) e.2.2) := by
  obtain ⟨h, hh⟩ := hp
  intro e he
  rw [← dist_stable (s0 := s) hh hn]
  exact dist_edge n he
theorem sweeps_eq {es : List Step} {s : Nat → Option Int} {n : Nat} (hp : Pot es) (hn : ∀ e ∈ es, e.2.1 < n) {r : Nat} (hr : n ≤ r) : sweeps es s r = dist es s n := by
  funext v
  refine leO.antisymm ((sweeps_le_dist es s r v).trans (dist_mono v hr)) ?_
  exact sweeps_ge (dist_fix hp hn) (fun v => dist_mono v (Nat.zero_le n)) r v
theorem sweeps_stable {es : List Step} {s : Nat → Option Int} {n : Nat} (hp : Pot es) (hn : ∀ e ∈ es, e.2.1 < n) : sweep es (sweeps es s n) = sweeps es s n := by
  have := sweeps_eq (s := s) hp hn (show n ≤ n + 1 by omega)
  rw [sweeps_eq hp hn (Nat.le_refl n)]
  rw [← this]
  conv => rhs; rw [this]
  show sweep es (sweeps es s (n+1)) = _
  rw [this]
  have h2 := sweeps_eq (s := s) hp hn (show n ≤ n + 1 by omega)
  rw [← sweeps_eq (s := s) hp hn (Nat.le_refl n)]
  conv => rhs; rw [sweeps_eq (s := s) hp hn (Nat.le_refl n), ← h2]
  rfl
theorem fix_edge {es : List Step} {s : Nat → Option Int} (h : sweep es s = s) {e : Step} (he : e ∈ es) : leO (s e.2.1) (addO (s e.1) e.2.2) := by
  have := sweep_edge es s he
  rwa [h] at this
/-! ### rounds until nothing changes -/
def firedIn : List Step → (Nat → Option Int) → Bool
  | [], _ => false
  | e :: es, s => fires s e || firedIn es (relax s e)
theorem relax_no {s : Nat → Option Int} {e : Step} (h : fires s e = false) : relax s e = s := by unfold relax; rw [h]; rfl
theorem relax_ne {s : Nat → Option Int} {e : Step} (h : fires s e = true) : ¬ leO (s e.2.1) (relax s e e.2.1) := by
  unfold relax
  rw [h]
  unfold fires at h
  cases h1 : s e.1 <;> cases h2 : s e.2.1 <;> simp_all [leO, addO]
theorem firedIn_no : ∀ {es : List Step} {s : Nat → Option Int}, firedIn es s = false ↔ sweep es s = s
  | [], s => by simp [firedIn, sweep]
  | e :: es, s => by
    have hs : sweep (e :: es) s = sweep es (relax s e) := rfl
    unfold firedIn
    rw [Bool.or_eq_false_iff]
    constructor
    · rintro ⟨h1, h2⟩
      rw [relax_no h1] at h2
      rw [hs, relax_no h1, firedIn_no.1 h2]
    · intro h
      have hf : fires s e = false := by
        cases hf : fires s e with
        | false => rfl
        | true =>
          exfalso
          apply relax_ne hf
          have := sweep_le es (relax s e) e.2.1
          rw [← hs, h] at this
          exact this
      refine ⟨hf, ?_⟩
      rw [hs, relax_no hf] at h
      rw [relax_no hf]
      exact firedIn_no.2 h
def lowerF (es : List Step) : Nat → (Nat → Option Int) → (Nat → Option Int) × Bool
  | 0, s => (s, false)
  | k + 1, s => if firedIn es s then lowerF es k (sweep es s) else (sweep es s, true)
theorem sweeps_in (es : List Step) (s : Nat → Option Int) : ∀ r, sweeps es (sweep es s) r = sweeps es s (r + 1)
  | 0 => rfl
  | r + 1 => by show sweep es (sweeps es (sweep es s) r) = _; rw [sweeps_in es s r]; rfl
theorem lowerF_true {es : List Step} : ∀ {k : Nat} {s : Nat → Option Int}, (lowerF es k s).2 = true → sweep es (lowerF es k s).1 = (lowerF es k s).1 ∧ ∃ r, (lowerF es k s).1 = sweeps es s r
  | 0, s, h => by simp [lowerF] at h
  | k + 1, s, h => by
    unfold lowerF at h ⊢
    by_cases hf : firedIn es s = true
    · rw [if_pos hf] at h ⊢
      obtain ⟨h1, r, h2⟩ := lowerF_true h
      exact ⟨h1, r + 1, by rw [h2, sweeps_in]⟩
    · rw [if_neg hf] at h ⊢
      rw [Bool.not_eq_true] at hf
      have := firedIn_no.1 hf
      exact ⟨by simp only [this], 1, rfl⟩
theorem lowerF_of {es : List Step} {n : Nat} (hp : Pot es) (hn : ∀ e ∈ es, e.2.1 < n) (s : Nat → Option Int) : ∀ (k r : Nat), r + k = n + 1 → r ≤ n → (lowerF es k (sweeps es s r)).2 = true
  | 0, r, h, hr => by omega
  | k + 1, r, h, hr => by
    unfold lowerF
    by_cases hf : firedIn es (sweeps es s r) = true
    · rw [if_pos hf]
      have hrn : r ≠ n := by
        intro e
        subst e
        rw [firedIn_no.2 (sweeps_stable hp hn)] at hf
        exact absurd hf (by simp)
      exact lowerF_of hp hn s k (r + 1) (by omega) (by omega)
    · rw [if_neg hf]
theorem sweeps_fix {es : List Step} {s : Nat → Option Int} {r : Nat} (h : sweep es (sweeps es s r) = sweeps es s r) : ∀ q, r ≤ q → sweeps es s q = sweeps es s r
  | 0, hq => by obtain rfl : r = 0 := by omega
                rfl
  | q + 1, hq => by
    by_cases hr : r = q + 1
    · rw [hr]
    · show sweep es (sweeps es s q) = _
      rw [sweeps_fix h q (by omega), h]
theorem lowerF_dist {es : List Step} {n : Nat} (hp : Pot es) (hn : ∀ e ∈ es, e.2.1 < n) (s : Nat → Option Int) : lowerF es (n + 1) s = (dist es s n, true) := by
  have h2 : (lowerF es (n + 1) s).2 = true := lowerF_of hp hn s (n + 1) 0 (by omega) (by omega)
  obtain ⟨h3, r, h4⟩ := lowerF_true h2
  refine Prod.ext ?_ h2
  rw [h4] at h3
  rw [h4, ← sweeps_fix h3 (r + n) (by omega), sweeps_eq hp hn (by omega)]

/-! ### sound: three ways to ask -/
def zeros (n : Nat) : Nat → Option Int := fun v => if v < n then some 0 else none
def source (k : Nat) : Nat → Option Int := fun v => if v = k then some 0 else none
theorem leO_some {a : Option Int} {x : Int} (h : leO a (some x)) : ∃ y, a = some y ∧ y ≤ x := by
  cases a with
  | none => simp [leO] at h
  | some y => exact ⟨y, rfl, h⟩
theorem sweeps_le (es : List Step) (s : Nat → Option Int) : ∀ r v, leO (sweeps es s r v) (s v)
  | 0, v => leO.refl _
  | r + 1, v => (sweep_le es _ v).trans (sweeps_le es s r v)
theorem pot_zeros {es : List Step} {n : Nat} (hn : ∀ e ∈ es, e.1 < n ∧ e.2.1 < n) : (lowerF es (n + 1) (zeros n)).2 = true ↔ Pot es := by
  constructor
  · intro h
    obtain ⟨h1, r, h2⟩ := lowerF_true h
    rw [h2] at h1
    refine ⟨fun v => (sweeps es (zeros n) r v).getD 0, fun e he => ?_⟩
    have h3 := fix_edge h1 he
    have h4 : ∀ v, v < n → ∃ y, sweeps es (zeros n) r v = some y := fun v hv => by
      have := sweeps_le es (zeros n) r v
      rw [show zeros n v = some 0 by simp [zeros, hv]] at this
      obtain ⟨y, hy, _⟩ := leO_some this
      exact ⟨y, hy⟩
    obtain ⟨a, ha⟩ := h4 e.1 (hn e he).1
    obtain ⟨b, hb⟩ := h4 e.2.1 (hn e he).2
    rw [ha, hb] at h3
    simp only [ha, hb, Option.getD_some]
    exact h3
  · intro h
    rw [lowerF_dist h fun e he => (hn e he).2]
theorem pot_sources {es : List Step} {n : Nat} (hn : ∀ e ∈ es, e.1 < n ∧ e.2.1 < n) : (∀ k, k < n → (lowerF es (n + 1) (source k)).2 = true) ↔ Pot es := by
  constructor
  · intro h
    have hk : ∀ k, k < n → (∀ e ∈ es, leO ((lowerF es (n + 1) (source k)).1 e.2.1) (addO ((lowerF es (n + 1) (source k)).1 e.1) e.2.2)) ∧ ∀ v, leO ((lowerF es (n + 1) (source k)).1 v) (source k v) := fun k hk => by
      obtain ⟨h1, r, h2⟩ := lowerF_true (h k hk)
      exact ⟨fun e he => fix_edge h1 he, fun v => by rw [h2]; exact sweeps_le es _ r v⟩
    have hm : ∀ v, v < n → ∃ y, ((List.range n).map fun k => (lowerF es (n + 1) (source k)).1 v).foldl minO none = some y := fun v hv => by
      have h1 := (foldl_minO ((List.range n).map fun k => (lowerF es (n + 1) (source k)).1 v) none).2.1 _ (List.mem_map.2 ⟨v, List.mem_range.2 hv, rfl⟩)
      have h2 := (hk v hv).2 v
      rw [show source v v = some 0 by simp [source]] at h2
      obtain ⟨y, hy, _⟩ := leO_some (h1.trans h2)
      exact ⟨y, hy⟩
    refine ⟨fun v => (((List.range n).map fun k => (lowerF es (n + 1) (source k)).1 v).foldl minO none).getD 0, fun e he => ?_⟩
    obtain ⟨a, ha⟩ := hm e.1 (hn e he).1
    obtain ⟨b, hb⟩ := hm e.2.1 (hn e he).2
    simp only [ha, hb, Option.getD_some]
    rcases (foldl_minO ((List.range n).map fun k => (lowerF es (n + 1) (source k)).1 e.1) none).2.2 with h1 | h1
    · rw [ha] at h1; simp at h1
    · rw [ha] at h1
      obtain ⟨k, hk1, hk2⟩ := List.mem_map.1 h1
      have hkn := List.mem_range.1 hk1
      have h3 := (hk k hkn).1 e he
      have h4 := (foldl_minO ((List.range n).map fun k => (lowerF es (n + 1) (source k)).1 e.2.1) none).2.1 _ (List.mem_map.2 ⟨k, hk1, rfl⟩)
      rw [hb] at h4
      have h5 := h4.trans h3
      rw [hk2] at h5
      exact h5
  · intro h k _
    rw [lowerF_dist h fun e he => (hn e he).2]
/-! ### claims as steps; states as lists -/
def stepsC (c : SClaim) : List Step := [(c.low.toNat, c.high.toNat, c.most), (c.high.toNat, c.low.toNat, -c.least)]
def stepsOf (xs : List SClaim) : List Step := xs.flatMap stepsC
def relaxP (a : (Nat → Option Int) × Bool) (e : Step) : (Nat → Option Int) × Bool := (relax a.1 e, a.2 || fires a.1 e)
theorem foldP : ∀ (es : List Step) (s : Nat → Option Int) (b : Bool), es.foldl relaxP (s, b) = (sweep es s, b || firedIn es s)
  | [], s, b => by simp [sweep, firedIn]
  | e :: es, s, b => by
    show es.foldl relaxP (relax s e, b || fires s e) = _
    rw [foldP es]
    show (sweep es (relax s e), _) = (sweep es (relax s e), _)
    rw [Bool.or_assoc]; rfl
def sweepC (xs : List SClaim) (s : Nat → Option Int) : (Nat → Option Int) × Bool := (stepsOf xs).foldl relaxP (s, false)
theorem sweepC_eq (xs : List SClaim) (s : Nat → Option Int) : sweepC xs s = (sweep (stepsOf xs) s, firedIn (stepsOf xs) s) := by unfold sweepC; rw [foldP, Bool.false_or]
theorem stepsOf_snoc (xs : List SClaim) (c : SClaim) : stepsOf (xs ++ [c]) = stepsOf xs ++ stepsC c := by simp [stepsOf]
theorem sweepC_snoc (xs : List SClaim) (c : SClaim) (s : Nat → Option Int) : sweepC (xs ++ [c]) s = relaxP (relaxP (sweepC xs s) (c.low.toNat, c.high.toNat, c.most)) (c.high.toNat, c.low.toNat, -c.least) := by
  unfold sweepC; rw [stepsOf_snoc, List.foldl_append]; rfl
theorem stepsOf_mem {xs : List SClaim} {n : Int} (h : areB n xs = true) : ∀ e ∈ stepsOf xs, e.1 < n.toNat ∧ e.2.1 < n.toNat ∧ -9999 ≤ e.2.2 ∧ e.2.2 ≤ 9999 := by
  intro e he
  unfold stepsOf at he
  rw [List.mem_flatMap] at he
  obtain ⟨c, hc, he⟩ := he
  have h1 := oneB_iff.1 ((areB_iff.1 h).1 c hc)
  unfold stepsC at he
  rcases List.mem_cons.1 he with rfl | he
  · simp only; omega
  · rw [List.mem_singleton.1 he]; simp only; omega
def HsOf (n : Nat) (s : Nat → Option Int) : List Int := (List.range n).map fun v => (s v).getD 0
def TsOf (n : Nat) (s : Nat → Option Int) : List Bool := (List.range n).map fun v => (s v).isSome
theorem HsOf_len (n : Nat) (s : Nat → Option Int) : (HsOf n s).length = n := by simp [HsOf]
theorem TsOf_len (n : Nat) (s : Nat → Option Int) : (TsOf n s).length = n := by simp [TsOf]
theorem HsOf_get {n : Nat} {s : Nat → Option Int} {v : Nat} (h : v < (HsOf n s).length) : (HsOf n s)[v] = (s v).getD 0 := by simp [HsOf]
theorem TsOf_get {n : Nat} {s : Nat → Option Int} {v : Nat} (h : v < (TsOf n s).length) : (TsOf n s)[v] = (s v).isSome := by simp [TsOf]
theorem map_set_range {α : Type} (n : Nat) (f : Nat → α) (i : Nat) (x : α) : ((List.range n).map f).set i x = (List.range n).map fun v => if v = i then x else f v := by
  apply List.ext_getElem
  · simp
  · intro j h1 h2
    simp only [List.getElem_set, List.getElem_map, List.getElem_range]
    by_cases hj : i = j
    · subst hj; simp
    · rw [if_neg hj, if_neg (fun e => hj e.symm)]
theorem HsOf_relax {n : Nat} {s : Nat → Option Int} {e : Step} {a : Int} (hf : fires s e = true) (ha : s e.1 = some a) : (HsOf n s).set e.2.1 (a + e.2.2) = HsOf n (relax s e) := by
  unfold HsOf
  rw [map_set_range]
  apply List.map_congr_left
  intro v _
  unfold relax
  rw [hf]
  simp only [if_true]
  split
  · rw [ha]; rfl
  · rfl
theorem TsOf_relax {n : Nat} {s : Nat → Option Int} {e : Step} {a : Int} (hf : fires s e = true) (ha : s e.1 = some a) : (TsOf n s).set e.2.1 true = TsOf n (relax s e) := by
  unfold TsOf
  rw [map_set_range]
  apply List.map_congr_left
  intro v _
  unfold relax
  rw [hf]
  simp only [if_true]
  split
  · rw [ha]; rfl
  · rfl
/-- bounds: after K steps -/
def Bd (n : Nat) (s : Nat → Option Int) (K : Nat) : Prop := ∀ v a, v < n → s v = some a → -(9999 * (K : Int)) ≤ a ∧ a ≤ 9999 * (K : Int)
theorem Bd.relax {n : Nat} {s : Nat → Option Int} {K : Nat} (h : Bd n s K) {e : Step} (h1 : e.1 < n) (h2 : -9999 ≤ e.2.2) (h3 : e.2.2 ≤ 9999) : Bd n (relax s e) (K + 1) := by
  intro v a hv ha
  unfold Go.Proofs.Ytijjecckfcbaoaa.relax at ha
  split at ha
  · simp only at ha
    split at ha
    · cases hs : s e.1 with
      | none => rw [hs] at ha; simp [addO] at ha
      | some b =>
        rw [hs] at ha
        simp only [addO, Option.some.injEq] at ha
        have := h e.1 b h1 hs
        omega
    · have := h v a hv ha; omega
  · have := h v a hv ha; omega
theorem Bd.mono {n : Nat} {s : Nat → Option Int} {K L : Nat} (h : Bd n s K) (hl : K ≤ L) : Bd n s L := fun v a hv ha => by have := h v a hv ha; omega
theorem Bd_zeros (n : Nat) : Bd n (zeros n) 0 := fun v a hv ha => by simp [zeros, hv] at ha; omega
theorem Bd_source (n k : Nat) : Bd n (source k) 0 := fun v a hv ha => by
  unfold source at ha; split at ha
  · injection ha with ha; omega
  · simp at ha
/-- how many marks are told -/
def cntT (n : Nat) (s : Nat → Option Int) : Nat := ((List.range n).filter fun v => (s v).isSome).length
theorem cntT_le (n : Nat) (s : Nat → Option Int) : cntT n s ≤ n := by
  unfold cntT
  have := List.length_filter_le (fun v => (s v).isSome) (List.range n)
  simpa using this
/-- told heights are at most 9999 for each other told mark -/
def TB (n : Nat) (s : Nat → Option Int) : Prop := ∀ v a, v < n → s v = some a → a + 9999 ≤ 9999 * (cntT n s : Int)
theorem filter_lt {l : List Nat} {p q : Nat → Bool} (h : ∀ v ∈ l, p v = true → q v = true) {x : Nat} (hx : x ∈ l) (h1 : p x = false) (h2 : q x = true) : (l.filter p).length < (l.filter q).length := by
  induction l with
  | nil => simp at hx
  | cons a l ih =>
    have hle : (l.filter p).length ≤ (l.filter q).length := by
      clear ih hx
      induction l with
      | nil => simp
      | cons b l ih2 =>
        have h3 := ih2 fun v hv hp => h v (by rcases List.mem_cons.1 hv with rfl | hv <;> simp_all) hp
        have h4 := h b (by simp)
        by_cases hb : p b = true
        · rw [List.filter_cons_of_pos hb, List.filter_cons_of_pos (h4 hb)]; simp; exact h3
        · rw [List.filter_cons_of_neg hb]
          by_cases hq : q b = true
          · rw [List.filter_cons_of_pos hq]; simp; omega
          · rw [List.filter_cons_of_neg hq]; exact h3
    by_cases ha : x = a
    · subst ha
      rw [List.filter_cons_of_neg (by rw [h1]; simp), List.filter_cons_of_pos h2]
      simp; omega
    · have hxl : x ∈ l := by rcases List.mem_cons.1 hx with h | h; exact absurd h ha; exact h
      have h3 := ih (fun v hv hp => h v (List.mem_cons_of_mem _ hv) hp) hxl
      have h4 := h a List.mem_cons_self
      by_cases hb : p a = true
      · rw [List.filter_cons_of_pos hb, List.filter_cons_of_pos (h4 hb)]; simp; omega
      · rw [List.filter_cons_of_neg hb]
        by_cases hq : q a = true
        · rw [List.filter_cons_of_pos hq]; simp; omega
        · rw [List.filter_cons_of_neg hq]; exact h3
theorem TB.relax {n : Nat} {s : Nat → Option Int} (h : TB n s) {e : Step} (h1 : e.1 < n) (h0 : e.2.1 < n) (h3 : e.2.2 ≤ 9999) : TB n (relax s e) := by
  by_cases hf : fires s e = true
  case neg =>
    rw [Bool.not_eq_true] at hf
    rw [relax_no hf]; exact h
  have hr : Go.Proofs.Ytijjecckfcbaoaa.relax s e = fun v => if v = e.2.1 then addO (s e.1) e.2.2 else s v := by unfold Go.Proofs.Ytijjecckfcbaoaa.relax; rw [hf]; rfl
  cases hs : s e.1 with
  | none => unfold fires at hf; rw [hs] at hf; simp at hf
  | some b =>
    have hb := h e.1 b h1 hs
    cases ht : s e.2.1 with
    | none =>
      have hc : cntT n s < cntT n (Go.Proofs.Ytijjecckfcbaoaa.relax s e) := by
        refine filter_lt (fun v _ hv => ?_) (List.mem_range.2 h0) (by rw [ht]; rfl) (by rw [hr]; simp [hs, addO])
        rw [hr]; simp only; split
        · rw [hs]; rfl
        · exact hv
      intro v a hv ha
      rw [hr] at ha
      simp only at ha
      split at ha
      · rw [hs] at ha; simp only [addO, Option.some.injEq] at ha; omega
      · have := h v a hv ha; omega
    | some c =>
      have hlt : b + e.2.2 < c := by unfold fires at hf; rw [hs, ht] at hf; simpa using hf
      have hc : cntT n s ≤ cntT n (Go.Proofs.Ytijjecckfcbaoaa.relax s e) := by
        unfold cntT
        rw [hr]
        refine Nat.le_of_eq (congrArg List.length (List.filter_congr fun v _ => ?_))
        simp only
        split
        · rename_i hv; subst hv; rw [ht, hs]; rfl
        · rfl
      have hcc := h e.2.1 c h0 ht
      intro v a hv ha
      rw [hr] at ha
      simp only at ha
      split at ha
      · rw [hs] at ha; simp only [addO, Option.some.injEq] at ha; omega
      · have := h v a hv ha; omega
theorem TB_source {n k : Nat} (hk : k < n) : TB n (source k) := fun v a hv ha => by
  have h1 : 1 ≤ cntT n (source k) := by
    unfold cntT
    exact List.length_pos_of_mem (List.mem_filter.2 ⟨List.mem_range.2 hk, by simp [source]⟩)
  unfold source at ha; split at ha
  · injection ha with ha; omega
  · simp at ha
theorem TB.lt {n : Nat} {s : Nat → Option Int} (h : TB n s) (hn : n ≤ 10) {v : Nat} {a : Int} (hv : v < n) (ha : s v = some a) : a ≤ 89991 := by
  have h1 := h v a hv ha
  have h2 := cntT_le n s
  omega
end Go.Proofs.Ytijjecckfcbaoaa
