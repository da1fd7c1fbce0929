/- Told and tied are one, in plain Lean; contracts of spec's l8Told and impl's highest, and of HighestHeights in both: the Lean function highV. Condition of highest: claims for n marks. -/
import Derived.Test.YtijjecckfcbaoaaL8M
namespace Go.Proofs.Ytijjecckfcbaoaa
open Go.RowKit
set_option linter.unusedVariables false
inductive Reach (es : List Step) (k : Nat) : Nat → Prop
  | base : Reach es k k
  | step {e : Step} : e ∈ es → Reach es k e.1 → Reach es k e.2.1
section
variable {es : List Step} {n k : Nat}
theorem relax_reach {s : Nat → Option Int} (h : ∀ v, (s v).isSome = true → Reach es k v) {e : Step} (he : e ∈ es) : ∀ v, (relax s e v).isSome = true → Reach es k v := by
  intro v hv
  unfold relax at hv
  split at hv
  · rename_i hf
    simp only at hv
    split at hv
    · rename_i hve
      subst hve
      refine .step he (h _ ?_)
      unfold fires at hf
      cases hs : s e.1 with
      | none => rw [hs] at hf; simp at hf
      | some a => rfl
    · exact h v hv
  · exact h v hv
theorem sweep_reach : ∀ (l : List Step), (∀ e ∈ l, e ∈ es) → ∀ {s : Nat → Option Int}, (∀ v, (s v).isSome = true → Reach es k v) → ∀ v, (sweep l s v).isSome = true → Reach es k v
  | [], _, _, h => h
  | e :: l, hl, s, h => sweep_reach l (fun x hx => hl x (List.mem_cons_of_mem _ hx)) (s := relax s e) (relax_reach h (hl e List.mem_cons_self))
theorem sweeps_reach {s : Nat → Option Int} (h : ∀ v, (s v).isSome = true → Reach es k v) : ∀ r v, (sweeps es s r v).isSome = true → Reach es k v
  | 0 => h
  | r + 1 => sweep_reach es (fun _ h => h) (sweeps_reach h r)
theorem told_reach (hs : (lowerF es (n + 1) (source k)).2 = true) (v : Nat) : ((lowerF es (n + 1) (source k)).1 v).isSome = true ↔ Reach es k v := by
  obtain ⟨hfix, r, hr⟩ := lowerF_true hs
  constructor
  · rw [hr]
    refine sweeps_reach (fun v hv => ?_) r v
    unfold source at hv
    split at hv
    · rename_i h; subst h; exact .base
    · simp at hv
  · intro h
    induction h with
    | base =>
      have h1 := sweeps_le es (source k) r k
      rw [← hr, show source k k = some 0 by simp [source]] at h1
      obtain ⟨y, hy, _⟩ := leO_some h1
      rw [hy]; rfl
    | step he _ ih =>
      have h1 := fix_edge hfix he
      obtain ⟨a, ha⟩ := Option.isSome_iff_exists.1 ih
      rw [ha] at h1
      obtain ⟨y, hy, _⟩ := leO_some (x := _) h1
      rw [hy]; rfl
end
theorem steps_mem {xs : List SClaim} {c : SClaim} (hc : c ∈ xs) : (c.low.toNat, c.high.toNat, c.most) ∈ stepsOf xs ∧ (c.high.toNat, c.low.toNat, -c.least) ∈ stepsOf xs := by
  unfold stepsOf
  constructor <;> rw [List.mem_flatMap] <;> exact ⟨c, hc, by simp [stepsC]⟩
theorem tieC_reach {xs : List SClaim} {k : Nat} {T : Nat → Bool} (h : ∀ v, T v = true → Reach (stepsOf xs) k v) {c : SClaim} (hc : c ∈ xs) : ∀ v, tieC T c v = true → Reach (stepsOf xs) k v := by
  intro v hv
  obtain ⟨m1, m2⟩ := steps_mem hc
  unfold tieC at hv
  split at hv
  · rename_i hor
    have hlh : Reach (stepsOf xs) k c.low.toNat ∧ Reach (stepsOf xs) k c.high.toNat := by
      rcases Bool.or_eq_true _ _ ▸ hor with h1 | h1
      · exact ⟨h _ h1, Reach.step m1 (h _ h1)⟩
      · exact ⟨Reach.step m2 (h _ h1), h _ h1⟩
    unfold addT at hv
    simp only [Bool.or_eq_true, beq_iff_eq] at hv
    rcases hv with (hv | hv) | hv
    · exact h v hv
    · rw [hv]; exact hlh.1
    · rw [hv]; exact hlh.2
  · exact h v hv
theorem tieS_reach {xs : List SClaim} {k : Nat} : ∀ (l : List SClaim), (∀ c ∈ l, c ∈ xs) → ∀ {T : Nat → Bool}, (∀ v, T v = true → Reach (stepsOf xs) k v) → ∀ v, tieS l T v = true → Reach (stepsOf xs) k v
  | [], _, _, h => h
  | c :: l, hl, T, h => tieS_reach l (fun x hx => hl x (List.mem_cons_of_mem _ hx)) (T := tieC T c) (tieC_reach h (hl c List.mem_cons_self))
theorem tieN_reach {xs : List SClaim} {k : Nat} : ∀ r v, tieN xs r (oneT k) v = true → Reach (stepsOf xs) k v
  | 0, v, h => by unfold tieN oneT at h; rw [beq_iff_eq] at h; subst h; exact .base
  | r + 1, v, h => tieS_reach xs (fun _ h => h) (tieN_reach r) v h
/-- a set that a round leaves alone is closed -/
theorem tieS_both : ∀ (l : List SClaim) (T : Nat → Bool) (c : SClaim), c ∈ l → (T c.low.toNat || T c.high.toNat) = true → tieS l T c.low.toNat = true ∧ tieS l T c.high.toNat = true
  | d :: l, T, c, hc, hor => by
    rcases List.mem_cons.1 hc with rfl | hc
    · have h1 : tieC T c c.low.toNat = true ∧ tieC T c c.high.toNat = true := by
        unfold tieC; rw [if_pos hor]; unfold addT; simp
      exact ⟨tieS_mono (T := tieC T c) h1.1, tieS_mono (T := tieC T c) h1.2⟩
    · refine tieS_both l (tieC T d) c hc ?_
      rw [Bool.or_eq_true] at hor ⊢
      exact hor.imp tieC_mono tieC_mono
theorem tie_len_lt {n : Nat} {T U : Nat → Bool} (h : ∀ v, T v = true → U v = true) {x : Nat} (hx : x < n) (h1 : T x = false) (h2 : U x = true) : (tl n T).length < (tl n U).length := by
  unfold tl
  rw [List.length_map, List.length_map]
  exact filter_lt (fun v _ => h v) (List.mem_range.2 hx) h1 h2
theorem tieS_out {n : Nat} {v : Nat} (hv : n ≤ v) : ∀ (l : List SClaim) (T : Nat → Bool), (∀ c ∈ l, c.low.toNat < n ∧ c.high.toNat < n) → tieS l T v = T v
  | [], _, _ => rfl
  | c :: l, T, h => by
    have h1 := h c List.mem_cons_self
    have h2 := tieS_out hv l (tieC T c) fun d hd => h d (List.mem_cons_of_mem _ hd)
    show tieS l (tieC T c) v = T v
    rw [h2]
    unfold tieC
    split
    · unfold addT
      rw [show (v == c.low.toNat) = false from beq_false_of_ne (by omega), show (v == c.high.toNat) = false from beq_false_of_ne (by omega), Bool.or_false, Bool.or_false]
    · rfl
theorem tie_stop {xs : List SClaim} {n k : Nat} (hin : ∀ c ∈ xs, c.low.toNat < n ∧ c.high.toNat < n) (hk : k < n) : ∀ r, r + 1 ≤ (tl n (tieN xs r (oneT k))).length ∨ tieS xs (tieN xs r (oneT k)) = tieN xs r (oneT k)
  | 0 => .inl (tl_pos hk (by unfold tieN oneT; simp))
  | r + 1 => by
    have hsucc : tieN xs (r + 1) (oneT k) = tieS xs (tieN xs r (oneT k)) := rfl
    by_cases hs : tieS xs (tieN xs r (oneT k)) = tieN xs r (oneT k)
    · right; rw [hsucc, hs]; exact hs
    · rcases tie_stop hin hk r with h | h
      · left
        have hex : ∃ v, tieS xs (tieN xs r (oneT k)) v ≠ tieN xs r (oneT k) v := by
          refine Classical.byContradiction fun hn => hs (funext fun v => Classical.byContradiction fun hv => hn ⟨v, hv⟩)
        obtain ⟨v, hv⟩ := hex
        have hvn : v < n := by
          refine Classical.byContradiction fun hn => hv (tieS_out (by omega) xs _ hin)
        have hf : tieN xs r (oneT k) v = false := by
          cases hh : tieN xs r (oneT k) v with
          | false => rfl
          | true => rw [hh, tieS_mono hh] at hv; exact absurd rfl hv
        have ht : tieS xs (tieN xs r (oneT k)) v = true := by
          cases hh : tieS xs (tieN xs r (oneT k)) v with
          | true => rfl
          | false => rw [hh, hf] at hv; exact absurd rfl hv
        have := tie_len_lt (n := n) (T := tieN xs r (oneT k)) (U := tieS xs (tieN xs r (oneT k))) (fun u hu => tieS_mono hu) hvn hf ht
        rw [hsucc]
        omega
      · exact absurd h hs
theorem tie_fix {xs : List SClaim} {n k : Nat} (hin : ∀ c ∈ xs, c.low.toNat < n ∧ c.high.toNat < n) (hk : k < n) : tieS xs (tieN xs n (oneT k)) = tieN xs n (oneT k) := by
  rcases tie_stop hin hk n with h | h
  · have := tl_len n (tieN xs n (oneT k)); omega
  · exact h
theorem tie_reach {xs : List SClaim} {n k : Nat} (hin : ∀ c ∈ xs, c.low.toNat < n ∧ c.high.toNat < n) (hk : k < n) (v : Nat) : tieN xs n (oneT k) v = true ↔ Reach (stepsOf xs) k v := by
  refine ⟨tieN_reach n v, fun h => ?_⟩
  have hfix := tie_fix hin hk
  induction h with
  | base => exact tieN_mono (by unfold oneT; simp) n
  | @step e he _ ih =>
    unfold stepsOf at he
    rw [List.mem_flatMap] at he
    obtain ⟨c, hc, he⟩ := he
    unfold stepsC at he
    have key : (tieN xs n (oneT k) c.low.toNat || tieN xs n (oneT k) c.high.toNat) = true → tieN xs n (oneT k) c.low.toNat = true ∧ tieN xs n (oneT k) c.high.toNat = true := fun h => by
      have := tieS_both xs _ c hc h
      rwa [hfix] at this
    rcases List.mem_cons.1 he with rfl | he
    · exact (key (by simp only at ih; rw [ih]; rfl)).2
    · rw [List.mem_singleton.1 he] at ih ⊢
      exact (key (by simp only at ih; rw [ih, Bool.or_true])).1
theorem tl_full {n : Nat} {T : Nat → Bool} : (tl n T).length = n ↔ ∀ v, v < n → T v = true := by
  unfold tl
  rw [List.length_map]
  have h0 : (List.range n).length = n := List.length_range
  constructor
  · intro h v hv
    have h1 : ((List.range n).filter T).length = (List.range n).length := by rw [h, h0]
    exact List.length_filter_eq_length_iff.1 h1 v (List.mem_range.2 hv)
  · intro h
    have h1 : ((List.range n).filter T).length = (List.range n).length := List.length_filter_eq_length_iff.2 fun v hv => h v (List.mem_range.1 hv)
    rw [h1, h0]
/-- the state that one walk from the mark 0 ends in -/
def st0 (n : Nat) (xs : List SClaim) (k : Nat) : Nat → Option Int := (lowerF (stepsOf xs) (n + 1) (source k)).1
def toldA (n : Nat) (xs : List SClaim) (k : Nat) : Bool := (List.range n).all fun v => (st0 n xs k v).isSome
def tiedA (n : Nat) (xs : List SClaim) (k : Nat) : Bool := decide ((tl n (tieN xs n (oneT k))).length = n)
theorem in_range {n : Nat} {xs : List SClaim} (h : areB n xs = true) : ∀ c ∈ xs, c.low.toNat < n ∧ c.high.toNat < n := fun c hc => by
  have h1 := oneB_iff.1 ((areB_iff.1 h).1 c hc)
  omega
theorem told_tied {n : Nat} {xs : List SClaim} (h : areB n xs = true) {k : Nat} (hk : k < n) (hs : soundB n xs = true) : toldA n xs k = tiedA n xs k := by
  have hl := (pot_sources (steps_lt h)).2 ((soundB_pot h).1 hs) k hk
  rw [Bool.eq_iff_iff]
  unfold toldA tiedA
  rw [List.all_eq_true, decide_eq_true_eq, tl_full]
  constructor
  · intro hh v hv
    exact (tie_reach (in_range h) hk v).2 ((told_reach hl v).1 (hh v (List.mem_range.2 hv)))
  · intro hh v hv
    exact (told_reach hl v).2 ((tie_reach (in_range h) hk v).1 (hh v (List.mem_range.1 hv)))
def toldB (n : Int) (xs : List SClaim) : Bool := areB n xs && (tiedA n.toNat xs 0 && soundB n.toNat xs)
def highV (n : Int) (xs : List SClaim) : List Int × Bool := if toldB n xs then (HsOf n.toNat (st0 n.toNat xs 0), true) else ([], false)
theorem highV_len (n : Int) (xs : List SClaim) : (highV n xs).1.length ≤ 1048576 := by
  unfold highV; split
  · rename_i h
    unfold toldB at h
    rw [Bool.and_eq_true] at h
    obtain ⟨_, ⟨_, h10⟩, _⟩ := areB_iff.1 h.1
    show (HsOf _ _).length ≤ _
    rw [HsOf_len]; omega
  · simp
theorem FsOf_told {n : Nat} {s : Nat → Option Int} (h : ∀ v, v < n → (s v).isSome = true) : FsOf n s = HsOf n s := by
  unfold FsOf HsOf
  apply List.map_congr_left
  intro v hv
  obtain ⟨a, ha⟩ := Option.isSome_iff_exists.1 (h v (List.mem_range.1 hv))
  rw [ha]; rfl
theorem l8Told_is (n : Int) (v : Value) (xs : List SClaim) (w : World) (h : Is 4 SClaim.enc w v xs) :
    Calls Try.prog 68 #[.int .i64 n, v] w fun e w' => e = .returned (.bool (toldB n xs)) ∧ Below w.heap.size w w' := by
  have hok := l8Good_is n v xs w h
  by_cases ha : areB n xs = true
  case neg =>
    rw [Bool.not_eq_true] at ha
    rw [show toldB n xs = false by unfold toldB; rw [ha]; rfl]
    rw [ha] at hok
    have HOK := hide hok; clear hok ha h
    go_enter Try.func68, Try.ntmps68
    go_wp2_with fail
    refine HOK.out.mono ?_; rintro e w1 ⟨rfl, hb1⟩
    go_wp2_with fail
    go_ret
    exact ⟨rfl, hb1⟩
  have hnn := areB_nat ha
  obtain ⟨_, ⟨hn1, hn10⟩, _⟩ := areB_iff.1 ha
  rw [show toldB n xs = (tiedA n.toNat xs 0 && soundB n.toNat xs) by unfold toldB; rw [ha]; rfl]
  rw [ha] at hok
  generalize n.toNat = k at hnn ⊢
  subst hnn
  have hti := fun W (hb : Below w.heap.size w W) => l8Tied_is k v xs 0 W (h.below hb (Nat.le_refl _)) ha (by omega)
  have hsd := fun W (hb : Below w.heap.size w W) => l8Sound_is k v xs W (h.below hb (Nat.le_refl _)) ha
  have hlen := tl_len k (tieN xs k (oneT 0))
  unfold tiedA
  generalize tl k (tieN xs k (oneT 0)) = L at *
  generalize soundB k xs = s at *
  have HOK := hide hok; have HSD := hide hsd; have HTI := hide hti; clear hok ha h hsd hti
  by_cases hq : L.length = k
  · have hq2 : ((L.length : Int) == (k : Int)) = true := beq_iff_eq.2 (by omega)
    rw [decide_eq_true hq, Bool.true_and]
    have HQ := hide hq; clear hq
    go_enter Try.func68, Try.ntmps68
    go_wp2_with fail
    refine HOK.out.mono ?_; rintro e w1 ⟨rfl, hb1⟩
    go_wp2_with fail
    refine (HTI.out _ hb1).mono ?_; rintro e w2 ⟨r, rfl, hi, hb2⟩
    have B2 := bstep hb1 hb2 hb1.size
    obtain ⟨A, cap, rfl, _, _, _⟩ := hi
    go_wp2_with fail
    refine (HSD.out _ B2).mono ?_; rintro e w3 ⟨rfl, hb3⟩
    have B3 := bstep B2 hb3 B2.size
    go_wp2_with fail
    go_ret
    exact ⟨rfl, B3⟩
  · have hq2 : ((L.length : Int) == (k : Int)) = false := beq_false_of_ne (by omega)
    rw [decide_eq_false hq, Bool.false_and]
    have HQ := hide hq; clear hq
    go_enter Try.func68, Try.ntmps68
    go_wp2_with fail
    refine HOK.out.mono ?_; rintro e w1 ⟨rfl, hb1⟩
    go_wp2_with fail
    refine (HTI.out _ hb1).mono ?_; rintro e w2 ⟨r, rfl, hi, hb2⟩
    have B2 := bstep hb1 hb2 hb1.size
    obtain ⟨A, cap, rfl, _, _, _⟩ := hi
    go_wp2_with fail
    go_ret
    exact ⟨rfl, B2⟩
theorem own_empty8 (w : World) {B : Nat} (hB : B ≤ w.heap.size) : Own 1 encI 3 (w.alloc (.cells #[] 3)) B (.slice (some ⟨w.heap.size, 0, none⟩) 0 0) ([] : List Int) :=
  Own.made (cs := #[]) rfl hB (Blk.new _ _ _) rfl (Nat.zero_le _) Filled.zero
theorem specHighestHeights_any (n : Int) (v : Value) (xs : List SClaim) (w : World) (h : Is 4 SClaim.enc w v xs) :
    Calls Try.prog 31 #[.int .i64 n, v] w fun e w' => ∃ r, e = .returned (.tuple #[r, .bool (highV n xs).2]) ∧ Own 1 encI 3 w' w.heap.size r (highV n xs).1 ∧ Below w.heap.size w w' := by
  have htd := l8Told_is n v xs w h
  by_cases ht : toldB n xs = true
  case neg =>
    rw [Bool.not_eq_true] at ht
    rw [show highV n xs = ([], false) by unfold highV; rw [ht]; rfl]
    rw [ht] at htd
    have HT := hide htd; clear htd ht h
    go_enter Try.func31, Try.ntmps31
    go_wp2_with fail
    refine HT.out.mono ?_; rintro e w1 ⟨rfl, hb1⟩
    have HE := hide (own_empty8 w1 hb1.size)
    have B2 := hb1.alloc hb1.size (.cells #[] 3)
    go_wp2_with fail
    go_ret2
    exact ⟨_, rfl, HE.out, B2⟩
  rw [show highV n xs = (HsOf n.toNat (st0 n.toNat xs 0), true) by unfold highV; rw [ht]; rfl]
  rw [ht] at htd
  unfold toldB at ht
  rw [Bool.and_eq_true, Bool.and_eq_true] at ht
  obtain ⟨ha, hti, hsd⟩ := ht
  have hnn := areB_nat ha
  obtain ⟨_, ⟨hn1, hn10⟩, _⟩ := areB_iff.1 ha
  generalize n.toNat = k at *
  subst hnn
  have hre := fun W (hb : Below w.heap.size w W) => l8Reach_is k v xs 0 W (h.below hb (Nat.le_refl _)) ha (by omega)
  have htold := told_tied ha (k := 0) (by omega) hsd
  rw [hti] at htold
  unfold toldA at htold
  rw [List.all_eq_true] at htold
  have hfs := FsOf_told (n := k) (s := st0 k xs 0) fun v hv => htold v (List.mem_range.2 hv)
  unfold st0 at hfs
  rw [hfs] at hre
  unfold st0
  have HT := hide htd; have HRE := hide hre; clear htd hre h ha hti hsd htold hfs
  generalize HsOf k (lowerF (stepsOf xs) (k + 1) (source 0)).1 = L at *
  go_enter Try.func31, Try.ntmps31
  go_wp2_with fail
  refine HT.out.mono ?_; rintro e w1 ⟨rfl, hb1⟩
  go_wp2_with fail
  refine (HRE.out _ hb1).mono ?_; rintro e w2 ⟨r, rfl, ho, hb2⟩
  have B2 := bstep hb1 hb2 hb1.size
  have HO := hide (ho.mono hb1.size); clear ho
  go_wp2_with fail
  go_ret2
  exact ⟨_, rfl, HO.out, B2⟩
end Go.Proofs.Ytijjecckfcbaoaa
