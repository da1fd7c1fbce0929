/- Plain law of spots: the spot that a turn keeps, the sheets that show a place and the best of them, the whole part of a square root, and spots' texts. Nothing here speaks of the program. No condition. -/
import Derived.Test.YtplemibckjnbhaaDoorL4K
import Derived.Test.YtplemibckjnbhaaDoorL2C
namespace Go.Proofs.YtplemibckjnbhaaDoor
set_option linter.unusedVariables false
/-- the spot that a turn keeps, not yet in lowest terms; its denominator is positive -/
def fixR (t : STurn) : SSpot :=
  if t.q = 0 then (if 0 < t.den - t.num then ⟨t.e * t.den, t.n * t.den, t.den - t.num⟩ else ⟨-t.e * t.den, -t.n * t.den, -(t.den - t.num)⟩)
  else if t.q = 1 then ⟨t.den * (t.den * t.e - t.num * t.n), t.den * (t.den * t.n + t.num * t.e), t.den * t.den + t.num * t.num⟩
  else if t.q = 2 then ⟨t.e * t.den, t.n * t.den, t.den + t.num⟩
  else ⟨t.den * (t.den * t.e + t.num * t.n), t.den * (t.den * t.n - t.num * t.e), t.den * t.den + t.num * t.num⟩
def fixB (t : STurn) : Bool := t.okB && !(decide (t.q = 0) && decide (t.num = t.den))
def fixV (t : STurn) : SSpot × Bool := if fixB t then (low (fixR t), true) else (⟨0, 0, 0⟩, false)
theorem fixB_iff {t : STurn} : fixB t = true ↔ t.ok ∧ ¬ (t.q = 0 ∧ t.num = t.den) := by
  unfold fixB
  rw [Bool.and_eq_true, STurn.okB_iff]
  by_cases h1 : t.q = 0 <;> by_cases h2 : t.num = t.den <;> simp [h1, h2]
theorem fixR_den {t : STurn} (ht : t.ok) (hn : ¬ (t.q = 0 ∧ t.num = t.den)) : 0 < (fixR t).den := by
  obtain ⟨h0, h1, h2, h3, h4, h5, -⟩ := ht
  unfold fixR
  split
  · next hq =>
    split
    · next h => exact h
    · next h => show 0 < -(t.den - t.num); have : ¬ t.num = t.den := fun e => hn ⟨hq, e⟩; omega
  · have p1 : 0 < t.den * t.den := Int.mul_pos (by omega) (by omega)
    have p2 : 0 < t.num * t.num := Int.mul_pos (by omega) (by omega)
    split
    · show 0 < t.den * t.den + t.num * t.num; omega
    · split
      · show 0 < t.den + t.num; omega
      · show 0 < t.den * t.den + t.num * t.num; omega
theorem fix_led {t : STurn} (ht : t.ok) (hn : ¬ (t.q = 0 ∧ t.num = t.den)) : led t (low (fixR t)) = low (fixR t) := by
  have hd := fixR_den ht hn
  rw [led_low hd]
  unfold led
  obtain ⟨h0, h1, h2, h3, h4, h5, -⟩ := ht
  have hd2 : 0 < (ledR t (fixR t)).den := by simp only [ledR, rot_den]; exact Int.mul_pos hd (by omega)
  refine low_eqv hd2 hd ?_
  have hq : t.q = 0 ∨ t.q = 1 ∨ t.q = 2 ∨ t.q = 3 := by omega
  clear hd hd2
  unfold Eqv
  rcases hq with h | h | h | h
  · have e : t.q.toNat = 0 := by omega
    unfold fixR ledR
    rw [e, if_pos h]
    by_cases hlt : 0 < t.den - t.num
    · rw [if_pos hlt]
      simp only [rot]
      constructor <;> grind
    · rw [if_neg hlt]
      simp only [rot]
      constructor <;> grind
  · have e : t.q.toNat = 1 := by omega
    unfold fixR ledR
    rw [e, if_neg (by omega), if_pos h]
    simp only [rot, rot1]
    constructor <;> grind
  · have e : t.q.toNat = 2 := by omega
    unfold fixR ledR
    rw [e, if_neg (by omega), if_neg (by omega), if_pos h]
    simp only [rot, rot1]
    constructor <;> grind
  · have e : t.q.toNat = 3 := by omega
    unfold fixR ledR
    rw [e, if_neg (by omega), if_neg (by omega), if_neg (by omega)]
    simp only [rot, rot1]
    constructor <;> grind
/-- a sheet shows a place -/
def showB (s : SSheet) (x y : Int) : Bool := inB (x - s.col * (10 * s.scale)) 0 (10 * s.scale - 1) && inB (y - s.row * (10 * s.scale)) 0 (10 * s.scale - 1)
def shownV (xs : List SSheet) (x y : Int) : List Int × Bool := if goodS xs && placeB x y then (filtTo (fun s => showB s x y) xs xs.length, true) else ([], false)
def bestS (x y : Int) (b s : SSheet) : SSheet := if showB s x y && (decide (b.id = 0) || (decide (s.scale < b.scale) || (decide (s.scale = b.scale) && decide (b.year < s.year)))) then s else b
def bestTo (xs : List SSheet) (x y : Int) (k : Nat) : SSheet := (xs.take k).foldl (bestS x y) ⟨0, 0, 0, 0, 0⟩
theorem bestTo_succ {xs : List SSheet} {x y : Int} {k : Nat} (h : k < xs.length) : bestTo xs x y (k + 1) = bestS x y (bestTo xs x y k) xs[k] := by
  unfold bestTo; rw [take_snoc' h, List.foldl_append]; rfl
def bestV (xs : List SSheet) (x y : Int) : Int × Bool := if goodS xs && placeB x y then ((bestTo xs x y xs.length).id, decide (0 < (bestTo xs x y xs.length).id)) else (0, false)
/-- the best sheet's id is 0 or one of those shown; it is positive once one is shown -/
theorem bestTo_law {xs : List SSheet} (x y : Int) (h : ∀ s ∈ xs, 0 < s.id) : ∀ k, k ≤ xs.length → ((bestTo xs x y k).id = 0 ∧ filtTo (fun s => showB s x y) xs k = []) ∨ (0 < (bestTo xs x y k).id ∧ (bestTo xs x y k).id ∈ filtTo (fun s => showB s x y) xs k)
  | 0, _ => .inl ⟨rfl, by simp [filtTo]⟩
  | k + 1, hk => by
    have ih := bestTo_law x y h k (by omega)
    have hlt : k < xs.length := by omega
    have hpos := h _ (List.getElem_mem hlt)
    rw [bestTo_succ hlt, filtTo_succ hlt]
    unfold bestS
    cases hs : showB xs[k] x y with
    | false =>
      simp only [Bool.false_and, Bool.false_eq_true, if_false]
      simpa using ih
    | true =>
      simp only [Bool.true_and, if_true]
      rcases ih with ⟨h1, h2⟩ | ⟨h1, h2⟩
      · rw [h1, h2]; simp [hpos]
      · split
        · exact .inr ⟨hpos, by simp⟩
        · exact .inr ⟨h1, List.mem_append_left _ h2⟩
theorem best_law {xs : List SSheet} (x y : Int) (h : goodS xs = true → ∀ s ∈ xs, 0 < s.id) : ((bestV xs x y).2 = ((shownV xs x y).2 && decide (0 < (shownV xs x y).1.length))) ∧ ((bestV xs x y).2 = true → (bestV xs x y).1 ∈ (shownV xs x y).1) := by
  unfold bestV shownV
  by_cases hc : (goodS xs && placeB x y) = true
  · rw [if_pos hc, if_pos hc]
    have hb := bestTo_law x y (h (by rw [Bool.and_eq_true] at hc; exact hc.1)) xs.length (Nat.le_refl _)
    simp only [Bool.true_and]
    rcases hb with ⟨h1, h2⟩ | ⟨h1, h2⟩
    · rw [h1, h2]; simp
    · refine ⟨?_, fun _ => h2⟩
      rw [decide_eq_true h1, decide_eq_true (List.length_pos_of_mem h2)]
  · rw [if_neg hc, if_neg hc]; simp
theorem goodS_mem {xs : List SSheet} (h : goodS xs = true) {z : SSheet} (hz : z ∈ xs) : z.okB = true := by
  obtain ⟨i, hi, rfl⟩ := List.getElem_of_mem hz
  have := (goodS_ok h hi).1
  rwa [SSheet.at_lt hi] at this
theorem goodS_pos {xs : List SSheet} (h : goodS xs = true) {z : SSheet} (hz : z ∈ xs) : 0 < z.id := by
  have := SSheet.okB_iff.1 (goodS_mem h hz)
  omega
/-- the whole part of the square root -/
def rootN : Nat → Nat
  | 0 => 0
  | n + 1 => if (rootN n + 1) * (rootN n + 1) ≤ n + 1 then rootN n + 1 else rootN n
theorem rootN_spec (n : Nat) : rootN n * rootN n ≤ n ∧ n < (rootN n + 1) * (rootN n + 1) := by
  induction n with
  | zero => simp [rootN]
  | succ n ih =>
    simp only [rootN]
    split
    · rename_i h
      refine ⟨h, ?_⟩
      have : (rootN n + 1 + 1) * (rootN n + 1 + 1) = (rootN n + 1) * (rootN n + 1) + 2 * (rootN n + 1) + 1 := by
        simp only [Nat.add_mul, Nat.mul_add]; omega
      omega
    · rename_i h
      omega
def rootI (n : Int) : Int := (rootN n.toNat : Int)
theorem rootI_spec {n : Int} (h : 0 ≤ n) : 0 ≤ rootI n ∧ rootI n * rootI n ≤ n ∧ n < (rootI n + 1) * (rootI n + 1) := by
  have := rootN_spec n.toNat
  refine ⟨by unfold rootI; omega, ?_, ?_⟩
  · have h1 : ((rootN n.toNat * rootN n.toNat : Nat) : Int) ≤ (n.toNat : Int) := by omega
    rw [Int.natCast_mul] at h1; unfold rootI; omega
  · have h1 : (n.toNat : Int) < (((rootN n.toNat + 1) * (rootN n.toNat + 1) : Nat) : Int) := by omega
    rw [Int.natCast_mul, Int.natCast_add] at h1; unfold rootI
    simp only [Int.natCast_one] at h1; omega
theorem sq_lt {a b : Int} (ha : 0 ≤ a) (hb : 0 ≤ b) (h : a * a < b * b) : a < b := by
  rcases Int.lt_or_le a b with h1 | h1
  · exact h1
  · have := Int.mul_le_mul h1 h1 hb (by omega); omega
theorem root_eq {n r : Int} (h : 0 ≤ n) (hr : 0 ≤ r) (h1 : r * r ≤ n) (h2 : n < (r + 1) * (r + 1)) : r = rootI n := by
  obtain ⟨a, b, c⟩ := rootI_spec h
  have d1 : r < rootI n + 1 := sq_lt hr (by omega) (by omega)
  have d2 : rootI n < r + 1 := sq_lt a (by omega) (by omega)
  omega
theorem sq_le {a b : Int} (ha : 0 ≤ a) (h : a ≤ b) : a * a ≤ b * b := Int.mul_le_mul h h ha (by omega)
/-- the squares of the distances of places -/
def apartD (x y u v : Int) : Int := (x - u) * (x - u) + (y - v) * (y - v)
theorem sq_bd {d : Int} (h0 : -99999 ≤ d) (h1 : d ≤ 99999) : 0 ≤ d * d ∧ d * d ≤ 9999800001 := by
  by_cases h : 0 ≤ d
  · have a := sq_le (a := 0) (b := d) (by omega) h; have b := sq_le h h1; omega
  · have a := sq_le (a := 0) (b := -d) (by omega) (by omega); have b := sq_le (a := -d) (b := 99999) (by omega) (by omega)
    rw [Int.neg_mul_neg] at a b; omega
theorem placeB_iff {x y : Int} : placeB x y = true ↔ (0 ≤ x ∧ x ≤ 99999) ∧ (0 ≤ y ∧ y ≤ 99999) := by
  unfold placeB; rw [Bool.and_eq_true, inB_iff, inB_iff]
theorem apart_bd {x y u v : Int} (h : placeB x y = true) (h' : placeB u v = true) : 0 ≤ apartD x y u v ∧ apartD x y u v ≤ 19999600002 := by
  obtain ⟨⟨a, b⟩, c, d⟩ := placeB_iff.1 h
  obtain ⟨⟨a', b'⟩, c', d'⟩ := placeB_iff.1 h'
  have h1 := sq_bd (d := x - u) (by omega) (by omega)
  have h2 := sq_bd (d := y - v) (by omega) (by omega)
  unfold apartD; omega
/-- the whole part of the distance of two places -/
def apartV (x y u v : Int) : Int × Bool := if placeB x y && placeB u v then (rootI (apartD x y u v), true) else (0, false)
theorem apart_law (x y u v : Int) (h : (apartV x y u v).2 = true) : 0 ≤ (apartV x y u v).1 ∧ (apartV x y u v).1 ≤ 150000 ∧ (apartV x y u v).1 * (apartV x y u v).1 ≤ apartD x y u v ∧ apartD x y u v < ((apartV x y u v).1 + 1) * ((apartV x y u v).1 + 1) ∧ 0 ≤ apartD x y u v ∧ apartD x y u v ≤ 19999600002 := by
  unfold apartV at *
  by_cases hc : (placeB x y && placeB u v) = true
  · rw [if_pos hc]
    rw [Bool.and_eq_true] at hc
    have hb := apart_bd hc.1 hc.2
    have hr := rootI_spec hb.1
    refine ⟨hr.1, ?_, hr.2.1, hr.2.2, hb⟩
    show rootI (apartD x y u v) ≤ 150000
    by_cases h2 : rootI (apartD x y u v) ≤ 150000
    · exact h2
    · have h3 := sq_le (a := 150000) (b := rootI (apartD x y u v)) (by omega) (by omega)
      have h4 := hr.2.1
      omega
  · rw [if_neg hc] at h; cases h
/-- the text of a spot, and whether there is one -/
def spotB (s : SSpot) : Bool := inB s.x (-2000000000000) 2000000000000 && (inB s.y (-2000000000000) 2000000000000 && (inB s.den 1 160000 && decide (lowD s = 1)))
theorem spotB_iff {s : SSpot} : spotB s = true ↔ (-2000000000000 ≤ s.x ∧ s.x ≤ 2000000000000) ∧ (-2000000000000 ≤ s.y ∧ s.y ≤ 2000000000000) ∧ (1 ≤ s.den ∧ s.den ≤ 160000) ∧ lowD s = 1 := by
  unfold spotB; rw [Bool.and_eq_true, Bool.and_eq_true, Bool.and_eq_true, inB_iff, inB_iff, inB_iff, decide_eq_true_iff]
theorem low_is {s : SSpot} (h : 1 ≤ s.den) : low s = s ↔ lowD s = 1 := by
  have hp := lowD_pos (s := s) (by omega)
  constructor
  · intro e
    have h1 : s.den / lowD s = s.den := by
      have := congrArg SSpot.den e; exact this
    obtain ⟨c, hc⟩ := lowD_den s
    rw [hc, Int.mul_ediv_cancel_left _ (by omega)] at h1
    rw [hc] at h
    have h2 : c = 1 * c := by omega
    have hc0 : c ≠ 0 := by intro h0; rw [h0] at h; simp at h
    have h3 : lowD s * c = 1 * c := by omega
    exact Int.eq_of_mul_eq_mul_right hc0 h3
  · intro e
    unfold low
    rw [e]; simp
def negS (s : SSpot) : SSpot := ⟨-s.x, -s.y, -s.den⟩
theorem lowD_neg (s : SSpot) : lowD (negS s) = lowD s := by
  unfold lowD negS
  simp only [Int.gcd_neg, Int.neg_gcd]
/-- one turn leads the spot that it keeps to itself -/
theorem fixed_law {t : STurn} {fx fy fd : Int} (hf : (fixV t).1 = ⟨fx, fy, fd⟩) (h : (fixV t).2 = true) (hd : fd = 1) (hx0 : 0 ≤ fx) (hx1 : fx ≤ 99999) (hy0 : 0 ≤ fy) (hy1 : fy ≤ 99999) : tpV [t] fx fy = (⟨fx, fy, 1⟩, true) := by
  subst hd
  unfold fixV at hf h
  by_cases hc : fixB t = true
  · rw [if_pos hc] at hf
    obtain ⟨ht, hn⟩ := fixB_iff.1 hc
    have hl := fix_led ht hn
    rw [show low (fixR t) = ⟨fx, fy, 1⟩ from hf] at hl
    have hch : chainB [t] = true := chainB_iff.2 ⟨fun u hu => by rw [List.mem_singleton.1 hu]; exact ht, by simp⟩
    unfold tpV
    rw [hch, placeB_iff.2 ⟨⟨hx0, hx1⟩, hy0, hy1⟩]
    show (goV [t] ⟨fx, fy, 1⟩, true) = _
    rw [show goV [t] ⟨fx, fy, 1⟩ = led t ⟨fx, fy, 1⟩ from rfl, hl]
  · rw [if_neg hc] at h; cases h
end Go.Proofs.YtplemibckjnbhaaDoor
