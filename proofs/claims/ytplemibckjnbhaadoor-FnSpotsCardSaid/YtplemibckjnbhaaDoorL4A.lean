/- Plain law of places and turns: spots in lowest terms, leading and leading back are inverse, and two chains that agree at two places agree everywhere. No program in sight. No condition. -/
import Derived.Test.YtplemibckjnbhaaDoorStTurn
namespace Go.Proofs.YtplemibckjnbhaaDoor
set_option linter.unusedVariables false
structure SSpot where
  (x y den : Int)
theorem SSpot.ext' {s u : SSpot} (h1 : s.x = u.x) (h2 : s.y = u.y) (h3 : s.den = u.den) : s = u := by
  cases s; cases u; simp only at h1 h2 h3; subst h1 h2 h3; rfl
def STurn.ok (t : STurn) : Prop := 0 ≤ t.q ∧ t.q ≤ 3 ∧ 1 ≤ t.num ∧ t.num ≤ 20 ∧ 1 ≤ t.den ∧ t.den ≤ 20 ∧ -99999 ≤ t.e ∧ t.e ≤ 99999 ∧ -99999 ≤ t.n ∧ t.n ≤ 99999
def rot1 (s : SSpot) : SSpot := ⟨-s.y, s.x, s.den⟩
def rot : Nat → SSpot → SSpot
  | 0, s => s
  | k + 1, s => rot1 (rot k s)
def lowD (s : SSpot) : Int := (Int.gcd s.x (Int.gcd s.y s.den) : Int)
def low (s : SSpot) : SSpot := ⟨s.x / lowD s, s.y / lowD s, s.den / lowD s⟩
def mul (m : Int) (s : SSpot) : SSpot := ⟨m * s.x, m * s.y, m * s.den⟩
def ledR (t : STurn) (s : SSpot) : SSpot := ⟨(rot t.q.toNat s).x * t.num + t.e * ((rot t.q.toNat s).den * t.den), (rot t.q.toNat s).y * t.num + t.n * ((rot t.q.toNat s).den * t.den), (rot t.q.toNat s).den * t.den⟩
def backW (t : STurn) (s : SSpot) : SSpot := ⟨(s.x - t.e * s.den) * t.den, (s.y - t.n * s.den) * t.den, s.den * t.num⟩
def backR (t : STurn) (s : SSpot) : SSpot := rot (4 - t.q).toNat (backW t s)
def led (t : STurn) (s : SSpot) : SSpot := low (ledR t s)
def back (t : STurn) (s : SSpot) : SSpot := low (backR t s)
theorem rot_den (k : Nat) (s : SSpot) : (rot k s).den = s.den := by
  induction k with
  | zero => rfl
  | succ k ih => exact ih
theorem rot_mul (k : Nat) (m : Int) (s : SSpot) : rot k (mul m s) = mul m (rot k s) := by
  induction k with
  | zero => rfl
  | succ k ih => simp only [rot, ih]; simp [rot1, mul, Int.mul_neg]
theorem rot_add (a b : Nat) (s : SSpot) : rot a (rot b s) = rot (a + b) s := by
  induction a with
  | zero => simp [rot]
  | succ a ih => rw [Nat.succ_add]; simp only [rot, ih]
theorem rot_four (s : SSpot) : rot 4 s = s := by simp [rot, rot1]
theorem rot_bound {c : Int} (k : Nat) {s : SSpot} (hx : -c ≤ s.x ∧ s.x ≤ c) (hy : -c ≤ s.y ∧ s.y ≤ c) : (-c ≤ (rot k s).x ∧ (rot k s).x ≤ c) ∧ (-c ≤ (rot k s).y ∧ (rot k s).y ≤ c) := by
  induction k with
  | zero => exact ⟨hx, hy⟩
  | succ k ih => simp only [rot, rot1]; omega
theorem lowD_pos {s : SSpot} (h : 0 < s.den) : 0 < lowD s := by
  have h1 : 0 < Int.gcd s.y s.den := Nat.pos_of_ne_zero fun h0 => by rw [Int.gcd_eq_zero_iff] at h0; omega
  have h2 : 0 < Int.gcd s.x (Int.gcd s.y s.den) := Nat.pos_of_ne_zero fun h0 => by rw [Int.gcd_eq_zero_iff] at h0; omega
  unfold lowD; omega
theorem lowD_x (s : SSpot) : lowD s ∣ s.x := Int.gcd_dvd_left _ _
theorem lowD_y (s : SSpot) : lowD s ∣ s.y := Int.dvd_trans (Int.gcd_dvd_right _ _) (Int.gcd_dvd_left _ _)
theorem lowD_den (s : SSpot) : lowD s ∣ s.den := Int.dvd_trans (Int.gcd_dvd_right _ _) (Int.gcd_dvd_right _ _)
theorem lowD_great {s : SSpot} {c : Int} (hx : c ∣ s.x) (hy : c ∣ s.y) (hd : c ∣ s.den) : c ∣ lowD s := Int.dvd_coe_gcd hx (Int.dvd_coe_gcd hy hd)
theorem low_mul (s : SSpot) : mul (lowD s) (low s) = s := by
  apply SSpot.ext'
  · exact Int.mul_ediv_cancel' (lowD_x s)
  · exact Int.mul_ediv_cancel' (lowD_y s)
  · exact Int.mul_ediv_cancel' (lowD_den s)
theorem low_den {s : SSpot} (h : 0 < s.den) : 0 < (low s).den := Int.ediv_pos_of_pos_of_dvd h (by have := lowD_pos h; omega) (lowD_den s)
theorem lowD_mul {m : Int} (hm : 0 < m) (s : SSpot) : lowD (mul m s) = m * lowD s := by
  unfold lowD mul
  simp only
  rw [Int.gcd_mul_left, show ((m.natAbs * Int.gcd s.y s.den : Nat) : Int) = m * (Int.gcd s.y s.den : Int) by rw [Int.natCast_mul]; congr 1; omega, Int.gcd_mul_left, Int.natCast_mul]
  congr 1; omega
theorem low_of_mul {m : Int} (hm : 0 < m) (s : SSpot) : low (mul m s) = low s := by
  unfold low
  rw [lowD_mul hm]
  simp only [mul]
  rw [Int.mul_ediv_mul_of_pos _ _ hm, Int.mul_ediv_mul_of_pos _ _ hm, Int.mul_ediv_mul_of_pos _ _ hm]
theorem low_same {m k : Int} (hm : 0 < m) (hk : 0 < k) {s u : SSpot} (h : mul m s = mul k u) : low s = low u := by
  rw [← low_of_mul hm s, h, low_of_mul hk]
theorem low_low {s : SSpot} (h : 0 < s.den) : low (low s) = low s := by
  have hp := lowD_pos h
  rw [← low_of_mul hp (low s), low_mul]
def Eqv (s u : SSpot) : Prop := s.x * u.den = u.x * s.den ∧ s.y * u.den = u.y * s.den
theorem low_eqv {s u : SSpot} (hs : 0 < s.den) (hu : 0 < u.den) (h : Eqv s u) : low s = low u := by
  apply low_same hu hs
  apply SSpot.ext' <;> simp only [mul]
  · rw [Int.mul_comm, h.1, Int.mul_comm]
  · rw [Int.mul_comm, h.2, Int.mul_comm]
  · rw [Int.mul_comm]
theorem eqv_low {s u : SSpot} (hs : 0 < s.den) (hu : 0 < u.den) (h : low s = low u) : Eqv s u := by
  have h1 := low_mul s
  have h2 := low_mul u
  rw [h] at h1
  generalize low u = v at *
  generalize lowD s = a at *; generalize lowD u = b at *
  subst h1 h2
  simp only [Eqv, mul]
  constructor <;> simp only [Int.mul_comm, Int.mul_left_comm]
def Good (s : SSpot) : Prop := 0 < s.den ∧ low s = s
theorem led_good {t : STurn} {s : SSpot} (h : 0 < s.den) (ht : t.ok) : Good (led t s) := by
  have hd : 0 < (ledR t s).den := by simp only [ledR, rot_den]; exact Int.mul_pos h (by have := ht.2.2.2.2.1; omega)
  exact ⟨low_den hd, low_low hd⟩
theorem back_good {t : STurn} {s : SSpot} (h : 0 < s.den) (ht : t.ok) : Good (back t s) := by
  have hd : 0 < (backR t s).den := by simp only [backR, rot_den, backW]; exact Int.mul_pos h (by have := ht.2.2.1; omega)
  exact ⟨low_den hd, low_low hd⟩
theorem rot_back {t : STurn} (ht : t.ok) (s : SSpot) : rot (4 - t.q).toNat (rot t.q.toNat s) = s := by
  have : (4 - t.q).toNat + t.q.toNat = 4 := by have := ht.1; have := ht.2.1; omega
  rw [rot_add, this, rot_four]
theorem rot_forth {t : STurn} (ht : t.ok) (s : SSpot) : rot t.q.toNat (rot (4 - t.q).toNat s) = s := by
  have : t.q.toNat + (4 - t.q).toNat = 4 := by have := ht.1; have := ht.2.1; omega
  rw [rot_add, this, rot_four]
theorem backW_mul (t : STurn) (m : Int) (s : SSpot) : backW t (mul m s) = mul m (backW t s) := by
  apply SSpot.ext' <;> simp only [backW, mul] <;> grind
theorem ledR_mul (t : STurn) (m : Int) (s : SSpot) : ledR t (mul m s) = mul m (ledR t s) := by
  simp only [ledR, rot_mul]
  apply SSpot.ext' <;> simp only [mul] <;> grind
theorem backR_mul (t : STurn) (m : Int) (s : SSpot) : backR t (mul m s) = mul m (backR t s) := by
  unfold backR; rw [backW_mul, rot_mul]
theorem backR_ledR {t : STurn} (ht : t.ok) (s : SSpot) : backR t (ledR t s) = mul (t.num * t.den) s := by
  have : backW t (ledR t s) = mul (t.num * t.den) (rot t.q.toNat s) := by
    apply SSpot.ext' <;> simp only [backW, ledR, mul] <;> grind
  unfold backR
  rw [this, rot_mul, rot_back ht]
theorem ledR_backR {t : STurn} (ht : t.ok) (s : SSpot) : ledR t (backR t s) = mul (t.num * t.den) s := by
  unfold ledR backR
  rw [rot_forth ht]
  apply SSpot.ext' <;> simp only [backW, mul] <;> grind
theorem numden_pos {t : STurn} (ht : t.ok) : 0 < t.num * t.den := Int.mul_pos (by have := ht.2.2.1; omega) (by have := ht.2.2.2.2.1; omega)
theorem led_low {t : STurn} {s : SSpot} (h : 0 < s.den) : led t (low s) = led t s := by
  have hp := lowD_pos h
  unfold led
  rw [← low_of_mul hp (ledR t (low s)), ← ledR_mul, low_mul]
theorem back_low {t : STurn} {s : SSpot} (h : 0 < s.den) : back t (low s) = back t s := by
  have hp := lowD_pos h
  unfold back
  rw [← low_of_mul hp (backR t (low s)), ← backR_mul, low_mul]
theorem back_led {t : STurn} (ht : t.ok) {s : SSpot} (h : Good s) : back t (led t s) = s := by
  have hd : 0 < (ledR t s).den := by simp only [ledR, rot_den]; exact Int.mul_pos h.1 (by have := ht.2.2.2.2.1; omega)
  unfold led
  rw [back_low hd]
  unfold back
  rw [backR_ledR ht, low_of_mul (numden_pos ht), h.2]
theorem led_back {t : STurn} (ht : t.ok) {s : SSpot} (h : Good s) : led t (back t s) = s := by
  have hd : 0 < (backR t s).den := by simp only [backR, rot_den, backW]; exact Int.mul_pos h.1 (by have := ht.2.2.1; omega)
  unfold back
  rw [led_low hd]
  unfold led
  rw [ledR_backR ht, low_of_mul (numden_pos ht), h.2]
def goV (ts : List STurn) (s : SSpot) : SSpot := ts.foldl (fun s t => led t s) s
def backV (ts : List STurn) (s : SSpot) : SSpot := ts.foldr back s
theorem goV_good (ts : List STurn) (h : ∀ t ∈ ts, t.ok) {s : SSpot} (hs : Good s) : Good (goV ts s) := by
  induction ts generalizing s with
  | nil => exact hs
  | cons t ts ih => exact ih (fun u hu => h u (List.mem_cons_of_mem _ hu)) (led_good hs.1 (h t List.mem_cons_self))
theorem backV_good (ts : List STurn) (h : ∀ t ∈ ts, t.ok) {s : SSpot} (hs : Good s) : Good (backV ts s) := by
  induction ts with
  | nil => exact hs
  | cons t ts ih => exact back_good (ih (fun u hu => h u (List.mem_cons_of_mem _ hu))).1 (h t List.mem_cons_self)
theorem backV_goV (ts : List STurn) (h : ∀ t ∈ ts, t.ok) {s : SSpot} (hs : Good s) : backV ts (goV ts s) = s := by
  induction ts generalizing s with
  | nil => rfl
  | cons t ts ih =>
    have ht := h t List.mem_cons_self
    show back t (backV ts (goV ts (led t s))) = s
    rw [ih (fun u hu => h u (List.mem_cons_of_mem _ hu)) (led_good hs.1 ht), back_led ht hs]
theorem goV_backV (ts : List STurn) (h : ∀ t ∈ ts, t.ok) {s : SSpot} (hs : Good s) : goV ts (backV ts s) = s := by
  induction ts generalizing s with
  | nil => rfl
  | cons t ts ih =>
    have ht := h t List.mem_cons_self
    have hg := backV_good ts (fun u hu => h u (List.mem_cons_of_mem _ hu)) hs
    show goV ts (led t (back t (backV ts s))) = s
    rw [led_back ht hg, ih (fun u hu => h u (List.mem_cons_of_mem _ hu)) hs]
theorem place_good (x y : Int) : Good ⟨x, y, 1⟩ := by
  refine ⟨by simp, ?_⟩
  have : lowD ⟨x, y, 1⟩ = 1 := by
    have := lowD_den ⟨x, y, 1⟩
    have hp := lowD_pos (s := ⟨x, y, 1⟩) (by simp)
    exact Int.eq_one_of_dvd_one (by omega) this
  unfold low; rw [this]; simp
/-- a chain as an affine map: the spot of (x, y) is ((m (x + i y) + c) / d) -/
structure Aff where
  (mx my cx cy d : Int)
def Aff.ev (A : Aff) (x y : Int) : SSpot := ⟨A.mx * x - A.my * y + A.cx, A.my * x + A.mx * y + A.cy, A.d⟩
def affT (A : Aff) (t : STurn) : Aff :=
  ⟨(rot t.q.toNat ⟨A.mx, A.my, A.d⟩).x * t.num, (rot t.q.toNat ⟨A.mx, A.my, A.d⟩).y * t.num, (rot t.q.toNat ⟨A.cx, A.cy, A.d⟩).x * t.num + t.e * (A.d * t.den), (rot t.q.toNat ⟨A.cx, A.cy, A.d⟩).y * t.num + t.n * (A.d * t.den), A.d * t.den⟩
theorem rot_lin (k : Nat) (mx my cx cy d x y : Int) : rot k ⟨mx * x - my * y + cx, my * x + mx * y + cy, d⟩ = ⟨(rot k ⟨mx, my, d⟩).x * x - (rot k ⟨mx, my, d⟩).y * y + (rot k ⟨cx, cy, d⟩).x, (rot k ⟨mx, my, d⟩).y * x + (rot k ⟨mx, my, d⟩).x * y + (rot k ⟨cx, cy, d⟩).y, d⟩ := by
  induction k with
  | zero => rfl
  | succ k ih =>
    simp only [rot, ih, rot1]
    apply SSpot.ext' <;> simp only <;> grind
theorem led_ev (A : Aff) (t : STurn) (x y : Int) : ledR t (A.ev x y) = (affT A t).ev x y := by
  unfold ledR Aff.ev
  rw [rot_lin]
  apply SSpot.ext' <;> simp only [affT] <;> grind
def affV (ts : List STurn) (A : Aff) : Aff := ts.foldl affT A
theorem affV_d (ts : List STurn) (h : ∀ t ∈ ts, t.ok) {A : Aff} (hA : 0 < A.d) : 0 < (affV ts A).d := by
  induction ts generalizing A with
  | nil => exact hA
  | cons t ts ih => exact ih (fun u hu => h u (List.mem_cons_of_mem _ hu)) (Int.mul_pos hA (by have := (h t List.mem_cons_self).2.2.2.2.1; omega))
theorem goV_ev (ts : List STurn) (h : ∀ t ∈ ts, t.ok) {A : Aff} (hA : 0 < A.d) (x y : Int) : goV ts (low (A.ev x y)) = low ((affV ts A).ev x y) := by
  induction ts generalizing A with
  | nil => rfl
  | cons t ts ih =>
    show goV ts (led t (low (A.ev x y))) = _
    rw [led_low hA]
    unfold led
    rw [led_ev, ih (fun u hu => h u (List.mem_cons_of_mem _ hu)) (Int.mul_pos hA (by have := (h t List.mem_cons_self).2.2.2.2.1; omega))]
    rfl
def affI : Aff := ⟨1, 0, 0, 0, 1⟩
theorem goV_aff (ts : List STurn) (h : ∀ t ∈ ts, t.ok) (x y : Int) : goV ts ⟨x, y, 1⟩ = low ((affV ts affI).ev x y) := by
  rw [← goV_ev ts h (by simp [affI])]
  have : affI.ev x y = ⟨x, y, 1⟩ := by simp [Aff.ev, affI]
  rw [this, (place_good x y).2]
def numV (ts : List STurn) : Int := ts.foldl (fun a t => a * t.num) 1
def denV (ts : List STurn) : Int := ts.foldl (fun a t => a * t.den) 1
def qV (ts : List STurn) : Int := ts.foldl (fun a t => a + t.q) 0
theorem aff_m (ts : List STurn) (h : ∀ t ∈ ts, t.ok) (A : Aff) (k : Nat) (a : Int) (hm : (⟨A.mx, A.my, A.d⟩ : SSpot) = rot k ⟨a, 0, A.d⟩) :
    (⟨(affV ts A).mx, (affV ts A).my, (affV ts A).d⟩ : SSpot) = rot (ts.foldl (fun a t => a + t.q.toNat) k) ⟨ts.foldl (fun a t => a * t.num) a, 0, ts.foldl (fun a t => a * t.den) A.d⟩ := by
  induction ts generalizing A k a with
  | nil => exact hm
  | cons t ts ih =>
    refine ih (fun u hu => h u (List.mem_cons_of_mem _ hu)) (affT A t) (k + t.q.toNat) (a * t.num) ?_
    have ht := h t List.mem_cons_self
    simp only [affT]
    rw [hm, rot_add, Nat.add_comm]
    generalize k + t.q.toNat = j
    have : ∀ j : Nat, (⟨(rot j ⟨a, 0, A.d⟩).x * t.num, (rot j ⟨a, 0, A.d⟩).y * t.num, A.d * t.den⟩ : SSpot) = rot j ⟨a * t.num, 0, A.d * t.den⟩ := by
      intro j
      induction j with
      | zero => simp [rot]
      | succ j ih =>
        have e1 := congrArg SSpot.x ih; have e2 := congrArg SSpot.y ih
        simp only at e1 e2
        apply SSpot.ext' <;> simp only [rot, rot1]
        · rw [← e2]; simp only [Int.neg_mul]
        · exact e1
        · exact (rot_den j ⟨a * t.num, 0, A.d * t.den⟩).symm
    exact this j
theorem rot_mod (k : Nat) (s : SSpot) : rot k s = rot (k % 4) s := by
  have h : ∀ j s, rot (4 * j) s = s := by
    intro j
    induction j with
    | zero => intro s; rfl
    | succ j ih => intro s; rw [show 4 * (j + 1) = 4 * j + 4 by omega, ← rot_add, rot_four, ih]
  conv => lhs; rw [show k = k % 4 + 4 * (k / 4) by omega, ← rot_add, h]
theorem rot_inj {j k : Nat} (hj : j < 4) (hk : k < 4) {a b c d : Int} (ha : 0 < a) (hb : 0 < b) (hx : (rot j ⟨a, 0, c⟩).x = (rot k ⟨b, 0, d⟩).x) (hy : (rot j ⟨a, 0, c⟩).y = (rot k ⟨b, 0, d⟩).y) : j = k ∧ a = b := by
  have h1 : j = 0 ∨ j = 1 ∨ j = 2 ∨ j = 3 := by omega
  have h2 : k = 0 ∨ k = 1 ∨ k = 2 ∨ k = 3 := by omega
  rcases h1 with rfl | rfl | rfl | rfl <;> rcases h2 with rfl | rfl | rfl | rfl <;> simp only [rot, rot1] at hx hy <;> omega
theorem foldl_pos (ts : List STurn) (f : STurn → Int) (h : ∀ t ∈ ts, 0 < f t) (a : Int) (ha : 0 < a) : 0 < ts.foldl (fun a t => a * f t) a := by
  induction ts generalizing a with
  | nil => exact ha
  | cons t ts ih => exact ih (fun u hu => h u (List.mem_cons_of_mem _ hu)) _ (Int.mul_pos ha (h t List.mem_cons_self))
theorem numV_pos {ts : List STurn} (h : ∀ t ∈ ts, t.ok) : 0 < numV ts := foldl_pos ts STurn.num (fun t ht => by have := (h t ht).2.2.1; omega) 1 (by omega)
theorem denV_pos {ts : List STurn} (h : ∀ t ∈ ts, t.ok) : 0 < denV ts := foldl_pos ts STurn.den (fun t ht => by have := (h t ht).2.2.2.2.1; omega) 1 (by omega)
theorem qV_nat (ts : List STurn) (h : ∀ t ∈ ts, t.ok) (k : Nat) (a : Int) (ha : a = k) : ts.foldl (fun a t => a + t.q) a = ((ts.foldl (fun a t => a + t.q.toNat) k : Nat) : Int) := by
  induction ts generalizing k a with
  | nil => exact ha
  | cons t ts ih => exact ih (fun u hu => h u (List.mem_cons_of_mem _ hu)) _ _ (by have := (h t List.mem_cons_self).1; show a + t.q = ((k + t.q.toNat : Nat) : Int); omega)
def frac (n d : Int) : Int × Int := (n / (Int.gcd n d : Int), d / (Int.gcd n d : Int))
theorem frac_low (n d : Int) : (low ⟨n, 0, d⟩).x = (frac n d).1 ∧ (low ⟨n, 0, d⟩).den = (frac n d).2 := by
  have : lowD ⟨n, 0, d⟩ = (Int.gcd n d : Int) := by
    simp only [lowD, Int.gcd_zero_left]
    simp [Int.gcd]
  unfold low frac
  rw [this]
  exact ⟨rfl, rfl⟩
/-- what StretchOf tells -/
def strV (ts : List STurn) : Int × Int × Int := (qV ts % 4, (frac (numV ts) (denV ts)).1, (frac (numV ts) (denV ts)).2)
theorem same_all {a b : List STurn} (ha : ∀ t ∈ a, t.ok) (hb : ∀ t ∈ b, t.ok) (h0 : goV a ⟨0, 0, 1⟩ = goV b ⟨0, 0, 1⟩) (h1 : goV a ⟨1, 0, 1⟩ = goV b ⟨1, 0, 1⟩) :
    (∀ x y, goV a ⟨x, y, 1⟩ = goV b ⟨x, y, 1⟩) ∧ strV a = strV b := by
  have gA := goV_aff a ha
  have gB := goV_aff b hb
  rw [gA, gB] at h0 h1
  have dA := affV_d a ha (A := affI) (by simp [affI])
  have dB := affV_d b hb (A := affI) (by simp [affI])
  have e0 := eqv_low (by exact dA) (by exact dB) h0
  have e1 := eqv_low (by exact dA) (by exact dB) h1
  have mA := aff_m a ha affI 0 1 rfl
  have mB := aff_m b hb affI 0 1 rfl
  have nA := numV_pos ha; have nB := numV_pos hb; have pA := denV_pos ha; have pB := denV_pos hb
  have qA := qV_nat a ha 0 0 rfl
  have qB := qV_nat b hb 0 0 rfl
  generalize affV a affI = A at *
  generalize affV b affI = B at *
  simp only [Eqv, Aff.ev] at e0 e1
  have m1 : A.mx * B.d = B.mx * A.d := by grind
  have m2 : A.my * B.d = B.my * A.d := by grind
  constructor
  · intro x y
    rw [gA, gB]
    apply low_eqv dA dB
    simp only [Eqv, Aff.ev]
    constructor <;> grind
  · have dA' : A.d = denV a := by have := congrArg SSpot.den mA; rw [rot_den] at this; exact this
    have dB' : B.d = denV b := by have := congrArg SSpot.den mB; rw [rot_den] at this; exact this
    change _ = rot (a.foldl (fun a t => a + t.q.toNat) 0) ⟨numV a, 0, denV a⟩ at mA
    change _ = rot (b.foldl (fun a t => a + t.q.toNat) 0) ⟨numV b, 0, denV b⟩ at mB
    unfold strV qV
    rw [qA, qB]
    generalize a.foldl (fun a t => a + t.q.toNat) 0 = ja at *
    generalize b.foldl (fun a t => a + t.q.toNat) 0 = jb at *
    rw [rot_mod] at mA mB
    have x1 := congrArg SSpot.x mA; have y1 := congrArg SSpot.y mA
    have x2 := congrArg SSpot.x mB; have y2 := congrArg SSpot.y mB
    simp only at x1 y1 x2 y2
    rw [x1, x2, dA', dB'] at m1
    rw [y1, y2, dA', dB'] at m2
    have r1 : (rot (ja % 4) ⟨denV b * numV a, 0, denV b * denV a⟩) = mul (denV b) (rot (ja % 4) ⟨numV a, 0, denV a⟩) := by rw [← rot_mul]; simp [mul]
    have r2 : (rot (jb % 4) ⟨denV a * numV b, 0, denV a * denV b⟩) = mul (denV a) (rot (jb % 4) ⟨numV b, 0, denV b⟩) := by rw [← rot_mul]; simp [mul]
    have hi := rot_inj (j := ja % 4) (k := jb % 4) (by omega) (by omega) (a := denV b * numV a) (b := denV a * numV b) (c := denV b * denV a) (d := denV a * denV b) (Int.mul_pos pB nA) (Int.mul_pos pA nB)
      (by rw [r1, r2]; simp only [mul]; rw [Int.mul_comm, m1, Int.mul_comm]) (by rw [r1, r2]; simp only [mul]; rw [Int.mul_comm, m2, Int.mul_comm])
    have hl : low ⟨numV a, 0, denV a⟩ = low ⟨numV b, 0, denV b⟩ := low_eqv pA pB ⟨by show numV a * denV b = numV b * denV a; rw [Int.mul_comm, hi.2, Int.mul_comm], by simp⟩
    have l1 := frac_low (numV a) (denV a)
    have l2 := frac_low (numV b) (denV b)
    rw [hl] at l1
    have hq : ((ja : Int) % 4) = ((jb : Int) % 4) := by have := hi.1; omega
    rw [hq, ← l1.1, ← l1.2, l2.1, l2.2]
def bX : Nat → Int
  | 0 => 99999
  | k + 1 => 20 * bX k + 99999 * 20 ^ (k + 1)
def Bd (k : Nat) (s : SSpot) : Prop := 1 ≤ s.den ∧ s.den ≤ 20 ^ k ∧ (-bX k ≤ s.x ∧ s.x ≤ bX k) ∧ (-bX k ≤ s.y ∧ s.y ≤ bX k)
theorem div_bound {x d c : Int} (hd : 1 ≤ d) (hc : -c ≤ x ∧ x ≤ c) (hdv : d ∣ x) : -c ≤ x / d ∧ x / d ≤ c := by
  obtain ⟨k, rfl⟩ := hdv
  rw [Int.mul_ediv_cancel_left _ (by omega)]
  have hdk : ∀ j : Int, 0 ≤ j → j ≤ d * j := fun j hj => by
    have := Int.mul_le_mul_of_nonneg_right hd hj
    omega
  by_cases h : 0 ≤ k
  · have := hdk k h; omega
  · have := hdk (-k) (by omega)
    rw [Int.mul_neg] at this
    omega
theorem low_bound {c e : Int} {s : SSpot} (h : 1 ≤ s.den) (hd : s.den ≤ e) (hx : -c ≤ s.x ∧ s.x ≤ c) (hy : -c ≤ s.y ∧ s.y ≤ c) :
    1 ≤ (low s).den ∧ (low s).den ≤ e ∧ (-c ≤ (low s).x ∧ (low s).x ≤ c) ∧ (-c ≤ (low s).y ∧ (low s).y ≤ c) := by
  have hp := lowD_pos (s := s) (by omega)
  refine ⟨low_den (by omega), (div_bound (by omega) ⟨by omega, hd⟩ (lowD_den s)).2, div_bound (by omega) hx (lowD_x s), div_bound (by omega) hy (lowD_y s)⟩
theorem mul_bound {x m c : Int} (hx : -c ≤ x ∧ x ≤ c) (hm : 0 ≤ m ∧ m ≤ 20) : -(20 * c) ≤ x * m ∧ x * m ≤ 20 * c := by
  have h1 : 0 ≤ (c - x) * m := Int.mul_nonneg (by omega) hm.1
  have h2 : 0 ≤ (c + x) * m := Int.mul_nonneg (by omega) hm.1
  have h3 : 0 ≤ c * (20 - m) := Int.mul_nonneg (by omega) (by omega)
  rw [Int.sub_mul] at h1; rw [Int.add_mul] at h2; rw [Int.mul_sub] at h3
  omega
theorem mul_bound' {x m c : Int} (hx : -99999 ≤ x ∧ x ≤ 99999) (hm : 0 ≤ m ∧ m ≤ c) : -(99999 * c) ≤ x * m ∧ x * m ≤ 99999 * c := by
  have h1 : 0 ≤ (99999 - x) * m := Int.mul_nonneg (by omega) hm.1
  have h2 : 0 ≤ (99999 + x) * m := Int.mul_nonneg (by omega) hm.1
  rw [Int.sub_mul] at h1; rw [Int.add_mul] at h2
  omega
theorem ledR_bound {k : Nat} {t : STurn} (ht : t.ok) {s : SSpot} (h : Bd k s) : Bd (k + 1) (ledR t s) := by
  obtain ⟨h1, h2, hx, hy⟩ := h
  obtain ⟨q0, q1, n0, n1, d0, d1, e0, e1, f0, f1⟩ := ht
  have hr := rot_bound t.q.toNat hx hy
  have hd := mul_bound (x := s.den) (m := t.den) (c := 20 ^ k) ⟨by omega, h2⟩ ⟨by omega, d1⟩
  have hd1 : 1 ≤ s.den * t.den := Int.mul_pos (by omega) (by omega)
  have hpow : (20 : Int) ^ (k + 1) = 20 * 20 ^ k := by rw [Int.pow_succ, Int.mul_comm]
  have ax := mul_bound hr.1 (m := t.num) ⟨by omega, n1⟩
  have ay := mul_bound hr.2 (m := t.num) ⟨by omega, n1⟩
  have ae := mul_bound' (x := t.e) (m := s.den * t.den) (c := 20 ^ (k + 1)) ⟨e0, e1⟩ ⟨by omega, by omega⟩
  have an := mul_bound' (x := t.n) (m := s.den * t.den) (c := 20 ^ (k + 1)) ⟨f0, f1⟩ ⟨by omega, by omega⟩
  simp only [Bd, ledR, rot_den, bX]
  refine ⟨hd1, by omega, ⟨by omega, by omega⟩, ⟨by omega, by omega⟩⟩
theorem led_bound {k : Nat} {t : STurn} (ht : t.ok) {s : SSpot} (h : Bd k s) : Bd (k + 1) (led t s) :=
  have hr := ledR_bound ht h
  low_bound hr.1 hr.2.1 hr.2.2.1 hr.2.2.2
theorem backW_bound {k : Nat} {t : STurn} (ht : t.ok) {s : SSpot} (h : Bd k s) : Bd (k + 1) (backW t s) := by
  obtain ⟨h1, h2, hx, hy⟩ := h
  obtain ⟨q0, q1, n0, n1, d0, d1, e0, e1, f0, f1⟩ := ht
  have hd := mul_bound (x := s.den) (m := t.num) (c := 20 ^ k) ⟨by omega, h2⟩ ⟨by omega, n1⟩
  have hd1 : 1 ≤ s.den * t.num := Int.mul_pos (by omega) (by omega)
  have hpow : (20 : Int) ^ (k + 1) = 20 * 20 ^ k := by rw [Int.pow_succ, Int.mul_comm]
  have ae := mul_bound' (x := t.e) (m := s.den) (c := 20 ^ k) ⟨e0, e1⟩ ⟨by omega, by omega⟩
  have an := mul_bound' (x := t.n) (m := s.den) (c := 20 ^ k) ⟨f0, f1⟩ ⟨by omega, by omega⟩
  have ax := mul_bound (x := s.x - t.e * s.den) (m := t.den) (c := bX k + 99999 * 20 ^ k) ⟨by omega, by omega⟩ ⟨by omega, d1⟩
  have ay := mul_bound (x := s.y - t.n * s.den) (m := t.den) (c := bX k + 99999 * 20 ^ k) ⟨by omega, by omega⟩ ⟨by omega, d1⟩
  simp only [Bd, backW, bX]
  refine ⟨hd1, by omega, ⟨by omega, by omega⟩, ⟨by omega, by omega⟩⟩
theorem backR_bound {k : Nat} {t : STurn} (ht : t.ok) {s : SSpot} (h : Bd k s) : Bd (k + 1) (backR t s) := by
  obtain ⟨h1, h2, hx, hy⟩ := backW_bound ht h
  have := rot_bound (4 - t.q).toNat hx hy
  exact ⟨by simpa only [backR, rot_den] using h1, by simpa only [backR, rot_den] using h2, this.1, this.2⟩
theorem back_bound {k : Nat} {t : STurn} (ht : t.ok) {s : SSpot} (h : Bd k s) : Bd (k + 1) (back t s) :=
  have hr := backR_bound ht h
  low_bound hr.1 hr.2.1 hr.2.2.1 hr.2.2.2
theorem goV_snoc (ts : List STurn) (t : STurn) (s : SSpot) : goV (ts ++ [t]) s = led t (goV ts s) := by simp [goV]
theorem frac_step {n d a b : Int} (hn : 0 < n) (hd : 0 < d) (ha : 0 < a) (hb : 0 < b) : frac ((frac n d).1 * a) ((frac n d).2 * b) = frac (n * a) (d * b) := by
  have h1 := frac_low ((frac n d).1 * a) ((frac n d).2 * b)
  have h2 := frac_low (n * a) (d * b)
  have hg : 0 < (Int.gcd n d : Int) := by have := Int.gcd_pos_of_ne_zero_left d (show n ≠ 0 by omega); omega
  have e1 : (frac n d).1 * (Int.gcd n d : Int) = n := Int.ediv_mul_cancel (Int.gcd_dvd_left _ _)
  have e2 : (frac n d).2 * (Int.gcd n d : Int) = d := Int.ediv_mul_cancel (Int.gcd_dvd_right _ _)
  have : low ⟨(frac n d).1 * a, 0, (frac n d).2 * b⟩ = low ⟨n * a, 0, d * b⟩ := by
    rw [← low_of_mul hg]
    congr 1
    apply SSpot.ext' <;> simp only [mul]
    · rw [← Int.mul_assoc, Int.mul_comm (Int.gcd n d : Int), e1]
    · simp
    · rw [← Int.mul_assoc, Int.mul_comm (Int.gcd n d : Int), e2]
  rw [this] at h1
  exact Prod.ext (h1.1.symm.trans h2.1) (h1.2.symm.trans h2.2)
theorem numV_snoc (ts : List STurn) (t : STurn) : numV (ts ++ [t]) = numV ts * t.num := by simp [numV]
theorem denV_snoc (ts : List STurn) (t : STurn) : denV (ts ++ [t]) = denV ts * t.den := by simp [denV]
theorem qV_snoc (ts : List STurn) (t : STurn) : qV (ts ++ [t]) = qV ts + t.q := by simp [qV]
theorem frac_pos {n d : Int} (hn : 0 < n) (hd : 0 < d) : 1 ≤ (frac n d).1 ∧ (frac n d).1 ≤ n ∧ 1 ≤ (frac n d).2 ∧ (frac n d).2 ≤ d := by
  have hg : 0 < (Int.gcd n d : Int) := by have := Int.gcd_pos_of_ne_zero_left d (show n ≠ 0 by omega); omega
  have a1 := Int.ediv_pos_of_pos_of_dvd hn (by omega) (Int.gcd_dvd_left n d)
  have a2 := Int.ediv_pos_of_pos_of_dvd hd (by omega) (Int.gcd_dvd_right n d)
  exact ⟨a1, Int.ediv_le_self _ (by omega), a2, Int.ediv_le_self _ (by omega)⟩
theorem fold_bound (f : STurn → Int) (ts : List STurn) (h : ∀ t ∈ ts, 1 ≤ f t ∧ f t ≤ 20) (a : Int) (ha : 1 ≤ a) (k : Nat) (hk : a ≤ 20 ^ k) : 1 ≤ ts.foldl (fun a t => a * f t) a ∧ ts.foldl (fun a t => a * f t) a ≤ 20 ^ (k + ts.length) := by
  induction ts generalizing a k with
  | nil => exact ⟨ha, hk⟩
  | cons t ts ih =>
    have hf := h t List.mem_cons_self
    have := ih (fun u hu => h u (List.mem_cons_of_mem _ hu)) (a * f t) (Int.mul_pos (by omega) (by omega)) (k + 1) (by
      have := mul_bound (x := a) (m := f t) (c := 20 ^ k) ⟨by omega, hk⟩ ⟨by omega, hf.2⟩
      rw [Int.pow_succ]; omega)
    rw [show k + 1 + ts.length = k + (t :: ts).length by simp; omega] at this
    exact this
theorem numV_bound {ts : List STurn} (h : ∀ t ∈ ts, t.ok) : 1 ≤ numV ts ∧ numV ts ≤ 20 ^ ts.length := by
  have := fold_bound STurn.num ts (fun t ht => ⟨(h t ht).2.2.1, (h t ht).2.2.2.1⟩) 1 (by omega) 0 (by simp)
  rw [Nat.zero_add] at this; exact this
theorem denV_bound {ts : List STurn} (h : ∀ t ∈ ts, t.ok) : 1 ≤ denV ts ∧ denV ts ≤ 20 ^ ts.length := by
  have := fold_bound STurn.den ts (fun t ht => ⟨(h t ht).2.2.2.2.1, (h t ht).2.2.2.2.2.1⟩) 1 (by omega) 0 (by simp)
  rw [Nat.zero_add] at this; exact this
end Go.Proofs.YtplemibckjnbhaaDoor
