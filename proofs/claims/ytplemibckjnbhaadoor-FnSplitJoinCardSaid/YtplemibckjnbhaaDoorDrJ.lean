/- The drawing functions of FnSplitJoin (texts), and LessString. No condition. -/
import Derived.Test.YtplemibckjnbhaaDoorLsM
import Derived.Test.YtplemibckjnbhaaDoorDrS
namespace Go.Proofs.YtplemibckjnbhaaDoor
open Go.RowKit Go.Lib
set_option linter.unusedVariables false
set_option maxRecDepth 100000 in
set_option maxHeartbeats 4000000 in
theorem drawSplit_is (w : World) (v : Value) (A : Option Addr) (cap : Nat) (code : List Int) (h : Code w v A cap code) :
    Calls Tryd.prog 7 #[v] w fun e w' => ∃ (x y : ByteArray), e = .returned (.tuple #[.string x, .string y]) ∧ x.size ≤ 20 ∧ y.size ≤ 20 ∧ Below w.heap.size w w' := by
  have hD := DS.new h
  obtain rfl := h.eq
  have HD := hide hD; clear hD h
  go_enter Tryd.func7, Tryd.ntmps7
  go_wp2_with fail
  generalize hgs : w.heap.size = g at *
  generalize hw0 : w.alloc (.cells #[.slice A code.length cap, .int .i64 0, .int .u64 0] 71) = w0 at *
  refine (any1D HD.out (by omega)).mono ?_; rintro e w1 ⟨x, rfl, hx, hD, hg⟩
  replace HD := hide hD; have HX := hide hx; clear hD hg hx
  go_wp2_with fail
  refine (ofD [⟨#[44]⟩, ⟨#[44]⟩, ⟨#[32]⟩, ⟨#[]⟩, ⟨#[44, 44]⟩] HD.out (by rfl) (by rfl) (by rfl) (by simp) (by simp) (by omega)).mono ?_; rintro e w2 ⟨y, rfl, hm, hD, hg⟩
  have hz : y.size ≤ 20 := (by decide : ∀ y ∈ ([⟨#[44]⟩, ⟨#[44]⟩, ⟨#[32]⟩, ⟨#[]⟩, ⟨#[44, 44]⟩] : List ByteArray), y.size ≤ 20) y hm
  replace HD := hide hD; have HY := hide hz; clear hD hg hz hm
  go_wp2_with fail
  go_ret2
  subst hw0 hgs
  exact ⟨x, y, rfl, HX.out, HY.out, HD.out.end⟩
set_option maxRecDepth 100000 in
set_option maxHeartbeats 4000000 in
theorem drawLess_is (w : World) (v : Value) (A : Option Addr) (cap : Nat) (code : List Int) (h : Code w v A cap code) :
    Calls Tryd.prog 12 #[v] w fun e w' => ∃ (x y : ByteArray), e = .returned (.tuple #[.string x, .string y]) ∧ Below w.heap.size w w' := by
  have hD := DS.new h
  obtain rfl := h.eq
  have HD := hide hD; clear hD h
  go_enter Tryd.func12, Tryd.ntmps12
  go_wp2_with fail
  generalize hgs : w.heap.size = g at *
  generalize hw0 : w.alloc (.cells #[.slice A code.length cap, .int .i64 0, .int .u64 0] 71) = w0 at *
  refine (any1D HD.out (by omega)).mono ?_; rintro e w1 ⟨x, rfl, hx, hD, hg⟩
  replace HD := hide hD; clear hD hg hx
  go_wp2_with fail
  refine (any1D HD.out (by omega)).mono ?_; rintro e w2 ⟨y, rfl, hy, hD, hg⟩
  replace HD := hide hD; clear hD hg hy
  go_wp2_with fail
  go_ret2
  subst hw0 hgs
  exact ⟨x, y, rfl, HD.out.end⟩
theorem LessI_is (x y : ByteArray) (w : World) :
    Calls Tryd.prog 13 #[.string x, .string y] w fun e w' => e = .returned (.bool (Op.bytesLess x.toList y.toList)) ∧ w = w' := by
  go_enter Tryd.func13, Tryd.ntmps13
  go_wp2_with fail
  go_ret
  exact ⟨rfl, rfl⟩
theorem LessS_is (x y : ByteArray) (w : World) :
    Calls Tryd.prog 14 #[.string x, .string y] w fun e w' => e = .returned (.bool (Op.bytesLess x.toList y.toList)) ∧ w = w' := by
  go_enter Tryd.func14, Tryd.ntmps14
  go_wp2_with fail
  go_ret
  exact ⟨rfl, rfl⟩
/-- the order of texts is strict -/
theorem less_asym : ∀ x y : List UInt8, Op.bytesLess x y = true → Op.bytesLess y x = false
  | [], [], h => by simp [Op.bytesLess] at h
  | _ :: _, [], h => by simp [Op.bytesLess] at h
  | [], _ :: _, _ => rfl
  | a :: x, b :: y, h => by
    simp only [Op.bytesLess, Bool.or_eq_true, Bool.and_eq_true, decide_eq_true_eq, beq_iff_eq] at h
    simp only [Op.bytesLess, Bool.or_eq_false_iff, Bool.and_eq_false_iff, decide_eq_false_iff_not, beq_eq_false_iff_ne]
    have hlt : ∀ p q : UInt8, p < q ↔ p.toNat < q.toNat := fun p q => UInt8.lt_iff_toNat_lt
    rcases h with h | ⟨rfl, h⟩
    · rw [hlt] at h
      refine ⟨fun h2 => ?_, .inl fun e => ?_⟩
      · rw [hlt] at h2; omega
      · rw [e] at h; omega
    · exact ⟨fun h2 => by rw [hlt] at h2; omega, .inr (less_asym x y h)⟩
end Go.Proofs.YtplemibckjnbhaaDoor
