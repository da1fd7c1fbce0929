/- The drawing of texts to be joined (spec's DrawJoinStrings). No condition. -/
import Derived.Test.YtplemibckjnbhaaDoorDrJ
namespace Go.Proofs.YtplemibckjnbhaaDoor
open Go.RowKit Go.Lib
set_option linter.unusedVariables false
theorem wpList_push1t {P : Program} {α : Type} {k : Nat} {enc : α → Nat → Value} (w : World) {w0 : World} {cs : Array Value} {ops : Array Oper} {rest : List Oper} {o : Oper} {a : Act} {Q : Exit → Act → World → Prop} (hgd : o.guard = none) (s x : Operand) (t : TypeId)
    (ho : o.op = .call { callee := .builtin .append, args := #[s, x], argTypes := #[t, t] })
    (e : TypeId) (z : Value) (bytes : Nat) (ht : P.underlying t = some (.slice e)) (hi : (P.info? e).map (fun i => (i.zero, i.size, i.bytes)) = some (some z, k, bytes))
    (hzs : z.cells.size = k) (hk : 0 < k) (hby : bytes ≤ 4096) (hone : ∀ x j, (enc x j).oneCell' = true)
    (base : Nat) (v : Value) (xs : List α) (hs : a.eval s = v) (hown : Own k enc e w0 base v xs) (y : α) (c m : Nat) (hm : m = w0.heap.size) (hx : a.eval x = .slice (some ⟨m, 0, none⟩) 1 c) (hcs : cs.toList = flat k enc [y])
    (hlen : xs.length ≤ 16777216) (hbase : base ≤ w0.heap.size) {B : Nat} {a0 : World} (hbel : Below B a0 w0) (hB : B ≤ base) (hw : w = w0.alloc (.cells cs e))
    (h : ∀ v' w', Own k enc e w' base v' (xs ++ [y]) → Below B a0 w' → (w0.alloc (.cells cs e)).grownBy w' v.ownBlock → wpList P ops Q rest (a.put o.dst v') w') : wpList P ops Q (o :: rest) a w := by
  subst hm
  exact wpList_push1 w hgd s x t ho e z bytes ht hi hzs hk hby hone base v xs hs hown y c hx hcs hlen hbase hbel hB hw h
set_option maxRecDepth 100000 in
set_option maxHeartbeats 4000000 in
theorem drawJoin_is (w : World) (v : Value) (A : Option Addr) (cap : Nat) (code : List Int) (h : Code w v A cap code) :
    Calls Tryd.prog 9 #[v] w fun e w' => ∃ (v : Value) (xs : List ByteArray) (y : ByteArray), e = .returned (.tuple #[v, .string y]) ∧ (∀ x ∈ xs, x.size ≤ 5000) ∧ y.size ≤ 20 ∧ xs.length ≤ 10 ∧ Own 1 encS 9 w' w.heap.size v xs ∧ Below w.heap.size w w' := by
  have hD := DS.new h
  obtain rfl := h.eq
  have HD := hide hD; clear hD h
  go_enter Tryd.func9, Tryd.ntmps9
  go_upto_region 2 with fail
  generalize hgs : w.heap.size = g at *
  generalize hw0 : w.alloc (.cells #[.slice A code.length cap, .int .i64 0, .int .u64 0] 71) = w0 at *
  have HO := hide (show Own 1 encS 9 (w0.alloc (.cells #[] 9)) w0.heap.size (.slice (some ⟨w0.heap.size, 0, none⟩) 0 0) ([] : List ByteArray) from Own.made (cs := #[]) rfl (Nat.le_refl _) (Blk.new w0 _ _) rfl (Nat.zero_le _) Filled.zero)
  replace HD := hide (HD.out.alloc (.cells #[] 9))
  go_upto_region 3 with fail
  generalize w0.alloc (.cells #[] 9) = w1 at *
  go_wp2_with fail
  refine (pickD 4 HD.out (by omega)).mono ?_; rintro e w2 ⟨x2, rfl, p2, q2, hD, hg⟩
  replace HO := hide (HD.out.own HO.out hg (by decide))
  replace HD := hide hD; clear hD hg
  obtain ⟨q, rfl⟩ : ∃ q : Nat, x2 = (q : Int) := ⟨x2.toNat, by omega⟩
  have hq : q ≤ 4 := by omega
  go_wp2_with fail
  go_loopw [5, 7] (fun s i wr => ∃ (j : Nat) (xs : List ByteArray), i = .int .i64 (j : Int) ∧ j ≤ q ∧ xs.length = j ∧ (∀ z ∈ xs, z.size ≤ 20) ∧ (∃ gx, s.ownBlock = some gx) ∧ Own 1 encS 9 wr w0.heap.size s xs ∧ DS w0 g g A cap code (100 + 10 * j) wr) (fun _ i _ => q - (intOf i).toNat)
  case atStart => exact ⟨0, [], rfl, Nat.zero_le _, rfl, by simp, ⟨_, rfl⟩, HO.out, HD.out.le (by omega)⟩
  case round =>
    clear HO HD p2 q2
    obtain ⟨j, xs, rfl, hj, hxl, hfit, hadr, ho, hD⟩ := hrel
    generalize wr = w10 at *
    obtain ⟨A7, cap7, rfl, _, _, _⟩ := ho.is
    have HO := hide ho; have HD := hide hD; have HFIT := hide hfit; have HXL := hide hxl; clear ho hD hfit hxl
    have hxb : xs.length ≤ 4 := by have := HXL.out; omega
    by_cases hlt : (j : Int) < q
    · go_wp2_with fail
      refine (any1D HD.out (by omega)).mono ?_; rintro e w11 ⟨x, rfl, hx, hD, hg⟩
      replace HO := hide (HD.out.own HO.out hg (by decide))
      replace HD := hide hD; have HX := hide hx; clear hD hg hx
      go_wp2_with (at_builtin; refine wpList_push1 (k := 1) (enc := encS) _ rfl _ _ 26 rfl 9 (.string ⟨#[]⟩) 16 Tryd.underlying26 (by kernel_rfl) rfl (by omega) (by omega) encS_one w0.heap.size _ (xs) rfl HO.out (x) _ rfl rfl (by omega) HD.out.gr.size (Below.refl w0.heap.size w11) (Nat.le_refl _) rfl ?_; intro v1 w12 ho1 hb1 hg1)
      have hadr1 : ∃ gx, v1.ownBlock = some gx := by rcases ho1 with ⟨rfl, he⟩ | ⟨gx, _, _, rfl, _⟩; · simp at he
                                                     · exact ⟨_, rfl⟩
      replace HD := hide (HD.out.push HO.out (Nat.le_refl _) hg1 (by decide)); replace HO := hide ho1; clear ho1 hb1 hg1
      have HADR := hide hadr1; clear hadr1
      go_wp2_with fail
      go_round
      case measure => simp [intOf]; omega
      case rel =>
        refine ⟨j + 1, xs ++ [x], by go_num, by omega, by simp [HXL.out], ?_, HADR.out, HO.out, HD.out.le (by omega)⟩
        intro z hz
        rcases List.mem_append.1 hz with hz | hz
        · exact HFIT.out z hz
        · rw [List.mem_singleton.1 hz]; exact HX.out
    · go_wp2_with fail
      refine (oneD 20 HD.out (by omega)).mono ?_; rintro e w12 ⟨x12, rfl, hD, hg⟩
      replace HO := hide (HD.out.own HO.out hg (by decide))
      replace HD := hide hD; clear hD hg
      cases x12 with
      | false =>
        go_wp2_with fail
        refine (ofD [⟨#[44]⟩, ⟨#[59]⟩, ⟨#[59]⟩, ⟨#[]⟩, ⟨#[97, 98]⟩] HD.out (by rfl) (by rfl) (by rfl) (by simp) (by simp) (by omega)).mono ?_; rintro e w30 ⟨y, rfl, hm, hD, hg⟩
        have hz : y.size ≤ 20 := (by decide : ∀ y ∈ ([⟨#[44]⟩, ⟨#[59]⟩, ⟨#[59]⟩, ⟨#[]⟩, ⟨#[97, 98]⟩] : List ByteArray), y.size ≤ 20) y hm
        replace HO := hide (HD.out.own HO.out hg (by decide))
        replace HD := hide hD; have HY := hide hz; clear hD hg hz hm
        go_wp2_with fail
        go_ret2
        subst hw0 hgs
        exact ⟨_, _, y, rfl, by intro z hz; exact Nat.le_trans (HFIT.out z hz) (by decide), HY.out, by omega, HO.out.mono (by simp), HD.out.end⟩
      | true =>
        go_wp2_with fail
        refine (pickD 20 HD.out (by omega)).mono ?_; rintro e w13 ⟨x13, rfl, p13, q13, hD, hg⟩
        replace HO := hide (HD.out.own HO.out hg (by decide))
        replace HD := hide hD; clear hD hg
        obtain ⟨n, hn⟩ : ∃ n : Nat, 3990 + x13 = (n : Int) := ⟨(3990 + x13).toNat, by omega⟩
        have hnb : n ≤ 4010 := by omega
        have hmk := run_make_n (P := Tryd.prog) 22 5 (.int .u8 0) 1 1 Tryd.underlying22 (by kernel_rfl) n (by omega) (by omega)
        rw [show (madeCells (Value.cells (.int .u8 0)) (n * 1)) = madeCells #[.int .u8 0] n by rw [Nat.mul_one]; rfl] at hmk
        have hcv := run_convert_is (dst := 9) (P := Tryd.prog) Tryd.underlying22 Tryd.underlying5 Tryd.underlying9 (is_zeros w13 n (by simp only [maxLen]; omega))
        have hz : (⟨(List.replicate n (0 : UInt8)).toArray⟩ : ByteArray).size ≤ 5000 := by show (List.replicate n (0 : UInt8)).toArray.size ≤ 5000; simp; omega
        generalize (⟨(List.replicate n (0 : UInt8)).toArray⟩ : ByteArray) = t at *
        have HZT := hide hz; clear hz
        replace HO := hide (HO.out.alloc (.cells (madeCells #[.int .u8 0] n) 5))
        replace HD := hide (HD.out.alloc (.cells (madeCells #[.int .u8 0] n) 5))
        go_wp2_with (at_builtin; refine wpList_push1t (k := 1) (enc := encS) _ rfl _ _ 26 rfl 9 (.string ⟨#[]⟩) 16 Tryd.underlying26 (by kernel_rfl) rfl (by omega) (by omega) encS_one w0.heap.size _ (xs) rfl HO.out t _ _ (by simp) rfl rfl (by omega) HD.out.gr.size (Below.refl w0.heap.size (w13.alloc (.cells (madeCells #[.int .u8 0] n) 5))) (Nat.le_refl _) rfl ?_; intro v1 w14 ho1 hb1 hg1)
        have hadr1 : ∃ gx, v1.ownBlock = some gx := by rcases ho1 with ⟨rfl, he⟩ | ⟨gx, _, _, rfl, _⟩; · simp at he
                                                       · exact ⟨_, rfl⟩
        replace HD := hide (HD.out.push HO.out (Nat.le_refl _) hg1 (by decide)); replace HO := hide ho1; clear ho1 hb1 hg1
        go_wp2_with fail
        refine (ofD [⟨#[44]⟩, ⟨#[59]⟩, ⟨#[59]⟩, ⟨#[]⟩, ⟨#[97, 98]⟩] HD.out (by rfl) (by rfl) (by rfl) (by simp) (by simp) (by omega)).mono ?_; rintro e w30 ⟨y, rfl, hm, hD, hg⟩
        have hz : y.size ≤ 20 := (by decide : ∀ y ∈ ([⟨#[44]⟩, ⟨#[59]⟩, ⟨#[59]⟩, ⟨#[]⟩, ⟨#[97, 98]⟩] : List ByteArray), y.size ≤ 20) y hm
        replace HO := hide (HD.out.own HO.out hg (by decide))
        replace HD := hide hD; have HY := hide hz; clear hD hg hz hm
        go_wp2_with fail
        go_ret2
        subst hw0 hgs
        exact ⟨_, _, y, rfl, by intro z hz2; rcases List.mem_append.1 hz2 with hz2 | hz2; (exact Nat.le_trans (HFIT.out z hz2) (by decide)); (rw [List.mem_singleton.1 hz2]; exact HZT.out), HY.out, by simp; omega, HO.out.mono (by simp), HD.out.end⟩
end Go.Proofs.YtplemibckjnbhaaDoor
