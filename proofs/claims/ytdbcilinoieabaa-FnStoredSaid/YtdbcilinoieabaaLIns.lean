/- Rows and the append of elements in a region that draws, with the memory ahead told. No condition. -/
import Derived.Test.YtdbcilinoieabaaOwn
import Derived.Deep.RegionHeld3
namespace Go.Proofs.Ytdbcilinoieabaa
open Go.RowKit Go.Lib
set_option linter.unusedVariables false
theorem step_pushN {P : Program} {α : Type} {k : Nat} {enc : α → Nat → Value} (w : World) {ops : Array Oper} {o : Oper} {a : Act} {K : Act → World → Prop} {Q : Exit → Act → World → Prop} {E : Prop} (hgd : o.guard = none) (s x : Operand) (t : TypeId)
    (ho : o.op = .call { callee := .builtin .append, args := #[s, x], argTypes := #[t, t] })
    (e : TypeId) (z : Value) (bytes : Nat) (ht : P.underlying t = some (.slice e)) (hi : (P.info? e).map (fun i => (i.zero, i.size, i.bytes)) = some (some z, k, bytes))
    (hzs : z.cells.size = k) (hk : 0 < k) (hone : ∀ x j, (enc x j).oneCell' = true)
    (base : Nat) (v : Value) (xs : List α) (hs : a.eval s = v) (hown : Own k enc e w base v xs)
    (ad : Addr) (c : Nat) (ys : List α) (hx : a.eval x = .slice (some ad) ys.length c) (hsrc : ∀ j u, (flat k enc ys)[j]? = some u → w.cell? (ad.add j) = some u)
    (hbytes : (xs.length + ys.length) * bytes ≤ 140737488355328) (h63 : xs.length + ys.length ≤ 9223372036854775807) (hbase : base ≤ w.heap.size)
    {B : Nat} {a0 : World} (hbel : Below B a0 w) (hB : B ≤ base)
    (h : ∀ v' w', Own k enc e w' base v' (xs ++ ys) → Below B a0 w' → w.grownBy w' v.ownBlock → K (a.put o.dst v') w') :
    if Region.wanted o (yielded ops a.tmps) = true then Oper.wp P o a w K Q else E := by
  have hwd : Region.wanted o (yielded ops a.tmps) = true := by simp [Region.wanted, hgd]
  rw [if_pos hwd]
  obtain ⟨i, h1, h2, h3, h4⟩ := info_parts' hi
  refine wp_append_own w s x t ho base e i z k bytes ht h1 h2 h3 h4 hzs hk v xs.length (flat k enc xs) hs hown.ownsRow ad ys.length c (flat k enc ys) hx flat_length hsrc (one_cells hone ys) (by simp only [maxLen]; omega) hbytes hbase ?_
  intro v' w' h2 h3 h4
  rw [← flat_append] at h2
  exact h v' w' (Own.of_ownsRow h2 (by simp)) (hown.belowGrown hbel h3 hB (by omega)) h3
theorem rowN_take {α : Type} {k : Nat} {enc : α → Nat → Value} {w : World} {B : Nat} {A : Option Addr} {xs : List α} (h : Row k enc w B A xs) (n : Nat) : Row k enc w B A (xs.take n) := by
  rcases h with rfl | ⟨b, off, rfl, hb, hc⟩
  · exact .inl (by simp)
  · refine .inr ⟨b, off, rfl, hb, fun i x hx j hj => hc i x ?_ j hj⟩
    rw [List.getElem?_take] at hx
    split at hx
    · exact hx
    · cases hx
theorem rowN_drop {α : Type} {k : Nat} {enc : α → Nat → Value} {w : World} {B b off : Nat} {xs : List α} (h : Row k enc w B (some ⟨b, off, none⟩) xs) (n : Nat) : Row k enc w B (some ⟨b, off + n * k, none⟩) (xs.drop n) := by
  rcases h with rfl | ⟨b', off', hA, hb, hc⟩
  · exact .inl (by simp)
  · injection hA with hA; injection hA with h1 h2; subst h1 h2
    refine .inr ⟨b, off + n * k, rfl, hb, fun i x hx j hj => ?_⟩
    rw [List.getElem?_drop] at hx
    have := hc (n + i) x hx j hj
    rw [Nat.add_mul] at this
    rw [show off + n * k + i * k + j = off + (n * k + i * k) + j by omega]
    exact this
theorem srcN {α : Type} {k : Nat} {enc : α → Nat → Value} {ys : List α} {w : World} {B : Nat} {ad : Addr} (h : Row k enc w B (some ad) ys) (hk : 0 < k) : ∀ j u, (flat k enc ys)[j]? = some u → w.cell? (ad.add j) = some u := by
  intro j u hu
  have hj : j < ys.length * k := by
    have := (List.getElem?_eq_some_iff.1 hu).1
    rwa [flat_length] at this
  have hi : j / k < ys.length := Nat.div_lt_of_lt_mul (by rw [Nat.mul_comm]; exact hj)
  have hm : j % k < k := Nat.mod_lt _ hk
  obtain ⟨b', off', hA, _, hc⟩ := h.get hi
  injection hA with hA; subst hA
  have h3 := flat_get (enc := enc) (List.getElem?_eq_getElem hi) hm
  rw [Nat.div_add_mod' j k] at h3
  rw [h3] at hu
  injection hu with hu
  subst hu
  have := hc (j % k) hm
  rw [Nat.add_assoc, Nat.div_add_mod' j k] at this
  rw [Addr.add_lit]
  exact this
theorem own_noneN {α : Type} {kk : Nat} {enc : α → Nat → Value} (e : TypeId) (w : World) {B : Nat} (hB : B ≤ w.heap.size) : Own kk enc e (w.alloc (.cells #[] e)) B (.slice (some ⟨w.heap.size, 0, none⟩) 0 0) ([] : List α) :=
  Own.made (cs := #[]) rfl hB (Blk.new _ _ _) (by simp) (Nat.zero_le _) Filled.zero
/-- a new block, seen behind the growth of another one -/
theorem newN {w w1 : World} {g g2 : Nat} {e : TypeId} {cs : Array Value} {α : Type} {kk : Nat} {enc : α → Nat → Value} {ys : List α} (hb : Blk w g e cs) (hg : w.grownBy w1 (some g2)) (hne : g ≠ g2) (h : cs.toList = flat kk enc ys) : ∀ j u, (flat kk enc ys)[j]? = some u → w1.cell? ((⟨g, 0, none⟩ : Addr).add j) = some u := by
  intro j u hu
  have hb1 : Blk w1 g e cs := (hg.block g hb.lt (fun he => hne (Option.some.inj he))).trans hb
  rw [Addr.add_lit, Nat.zero_add, hb1.cell, ← hu, ← h]
  simp
/-- rows of two element types never share a block -/
theorem own_neN {α β : Type} {k k' : Nat} {enc : α → Nat → Value} {enc' : β → Nat → Value} {e e' : TypeId} {w : World} {b b' : Nat} {v v' : Value} {xs : List α} {ys : List β} (h : Own k enc e w b v xs) (h' : Own k' enc' e' w b' v' ys) (hne : e ≠ e') : ∀ g, v.ownBlock = some g → v'.ownBlock ≠ some g := by
  intro g hg hg'
  rcases h with ⟨rfl, _⟩ | ⟨g1, cap, cs, rfl, _, hb, _⟩
  · simp [Value.ownBlock] at hg
  rcases h' with ⟨rfl, _⟩ | ⟨g2, cap2, cs2, rfl, _, hb2, _⟩
  · simp [Value.ownBlock] at hg'
  simp only [Value.ownBlock, Option.some.injEq] at hg hg'
  subst hg hg'
  unfold Blk at hb hb2
  rw [hb] at hb2
  injection hb2 with hb2
  injection hb2 with h1 h2
  exact hne h2
end Go.Proofs.Ytdbcilinoieabaa
