/- Append of elements to a row of the call's own, as a run and as one step of a region that draws (as in L7R). No condition. -/
import Derived.Test.YtdbcilinoieabaaOwn
import Derived.Deep.RegionLaw
namespace Go.Proofs.Ytdbcilinoieabaa
open Go.RowKit Go.Lib
set_option linter.unusedVariables false
theorem push_run {P : Program} {α : Type} {k : Nat} {enc : α → Nat → Value} {w : World} (t ty e : TypeId) (i : TypeInfo) (z : Value) (bytes : Nat) (h1 : P.underlying t = some (.slice e)) (h2 : P.info? e = some i) (h3 : i.zero = some z) (h4 : i.size = k) (h5 : i.bytes = bytes)
    (hzs : z.cells.size = k) (hk : 0 < k) (hone : ∀ x j, (enc x j).oneCell' = true) (base : Nat) (v : Value) (xs : List α) (hown : Own k enc e w base v xs)
    (ad : Addr) (c : Nat) (ys : List α) (hsrc : ∀ j u, (flat k enc ys)[j]? = some u → w.cell? (ad.add j) = some u)
    (hbytes : (xs.length + ys.length) * bytes ≤ 140737488355328) (h63 : xs.length + ys.length ≤ maxLen) (hbase : base ≤ w.heap.size) :
    ∃ v' w', (Builtin.append_ #[t, t] ty #[v, .slice (some ad) ys.length c]).run P w = .ok v' w' ∧ Own k enc e w' base v' (xs ++ ys) ∧ w.grownBy w' v.ownBlock ∧ (∀ g, v'.ownBlock = some g → v.ownBlock = some g ∨ w.heap.size ≤ g) := by
  obtain ⟨v', w', hr, g2, g3, g4⟩ := run_append_own (P := P) w base t ty e i z k bytes h1 h2 h3 h4 h5 hzs hk v xs.length (flat k enc xs) hown.ownsRow ad ys.length c (flat k enc ys) flat_length hsrc (one_cells hone ys) h63 hbytes hbase
  refine ⟨v', w', hr, ?_, g3, ?_⟩
  · rw [← flat_append] at g2
    exact Own.of_ownsRow g2 (by simp)
  rcases hown with ⟨rfl, rfl⟩ | ⟨g, cap, cs, rfl, hb, hblk, hlc, hcm, hsz, hf⟩
  · obtain ⟨v2, w2, hr2, q2, _, _⟩ := run_append_own (P := P) w w.heap.size t ty e i z k bytes h1 h2 h3 h4 h5 hzs hk (.slice none 0 0) 0 [] (World.ownsRow_nil w _ e k) ad ys.length c (flat k enc ys) flat_length hsrc (one_cells hone ys) (by simpa using h63) (by simpa using hbytes) (Nat.le_refl _)
    have he := hr.symm.trans hr2
    injection he with e1 e2
    subst e1 e2
    have hO : Own k enc e w' w.heap.size v' ys := Own.of_ownsRow (by simpa using q2) (by simp)
    exact fun g hg => .inr (hO.lt g hg).1
  · by_cases hroom : xs.length + ys.length ≤ cap
    · have hin : ∀ j, j < (flat k enc ys).length → xs.length * k + j < cs.size := fun j hj => by
        rw [flat_length] at hj
        have hm : (xs.length + ys.length) * k ≤ cap * k := Nat.mul_le_mul_right k hroom
        rw [Nat.add_mul] at hm
        rw [hsz]; omega
      have hrun := run_append_room_cells (P := P) w t ty e i h1 h2 g 0 xs.length cap ad ys.length c (flat k enc ys) (by rw [h4]; exact flat_length) hsrc (one_cells hone ys) hroom
        (fun j hj => by rw [h4, Nat.zero_add, hblk.some (hin j hj)]; rfl) (fun j hj => hblk.frozen _)
      have he := hr.symm.trans hrun
      injection he with e1 e2
      intro g' hg'
      rw [e1] at hg'
      exact .inl hg'
    · obtain ⟨v2, w2, hr2, q2, _⟩ := run_append_arg_grows (P := P) w t ty e i z k bytes h1 h2 h3 h4 h5 hzs hk ⟨g, 0, none⟩ xs.length cap (flat k enc xs) flat_length (fun j u hu => by
          rw [Addr.add_lit, Nat.zero_add, hblk.cell]
          have := flat_of_filled (by rw [hsz]; exact Nat.mul_le_mul_right k hlc) hf
          have hj : j < xs.length * k := by have := (List.getElem?_eq_some_iff.1 hu).1; rwa [flat_length] at this
          rw [← this, List.getElem?_take, if_pos hj] at hu
          simpa using hu) ad ys.length c (flat k enc ys) flat_length hsrc (by omega) h63 hbytes
      have he := hr.symm.trans hr2
      injection he with e1 e2
      subst e1 e2
      rw [← flat_append] at q2
      have hO : Own k enc e w' w.heap.size v' (xs ++ ys) := Own.of_ownsRow q2 (by simp)
      exact fun g hg => .inr (hO.lt g hg).1
/-- append of elements to a row of the call's own, as one step of a region that draws; the block is the row's, or a new one -/
theorem step_push {P : Program} {α : Type} {k : Nat} {enc : α → Nat → Value} {ops : Array Oper} {o : Oper} {a : Act} {w : World} {K : Act → World → Prop} {Q : Exit → Act → World → Prop} {E : Prop} (hgd : o.guard = none) (s x : Operand) (t : TypeId)
    (ho : o.op = .call { callee := .builtin .append, args := #[s, x], argTypes := #[t, t] })
    (e : TypeId) (z : Value) (bytes : Nat) (ht : P.underlying t = some (.slice e)) (hi : (P.info? e).map (fun i => (i.zero, i.size, i.bytes)) = some (some z, k, bytes))
    (hzs : z.cells.size = k) (hk : 0 < k) (hone : ∀ x j, (enc x j).oneCell' = true)
    (base : Nat) (v : Value) (xs : List α) (hs : a.eval s = v) (hown : Own k enc e w base v xs)
    (ad : Addr) (c : Nat) (ys : List α) (hx : a.eval x = .slice (some ad) ys.length c) (hsrc : ∀ j u, (flat k enc ys)[j]? = some u → w.cell? (ad.add j) = some u)
    (hbytes : (xs.length + ys.length) * bytes ≤ 140737488355328) (h63 : xs.length + ys.length ≤ 9223372036854775807) (hbase : base ≤ w.heap.size)
    (h : ∀ v' w', Own k enc e w' base v' (xs ++ ys) → w.grownBy w' v.ownBlock → (∀ g, v'.ownBlock = some g → v.ownBlock = some g ∨ w.heap.size ≤ g) → K (a.put o.dst v') w') : if Region.wanted o (yielded ops a.tmps) = true then Oper.wp P o a w K Q else E := by
  have hw : Region.wanted o (yielded ops a.tmps) = true := by simp [Region.wanted, hgd]
  rw [if_pos hw]
  obtain ⟨i, h1, h2, h3, h4⟩ := info_parts' hi
  obtain ⟨v', w', hr, g2, g3, g4⟩ := push_run (P := P) t o.type e i z bytes ht h1 h2 h3 h4 hzs hk hone base v xs hown ad c ys hsrc hbytes (by simp only [maxLen]; omega) hbase
  unfold Oper.wp execOp
  simp only [ho, resolve, invoke, builtin, Sem.run_bind, Sem.run_pure, Result.andThen_ok, List.map_toArray, List.map_cons, List.map_nil, hs, hx, hr]
  exact h v' w' g2 g3 g4
end Go.Proofs.Ytdbcilinoieabaa
