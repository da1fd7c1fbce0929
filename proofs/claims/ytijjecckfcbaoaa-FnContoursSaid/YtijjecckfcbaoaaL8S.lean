/- The library's sort of numbers at this seat: the table of its functions and types (laid in plain words by mklay.py), and its contract on an own row. Condition: an own row below 2^62. -/
import Derived.Test.YtijjecckfcbaoaaL8N
import Derived.Shelf.Sort.Plain
import Derived.Sort.OwnSortedInts
namespace Go.Proofs.Ytijjecckfcbaoaa
open Go.RowKit Go.Shelf Go.Sort
def lay189_ren : Go.Shelf.Ren := ⟨fun | 189 => 78 | 125 => 96 | 257 => 95 | 128 => 111 | 129 => 112 | 294 => 102 | 295 => 103 | 296 => 104 | 297 => 105 | 298 => 106 | 299 => 107 | 216 => 108 | 300 => 109 | 301 => 110 | 328 => 115 | 329 => 116 | 330 => 117 | 331 => 118 | 332 => 119 | 215 => 120 | 343 => 121 | n => n, fun | 28 => 42 | 3 => 3 | 46 => 100 | 0 => 0 | 51 => 116 | 53 => 80 | 4 => 4 | 183 => 109 | 182 => 108 | 131 => 28 | 5 => 5 | 9 => 9 | 218 => 122 | 222 => 126 | 228 => 128 | 229 => 129 | n => n, fun | n => n⟩
theorem lay189 : Lays.n189 Try.prog lay189_ren :=
  {
    mixed := by kernel_rfl
    f125 := Try.func96.trans (congrArg some (by kernel_rfl))
    f128 := Try.func111.trans (congrArg some (by kernel_rfl))
    f129 := Try.func112.trans (congrArg some (by kernel_rfl))
    f189 := Try.func78.trans (congrArg some (by kernel_rfl))
    f215 := Try.func120.trans (congrArg some (by kernel_rfl))
    f216 := Try.func108.trans (congrArg some (by kernel_rfl))
    f257 := Try.func95.trans (congrArg some (by kernel_rfl))
    f294 := Try.func102.trans (congrArg some (by kernel_rfl))
    f295 := Try.func103.trans (congrArg some (by kernel_rfl))
    f296 := Try.func104.trans (congrArg some (by kernel_rfl))
    f297 := Try.func105.trans (congrArg some (by kernel_rfl))
    f298 := Try.func106.trans (congrArg some (by kernel_rfl))
    f299 := Try.func107.trans (congrArg some (by kernel_rfl))
    f300 := Try.func109.trans (congrArg some (by kernel_rfl))
    f301 := Try.func110.trans (congrArg some (by kernel_rfl))
    f328 := Try.func115.trans (congrArg some (by kernel_rfl))
    f329 := Try.func116.trans (congrArg some (by kernel_rfl))
    f330 := Try.func117.trans (congrArg some (by kernel_rfl))
    f331 := Try.func118.trans (congrArg some (by kernel_rfl))
    f332 := Try.func119.trans (congrArg some (by kernel_rfl))
    f343 := Try.func121.trans (congrArg some (by kernel_rfl))
    t0 := Try.underlying0
    a0 := Try.isAgg0
    z0 := Try.sizeOf0
    v0 := Try.zeroValue0
    t3 := Try.underlying3
    a3 := Try.isAgg3
    z3 := Try.sizeOf3
    v3 := Try.zeroValue3
    t4 := Try.underlying4
    a4 := Try.isAgg4
    z4 := Try.sizeOf4
    v4 := Try.zeroValue4
    t5 := Try.underlying5
    a5 := Try.isAgg5
    z5 := Try.sizeOf5
    v5 := Try.zeroValue5
    t9 := Try.underlying9
    a9 := Try.isAgg9
    z9 := Try.sizeOf9
    v9 := Try.zeroValue9
    t28 := Try.underlying42
    a28 := Try.isAgg42
    z28 := Try.sizeOf42
    v28 := Try.zeroValue42
    t46 := Try.underlying100
    a46 := Try.isAgg100
    z46 := Try.sizeOf100
    v46 := Try.zeroValue100
    t51 := Try.underlying116
    a51 := Try.isAgg116
    z51 := Try.sizeOf116
    v51 := Try.zeroValue116
    t53 := Try.underlying80
    a53 := Try.isAgg80
    z53 := Try.sizeOf80
    v53 := Try.zeroValue80
    t131 := Try.underlying28
    a131 := Try.isAgg28
    z131 := Try.sizeOf28
    v131 := Try.zeroValue28
    t182 := Try.underlying108
    a182 := Try.isAgg108
    z182 := Try.sizeOf108
    v182 := Try.zeroValue108
    t183 := Try.underlying109
    a183 := Try.isAgg109
    z183 := Try.sizeOf109
    v183 := Try.zeroValue109
    t218 := Try.underlying122
    a218 := Try.isAgg122
    z218 := Try.sizeOf122
    v218 := Try.zeroValue122
    t222 := Try.underlying126
    a222 := Try.isAgg126
    z222 := Try.sizeOf126
    v222 := Try.zeroValue126
    t228 := Try.underlying128
    a228 := Try.isAgg128
    z228 := Try.sizeOf128
    v228 := Try.zeroValue128
    t229 := Try.underlying129
    a229 := Try.isAgg129
    z229 := Try.sizeOf129
    v229 := Try.zeroValue129 }
def sortL (xs : List Int) : List Int := xs.mergeSort fun x y => decide (x ≤ y)
theorem flat_ints (xs : List Int) : flat 1 encI xs = xs.map (Value.int .i64) := by
  induction xs with
  | nil => rfl
  | cons x xs ih =>
    rw [List.map_cons, ← ih]
    rfl
theorem sortI_is {base : Nat} (v : Value) (xs : List Int) (w : World) (h : Own 1 encI 3 w base v xs) (h1 : 1 ≤ xs.length) (h2 : xs.length < 4611686018427387904) :
    Calls Try.prog 78 #[v] w fun e w' => e = .returned (.tuple #[]) ∧ Own 1 encI 3 w' base v (sortL xs) ∧ w.grownBy w' v.ownBlock := by
  rcases h with ⟨_, rfl⟩ | ⟨g, cap, cs, rfl, hbase, hblk, hc1, hc2, hcs, hf⟩
  · simp at h1
  have ht : cs.toList.take xs.length = xs.map (Value.int .i64) := by
    have := flat_of_filled (k := 1) (enc := encI) (by omega) hf
    rw [Nat.mul_one, flat_ints] at this
    exact this
  have hl : (sortL xs).length = xs.length := List.length_mergeSort xs
  have key : Calls Try.prog 78 #[.slice (some ⟨g, 0, none⟩) xs.length cap] w fun e w' =>
      e = .returned (.tuple #[]) ∧ ∃ n os, w' = grow (putRow (Value.int .i64) (Go.Sort.ahead w n) g 0 (sortL xs).toArray) os :=
    Any.slices_Sort_int lay189 g 0 cap xs w (holds_of_blockI hblk ht) hblk.lt h2
  refine key.mono ?_
  rintro e w' ⟨rfl, n, os, rfl⟩
  refine ⟨rfl, .inr ⟨g, cap, _, by rw [hl], hbase, heap_sortedI _ hblk, by omega, hc2, by simp [putCells, hcs], ?_⟩, grownBy_sortedI _⟩
  refine filled_of_flat ?_
  rw [Nat.mul_one, flat_ints]
  exact take_putCellsI cs (sortL xs) (by omega)
theorem tl_nodup (n : Nat) (T : Nat → Bool) : (tl n T).Nodup := by
  unfold tl
  refine List.Pairwise.map _ (fun a b h => ?_) (List.Nodup.sublist List.filter_sublist List.nodup_range)
  intro hh
  exact h (by omega)
theorem tl_le (n : Nat) (T : Nat → Bool) : (tl n T).Pairwise fun x y => x ≤ y := by
  unfold tl
  refine List.Pairwise.map _ (R := fun a b : Nat => a < b) (fun a b h => by show (a : Int) ≤ b; omega) (List.Pairwise.sublist List.filter_sublist List.pairwise_lt_range)
theorem mem_tl {n : Nat} {T : Nat → Bool} {x : Int} : x ∈ tl n T ↔ 0 ≤ x ∧ x < n ∧ T x.toNat = true := by
  unfold tl
  rw [List.mem_map]
  constructor
  · rintro ⟨u, hu, rfl⟩
    obtain ⟨h1, h2⟩ := List.mem_filter.1 hu
    have := List.mem_range.1 h1
    rw [Int.toNat_natCast]
    exact ⟨by omega, by omega, h2⟩
  · rintro ⟨h0, h1, h2⟩
    exact ⟨x.toNat, List.mem_filter.2 ⟨List.mem_range.2 (by omega), h2⟩, by omega⟩
theorem sort_tl {n : Nat} {T : Nat → Bool} {L : List Int} (hn : L.Nodup) (hm : ∀ x, x ∈ L ↔ 0 ≤ x ∧ x < n ∧ T x.toNat = true) : sortL L = tl n T := by
  have hp : (sortL L).Perm (tl n T) := (List.mergeSort_perm L _).trans ((List.perm_ext_iff_of_nodup hn (tl_nodup n T)).2 fun x => by rw [hm, mem_tl])
  refine List.Perm.eq_of_pairwise (le := fun x y : Int => x ≤ y) (fun a b _ _ h1 h2 => by omega) ?_ (tl_le n T) hp
  have h1 := List.pairwise_mergeSort (le := fun x y : Int => decide (x ≤ y)) (fun a b c h1 h2 => by simp at *; omega) (fun a b => by simp; omega) L
  exact h1.imp fun h => by simpa using h
/-- impl's growing list of tied marks: what one claim, what all claims add behind the mark cur -/
def pushC (cur : Int) (L : List Int) (a b : Int) : List Int := if a = cur ∧ ¬ b ∈ L then L ++ [b] else L
def growS (cur : Int) (L : List Int) (xs : List SClaim) : List Int := xs.foldl (fun L c => pushC cur (pushC cur L c.low c.high) c.high c.low) L
structure Grows (n : Nat) (xs : List SClaim) (k0 : Nat) (L : List Int) : Prop where
  nodup : L.Nodup
  mem : ∀ x ∈ L, 0 ≤ x ∧ x < n ∧ Reach (stepsOf xs) k0 x.toNat
  base : (k0 : Int) ∈ L
theorem Grows.len {n k0 : Nat} {xs : List SClaim} {L : List Int} (h : Grows n xs k0 L) : L.length ≤ n := by
  have h1 := List.Nodup.length_le_of_subset (l₂ := tl n fun _ => true) h.nodup (fun x hx => mem_tl.2 ⟨(h.mem x hx).1, (h.mem x hx).2.1, rfl⟩)
  have h2 := tl_len n fun _ => true
  omega
theorem pushC_sub {cur : Int} {L : List Int} {a b : Int} : ∃ M, pushC cur L a b = L ++ M := by
  unfold pushC; split
  · exact ⟨_, rfl⟩
  · exact ⟨[], by simp⟩
theorem pushC_has {cur : Int} {L : List Int} {b : Int} : b ∈ pushC cur L cur b := by
  unfold pushC; split
  · simp
  · rename_i h
    refine Classical.byContradiction fun hb => h ⟨rfl, hb⟩
theorem Grows.push {n k0 : Nat} {xs : List SClaim} {L : List Int} (h : Grows n xs k0 L) {cur a b : Int} (hcur : cur ∈ L) (hb : 0 ≤ b ∧ b < n) (hr : a = cur → Reach (stepsOf xs) k0 cur.toNat → Reach (stepsOf xs) k0 b.toNat) : Grows n xs k0 (pushC cur L a b) := by
  unfold pushC; split
  · rename_i hh
    refine ⟨?_, ?_, List.mem_append_left _ h.base⟩
    · refine List.nodup_append.2 ⟨h.nodup, by simp, fun x hx y hy => ?_⟩
      rw [List.mem_singleton.1 hy]
      exact fun e => hh.2 (e ▸ hx)
    · intro x hx
      rcases List.mem_append.1 hx with hx | hx
      · exact h.mem x hx
      · rw [List.mem_singleton.1 hx]
        exact ⟨hb.1, hb.2, hr hh.1 (h.mem cur hcur).2.2⟩
  · exact h
theorem Grows.claim {n k0 : Nat} {xs : List SClaim} {L : List Int} (h : Grows n xs k0 L) (hok : areB n xs = true) {cur : Int} (hcur : cur ∈ L) {c : SClaim} (hc : c ∈ xs) : Grows n xs k0 (pushC cur L c.low c.high) ∧ Grows n xs k0 (pushC cur (pushC cur L c.low c.high) c.high c.low) := by
  have h1 := oneB_iff.1 ((areB_iff.1 hok).1 c hc)
  obtain ⟨s1, s2⟩ := steps_mem hc
  have g1 : Grows n xs k0 (pushC cur L c.low c.high) := h.push hcur ⟨by omega, by omega⟩ fun e hr => by rw [← e] at hr; exact .step s1 hr
  refine ⟨g1, g1.push ?_ ⟨by omega, by omega⟩ fun e hr => by rw [← e] at hr; exact .step s2 hr⟩
  obtain ⟨M, hM⟩ := pushC_sub (cur := cur) (L := L) (a := c.low) (b := c.high)
  rw [hM]; exact List.mem_append_left _ hcur
theorem pushC2_sub {cur : Int} {L : List Int} {c : SClaim} : ∃ M, pushC cur (pushC cur L c.low c.high) c.high c.low = L ++ M := by
  obtain ⟨M, hM⟩ := pushC_sub (cur := cur) (L := L) (a := c.low) (b := c.high)
  obtain ⟨M2, hM2⟩ := pushC_sub (cur := cur) (L := pushC cur L c.low c.high) (a := c.high) (b := c.low)
  exact ⟨M ++ M2, by rw [hM2, hM, List.append_assoc]⟩
theorem growS_sub {cur : Int} : ∀ (ys : List SClaim) {L : List Int}, ∃ M, growS cur L ys = L ++ M
  | [], L => ⟨[], by simp [growS]⟩
  | c :: ys, L => by
    obtain ⟨M, hM⟩ := pushC2_sub (cur := cur) (L := L) (c := c)
    obtain ⟨M2, hM2⟩ := growS_sub (cur := cur) ys (L := pushC cur (pushC cur L c.low c.high) c.high c.low)
    refine ⟨M ++ M2, ?_⟩
    show growS cur (pushC cur (pushC cur L c.low c.high) c.high c.low) ys = _
    rw [hM2, hM, List.append_assoc]
theorem Grows.all {n k0 : Nat} {xs : List SClaim} (hok : areB n xs = true) {cur : Int} : ∀ (ys : List SClaim), (∀ c ∈ ys, c ∈ xs) → ∀ {L : List Int}, Grows n xs k0 L → cur ∈ L → Grows n xs k0 (growS cur L ys)
  | [], _, _, h, _ => h
  | c :: ys, hy, L, h, hcur => by
    obtain ⟨M, hM⟩ := pushC2_sub (cur := cur) (L := L) (c := c)
    exact Grows.all hok ys (fun x hx => hy x (List.mem_cons_of_mem _ hx)) (h.claim hok hcur (hy c List.mem_cons_self)).2 (by show cur ∈ pushC cur (pushC cur L c.low c.high) c.high c.low; rw [hM]; exact List.mem_append_left _ hcur)
theorem growS_has {cur : Int} : ∀ (ys : List SClaim) {L : List Int}, ∀ c ∈ ys, (c.low = cur → c.high ∈ growS cur L ys) ∧ (c.high = cur → c.low ∈ growS cur L ys)
  | [], _, c, hc => by simp at hc
  | d :: ys, L, c, hc => by
    obtain ⟨M2, hM2⟩ := growS_sub (cur := cur) ys (L := pushC cur (pushC cur L d.low d.high) d.high d.low)
    rcases List.mem_cons.1 hc with rfl | hc
    · show (_ → _ ∈ growS cur (pushC cur (pushC cur L c.low c.high) c.high c.low) ys) ∧ (_ → _ ∈ growS cur (pushC cur (pushC cur L c.low c.high) c.high c.low) ys)
      rw [hM2]
      obtain ⟨M, hM⟩ := pushC_sub (cur := cur) (L := pushC cur L c.low c.high) (a := c.high) (b := c.low)
      refine ⟨fun e => List.mem_append_left _ ?_, fun e => List.mem_append_left _ ?_⟩
      · rw [hM, e]; exact List.mem_append_left _ pushC_has
      · rw [e]; exact pushC_has
    · exact growS_has ys c hc
/-- the list once all marks up to its end have been gone through -/
theorem grows_end {n k0 : Nat} {xs : List SClaim} {L : List Int} (hok : areB n xs = true) (hk : k0 < n) (h : Grows n xs k0 L) (hd : ∀ x ∈ L, ∀ c ∈ xs, (c.low = x → c.high ∈ L) ∧ (c.high = x → c.low ∈ L)) : sortL L = tl n (tieN xs n (oneT k0)) := by
  refine sort_tl h.nodup fun x => ⟨fun hx => ?_, fun hx => ?_⟩
  · obtain ⟨h0, h1, h2⟩ := h.mem x hx
    exact ⟨h0, h1, (tie_reach (in_range hok) hk _).2 h2⟩
  · obtain ⟨h0, h1, h2⟩ := hx
    have hr := (tie_reach (in_range hok) hk _).1 h2
    have key : ∀ v, Reach (stepsOf xs) k0 v → (v : Int) ∈ L := by
      intro v hv
      induction hv with
      | base => exact h.base
      | @step e he _ ih =>
        unfold stepsOf at he
        rw [List.mem_flatMap] at he
        obtain ⟨c, hc, he⟩ := he
        have h1 := oneB_iff.1 ((areB_iff.1 hok).1 c hc)
        unfold stepsC at he
        rcases List.mem_cons.1 he with rfl | he
        · have := (hd _ ih c hc).1 (by simp only; omega)
          rwa [show ((c.low.toNat, c.high.toNat, c.most).2.1 : Int) = c.high by simp only; omega]
        · rw [List.mem_singleton.1 he] at ih ⊢
          have := (hd _ ih c hc).2 (by simp only; omega)
          rwa [show ((c.high.toNat, c.low.toNat, -c.least).2.1 : Int) = c.low by simp only; omega]
    have := key _ hr
    rwa [show ((x.toNat : Nat) : Int) = x by omega] at this
end Go.Proofs.Ytijjecckfcbaoaa
