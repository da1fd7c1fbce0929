/- The drawing functions of places, chains and pairs of chains. No condition. (Printed by mkturn.py.) -/
import Derived.Test.YtplemibckjnbhaaDoorD4A
namespace Go.Proofs.YtplemibckjnbhaaDoor
open Go.RowKit
set_option linter.unusedVariables false
theorem src_rowT {α : Type} {k : Nat} {enc : α → Nat → Value} {w : World} {B b off : Nat} {xs : List α} (h : Row k enc w B (some ⟨b, off, none⟩) xs) (hk : 0 < k) : ∀ j u, (flat k enc xs)[j]? = some u → w.cell? ((⟨b, off, none⟩ : Addr).add j) = some u := by
  intro j u hu
  have hj : j < xs.length * k := by
    have := (List.getElem?_eq_some_iff.1 hu).1
    rwa [flat_length] at this
  have hdiv : j / k < xs.length := Nat.div_lt_of_lt_mul (by rwa [Nat.mul_comm] at hj)
  obtain ⟨b', off', hA, _, hc⟩ := h.get hdiv
  injection hA with hA; injection hA with hA1 hA2; subst hA1 hA2
  have hm : j % k < k := Nat.mod_lt _ hk
  have h2 := flat_get (enc := enc) (List.getElem?_eq_getElem hdiv) hm
  have he : j / k * k + j % k = j := Nat.div_add_mod' j k
  rw [he] at h2
  have h3 := hc (j % k) hm
  rw [Nat.add_assoc, he] at h3
  rw [Addr.add_lit, h3]
  rw [h2] at hu
  exact hu
theorem results_tmp3_d {fn : Func} {t u v : Tmp} (h : fn.results = #[.tmp t, .tmp u, .tmp v]) (tmps : Array Value) (P : Program) (w : World) :
    (results fn tmps).run P w = .ok (.tuple #[tmps.getD t undef, tmps.getD u undef, tmps.getD v undef]) w := by
  simp [results, h]
end Go.Proofs.YtplemibckjnbhaaDoor
