/- What functions of this seat compute, by values: contracts (lemmas of the statement's proof, under the conditions that each names). -/
import Derived.Test.YtmgklnbhbomlnaaQM8
namespace Sim
open Go Go.Proofs
set_option maxRecDepth 10000
set_option linter.unusedVariables false
set_option linter.unusedSimpArgs false
theorem pw_nodup {l : List Key} (h : l.Pairwise ltK) : l.Nodup := by
  refine List.Pairwise.imp ?_ h
  intro a b g e
  subst e
  exact ltK_irr g
theorem pw_eq {a b : List Key} (ha : a.Pairwise ltK) (hb : b.Pairwise ltK) (h : ∀ q, q ∈ a ↔ q ∈ b) : a = b :=
  sorted_uniq (ha.imp fun g => by unfold ltK at *; omega) (hb.imp fun g => by unfold ltK at *; omega) ((List.perm_ext_iff_of_nodup (pw_nodup ha) (pw_nodup hb)).2 h)
theorem ord_pair {em : List Em} (h : (keysE em).Nodup) : (ordK em).Pairwise ltK := by
  have h1 := sort_pair (keysE em)
  have h2 : ((keysE em).mergeSort leK).Nodup := (List.mergeSort_perm _ _).nodup_iff.2 h
  refine (h1.and h2).imp fun {a b} g => ?_
  apply Classical.byContradiction
  intro hc
  exact g.2 (ltK_tri hc g.1)
theorem ord_mem {em : List Em} {q : Key} : q ∈ ordK em ↔ q ∈ keysE em := (List.mergeSort_perm _ _).mem_iff
end Sim
