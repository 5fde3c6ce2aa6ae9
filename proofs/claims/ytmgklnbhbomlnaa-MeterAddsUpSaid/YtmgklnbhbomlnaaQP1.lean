/- What functions of this seat compute, by values: contracts (lemmas of the statement's proof, under the conditions that each names). -/
import Derived.Test.YtmgklnbhbomlnaaQM8
namespace Sim
open Go Go.Proofs
set_option maxRecDepth 10000
set_option linter.unusedVariables false
set_option linter.unusedSimpArgs false
def inR (n : Nat) (q : Key) : Prop := (0 ≤ q.1 ∧ q.1 ≤ 27) ∧ (0 ≤ q.2.1 ∧ q.2.1 < (n : Int)) ∧ (1 ≤ q.2.2 ∧ q.2.2 ≤ 5)
theorem pw_nodup {l : List Key} (h : l.Pairwise ltK) : l.Nodup := by
  refine List.Pairwise.imp ?_ h
  intro a b g e
  subst e
  exact ltK_irr g
theorem pw_eq {a b : List Key} (ha : a.Pairwise ltK) (hb : b.Pairwise ltK) (h : ∀ q, q ∈ a ↔ q ∈ b) : a = b :=
  sorted_uniq (ha.imp fun g => by unfold ltK at *; omega) (hb.imp fun g => by unfold ltK at *; omega) ((List.perm_ext_iff_of_nodup (pw_nodup ha) (pw_nodup hb)).2 h)
theorem ord_pair {em : List Em} (h : (keysE em).Nodup) : (ordK em).Pairwise ltK := by
  have h1 := sort_pair (keysE em)
  have h2 : ((keysE em).mergeSort leK).Nodup := (List.mergeSort_perm _ _).nodup_iff.2 h
  refine (h1.and h2).imp fun {a b} g => ?_
  apply Classical.byContradiction
  intro hc
  exact g.2 (ltK_tri hc g.1)
theorem ord_mem {em : List Em} {q : Key} : q ∈ ordK em ↔ q ∈ keysE em := (List.mergeSort_perm _ _).mem_iff
theorem par_inR {n : Nat} {a b c : Int} (h : parO n a b c) : inR n (c, b, a) := by
  unfold parO inM at h
  unfold inR
  dsimp only; omega
theorem emR_inR {n : Nat} {rs : List Rst} {k : Nat} (h : ∀ j, j < k → rstO n rs j) : ∀ q ∈ keysE (emR rs k), inR n q := fun q hq => by
  obtain ⟨j, hj, rfl⟩ := emR_keys q hq
  exact par_inR (h j hj).1
theorem emU_inR {t : List Tar} {hn : Int} {ls : List Lnk} {l : List Use} {em : List Em} (h0 : ∀ q ∈ keysE em, inR t.length q) : ∀ k, k ≤ l.length → chK t hn ls l k = 0 → ∀ q ∈ keysE (emU t hn ls l em k), inR t.length q
  | 0, _, _, q, hq => h0 q hq
  | k + 1, hk, h, q, hq => by
    have hc : chK t hn ls l k = 0 := by
      apply Classical.byContradiction
      intro hc
      simp only [chK] at h
      rw [if_pos hc] at h; exact hc h
    have he : chgE t hn ls (l.getD k dU) = 0 := by
      simp only [chK] at h
      rwa [if_neg (fun g => g hc)] at h
    have ih := emU_inR h0 k (by omega) hc
    simp only [emU] at hq
    rw [keys_add] at hq
    split at hq
    · exact ih q hq
    · rcases List.mem_append.1 hq with hq | hq
      · exact ih q hq
      · simp only [List.mem_singleton] at hq
        subst hq
        exact par_inR (chg_par he)
theorem emA_nodup {t : List Tar} {hn : Int} {ls : List Lnk} {l : List Use} {rs : List Rst} : (keysE (emA rs t hn ls l)).Nodup := by
  unfold emA
  have h0 : ∀ k, (keysE (emR rs k)).Nodup := by
    intro k
    induction k with
    | zero => simp [emR, keysE]
    | succ k ih => simp only [emR]; exact nodup_add ih
  have : ∀ k, (keysE (emU t hn ls l (emR rs rs.length) k)).Nodup := by
    intro k
    induction k with
    | zero => simp only [emU]; exact h0 _
    | succ k ih => simp only [emU]; exact nodup_add ih
  exact this _
end Sim
