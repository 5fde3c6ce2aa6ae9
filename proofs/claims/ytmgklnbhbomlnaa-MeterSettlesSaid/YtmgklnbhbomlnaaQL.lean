/- What functions of this seat compute, by values: contracts (lemmas of the statement's proof, under the conditions that each names). -/
import Derived.Test.YtmgklnbhbomlnaaQK
namespace Sim
open Go Go.Proofs
set_option maxRecDepth 10000
set_option maxHeartbeats 2000000
set_option linter.unusedVariables false
set_option linter.unusedSimpArgs false
attribute [local congr] opsIf_congr condC_congr guardC_congr grd_congr pick3_congr obind_congr omap_congr nilC_congr opsV_congr
structure BookOK (n : Int) (ps : List Pst) : Prop where
  num : 1 ≤ n ∧ n ≤ 40
  len : ps.length ≤ 10000
  one : ∀ k, k < ps.length → (accO n (ps.getD k dP).1 ∧ accO n (ps.getD k dP).2.1 ∧ ¬ (ps.getD k dP).1 = (ps.getD k dP).2.1) ∧ rngO (ps.getD k dP)
  asc : ∀ k, 0 < k → k < ps.length → (ps.getD (k - 1) dP).2.2.2.1 ≤ (ps.getD k dP).2.2.2.1
theorem one_zero {n : Int} {p : Pst} : oneE n p = 0 ↔ (accO n p.1 ∧ accO n p.2.1 ∧ ¬ p.1 = p.2.1) ∧ rngO p := by
  unfold oneE
  by_cases h1 : accO n p.1 ∧ accO n p.2.1 ∧ ¬ p.1 = p.2.1
  · rw [if_neg (fun h => h h1)]
    by_cases h2 : rngO p
    · rw [if_neg (fun h => h h2)]; exact ⟨fun _ => ⟨h1, h2⟩, fun _ => rfl⟩
    · rw [if_pos h2]; exact ⟨fun h => (by cases h), fun h => absurd h.2 h2⟩
  · rw [if_pos h1]; exact ⟨fun h => (by cases h), fun h => absurd h.1 h1⟩
theorem chk_zero {n : Int} {ps : List Pst} : ∀ k, chkK n ps k = 0 ↔ ∀ j, j < k → oneE n (ps.getD j dP) = 0 ∧ (0 < j → (ps.getD (j - 1) dP).2.2.2.1 ≤ (ps.getD j dP).2.2.2.1)
  | 0 => ⟨fun _ j hj => absurd hj (by omega), fun _ => rfl⟩
  | k + 1 => by
    have ih := chk_zero (n := n) (ps := ps) k
    simp only [chkK]
    constructor
    · intro h j hj
      by_cases h0 : chkK n ps k = 0
      · rw [if_neg (fun g => g h0)] at h
        by_cases e : j = k
        · subst e
          by_cases h1 : oneE n (ps.getD j dP) = 0
          · rw [if_neg (fun g => g h1)] at h
            refine ⟨h1, fun hj0 => ?_⟩
            apply Classical.byContradiction
            intro hc
            rw [if_pos ⟨hj0, by omega⟩] at h; cases h
          · rw [if_pos h1] at h; exact absurd h h1
        · exact ih.1 h0 j (by omega)
      · rw [if_pos h0] at h; exact absurd h h0
    · intro h
      have h0 := ih.2 fun j hj => h j (by omega)
      obtain ⟨h1, h2⟩ := h k (by omega)
      rw [if_neg (fun g => g h0), if_neg (fun g => g h1), if_neg (fun g => by have := h2 g.1; omega)]
theorem book_zero {n : Int} {ps : List Pst} : bookE n ps = 0 ↔ BookOK n ps := by
  unfold bookE
  constructor
  · intro h
    by_cases h1 : n < 1 ∨ 40 < n
    · rw [if_pos h1] at h; cases h
    · rw [if_neg h1] at h
      by_cases h2 : 10000 < ps.length
      · rw [if_pos h2] at h; cases h
      · rw [if_neg h2] at h
        have := (chk_zero _).1 h
        exact ⟨by omega, by omega, fun k hk => one_zero.1 (this k hk).1, fun k h0 hk => (this k hk).2 h0⟩
  · intro h
    have h1 := h.num
    have h2 := h.len
    rw [if_neg (by omega), if_neg (by omega), chk_zero]
    exact fun j hj => ⟨one_zero.2 (h.one j hj), fun h0 => h.asc j h0 hj⟩
/-- What an account gets by a posting, and by the first ones until a tick. -/
def gotQ (p : Pst) (i : Int) : Int := (if p.1 = i then p.2.2.1 else 0) - (if p.2.1 = i then p.2.2.1 else 0)
end Sim
