/- What functions of this seat compute, by values: contracts (lemmas of the statement's proof, under the conditions that each names). -/
import Derived.Test.YtpdaiflnibekaaaQY
import Derived.Test.YtpdaiflnibekaaaQR
namespace Sim
open Go Go.Proofs
set_option maxRecDepth 10000
set_option maxHeartbeats 2000000
set_option linter.unusedVariables false
set_option linter.unusedSimpArgs false

/-! What proofs prove. -/
theorem clos_zero {rs : List Rep} : closM rs 0 = true := clos_iff.2 fun k _ h => by simp at h
theorem clos_step {rs : List Rep} {s k : Nat} (h : closM rs s = true) (hs : sub (ac rs k) s = true) : closM rs (s ||| 2 ^ k) = true := by
  refine clos_iff.2 fun i hi hb => ?_
  have hor : ∀ j, (s ||| 2 ^ k).testBit j = (s.testBit j || decide (k = j)) := fun j => by rw [Nat.testBit_or, Nat.testBit_two_pow]
  have hsub : sub (ac rs i) s = true := by
    rw [hor] at hb
    by_cases e : k = i
    · subst e; exact hs
    · exact clos_iff.1 h i hi (by simpa [e] using hb)
  rw [sub_iff] at hsub ⊢
  intro j hj
  rw [hor, hsub j hj]; rfl
theorem holds_V {st : Int} {rs : List Rep} {vs : List Int} (hl : vs.length = 2 ^ rs.length) (hz : vs.getD (vs.length - 1) 0 = 0) (hh : holdsT st rs vs vs.length = true) :
    ∀ (m s : Nat) (v : Int), allS rs - s ≤ m → s ≤ allS rs → closM rs s = true → V st rs s = some v → vs.getD s 0 ≤ v
  | m, s, v, hm, hs, hcl, hv => by
    have hp := one_le_pow rs.length
    by_cases e : s = allS rs
    · subst e
      rw [V_all] at hv
      cases hv
      have : allS rs = vs.length - 1 := by unfold allS; omega
      rw [this, hz]; exact Int.le_refl _
    · obtain ⟨⟨x, hx, r, hr, hxr⟩, _⟩ := V_some (by omega) hv
      have h1 := next_or hx
      have h2 := next_le hs hx
      have hm2 := next_mem.1 hx
      cases m with
      | zero => omega
      | succ m =>
        have ih := holds_V hl hz hh m (s ||| 2 ^ x.1) r (by omega) h2 (clos_step hcl (step_ok hm2.2.1).2.1) hr
        have := holds_iff.1 hh s (by unfold allS at hs; omega) hcl
        simp only [holdM, List.all_eq_true, decide_eq_true_eq] at this
        have := this x hx
        omega
theorem accept_le {st : Int} {rs : List Rep} {o vs : List Int} (h : acceptM st rs o vs = true) {v : Int} (hv : V st rs 0 = some v) : (costM st rs o).2 = 0 ∧ (costM st rs o).1 ≤ v := by
  simp only [acceptM, Bool.and_eq_true, decide_eq_true_eq] at h
  obtain ⟨⟨h1, h2, h3, h4⟩, h5, h6⟩ := h
  have := holds_V h2 h3 h6 (allS rs) 0 v (by omega) (by omega) clos_zero hv
  exact ⟨h1, by omega⟩
theorem accept_out {st : Int} {rs : List Rep} {o : List Int} (hc : OKc st rs) {v : Int} (hv : V st rs 0 = some v) : acceptM st rs o (outV st rs) = decide ((costM st rs o).2 = 0 ∧ (costM st rs o).1 ≤ v) := by
  have hp := one_le_pow rs.length
  have hl := outV_len (st := st) (rs := rs)
  have h0 : (outV st rs).getD 0 0 = v := by rw [outV_get (by omega), hv]; rfl
  have hz : (outV st rs).getD ((outV st rs).length - 1) 0 = 0 := by
    rw [hl, outV_get (by omega)]
    have : V st rs (2 ^ rs.length - 1) = some 0 := V_all
    rw [this]; rfl
  have hV : allV (outV st rs) = true := allV_iff.2 fun i hi => outV_b hc (by rw [← hl]; exact hi)
  have hh : holdsT st rs (outV st rs) (outV st rs).length = true := holds_iff.2 fun s hs _ => by
    simp only [holdM, List.all_eq_true, decide_eq_true_eq]
    intro x hx
    exact (outV_le hc (by rw [← hl]; exact hs) hx).2
  unfold acceptM
  rw [hV, hh, h0, hz]
  simp [hl]
theorem prove_eq {st : Int} {rs : List Rep} : (proveM st rs).2 = (bestM st rs).2 ∧ ((bestM st rs).2 ≠ 0 → (proveM st rs).1 = []) ∧ ((bestM st rs).2 = 0 → (proveM st rs).1 = outV st rs) := by
  unfold proveM
  by_cases h : (bestM st rs).2 = 0
  · simp [h]
  · simp [h]
end Sim
