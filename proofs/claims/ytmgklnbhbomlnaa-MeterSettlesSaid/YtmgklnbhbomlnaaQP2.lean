/- What functions of this seat compute, by values: contracts (lemmas of the statement's proof, under the conditions that each names). -/
import Derived.Test.YtmgklnbhbomlnaaQM8
namespace Sim
open Go Go.Proofs
set_option maxRecDepth 10000
set_option linter.unusedVariables false
set_option linter.unusedSimpArgs false
theorem pw_nodup {l : List Key} (h : l.Pairwise ltK) : l.Nodup := by
  refine List.Pairwise.imp ?_ h
  intro a b g e
  subst e
  exact ltK_irr g
theorem pw_eq {a b : List Key} (ha : a.Pairwise ltK) (hb : b.Pairwise ltK) (h : ∀ q, q ∈ a ↔ q ∈ b) : a = b :=
  sorted_uniq (ha.imp fun g => by unfold ltK at *; omega) (hb.imp fun g => by unfold ltK at *; omega) ((List.perm_ext_iff_of_nodup (pw_nodup ha) (pw_nodup hb)).2 h)
theorem ord_pair {em : List Em} (h : (keysE em).Nodup) : (ordK em).Pairwise ltK := by
  have h1 := sort_pair (keysE em)
  have h2 : ((keysE em).mergeSort leK).Nodup := (List.mergeSort_perm _ _).nodup_iff.2 h
  refine (h1.and h2).imp fun {a b} g => ?_
  apply Classical.byContradiction
  intro hc
  exact g.2 (ltK_tri hc g.1)
theorem ord_mem {em : List Em} {q : Key} : q ∈ ordK em ↔ q ∈ keysE em := (List.mergeSort_perm _ _).mem_iff
theorem emA_nodup {t : List Tar} {hn : Int} {ls : List Lnk} {l : List Use} {rs : List Rst} : (keysE (emA rs t hn ls l)).Nodup := by
  unfold emA
  have h0 : ∀ k, (keysE (emR rs k)).Nodup := by
    intro k
    induction k with
    | zero => simp [emR, keysE]
    | succ k ih => simp only [emR]; exact nodup_add ih
  have : ∀ k, (keysE (emU t hn ls l (emR rs rs.length) k)).Nodup := by
    intro k
    induction k with
    | zero => simp only [emU]; exact h0 _
    | succ k ih => simp only [emU]; exact nodup_add ih
  exact this _
end Sim

namespace Sim
open Go Go.Proofs
set_option maxRecDepth 10000
set_option linter.unusedVariables false
set_option linter.unusedSimpArgs false
theorem out_len2 {em : List Em} {tick : Int} {ks : List Key} : (outL em tick ks).length ≤ ks.length ∧ (outR em ks).length ≤ ks.length := by
  unfold outL outR
  rw [List.length_map, List.length_map]
  exact ⟨List.length_filter_le _ _, List.length_filter_le _ _⟩
theorem emU_len {t : List Tar} {hn : Int} {ls : List Lnk} {l : List Use} {em : List Em} : ∀ k, (emU t hn ls l em k).length ≤ em.length + k
  | 0 => Nat.le_refl _
  | k + 1 => by
    have ih := emU_len (t := t) (hn := hn) (ls := ls) (l := l) (em := em) k
    have := add_len (em := emU t hn ls l em k) (k := ukey (l.getD k dU)) (c := chgM t hn ls (l.getD k dU))
    simp only [emU]; omega
theorem emR_len {rs : List Rst} : ∀ k, (emR rs k).length ≤ k
  | 0 => Nat.le_refl _
  | k + 1 => by
    have ih := emR_len (rs := rs) k
    have := add_len (em := emR rs k) (k := rkey (rs.getD k dR)) (c := (rs.getD k dR).2.2.2)
    simp only [emR]; omega
theorem emA_len {t : List Tar} {hn : Int} {ls : List Lnk} {l : List Use} {rs : List Rst} : (emA rs t hn ls l).length ≤ rs.length + l.length := by
  have h1 := emU_len (t := t) (hn := hn) (ls := ls) (l := l) (em := emR rs rs.length) l.length
  have h2 := emR_len (rs := rs) rs.length
  unfold emA; omega
theorem ord_len {em : List Em} : (ordK em).length = em.length := by
  unfold ordK; rw [List.length_mergeSort]; simp [keysE]
theorem per_mchk {rs : List Rst} {t : List Tar} {hn : Int} {ls : List Lnk} {l : List Use} {tick : Int} (h : perE rs t hn ls l tick = 0) : mchkE t l = 0 := by
  unfold perE at h
  by_cases c : mchkE t l = 0
  · exact c
  · rw [if_pos c] at h; exact h
theorem per_len {rs : List Rst} {t : List Tar} {hn : Int} {ls : List Lnk} {l : List Use} {tick : Int} : (perL rs t hn ls l tick).length ≤ rs.length + 200 ∧ (perR rs t hn ls l tick).length ≤ rs.length + 200 := by
  unfold perL perR
  by_cases h : perE rs t hn ls l tick = 0
  · rw [if_pos h, if_pos h]
    have h1 := mchk_len (per_mchk h)
    have h2 := emA_len (t := t) (hn := hn) (ls := ls) (l := l) (rs := rs)
    have h3 := out_len2 (em := emA rs t hn ls l) (tick := tick) (ks := ordK (emA rs t hn ls l))
    rw [ord_len] at h3
    omega
  · rw [if_neg h, if_neg h]; simp
section
variable {t : List Tar} {hn : Int} {ls : List Lnk}
/-- The rests and uses of a period that has no error, but perhaps too much of something. -/
structure PerIn (t : List Tar) (hn : Int) (ls : List Lnk) (rs : List Rst) (l : List Use) : Prop where
  chk : mchkE t l = 0
  rst : ∀ k, k < rs.length → rstO t.length rs k
  chg : ∀ u ∈ l, chgE t hn ls u = 0
/-- What is right of the postings. -/
theorem ps_at {rs : List Rst} {l : List Use} {tick : Int} (x : Pst) (hx : x ∈ perL rs t hn ls l tick) : x.2.2.2.1 = tick ∧ 1 ≤ x.2.2.1 ∧ ∃ q ∈ keysE (emA rs t hn ls l), ¬ 1099511627776 < x.2.2.1 ∧ x = pstK tick q (sumO (emA rs t hn ls l) q) := by
  unfold perL at hx
  by_cases h : perE rs t hn ls l tick = 0
  case neg => rw [if_neg h] at hx; simp at hx
  rw [if_pos h] at hx
  unfold outL at hx
  obtain ⟨q, hq, rfl⟩ := List.mem_map.1 hx
  rw [List.mem_filter] at hq
  obtain ⟨h1, h2⟩ := hq
  simp only [decide_eq_true_eq] at h2
  have hb : ¬ bigE (emA rs t hn ls l) := fun hb => by
    unfold perE at h
    repeat' (split at h)
    all_goals first | (cases h; done) | contradiction
  have hm := ord_mem.1 h1
  have hnb : ¬ 1099511627776 < (sumO (emA rs t hn ls l) q).tdiv 1000 := fun g => by
    obtain ⟨e, he, heq⟩ := List.mem_map.1 hm
    refine hb ⟨e, he, ?_⟩
    rw [sum_mem emA_nodup e he, heq]; exact g
  have e : (pstK tick q (sumO (emA rs t hn ls l) q)).2.2.1 = (sumO (emA rs t hn ls l) q).tdiv 1000 := by unfold pstK; split <;> rfl
  refine ⟨by unfold pstK; split <;> rfl, by rw [e]; omega, q, hm, by rw [e]; exact hnb, rfl⟩
end
end Sim
