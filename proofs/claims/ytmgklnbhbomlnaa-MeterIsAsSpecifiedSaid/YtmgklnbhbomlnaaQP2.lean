/- What functions of this seat compute, by values: contracts (lemmas of the statement's proof, under the conditions that each names). -/
import Derived.Test.YtmgklnbhbomlnaaQP1
namespace Sim
open Go Go.Proofs
set_option maxRecDepth 10000
set_option linter.unusedVariables false
set_option linter.unusedSimpArgs false
theorem out_len2 {em : List Em} {tick : Int} {ks : List Key} : (outL em tick ks).length ≤ ks.length ∧ (outR em ks).length ≤ ks.length := by
  unfold outL outR
  rw [List.length_map, List.length_map]
  exact ⟨List.length_filter_le _ _, List.length_filter_le _ _⟩
theorem emU_len {t : List Tar} {hn : Int} {ls : List Lnk} {l : List Use} {em : List Em} : ∀ k, (emU t hn ls l em k).length ≤ em.length + k
  | 0 => Nat.le_refl _
  | k + 1 => by
    have ih := emU_len (t := t) (hn := hn) (ls := ls) (l := l) (em := em) k
    have := add_len (em := emU t hn ls l em k) (k := ukey (l.getD k dU)) (c := chgM t hn ls (l.getD k dU))
    simp only [emU]; omega
theorem emR_len {rs : List Rst} : ∀ k, (emR rs k).length ≤ k
  | 0 => Nat.le_refl _
  | k + 1 => by
    have ih := emR_len (rs := rs) k
    have := add_len (em := emR rs k) (k := rkey (rs.getD k dR)) (c := (rs.getD k dR).2.2.2)
    simp only [emR]; omega
theorem emA_len {t : List Tar} {hn : Int} {ls : List Lnk} {l : List Use} {rs : List Rst} : (emA rs t hn ls l).length ≤ rs.length + l.length := by
  have h1 := emU_len (t := t) (hn := hn) (ls := ls) (l := l) (em := emR rs rs.length) l.length
  have h2 := emR_len (rs := rs) rs.length
  unfold emA; omega
theorem ord_len {em : List Em} : (ordK em).length = em.length := by
  unfold ordK; rw [List.length_mergeSort]; simp [keysE]
theorem per_mchk {rs : List Rst} {t : List Tar} {hn : Int} {ls : List Lnk} {l : List Use} {tick : Int} (h : perE rs t hn ls l tick = 0) : mchkE t l = 0 := by
  unfold perE at h
  by_cases c : mchkE t l = 0
  · exact c
  · rw [if_pos c] at h; exact h
theorem per_len {rs : List Rst} {t : List Tar} {hn : Int} {ls : List Lnk} {l : List Use} {tick : Int} : (perL rs t hn ls l tick).length ≤ rs.length + 200 ∧ (perR rs t hn ls l tick).length ≤ rs.length + 200 := by
  unfold perL perR
  by_cases h : perE rs t hn ls l tick = 0
  · rw [if_pos h, if_pos h]
    have h1 := mchk_len (per_mchk h)
    have h2 := emA_len (t := t) (hn := hn) (ls := ls) (l := l) (rs := rs)
    have h3 := out_len2 (em := emA rs t hn ls l) (tick := tick) (ks := ordK (emA rs t hn ls l))
    rw [ord_len] at h3
    omega
  · rw [if_neg h, if_neg h]; simp
section
variable {t : List Tar} {hn : Int} {ls : List Lnk}
theorem getD_map {α β : Type} {f : α → β} {l : List α} {d : α} {e : β} {k : Nat} (h : k < l.length) : (l.map f).getD k e = f (l.getD k d) := by simp [h]
/-- The rests and uses of a period that has no error, but perhaps too much of something. -/
structure PerIn (t : List Tar) (hn : Int) (ls : List Lnk) (rs : List Rst) (l : List Use) : Prop where
  chk : mchkE t l = 0
  rst : ∀ k, k < rs.length → rstO t.length rs k
  chg : ∀ u ∈ l, chgE t hn ls u = 0
end
end Sim
