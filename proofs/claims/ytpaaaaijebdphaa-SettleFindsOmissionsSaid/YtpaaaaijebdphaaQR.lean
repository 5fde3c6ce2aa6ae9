/- What functions of this seat compute, by values: contracts (lemmas of the statement's proof, under the conditions that each names). -/
import Derived.Test.YtpaaaaijebdphaaQP
import Derived.Test.YtpaaaaijebdphaaQL
import Derived.Test.YtpaaaaijebdphaaQN
namespace Sim
open Go Go.Proofs
set_option maxRecDepth 10000
set_option linter.unusedVariables false
set_option linter.unusedSimpArgs false
/-- Before, by accounts and reason. -/
def befG (x y : Gap) : Prop := x.1 < y.1 ∨ (x.1 = y.1 ∧ (x.2.1 < y.2.1 ∨ (x.2.1 = y.2.1 ∧ x.2.2.1 < y.2.2.1)))
instance (x y : Gap) : Decidable (befG x y) := by unfold befG; infer_instance
def AscG (l : List Gap) : Prop := l.Pairwise befG
theorem asc_keysG {l : List Gap} (h : AscG l) : keysG l := h.imp fun h e => by unfold befG at h; omega
/-- The place of a gap, from behind. -/
def posG (x : Gap) (out : List Gap) : Nat → Nat
  | 0 => 0
  | n + 1 => if befG x (out.getD n dG) then posG x out n else n + 1
theorem posG_le {x : Gap} {out : List Gap} : ∀ n, posG x out n ≤ n
  | 0 => Nat.le_refl _
  | n + 1 => by
    have := posG_le (x := x) (out := out) n
    simp only [posG]; split <;> omega
theorem posG_bef {x : Gap} {out : List Gap} : ∀ n i, posG x out n ≤ i → i < n → befG x (out.getD i dG)
  | 0, i, _, h => absurd h (by omega)
  | n + 1, i, h1, h2 => by
    simp only [posG] at h1
    split at h1
    · rename_i hb
      by_cases e : i = n
      · subst e; exact hb
      · exact posG_bef n i h1 (by omega)
    · omega
theorem posG_not {x : Gap} {out : List Gap} : ∀ n, 0 < posG x out n → ¬ befG x (out.getD (posG x out n - 1) dG)
  | 0, h => by simp [posG] at h
  | n + 1, h => by
    simp only [posG] at h ⊢
    split
    · rename_i hb
      rw [if_pos hb] at h
      exact posG_not n h
    · rename_i hb; exact hb
def insG (x : Gap) (out : List Gap) : List Gap := out.take (posG x out out.length) ++ [x] ++ out.drop (posG x out out.length)
theorem insG_mem {x z : Gap} {out : List Gap} : z ∈ insG x out ↔ z = x ∨ z ∈ out := by
  unfold insG
  generalize posG x out out.length = n
  have h := List.take_append_drop n out
  have : z ∈ out ↔ z ∈ out.take n ∨ z ∈ out.drop n := by
    rw [← List.mem_append, h]
  rw [this, List.mem_append, List.mem_append, List.mem_singleton]
  grind
theorem asc_at {l : List Gap} (h : AscG l) {i j : Nat} (hij : i < j) (hj : j < l.length) : befG (l.getD i dG) (l.getD j dG) := by
  have := List.pairwise_iff_getElem.1 h i j (by omega) hj hij
  simpa [hj, show i < l.length by omega] using this
theorem insG_asc {x : Gap} {out : List Gap} (h : AscG out) (hk : ∀ y ∈ out, ¬ (x.1 = y.1 ∧ x.2.1 = y.2.1 ∧ x.2.2.1 = y.2.2.1)) : AscG (insG x out) := by
  have hle := posG_le (x := x) (out := out) out.length
  have hb := posG_bef (x := x) (out := out) out.length
  have hn := posG_not (x := x) (out := out) out.length
  unfold insG
  generalize posG x out out.length = n at *
  have h2 : AscG (out.take n) ∧ AscG (out.drop n) ∧ ∀ a ∈ out.take n, ∀ b ∈ out.drop n, befG a b := by
    have := List.take_append_drop n out
    rw [← this] at h
    exact List.pairwise_append.1 h
  have q1 : ∀ a ∈ out.take n, befG a x := fun a ha => by
    obtain ⟨i, hi, rfl⟩ := List.getElem_of_mem ha
    rw [List.length_take] at hi
    have e : (out.take n)[i] = out.getD i dG := by simp [show i < out.length by omega]
    have hx := hn (by omega)
    have hkm := hk (out.getD (n - 1) dG) (by rw [List.getD_eq_getElem?_getD, List.getElem?_eq_getElem (by omega : n - 1 < out.length)]; exact List.getElem_mem _)
    rw [e]
    by_cases e2 : i = n - 1
    · subst e2; unfold befG at hx ⊢; omega
    · have h3 := asc_at h (show i < n - 1 by omega) (by omega)
      unfold befG at hx h3 ⊢; omega
  have q2 : ∀ b ∈ out.drop n, befG x b := fun b hbm => by
    obtain ⟨i, hi, rfl⟩ := List.getElem_of_mem hbm
    rw [List.length_drop] at hi
    have e : (out.drop n)[i] = out.getD (n + i) dG := by simp [show n + i < out.length by omega]
    rw [e]
    exact hb (n + i) (by omega) (by omega)
  rw [List.append_assoc, AscG, List.pairwise_append]
  refine ⟨h2.1, ?_, fun a ha b hbm => ?_⟩
  · rw [List.cons_append, List.nil_append, List.pairwise_cons]
    exact ⟨q2, h2.2.1⟩
  · rw [List.cons_append, List.nil_append] at hbm
    rcases List.mem_cons.1 hbm with rfl | hbm
    · exact q1 a ha
    · exact h2.2.2 a ha b hbm
/-- The gap of a posting. -/
def gapP (o c : List Pst) (p : Pst) : Gap := (p.1, p.2.1, p.2.2.2.2.1, sumP o p.1 p.2.1 p.2.2.2.2.1, sumP c p.1 p.2.1 p.2.2.2.2.1)
/-- Is it passed over? -/
def skipG (o c all : List Pst) (k : Nat) (p : Pst) : Prop := 0 < sumP (all.take k) p.1 p.2.1 p.2.2.2.2.1 ∨ (gapP o c p).2.2.2.1 = (gapP o c p).2.2.2.2
instance (o c all : List Pst) (k : Nat) (p : Pst) : Decidable (skipG o c all k p) := by unfold skipG; infer_instance
def specK (o c all : List Pst) : Nat → List Gap
  | 0 => []
  | k + 1 => if skipG o c all k (all.getD k dP) then specK o c all k else insG (gapP o c (all.getD k dP)) (specK o c all k)
def specL (o c : List Pst) : List Gap := specK o c (o ++ c) (o ++ c).length
theorem mem_take_at {l : List Pst} {k : Nat} {q : Pst} (h : q ∈ l.take k) : ∃ j, j < k ∧ j < l.length ∧ l.getD j dP = q := by
  obtain ⟨i, hi, rfl⟩ := List.getElem_of_mem h
  rw [List.length_take] at hi
  exact ⟨i, by omega, by omega, by simp [show i < l.length by omega]⟩
theorem at_mem_take {l : List Pst} {k j : Nat} (h1 : j < k) (h2 : j < l.length) : l.getD j dP ∈ l.take k := by
  have : (l.take k)[j]'(by rw [List.length_take]; omega) = l.getD j dP := by simp [h2]
  rw [← this]
  exact List.getElem_mem _
theorem spec_ok {o c all : List Pst} (hr : ∀ p ∈ all, rgtO p) : ∀ k, k ≤ all.length → AscG (specK o c all k) ∧ ∀ z, z ∈ specK o c all k ↔ ∃ j, j < k ∧ z = gapP o c (all.getD j dP) ∧ ¬ z.2.2.2.1 = z.2.2.2.2
  | 0, _ => ⟨List.Pairwise.nil, fun z => by simp [specK]⟩
  | k + 1, hk => by
    obtain ⟨h1, h2⟩ := spec_ok (o := o) (c := c) hr k (by omega)
    have hst : specK o c all (k + 1) = if skipG o c all k (all.getD k dP) then specK o c all k else insG (gapP o c (all.getD k dP)) (specK o c all k) := rfl
    rw [hst]
    have htr : ∀ p ∈ all.take k, rgtO p := fun p hp => hr p (List.mem_of_mem_take hp)
    have hsame : ∀ (p q : Pst), keyP q p.1 p.2.1 p.2.2.2.2.1 → gapP o c q = gapP o c p := fun p q hq => by
      unfold keyP at hq
      unfold gapP
      rw [hq.1, hq.2.1, hq.2.2]
    by_cases hs : skipG o c all k (all.getD k dP)
    · rw [if_pos hs]
      refine ⟨h1, fun z => ?_⟩
      rw [h2]
      constructor
      · rintro ⟨j, hj, h⟩; exact ⟨j, by omega, h⟩
      · rintro ⟨j, hj, rfl, hne⟩
        by_cases e : j = k
        · subst e
          rcases hs with hs | hs
          · obtain ⟨q, hq, kq⟩ := (sumP_pos htr).1 hs
            obtain ⟨i, hi, _, rfl⟩ := mem_take_at hq
            exact ⟨i, hi, (hsame _ _ kq).symm, hne⟩
          · exact absurd hs hne
        · exact ⟨j, by omega, rfl, hne⟩
    · rw [if_neg hs]
      have hs1 : ¬ 0 < sumP (all.take k) (all.getD k dP).1 (all.getD k dP).2.1 (all.getD k dP).2.2.2.2.1 := fun h => hs (.inl h)
      have hs2 : ¬ (gapP o c (all.getD k dP)).2.2.2.1 = (gapP o c (all.getD k dP)).2.2.2.2 := fun h => hs (.inr h)
      refine ⟨insG_asc h1 fun y hy e => ?_, fun z => ?_⟩
      · obtain ⟨j, hj, rfl, _⟩ := (h2 y).1 hy
        exact hs1 ((sumP_pos htr).2 ⟨_, at_mem_take hj (by omega), e.1.symm, e.2.1.symm, e.2.2.symm⟩)
      · rw [insG_mem, h2]
        constructor
        · rintro (rfl | ⟨j, hj, h⟩)
          · exact ⟨k, by omega, rfl, hs2⟩
          · exact ⟨j, by omega, h⟩
        · rintro ⟨j, hj, h, hne⟩
          by_cases e : j = k
          · subst e; exact .inl h
          · exact .inr ⟨j, by omega, h, hne⟩
/-- The entries of a map that have a gap. -/
def gapF (em : List Gap) : List Gap := em.filter fun g => decide (¬ g.2.2.2.1 = g.2.2.2.2)
theorem nodup_keys {l : List Gap} (h : keysG l) : l.Nodup := h.imp fun h e => h (by rw [e]; exact ⟨rfl, rfl, rfl⟩)
theorem perm_mem {l m : List Gap} (h1 : l.Nodup) (h2 : m.Nodup) (h : ∀ z, z ∈ l ↔ z ∈ m) : l.Perm m := (List.perm_ext_iff_of_nodup h1 h2).2 h
theorem gapF_perm {o c : List Pst} {em : List Gap} (h : EmOK em o c) (hr : ∀ p ∈ o ++ c, rgtO p) : (gapF em).Perm (specL o c) := by
  obtain ⟨h1, h2⟩ := spec_ok (o := o) (c := c) hr (o ++ c).length (Nat.le_refl _)
  refine perm_mem ((nodup_keys h.keys).filter _) (nodup_keys (asc_keysG h1)) fun z => ?_
  unfold specL gapF
  rw [List.mem_filter, h2]
  have hz : ∀ y ∈ em, ∀ p : Pst, keyP p y.1 y.2.1 y.2.2.1 → y = gapP o c p := fun y hy p k => by
    have hs := h.sums y hy
    obtain ⟨a, b, d, e⟩ := y
    dsimp only at hs
    unfold keyP at k
    dsimp only at k
    unfold gapP
    rw [hs, k.1, k.2.1, k.2.2]
  constructor
  · rintro ⟨hm, hne⟩
    obtain ⟨p, hp, k⟩ := h.mem z hm
    obtain ⟨j, hj, rfl⟩ := List.getElem_of_mem hp
    refine ⟨j, hj, ?_, by simpa using hne⟩
    have e : (o ++ c).getD j dP = (o ++ c)[j] := by rw [List.getD_eq_getElem?_getD, List.getElem?_eq_getElem hj]; rfl
    rw [e]
    exact hz z hm _ k
  · rintro ⟨j, hj, rfl, hne⟩
    have e : (o ++ c).getD j dP = (o ++ c)[j] := by rw [List.getD_eq_getElem?_getD, List.getElem?_eq_getElem hj]; rfl
    obtain ⟨y, hy, k⟩ := h.all _ (List.getElem_mem hj)
    rw [← e] at k
    have := hz y hy ((o ++ c).getD j dP) ⟨k.1.symm, k.2.1.symm, k.2.2.symm⟩
    rw [← this]
    exact ⟨hy, by rw [this]; simpa using hne⟩
theorem sort_gaps {v em : List Gap} {o c : List Pst} (h : EmOK em o c) (hr : ∀ p ∈ o ++ c, rgtO p) (hv : v.Perm (gapF em)) : v.mergeSort leG = specL o c := by
  obtain ⟨h1, _⟩ := spec_ok (o := o) (c := c) hr (o ++ c).length (Nat.le_refl _)
  have hp : (v.mergeSort leG).Perm (specL o c) := (List.mergeSort_perm v leG).trans (hv.trans (gapF_perm h hr))
  have hk := asc_keysG h1
  refine List.Perm.eq_of_pairwise (le := fun a b => leG a b = true) ?_ (List.pairwise_mergeSort ?_ ?_ v) ?_ hp
  · intro a b ha hb g1 g2
    have ha : a ∈ specL o c := hp.mem_iff.1 ha
    rw [leG_iff] at g1 g2
    have hs : a.1 = b.1 ∧ a.2.1 = b.2.1 ∧ a.2.2.1 = b.2.2.1 := by omega
    have f1 := fofG hk a ha
    have f2 := fofG hk b hb
    rw [hs.1, hs.2.1, hs.2.2, ← f2] at f1
    exact Prod.ext hs.1 (Prod.ext hs.2.1 (Prod.ext hs.2.2 f1))
  · intro a b c h1 h2
    rw [leG_iff] at *
    omega
  · intro a b
    rw [Bool.or_eq_true, leG_iff, leG_iff]
    omega
  · exact List.Pairwise.imp (fun {a b} h => by
      rw [leG_iff]
      unfold befG at h
      omega) h1
def encG (g : Gap) : PV × PV := (.agg [I g.1, I g.2.1, I g.2.2.1], .agg [I g.2.2.2.1, I g.2.2.2.2])
theorem sameK_G {a b c d e f : Int} : sameK (.agg [I a, I b, I c]) (.agg [I d, I e, I f]) = decide (a = d ∧ b = e ∧ c = f) := by
  have hb : ∀ x y : Int, (x == y) = decide (x = y) := fun x y => rfl
  simp [sameK, sameL, Bool.decide_and, hb]
theorem keyG_iff {y : Gap} {p : Pst} : (p.1 = y.1 ∧ p.2.1 = y.2.1 ∧ p.2.2.2.2.1 = y.2.2.1) ↔ keyG y p.1 p.2.1 p.2.2.2.2.1 := by unfold keyG; omega
theorem mget_G {p : Pst} : ∀ {em : List Gap}, (mget (em.map encG) (.agg [I p.1, I p.2.1, I p.2.2.2.2.1])).getD (.agg [I 0, I 0]) = .agg [I (getG em p).1, I (getG em p).2]
  | [] => rfl
  | y :: em => by
    simp only [List.map_cons, mget, encG, sameK_G, getG, decide_eq_true_eq]
    by_cases h : p.1 = y.1 ∧ p.2.1 = y.2.1 ∧ p.2.2.2.2.1 = y.2.2.1
    · rw [if_pos h, if_pos (keyG_iff.1 h)]; rfl
    · rw [if_neg h, if_neg (fun g => h (keyG_iff.2 g))]; exact mget_G
theorem mput_G {p : Pst} {s : Nat} : ∀ {em : List Gap}, mput (em.map encG) (.agg [I p.1, I p.2.1, I p.2.2.2.2.1]) (if s = 0 then .agg [I ((getG em p).1 + p.2.2.1), I (getG em p).2] else .agg [I (getG em p).1, I ((getG em p).2 + p.2.2.1)]) = (addG s em p).map encG
  | [] => by
    by_cases e : s = 0 <;> simp [mput, addG, encG, getG, bump, e]
  | y :: em => by
    simp only [List.map_cons, mput, sameK_G, getG, addG, decide_eq_true_eq]
    by_cases h : p.1 = y.1 ∧ p.2.1 = y.2.1 ∧ p.2.2.2.2.1 = y.2.2.1
    · have hk := keyG_iff.1 h
      rw [show sameK (.agg [I p.1, I p.2.1, I p.2.2.2.2.1]) (encG y).1 = true by simp [encG, sameK_G, h], if_pos rfl, if_pos hk, if_pos hk]
      have e1 := h.1
      have e2 := h.2.1
      have e3 := h.2.2
      by_cases e : s = 0 <;> simp [encG, bump, e, e1, e2, e3]
    · have hk : ¬ keyG y p.1 p.2.1 p.2.2.2.2.1 := fun g => h (keyG_iff.2 g)
      rw [show sameK (.agg [I p.1, I p.2.1, I p.2.2.2.2.1]) (encG y).1 = false by simp only [encG, sameK_G]; exact decide_eq_false h, if_neg (by simp), if_neg hk, if_neg hk, List.map_cons]
      rw [mput_G]
end Sim

namespace Sim
open Go Go.Proofs
set_option maxRecDepth 10000
set_option maxHeartbeats 2000000
set_option linter.unusedVariables false
set_option linter.unusedSimpArgs false
attribute [local congr] opsIf_congr condC_congr guardC_congr grd_congr pick3_congr obind_congr omap_congr nilC_congr opsV_congr
end Sim
