/- What functions of this seat compute, by values: contracts (lemmas of the statement's proof, under the conditions that each names). -/
import Derived.Test.YtpaaaaijebdphaaQS2
import Derived.Test.YtpaaaaijebdphaaQJ
namespace Sim
open Go Go.Proofs
set_option maxRecDepth 10000
set_option linter.unusedVariables false
set_option linter.unusedSimpArgs false
def rgtO (p : Pst) : Prop := (0 ≤ p.1 ∧ p.1 ≤ 39) ∧ (0 ≤ p.2.1 ∧ p.2.1 ≤ 39) ∧ ¬ p.1 = p.2.1 ∧ (1 ≤ p.2.2.2.2.1 ∧ p.2.2.2.2.1 ≤ 7) ∧ (1 ≤ p.2.2.1 ∧ p.2.2.1 ≤ 1099511627776)
instance (p : Pst) : Decidable (rgtO p) := by unfold rgtO; infer_instance
def keyP (p : Pst) (a b c : Int) : Prop := p.1 = a ∧ p.2.1 = b ∧ p.2.2.2.2.1 = c
instance (p : Pst) (a b c : Int) : Decidable (keyP p a b c) := by unfold keyP; infer_instance
def keyG (g : Gap) (a b c : Int) : Prop := g.1 = a ∧ g.2.1 = b ∧ g.2.2.1 = c
instance (g : Gap) (a b c : Int) : Decidable (keyG g a b c) := by unfold keyG; infer_instance
/-- The sum of the amounts of a key. -/
def sumP (l : List Pst) (a b c : Int) : Int := (l.map fun p => if keyP p a b c then p.2.2.1 else 0).sum
theorem sumP_app {l m : List Pst} {a b c : Int} : sumP (l ++ m) a b c = sumP l a b c + sumP m a b c := by simp [sumP]
theorem sumP_cons {p : Pst} {m : List Pst} {a b c : Int} : sumP (p :: m) a b c = (if keyP p a b c then p.2.2.1 else 0) + sumP m a b c := by simp [sumP]
theorem sumP_nonneg {l : List Pst} (h : ∀ p ∈ l, rgtO p) (a b c : Int) : 0 ≤ sumP l a b c ∧ sumP l a b c ≤ 1099511627776 * (l.length : Int) := by
  induction l with
  | nil => simp [sumP]
  | cons p l ih =>
    have ih := ih fun q hq => h q (by simp [hq])
    have hp := h p (by simp)
    unfold rgtO at hp
    rw [sumP_cons, List.length_cons]
    split <;> omega
theorem sumP_pos {l : List Pst} (h : ∀ p ∈ l, rgtO p) {a b c : Int} : 0 < sumP l a b c ↔ ∃ p ∈ l, keyP p a b c := by
  induction l with
  | nil => simp [sumP]
  | cons p l ih =>
    have ih := ih fun q hq => h q (by simp [hq])
    have hn := sumP_nonneg (l := l) (fun q hq => h q (by simp [hq])) a b c
    have hp := h p (by simp)
    unfold rgtO at hp
    rw [sumP_cons]
    constructor
    · intro g
      by_cases k : keyP p a b c
      · exact ⟨p, by simp, k⟩
      · rw [if_neg k] at g
        obtain ⟨q, hq, k2⟩ := ih.1 (by omega)
        exact ⟨q, by simp [hq], k2⟩
    · rintro ⟨q, hq, k⟩
      rcases List.mem_cons.1 hq with rfl | hq
      · rw [if_pos k]; omega
      · have := ih.2 ⟨q, hq, k⟩
        split <;> omega
/-- The map's entries with a posting more, of the first list or the second one. -/
def bump (s : Nat) (g : Gap) (v : Int) : Gap := if s = 0 then (g.1, g.2.1, g.2.2.1, g.2.2.2.1 + v, g.2.2.2.2) else (g.1, g.2.1, g.2.2.1, g.2.2.2.1, g.2.2.2.2 + v)
def addG (s : Nat) : List Gap → Pst → List Gap
  | [], p => [bump s (p.1, p.2.1, p.2.2.2.2.1, 0, 0) p.2.2.1]
  | y :: l, p => if keyG y p.1 p.2.1 p.2.2.2.2.1 then bump s y p.2.2.1 :: l else y :: addG s l p
def getG : List Gap → Pst → Int × Int
  | [], _ => (0, 0)
  | y :: l, p => if keyG y p.1 p.2.1 p.2.2.2.2.1 then y.2.2.2 else getG l p
theorem bump_key {s : Nat} {g : Gap} {v : Int} : (bump s g v).1 = g.1 ∧ (bump s g v).2.1 = g.2.1 ∧ (bump s g v).2.2.1 = g.2.2.1 := by unfold bump; split <;> exact ⟨rfl, rfl, rfl⟩
theorem addG_key {s : Nat} {p : Pst} : ∀ {l : List Gap} {z : Gap}, z ∈ addG s l p → (z.1 = p.1 ∧ z.2.1 = p.2.1 ∧ z.2.2.1 = p.2.2.2.2.1) ∨ ∃ y ∈ l, z.1 = y.1 ∧ z.2.1 = y.2.1 ∧ z.2.2.1 = y.2.2.1
  | [], z, h => by
    simp only [addG, List.mem_singleton] at h
    subst h; exact .inl bump_key
  | y :: l, z, h => by
    unfold addG at h
    split at h
    · rename_i hk
      rcases List.mem_cons.1 h with rfl | h
      · exact .inr ⟨y, by simp, bump_key⟩
      · exact .inr ⟨z, by simp [h], rfl, rfl, rfl⟩
    · rcases List.mem_cons.1 h with rfl | h
      · exact .inr ⟨z, by simp, rfl, rfl, rfl⟩
      · rcases addG_key h with h | ⟨w, hw, h⟩
        · exact .inl h
        · exact .inr ⟨w, by simp [hw], h⟩
theorem addG_keys {s : Nat} {p : Pst} : ∀ {l : List Gap}, keysG l → keysG (addG s l p)
  | [], _ => by simp [addG, keysG]
  | y :: l, h => by
    unfold keysG at h ⊢
    rw [List.pairwise_cons] at h
    unfold addG
    split
    · rw [List.pairwise_cons]
      obtain ⟨b1, b2, b3⟩ := bump_key (s := s) (g := y) (v := p.2.2.1)
      refine ⟨fun z hz => ?_, h.2⟩
      rw [b1, b2, b3]; exact h.1 z hz
    · rename_i hk
      rw [List.pairwise_cons]
      refine ⟨fun z hz e => ?_, addG_keys h.2⟩
      rcases addG_key hz with g | ⟨w, hw, g⟩
      · exact hk ⟨by omega, by omega, by omega⟩
      · exact h.1 w hw ⟨by omega, by omega, by omega⟩
/-- What the entries are, after some postings of both lists. -/
structure EmOK (em : List Gap) (o c : List Pst) : Prop where
  keys : keysG em
  sums : ∀ y ∈ em, y.2.2.2 = (sumP o y.1 y.2.1 y.2.2.1, sumP c y.1 y.2.1 y.2.2.1)
  mem : ∀ y ∈ em, ∃ p ∈ o ++ c, keyP p y.1 y.2.1 y.2.2.1
  all : ∀ p ∈ o ++ c, ∃ y ∈ em, keyG y p.1 p.2.1 p.2.2.2.2.1
theorem em_nil : EmOK [] [] [] := ⟨List.Pairwise.nil, by simp, by simp, by simp⟩
theorem addG_mem {s : Nat} {p : Pst} : ∀ {l : List Gap} {z : Gap}, keysG l → (z ∈ addG s l p ↔ (z ∈ l ∧ ¬ keyG z p.1 p.2.1 p.2.2.2.2.1) ∨ (∃ y ∈ l, keyG y p.1 p.2.1 p.2.2.2.2.1 ∧ z = bump s y p.2.2.1) ∨ ((∀ y ∈ l, ¬ keyG y p.1 p.2.1 p.2.2.2.2.1) ∧ z = bump s (p.1, p.2.1, p.2.2.2.2.1, 0, 0) p.2.2.1))
  | [], z, _ => by simp [addG]
  | y :: l, z, h => by
    unfold keysG at h
    rw [List.pairwise_cons] at h
    have ih := addG_mem (s := s) (p := p) (l := l) (z := z) h.2
    unfold addG
    by_cases hk : keyG y p.1 p.2.1 p.2.2.2.2.1
    · rw [if_pos hk]
      have hno : ∀ w ∈ l, ¬ keyG w p.1 p.2.1 p.2.2.2.2.1 := fun w hw hkw => by
        unfold keyG at hk hkw
        exact h.1 w hw ⟨by omega, by omega, by omega⟩
      constructor
      · intro hz
        rcases List.mem_cons.1 hz with rfl | hz
        · exact .inr (.inl ⟨y, by simp, hk, rfl⟩)
        · exact .inl ⟨by simp [hz], hno z hz⟩
      · rintro (⟨hz, hnk⟩ | ⟨w, hw, hkw, rfl⟩ | ⟨hall, _⟩)
        · rcases List.mem_cons.1 hz with rfl | hz
          · exact absurd hk hnk
          · simp [hz]
        · rcases List.mem_cons.1 hw with rfl | hw
          · simp
          · exact absurd hkw (hno w hw)
        · exact absurd hk (hall y (by simp))
    · rw [if_neg hk]
      constructor
      · intro hz
        rcases List.mem_cons.1 hz with rfl | hz
        · exact .inl ⟨by simp, hk⟩
        · rcases ih.1 hz with ⟨a, b⟩ | ⟨w, a, b⟩ | ⟨a, b⟩
          · exact .inl ⟨by simp [a], b⟩
          · exact .inr (.inl ⟨w, by simp [a], b⟩)
          · exact .inr (.inr ⟨fun w hw => by
              rcases List.mem_cons.1 hw with rfl | hw
              · exact hk
              · exact a w hw, b⟩)
      · rintro (⟨hz, hnk⟩ | ⟨w, hw, hkw, rfl⟩ | ⟨hall, hz⟩)
        · rcases List.mem_cons.1 hz with rfl | hz
          · simp
          · exact List.mem_cons_of_mem _ (ih.2 (.inl ⟨hz, hnk⟩))
        · rcases List.mem_cons.1 hw with rfl | hw
          · exact absurd hkw hk
          · exact List.mem_cons_of_mem _ (ih.2 (.inr (.inl ⟨w, hw, hkw, rfl⟩)))
        · exact List.mem_cons_of_mem _ (ih.2 (.inr (.inr ⟨fun w hw => hall w (by simp [hw]), hz⟩)))
theorem sumP_none {l : List Pst} {a b c : Int} (h : ∀ p ∈ l, ¬ keyP p a b c) : sumP l a b c = 0 := by
  induction l with
  | nil => simp [sumP]
  | cons p l ih => rw [sumP_cons, if_neg (h p (by simp)), ih fun q hq => h q (by simp [hq])]; rfl
theorem em_step {em : List Gap} {o c : List Pst} (h : EmOK em o c) (p : Pst) (s : Nat) {o' c' : List Pst} (ho : o' = if s = 0 then o ++ [p] else o) (hc : c' = if s = 0 then c else c ++ [p]) : EmOK (addG s em p) o' c' := by
  have hmem : ∀ q, q ∈ o' ++ c' ↔ q ∈ o ++ c ∨ q = p := fun q => by
    rw [ho, hc]; by_cases e : s = 0 <;> simp [e] <;> grind
  have so : ∀ a b d, sumP o' a b d = sumP o a b d + if s = 0 ∧ keyP p a b d then p.2.2.1 else 0 := fun a b d => by
    rw [ho]; by_cases e : s = 0
    · rw [if_pos e, sumP_app, sumP_cons]; simp [e, sumP]
    · rw [if_neg e, if_neg (fun g => e g.1), Int.add_zero]
  have sc : ∀ a b d, sumP c' a b d = sumP c a b d + if ¬ s = 0 ∧ keyP p a b d then p.2.2.1 else 0 := fun a b d => by
    rw [hc]; by_cases e : s = 0
    · rw [if_pos e, if_neg (fun g => g.1 e), Int.add_zero]
    · rw [if_neg e, sumP_app, sumP_cons]; simp [e, sumP]
  refine ⟨addG_keys h.keys, fun z hz => ?_, fun z hz => ?_, fun q hq => ?_⟩
  · rw [so, sc]
    rcases (addG_mem h.keys).1 hz with ⟨g1, g2⟩ | ⟨y, g1, g2, rfl⟩ | ⟨g1, rfl⟩
    · have hn : ¬ keyP p z.1 z.2.1 z.2.2.1 := fun k => g2 ⟨k.1.symm, k.2.1.symm, k.2.2.symm⟩
      rw [if_neg (fun g => hn g.2), if_neg (fun g => hn g.2), Int.add_zero, Int.add_zero]
      exact h.sums z g1
    · have hs := h.sums y g1
      obtain ⟨b1, b2, b3⟩ := bump_key (s := s) (g := y) (v := p.2.2.1)
      rw [b1, b2, b3]
      have hk : keyP p y.1 y.2.1 y.2.2.1 := ⟨g2.1.symm, g2.2.1.symm, g2.2.2.symm⟩
      unfold bump
      by_cases e : s = 0
      · rw [if_pos e, if_pos ⟨e, hk⟩, if_neg (fun g => g.1 e), Int.add_zero]
        simp only
        rw [hs]
      · rw [if_neg e, if_neg (fun g => e g.1), if_pos ⟨e, hk⟩, Int.add_zero]
        simp only
        rw [hs]
    · have hno : ∀ q ∈ o ++ c, ¬ keyP q p.1 p.2.1 p.2.2.2.2.1 := fun q hq k => by
        obtain ⟨y, hy, ky⟩ := h.all q hq
        unfold keyP at k
        unfold keyG at ky
        exact g1 y hy ⟨by omega, by omega, by omega⟩
      obtain ⟨b1, b2, b3⟩ := bump_key (s := s) (g := (p.1, p.2.1, p.2.2.2.2.1, 0, 0)) (v := p.2.2.1)
      rw [b1, b2, b3]
      have hk : keyP p p.1 p.2.1 p.2.2.2.2.1 := ⟨rfl, rfl, rfl⟩
      dsimp only
      rw [sumP_none (l := o) fun q hq => hno q (by simp [hq]), sumP_none (l := c) fun q hq => hno q (by simp [hq])]
      unfold bump
      by_cases e : s = 0
      · rw [if_pos e, if_pos ⟨e, hk⟩, if_neg (fun g => g.1 e)]; simp
      · rw [if_neg e, if_neg (fun g => e g.1), if_pos ⟨e, hk⟩]; simp
  · rcases addG_key hz with g | ⟨y, hy, g1, g2, g3⟩
    · exact ⟨p, (hmem p).2 (.inr rfl), g.1.symm, g.2.1.symm, g.2.2.symm⟩
    · obtain ⟨q, hq, k⟩ := h.mem y hy
      exact ⟨q, (hmem q).2 (.inl hq), by rw [g1, g2, g3]; exact k⟩
  · have key : ∀ a b d, (∃ y ∈ em, keyG y a b d) → ∃ y ∈ addG s em p, keyG y a b d := by
      rintro a b d ⟨y, hy, k⟩
      by_cases e : keyG y p.1 p.2.1 p.2.2.2.2.1
      · obtain ⟨b1, b2, b3⟩ := bump_key (s := s) (g := y) (v := p.2.2.1)
        exact ⟨_, (addG_mem h.keys).2 (.inr (.inl ⟨y, hy, e, rfl⟩)), by unfold keyG at k ⊢; rw [b1, b2, b3]; exact k⟩
      · exact ⟨y, (addG_mem h.keys).2 (.inl ⟨hy, e⟩), k⟩
    rcases (hmem q).1 hq with g | rfl
    · exact key _ _ _ (h.all q g)
    · by_cases e : ∃ y ∈ em, keyG y q.1 q.2.1 q.2.2.2.2.1
      · exact key _ _ _ e
      · obtain ⟨b1, b2, b3⟩ := bump_key (s := s) (g := (q.1, q.2.1, q.2.2.2.2.1, 0, 0)) (v := q.2.2.1)
        exact ⟨_, (addG_mem h.keys).2 (.inr (.inr ⟨fun y hy k => e ⟨y, hy, k⟩, rfl⟩)), b1, b2, b3⟩
theorem em_fold (s : Nat) : ∀ (l : List Pst) {em : List Gap} {o c : List Pst}, EmOK em o c → EmOK (l.foldl (addG s) em) (if s = 0 then o ++ l else o) (if s = 0 then c else c ++ l)
  | [], em, o, c, h => by by_cases e : s = 0 <;> simpa [e] using h
  | p :: l, em, o, c, h => by
    have h1 := em_step h p s rfl rfl
    have h2 := em_fold s l h1
    by_cases e : s = 0
    · simp only [e, if_true, List.append_assoc, List.cons_append, List.nil_append, List.foldl_cons] at h2 ⊢
      exact h2
    · simp only [e, if_false, List.append_assoc, List.cons_append, List.nil_append, List.foldl_cons] at h2 ⊢
      exact h2
theorem getG_em {em : List Gap} {o c : List Pst} (h : EmOK em o c) (p : Pst) : getG em p = (sumP o p.1 p.2.1 p.2.2.2.2.1, sumP c p.1 p.2.1 p.2.2.2.2.1) := by
  by_cases e : ∃ y ∈ em, keyG y p.1 p.2.1 p.2.2.2.2.1
  · obtain ⟨y, hy, k⟩ := e
    have hs := h.sums y hy
    have hg : ∀ {l : List Gap}, keysG l → y ∈ l → getG l p = y.2.2.2 := by
      intro l
      induction l with
      | nil => intro _ hm; simp at hm
      | cons z l ih =>
        intro hk hm
        unfold keysG at hk
        rw [List.pairwise_cons] at hk
        unfold getG
        rcases List.mem_cons.1 hm with rfl | hm
        · rw [if_pos k]
        · rw [if_neg, ih hk.2 hm]
          intro k2
          unfold keyG at k k2
          exact hk.1 y hm ⟨by omega, by omega, by omega⟩
    rw [hg h.keys hy, hs]
    unfold keyG at k
    rw [k.1, k.2.1, k.2.2]
  · have hno : ∀ q ∈ o ++ c, ¬ keyP q p.1 p.2.1 p.2.2.2.2.1 := fun q hq k => by
      obtain ⟨y, hy, ky⟩ := h.all q hq
      unfold keyP at k
      unfold keyG at ky
      exact e ⟨y, hy, by omega, by omega, by omega⟩
    rw [sumP_none (l := o) fun q hq => hno q (by simp [hq]), sumP_none (l := c) fun q hq => hno q (by simp [hq])]
    have hg : ∀ {l : List Gap}, (∀ y ∈ l, ¬ keyG y p.1 p.2.1 p.2.2.2.2.1) → getG l p = (0, 0) := by
      intro l
      induction l with
      | nil => intro _; rfl
      | cons z l ih => intro hk; unfold getG; rw [if_neg (hk z (by simp)), ih fun y hy => hk y (by simp [hy])]
    exact hg fun y hy k => e ⟨y, hy, k⟩
end Sim
