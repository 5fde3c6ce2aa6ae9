/- What functions of this seat compute, by values: contracts (lemmas of the statement's proof, under the conditions that each names). -/
import Derived.Test.YtpaaaaijebdphaaQU
namespace Sim
open Go Go.Proofs
set_option maxRecDepth 10000
set_option linter.unusedVariables false
set_option linter.unusedSimpArgs false
/-! Disputes both ways: plain laws. -/
def swG (g : Gap) : Gap := (g.1, g.2.1, g.2.2.1, g.2.2.2.2, g.2.2.2.1)
theorem asc_eq : ∀ {l m : List Gap}, AscG l → AscG m → (∀ z, z ∈ l ↔ z ∈ m) → l = m
  | [], [], _, _, _ => rfl
  | [], y :: m, _, _, h => by have := (h y).2 (by simp); simp at this
  | x :: l, [], _, _, h => by have := (h x).1 (by simp); simp at this
  | x :: l, y :: m, h1, h2, h => by
    unfold AscG at h1 h2
    rw [List.pairwise_cons] at h1 h2
    have e : x = y := by
      rcases List.mem_cons.1 ((h x).1 (by simp)) with e | hx
      · exact e
      · rcases List.mem_cons.1 ((h y).2 (by simp)) with e | hy
        · exact e.symm
        · have a := h1.1 y hy
          have b := h2.1 x hx
          unfold befG at a b; omega
    subst e
    congr 1
    refine asc_eq h1.2 h2.2 fun z => ?_
    constructor
    · intro hz
      rcases List.mem_cons.1 ((h z).1 (by simp [hz])) with e | hz'
      · subst e
        have := h1.1 z hz; unfold befG at this; omega
      · exact hz'
    · intro hz
      rcases List.mem_cons.1 ((h z).2 (by simp [hz])) with e | hz'
      · subst e
        have := h2.1 z hz; unfold befG at this; omega
      · exact hz'
theorem spec_mem {o c : List Pst} (hr : ∀ p ∈ o ++ c, rgtO p) : AscG (specL o c) ∧ ∀ z, z ∈ specL o c ↔ ∃ p ∈ o ++ c, z = gapP o c p ∧ ¬ z.2.2.2.1 = z.2.2.2.2 := by
  obtain ⟨h1, h2⟩ := spec_ok (o := o) (c := c) hr (o ++ c).length (Nat.le_refl _)
  refine ⟨h1, fun z => (h2 z).trans ?_⟩
  constructor
  · rintro ⟨j, hj, h⟩
    exact ⟨(o ++ c).getD j dP, by have := at_mem_take (l := o ++ c) hj hj; rwa [List.take_length] at this, h⟩
  · rintro ⟨p, hp, h⟩
    obtain ⟨j, hj, rfl⟩ := List.getElem_of_mem hp
    have e : (o ++ c).getD j dP = (o ++ c)[j] := by rw [List.getD_eq_getElem?_getD, List.getElem?_eq_getElem hj]; rfl
    exact ⟨j, hj, by rw [e]; exact h⟩
theorem rgt_swap {o c : List Pst} (h : ∀ p ∈ o ++ c, rgtO p) : ∀ p ∈ c ++ o, rgtO p := fun p hp => h p (by
  rw [List.mem_append] at hp ⊢; exact hp.symm)
theorem spec_swap {o c : List Pst} (hr : ∀ p ∈ o ++ c, rgtO p) : specL c o = (specL o c).map swG := by
  obtain ⟨a1, m1⟩ := spec_mem hr
  obtain ⟨a2, m2⟩ := spec_mem (rgt_swap hr)
  refine asc_eq a2 ?_ fun z => ?_
  · unfold AscG
    rw [List.pairwise_map]
    exact a1.imp fun h => h
  · rw [m2, List.mem_map]
    constructor
    · rintro ⟨p, hp, rfl, hn⟩
      refine ⟨gapP o c p, (m1 _).2 ⟨p, ?_, rfl, ?_⟩, rfl⟩
      · rw [List.mem_append] at hp ⊢; exact hp.symm
      · intro e; exact hn e.symm
    · rintro ⟨x, hx, rfl⟩
      obtain ⟨p, hp, rfl, hn⟩ := (m1 x).1 hx
      refine ⟨p, ?_, rfl, fun e => hn e.symm⟩
      rw [List.mem_append] at hp ⊢; exact hp.symm
theorem spec_self {o : List Pst} (hr : ∀ p ∈ o ++ o, rgtO p) : specL o o = [] := by
  obtain ⟨_, m1⟩ := spec_mem hr
  cases h : specL o o with
  | nil => rfl
  | cons x l =>
    rw [h] at m1
    obtain ⟨p, _, rfl, hn⟩ := (m1 x).1 (by simp)
    exact absurd rfl hn
theorem dspE_comm {o c : List Pst} : dspE c o = dspE o c := by
  unfold dspE
  by_cases h : 1000 < o.length ∨ 1000 < c.length
  · rw [if_pos h, if_pos h.symm]
  · rw [if_neg h, if_neg (fun g => h g.symm)]
    by_cases h2 : ∀ p ∈ o ++ c, rgtO p
    · rw [if_neg (fun g => g (rgt_swap h2)), if_neg (fun g => g h2)]
    · rw [if_pos (fun g => h2 (rgt_swap g)), if_pos h2]
theorem dspE_zero {o c : List Pst} (h : dspE o c = 0) : o.length ≤ 1000 ∧ c.length ≤ 1000 ∧ ∀ p ∈ o ++ c, rgtO p := by
  unfold dspE at h
  by_cases h1 : 1000 < o.length ∨ 1000 < c.length
  · rw [if_pos h1] at h; cases h
  · rw [if_neg h1] at h
    by_cases h2 : ∀ p ∈ o ++ c, rgtO p
    · exact ⟨by omega, by omega, h2⟩
    · rw [if_pos h2] at h; cases h
theorem dspL_zero {o c : List Pst} (h : dspE o c = 0) : dspL o c = specL o c := if_pos h
theorem dspL_not {o c : List Pst} (h : ¬ dspE o c = 0) : dspL o c = [] := if_neg h
theorem dspE_self {o c : List Pst} (h : dspE o c = 0) : dspE o o = 0 := by
  obtain ⟨h1, h2, h3⟩ := dspE_zero h
  unfold dspE
  rw [if_neg (by omega), if_neg (fun g => g fun p hp => h3 p (by
    rw [List.mem_append] at hp ⊢; exact .inl (hp.elim id id)))]
/-! What a list adds to an account. -/
def gotS (l : List Pst) (i : Int) : Int := (l.map fun p => gotQ p i).sum
def wG (i : Int) (x : Gap) : Int := (if x.1 = i then x.2.2.2.2 - x.2.2.2.1 else 0) - (if x.2.1 = i then x.2.2.2.2 - x.2.2.2.1 else 0)
def wS (l : List Gap) (i : Int) : Int := (l.map (wG i)).sum
theorem wS_addG {s : Nat} {p : Pst} {i : Int} : ∀ {l : List Gap}, wS (addG s l p) i = wS l i + (if s = 0 then - gotQ p i else gotQ p i)
  | [] => by
    unfold wS addG bump wG gotQ
    by_cases c : s = 0
    · simp only [if_pos c, List.map_cons, List.map_nil, List.sum_cons, List.sum_nil]; split <;> split <;> omega
    · simp only [if_neg c, List.map_cons, List.map_nil, List.sum_cons, List.sum_nil]; split <;> split <;> omega
  | y :: l => by
    have ih := wS_addG (s := s) (p := p) (i := i) (l := l)
    unfold addG
    by_cases k : keyG y p.1 p.2.1 p.2.2.2.2.1
    · rw [if_pos k]
      unfold keyG at k
      have e : wG i (bump s y p.2.2.1) = wG i y + (if s = 0 then - gotQ p i else gotQ p i) := by
        unfold bump wG gotQ
        rw [← k.1, ← k.2.1]
        by_cases c : s = 0
        · simp only [if_pos c]; split <;> split <;> omega
        · simp only [if_neg c]; split <;> split <;> omega
      simp only [wS, List.map_cons, List.sum_cons] at ih ⊢
      rw [e]; omega
    · rw [if_neg k]
      simp only [wS, List.map_cons, List.sum_cons] at ih ⊢
      rw [ih]; omega
theorem wS_fold {s : Nat} {i : Int} : ∀ (o : List Pst) {l : List Gap}, wS (o.foldl (addG s) l) i = wS l i + (if s = 0 then - gotS o i else gotS o i)
  | [], l => by simp [gotS]
  | p :: o, l => by
    have ih := wS_fold (s := s) (i := i) o (l := addG s l p)
    have h1 := wS_addG (s := s) (p := p) (i := i) (l := l)
    simp only [List.foldl_cons, gotS, List.map_cons, List.sum_cons] at ih ⊢
    rw [ih, h1]
    split <;> omega
theorem wS_gapF {i : Int} : ∀ {l : List Gap}, wS (gapF l) i = wS l i
  | [] => rfl
  | x :: l => by
    have ih := wS_gapF (i := i) (l := l)
    by_cases h : x.2.2.2.1 = x.2.2.2.2
    · have e : gapF (x :: l) = gapF l := by simp [gapF, h]
      have e2 : wG i x = 0 := by unfold wG; rw [h]; simp
      rw [e, ih]; simp only [wS, List.map_cons, List.sum_cons, e2]; omega
    · have e : gapF (x :: l) = x :: gapF l := by simp [gapF, h]
      rw [e]
      simp only [wS, List.map_cons, List.sum_cons] at ih ⊢
      rw [ih]
theorem sum_perm {l m : List Int} (h : l.Perm m) : l.sum = m.sum := by
  induction h with
  | nil => rfl
  | cons x _ ih => simp [ih]
  | swap x y l => simp only [List.sum_cons]; omega
  | trans _ _ h1 h2 => rw [h1, h2]
theorem wS_spec {o c : List Pst} (hr : ∀ p ∈ o ++ c, rgtO p) (i : Int) : wS (specL o c) i = gotS c i - gotS o i := by
  have hem : EmOK (c.foldl (addG 1) (o.foldl (addG 0) [])) o c := by
    have := em_part (o := o) (c := c) (k := 1) (i := c.length) (by omega)
    simpa [emS] using this
  have hp := gapF_perm hem hr
  have h1 : wS (specL o c) i = wS (gapF (c.foldl (addG 1) (o.foldl (addG 0) []))) i := (sum_perm (hp.map (wG i))).symm
  rw [h1, wS_gapF, wS_fold, wS_fold]
  simp [wS]; omega
end Sim
