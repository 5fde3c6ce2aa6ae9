/- What functions of this seat compute, by values: contracts (lemmas of the statement's proof, under the conditions that each names). -/
import Derived.Test.YtpaaaaijebdphaaQH
namespace Sim
open Go Go.Proofs
set_option maxRecDepth 10000
set_option linter.unusedVariables false
set_option linter.unusedSimpArgs false
/-! Groups of sum 0. -/
theorem lsum_perm {l m : List Int} (h : l.Perm m) : l.sum = m.sum := by
  induction h with
  | nil => rfl
  | cons x _ ih => simp [ih]
  | swap x y l => simp only [List.sum_cons]; omega
  | trans _ _ h1 h2 => rw [h1, h2]
structure GPart (l : List Int) (L : List (List Int)) : Prop where
  perm : L.flatten.Perm l
  good : ∀ g ∈ L, g ≠ [] ∧ g.sum = 0
/-- The greatest number of groups. -/
def MaxG (l : List Int) (m : Int) : Prop := (∃ L, GPart l L ∧ (L.length : Int) = m) ∧ ∀ L, GPart l L → (L.length : Int) ≤ m
theorem max_uniq {l : List Int} {m k : Int} (h : MaxG l m) (g : MaxG l k) : m = k := by
  obtain ⟨⟨L, h1, rfl⟩, h2⟩ := h
  obtain ⟨⟨K, g1, rfl⟩, g2⟩ := g
  have := h2 _ g1
  have := g2 _ h1
  omega
theorem part_two {l : List Int} {L : List (List Int)} (h : GPart l L) (h0 : ∀ x ∈ l, x ≠ 0) : 2 * L.length ≤ l.length := by
  have h1 : ∀ g ∈ L, 2 ≤ g.length := fun g hg => by
    obtain ⟨h2, h3⟩ := h.good g hg
    rcases g with _ | ⟨x, _ | ⟨y, g⟩⟩
    · exact absurd rfl h2
    · have : x ∈ l := h.perm.mem_iff.1 (List.mem_flatten.2 ⟨_, hg, by simp⟩)
      have := h0 x this
      simp at h3; omega
    · simp
  rw [← h.perm.length_eq]
  have : ∀ K : List (List Int), (∀ g ∈ K, 2 ≤ g.length) → 2 * K.length ≤ K.flatten.length := by
    intro K
    induction K with
    | nil => intro _; simp
    | cons g K ih =>
      intro hk
      have a := hk g (by simp)
      have b := ih fun x hx => hk x (by simp [hx])
      rw [List.flatten_cons, List.length_append, List.length_cons]; omega
  exact this L h1
theorem max_one {l : List Int} {m : Int} (h : MaxG l m) (hn : l ≠ []) (hs : l.sum = 0) : 1 ≤ m := by
  have := h.2 [l] ⟨by simp, fun g hg => by simp only [List.mem_singleton] at hg; subst hg; exact ⟨hn, hs⟩⟩
  simpa using this
theorem perm_lift {α β : Type} {f : α → β} {m q : List β} (h : m.Perm q) : ∀ {l : List α}, l.map f = q → ∃ l' : List α, l'.Perm l ∧ l'.map f = m := by
  induction h with
  | nil => intro l hl; exact ⟨l, .refl _, hl⟩
  | cons x _ ih =>
    intro l hl
    obtain ⟨a, l0, rfl, rfl, h2⟩ := List.map_eq_cons_iff.1 hl
    obtain ⟨l', h3, h4⟩ := ih h2
    exact ⟨a :: l', h3.cons a, by simp [h4]⟩
  | swap x y t =>
    intro l hl
    obtain ⟨a, l0, rfl, rfl, h2⟩ := List.map_eq_cons_iff.1 hl
    obtain ⟨b, l1, rfl, rfl, h3⟩ := List.map_eq_cons_iff.1 h2
    exact ⟨b :: a :: l1, .swap _ _ _, by simp [h3]⟩
  | trans _ _ ih1 ih2 =>
    intro l hl
    obtain ⟨l2, h1, h2⟩ := ih2 hl
    obtain ⟨l3, h3, h4⟩ := ih1 h2
    exact ⟨l3, h3.trans h1, h4⟩
theorem split_lift {α β : Type} {f : α → β} : ∀ {L : List (List β)} {l : List α}, l.map f = L.flatten → ∃ K : List (List α), K.flatten = l ∧ K.map (List.map f) = L
  | [], l, h => ⟨[], by simpa using h.symm, rfl⟩
  | g :: L, l, h => by
    rw [List.flatten_cons] at h
    obtain ⟨a, b, rfl, h1, h2⟩ := List.map_eq_append_iff.1 h
    obtain ⟨K, h3, h4⟩ := split_lift h2
    exact ⟨a :: K, by simp [h3], by simp [h1, h4]⟩
/-! The members of a set. -/
def els (n s : Nat) : List Nat := (List.range n).filter fun k => s.testBit k
theorem els_mem {n s k : Nat} : k ∈ els n s ↔ k < n ∧ s.testBit k = true := by simp [els]
theorem els_nodup {n s : Nat} : (els n s).Nodup := List.Pairwise.filter _ List.nodup_range
theorem els_dif {n s k : Nat} (hs : s < 4611686018427387904) (hk : k ≤ 60) (hkn : k < n) (hb : s.testBit k = true) : (els n s).Perm (k :: els n (dif s (2 ^ k))) := by
  have h1 := List.perm_cons_erase (els_mem.2 ⟨hkn, hb⟩)
  rw [List.Nodup.erase_eq_filter els_nodup] at h1
  have e : List.filter (fun x => x != k) (els n s) = els n (dif s (2 ^ k)) := by
    unfold els
    rw [List.filter_filter]
    refine List.filter_congr fun i _ => ?_
    rw [dif_bit hs hk]
    by_cases c : i = k
    · subst c; simp
    · have c2 : ¬ k = i := fun e => c e.symm
      simp [c, c2]
  rw [e] at h1
  exact h1
theorem els_zero {n : Nat} : els n 0 = [] := by simp [els]
theorem els_full {n : Nat} : els n (2 ^ n - 1) = List.range n := by
  unfold els
  rw [List.filter_eq_self]
  intro k hk
  rw [Nat.testBit_two_pow_sub_one]
  simpa using hk
theorem smB_els {v : Nat → Int} {s : Nat} : ∀ n, smB v s n = ((els n s).map v).sum
  | 0 => by simp [smB, els]
  | n + 1 => by
    have ih := smB_els (v := v) (s := s) n
    simp only [smB, els] at ih ⊢
    rw [List.range_succ, List.filter_append, List.map_append, List.sum_append, ih]
    congr 1
    by_cases h : s.testBit n = true <;> simp [List.filter_cons, h]
theorem flat_zero {v : Nat → Int} : ∀ {L : List (List Nat)}, (∀ g ∈ L, g ≠ [] ∧ (g.map v).sum = 0) → (L.flatten.map v).sum = 0
  | [], _ => by simp
  | g :: L, h => by
    have a := (h g (by simp)).2
    have b := flat_zero (L := L) fun x hx => h x (by simp [hx])
    rw [List.flatten_cons, List.map_append, List.sum_append]; omega
theorem sum_els {v : Nat → Int} {n s : Nat} {L : List (List Nat)} {R : List Nat} (h : (L.flatten ++ R).Perm (els n s)) (hg : ∀ g ∈ L, g ≠ [] ∧ (g.map v).sum = 0) : smB v s n = (R.map v).sum := by
  rw [smB_els, ← lsum_perm (h.map v), List.map_append, List.sum_append, flat_zero hg]; omega
theorem bst_get {v : Nat → Int} {n : Nat} (hn : n ≤ 60) : ∀ m s, s ≤ m → s < 2 ^ n → ∃ (L : List (List Nat)) (R : List Nat), (L.flatten ++ R).Perm (els n s) ∧ (∀ g ∈ L, g ≠ [] ∧ (g.map v).sum = 0) ∧ (L.length : Int) = bst v n s ∧ (smB v s n = 0 → R = []) := by
  have hp := pow_le 60 hn
  intro m
  induction m with
  | zero =>
    intro s hs _
    have : s = 0 := by omega
    subst this
    exact ⟨[], [], by simp [els_zero], by simp, by simp [bst, tabW], fun _ => rfl⟩
  | succ m ih =>
    intro s hs hlt
    by_cases h0 : s = 0
    · subst h0; exact ih 0 (by omega) hlt
    have hb := bst_at (v := v) hn _ _ (Nat.le_refl _) hlt
    have h1 := hb.lt (by omega)
    have h2 := hb.bit (by omega)
    have h3 := hb.val (by omega)
    have hs62 : s < 4611686018427387904 := by generalize 2 ^ n = q at *; omega
    generalize lst v n s = k at *
    have hd := dif_lt hs62 (by omega) h2
    have he := els_dif hs62 (by omega) h1 h2
    obtain ⟨L, R, g1, g2, g3, g4⟩ := ih (dif s (2 ^ k)) (by omega) (by omega)
    have hsum := smB_dif (v := v) hs62 (by omega) h2 n
    rw [if_pos h1] at hsum
    have hsd := sum_els g1 g2
    have hk : (k :: (L.flatten ++ R)).Perm (els n s) := (g1.cons k).trans he.symm
    by_cases z : smB v s n = 0
    · refine ⟨L ++ [k :: R], [], ?_, ?_, ?_, fun _ => rfl⟩
      · rw [List.append_nil, List.flatten_append]
        simp only [List.flatten_cons, List.flatten_nil, List.append_nil]
        exact List.perm_middle.trans hk
      · intro g hg
        rcases List.mem_append.1 hg with hg | hg
        · exact g2 g hg
        · simp only [List.mem_singleton] at hg
          subst hg
          refine ⟨by simp, ?_⟩
          rw [List.map_cons, List.sum_cons]; omega
      · rw [h3, if_pos z, List.length_append]; simp; omega
    · refine ⟨L, k :: R, List.perm_middle.trans hk, g2, by rw [h3, if_neg z]; omega, fun h => absurd h z⟩
theorem bst_dom {v : Nat → Int} {n : Nat} (hn : n ≤ 60) : ∀ m s, s ≤ m → s < 2 ^ n → ∀ (L : List (List Nat)) (R : List Nat), (L.flatten ++ R).Perm (els n s) → (∀ g ∈ L, g ≠ [] ∧ (g.map v).sum = 0) → (L.length : Int) ≤ bst v n s := by
  have hp := pow_le 60 hn
  intro m
  induction m with
  | zero =>
    intro s hs hlt L R h1 h2
    have : s = 0 := by omega
    subst this
    rw [els_zero] at h1
    have h3 := h1.eq_nil
    rcases L with _ | ⟨g, L⟩
    · have := (bst_at (v := v) hn _ _ (Nat.le_refl _) hlt).nonneg
      simpa using this
    · have := (h2 g (by simp)).1
      simp at h3
      exact absurd h3.1 this
  | succ m ih =>
    intro s hs hlt L R h1 h2
    by_cases h0 : s = 0
    · subst h0; exact ih 0 (by omega) hlt L R h1 h2
    have hb := bst_at (v := v) hn _ _ (Nat.le_refl _) hlt
    have hs62 : s < 4611686018427387904 := by generalize 2 ^ n = q at *; omega
    rcases R with _ | ⟨k, R⟩
    · rcases L with _ | ⟨g, L⟩
      · have := hb.nonneg; simpa using this
      · obtain ⟨h3, h4⟩ := h2 g (by simp)
        have hz : smB v s n = 0 := by rw [sum_els h1 h2]; rfl
        rcases g with _ | ⟨k, g⟩
        · exact absurd rfl h3
        · have hk : k ∈ els n s := h1.mem_iff.1 (by simp)
          obtain ⟨k1, k2⟩ := els_mem.1 hk
          have he := els_dif hs62 (by omega) k1 k2
          have hd := dif_lt hs62 (by omega) k2
          rw [List.append_nil, List.flatten_cons, List.cons_append] at h1
          have h5 := (h1.trans he).cons_inv
          have := ih (dif s (2 ^ k)) (by omega) (by omega) L g (List.perm_append_comm.trans h5) fun x hx => h2 x (by simp [hx])
          have := hb.max k k1 k2
          rw [if_pos hz] at this
          rw [List.length_cons]; omega
    · have hk : k ∈ els n s := h1.mem_iff.1 (by simp)
      obtain ⟨k1, k2⟩ := els_mem.1 hk
      have he := els_dif hs62 (by omega) k1 k2
      have hd := dif_lt hs62 (by omega) k2
      have h5 := ((List.perm_middle.symm.trans h1).trans he).cons_inv
      have := ih (dif s (2 ^ k)) (by omega) (by omega) L R h5 h2
      have := hb.max k k1 k2
      split at this <;> omega
theorem bst_max {v : Nat → Int} {n : Nat} (hn : n ≤ 60) (hz : smB v (2 ^ n - 1) n = 0) : MaxG ((List.range n).map v) (bst v n (2 ^ n - 1)) := by
  have hp : 2 ^ n - 1 < 2 ^ n := by have := Nat.two_pow_pos n; omega
  constructor
  · obtain ⟨L, R, g1, g2, g3, g4⟩ := bst_get (v := v) hn _ _ (Nat.le_refl _) hp
    have := g4 hz
    subst this
    rw [List.append_nil, els_full] at g1
    refine ⟨L.map (List.map v), ⟨?_, fun g hg => ?_⟩, by rw [List.length_map]; exact g3⟩
    · rw [← List.map_flatten]; exact g1.map v
    · obtain ⟨x, hx, rfl⟩ := List.mem_map.1 hg
      have := g2 x hx
      exact ⟨fun e => this.1 (List.map_eq_nil_iff.1 e), this.2⟩
  · intro L hL
    obtain ⟨l', h1, h2⟩ := perm_lift (f := v) hL.perm rfl
    obtain ⟨K, rfl, rfl⟩ := split_lift h2
    rw [List.length_map]
    refine bst_dom hn _ _ (Nat.le_refl _) hp K [] (by rw [List.append_nil, els_full]; exact h1) fun g hg => ?_
    have := hL.good (g.map v) (List.mem_map.2 ⟨g, hg, rfl⟩)
    exact ⟨fun e => this.1 (by rw [e]; rfl), this.2⟩
/-! The balances that are not 0. -/
theorem nv_nz {b : List Int} : ∀ k, nvK b k = (nzK b k).map fun i => b.getD i.toNat 0
  | 0 => rfl
  | k + 1 => by
    simp only [nvK, nzK]
    split
    · exact nv_nz k
    · rw [List.map_append, nv_nz k]; rfl
theorem nv_sum {b : List Int} : ∀ k, sumK b k = (nvK b k).sum
  | 0 => rfl
  | k + 1 => by
    have ih := nv_sum (b := b) k
    simp only [nvK, sumK]
    split
    · omega
    · rw [List.sum_append, ← ih]; simp
theorem nv_filter {b : List Int} : ∀ {k}, k ≤ b.length → nvK b k = (b.take k).filter fun x => decide (¬ x = 0)
  | 0, _ => by simp [nvK]
  | k + 1, h => by
    have ih := nv_filter (b := b) (k := k) (by omega)
    have e : b.getD k 0 = b[k] := by rw [List.getD_eq_getElem?_getD, List.getElem?_eq_getElem (by omega)]; rfl
    simp only [nvK]
    rw [List.take_succ_eq_append_getElem (by omega), List.filter_append, ← ih, e]
    by_cases z : b[k] = 0 <;> simp [List.filter_cons, z]
theorem nv_not {b : List Int} {x : Int} (h : x ∈ nvK b b.length) : x ≠ 0 := by
  rw [nv_filter (Nat.le_refl _)] at h
  have := (List.mem_filter.1 h).2
  simpa using this
theorem range_map {b l : List Int} : (List.range l.length).map (valK b l) = l.map fun i => b.getD i.toNat 0 := by
  apply List.ext_getElem
  · simp
  · intro i h1 h2
    simp only [List.getElem_map, List.getElem_range, valK]
    rw [List.getD_eq_getElem?_getD (l := l), List.getElem?_eq_getElem (by simpa using h1)]
    rfl
theorem open_zero {b : List Int} (h : openE b = 0) : openL b = nzK b b.length ∧ openV b = nvK b b.length := by
  unfold openL openV
  rw [if_pos h, if_pos h]; exact ⟨rfl, rfl⟩
theorem open_full {b : List Int} (h : openE b = 0) : smB (valK b (openL b)) (2 ^ (openL b).length - 1) (openL b).length = 0 := by
  rw [smB_els, els_full, range_map, (open_zero h).1, ← nv_nz, ← nv_sum]
  exact (open_ok h).2.2.1
theorem open_max {b : List Int} (h : openE b = 0) : MaxG (nvK b b.length) (orderN b (openL b)) := by
  have := bst_max (v := valK b (openL b)) (n := (openL b).length) (by have := (open_pre h).1; omega) (open_full h)
  rw [range_map, (open_zero h).1, ← nv_nz] at this
  rw [(open_zero h).1]
  exact this
end Sim
