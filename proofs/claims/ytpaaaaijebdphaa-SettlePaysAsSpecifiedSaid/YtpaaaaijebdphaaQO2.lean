/- What functions of this seat compute, by values: contracts (lemmas of the statement's proof, under the conditions that each names). -/
import Derived.Test.YtpaaaaijebdphaaQO
namespace Sim
open Go Go.Proofs
set_option maxRecDepth 10000
set_option linter.unusedVariables false
set_option linter.unusedSimpArgs false
/-! Accounts that payments connect. -/
theorem sum_add {g : List Nat} {f h : Nat → Int} : (g.map fun i => f i + h i).sum = (g.map f).sum + (g.map h).sum := by
  induction g with
  | nil => rfl
  | cons x g ih => simp only [List.map_cons, List.sum_cons, ih]; omega
theorem sum_got {p : Pay} {u v : Nat} (hu : (u : Int) = p.1) (hv : (v : Int) = p.2.1) : ∀ g : List Nat, (g.map fun i : Nat => gotP p (i : Int)).sum = p.2.2 * ((g.count u : Nat) : Int) - p.2.2 * ((g.count v : Nat) : Int)
  | [] => by simp
  | x :: g => by
    have ih := sum_got hu hv g
    rw [List.map_cons, List.sum_cons, ih, List.count_cons, List.count_cons]
    unfold gotP
    rw [← hu, ← hv]
    have e1 : ((x == u) = true) ↔ ((u : Int) = (x : Int)) := by simp only [beq_iff_eq]; omega
    have e2 : ((x == v) = true) ↔ ((v : Int) = (x : Int)) := by simp only [beq_iff_eq]; omega
    generalize p.2.2 = a
    generalize g.count u = c
    generalize g.count v = d
    by_cases c1 : (u : Int) = (x : Int) <;> by_cases c2 : (v : Int) = (x : Int)
    · rw [if_pos c1, if_pos c2, if_pos (e1.2 c1), if_pos (e2.2 c2)]; simp only [Int.natCast_add, Int.mul_add]; omega
    · rw [if_pos c1, if_neg c2, if_pos (e1.2 c1), if_neg (fun h => c2 (e2.1 h))]; simp only [Int.natCast_add, Int.mul_add]; omega
    · rw [if_neg c1, if_pos c2, if_neg (fun h => c1 (e1.1 h)), if_pos (e2.2 c2)]; simp only [Int.natCast_add, Int.mul_add]; omega
    · rw [if_neg c1, if_neg c2, if_neg (fun h => c1 (e1.1 h)), if_neg (fun h => c2 (e2.1 h))]; simp only [Int.natCast_add, Int.mul_add]; omega
structure Comp (n : Nat) (l : List Pay) (k : Nat) (L : List (List Nat)) : Prop where
  perm : L.flatten.Perm (List.range n)
  good : ∀ g ∈ L, g ≠ [] ∧ (g.map fun i : Nat => gotT l (i : Int) k).sum = 0
  many : n ≤ L.length + k
theorem comp_0 {n : Nat} {l : List Pay} : Comp n l 0 ((List.range n).map fun i => [i]) := by
  have e : ∀ m : List Nat, (m.map fun i => [i]).flatten = m := by
    intro m
    induction m with
    | nil => rfl
    | cons x m ih => simp [ih]
  refine ⟨by rw [e], fun g hg => ?_, by simp⟩
  obtain ⟨x, _, rfl⟩ := List.mem_map.1 hg
  exact ⟨by simp, by simp [gotT]⟩
theorem comp_step {n : Nat} {l : List Pay} {k : Nat} {L : List (List Nat)} (hk : k < l.length) (hp : payOK n (l.getD k dY)) (h : Comp n l k L) : ∃ K, Comp n l (k + 1) K := by
  obtain ⟨h1, h2, h3⟩ := h
  obtain ⟨u, hu⟩ : ∃ u : Nat, (u : Int) = (l.getD k dY).1 := ⟨_, Int.toNat_of_nonneg hp.1.1⟩
  obtain ⟨v, hv⟩ : ∃ v : Nat, (v : Int) = (l.getD k dY).2.1 := ⟨_, Int.toNat_of_nonneg hp.2.1.1⟩
  have hne := hp.2.2.1
  have hun : u < n := by have := hp.1.2; omega
  have hvn : v < n := by have := hp.2.1.2; omega
  have hsum : ∀ g : List Nat, (g.map fun i : Nat => gotT l (i : Int) (k + 1)).sum = (g.map fun i : Nat => gotT l (i : Int) k).sum + ((l.getD k dY).2.2 * ((g.count u : Nat) : Int) - (l.getD k dY).2.2 * ((g.count v : Nat) : Int)) := fun g => by
    rw [← sum_got hu hv g, ← sum_add]; rfl
  have hnd : L.flatten.Nodup := h1.nodup_iff.2 List.nodup_range
  obtain ⟨g, hg, hgu⟩ := List.mem_flatten.1 (h1.mem_iff.2 (List.mem_range.2 hun))
  obtain ⟨s, t, rfl⟩ := List.append_of_mem hg
  have hP : (s ++ g :: t).Perm (g :: (s ++ t)) := List.perm_middle
  generalize s ++ t = L0 at *
  have hF := hP.flatten
  rw [List.flatten_cons] at hF
  have hnd2 : (g ++ L0.flatten).Nodup := hF.nodup_iff.1 hnd
  obtain ⟨n1, n2, n3⟩ := List.nodup_append.1 hnd2
  have cu : g.count u = 1 := by rw [List.Nodup.count n1, if_pos hgu]
  have cu0 : ∀ x ∈ L0, x.count u = 0 := fun x hx => List.count_eq_zero.2 fun hm => n3 u hgu u (List.mem_flatten.2 ⟨x, hx, hm⟩) rfl
  by_cases hb : v ∈ g
  · have cv : g.count v = 1 := by rw [List.Nodup.count n1, if_pos hb]
    have cv0 : ∀ x ∈ L0, x.count v = 0 := fun x hx => List.count_eq_zero.2 fun hm => n3 v hb v (List.mem_flatten.2 ⟨x, hx, hm⟩) rfl
    refine ⟨s ++ g :: t, h1, fun x hx => ⟨(h2 x hx).1, ?_⟩, by omega⟩
    rw [hsum, (h2 x hx).2]
    rcases List.mem_cons.1 (hP.mem_iff.1 hx) with e | hx0
    · subst e; rw [cu, cv]; omega
    · rw [cu0 x hx0, cv0 x hx0]; omega
  · have cv : g.count v = 0 := List.count_eq_zero.2 hb
    have hv0 : v ∈ L0.flatten := by
      rcases List.mem_append.1 (hF.mem_iff.1 (h1.mem_iff.2 (List.mem_range.2 hvn))) with e | e
      · exact absurd e hb
      · exact e
    obtain ⟨g', hg', hgv⟩ := List.mem_flatten.1 hv0
    obtain ⟨s', t', e⟩ := List.append_of_mem hg'
    subst e
    have hP' : (s' ++ g' :: t').Perm (g' :: (s' ++ t')) := List.perm_middle
    generalize s' ++ t' = L1 at *
    have hF' := hP'.flatten
    rw [List.flatten_cons] at hF'
    obtain ⟨m1, m2, m3⟩ := List.nodup_append.1 (hF'.nodup_iff.1 n2)
    have cv' : g'.count v = 1 := by rw [List.Nodup.count m1, if_pos hgv]
    have cv0 : ∀ x ∈ L1, x.count v = 0 := fun x hx => List.count_eq_zero.2 fun hm => m3 v hgv v (List.mem_flatten.2 ⟨x, hx, hm⟩) rfl
    have hlen : (s ++ g :: t).length = L1.length + 2 := by
      rw [hP.length_eq, List.length_cons, hP'.length_eq, List.length_cons]
    have hin : ∀ x ∈ L1, x ∈ s ++ g :: t := fun x hx => hP.mem_iff.2 (List.mem_cons_of_mem _ (hP'.mem_iff.2 (List.mem_cons_of_mem _ hx)))
    refine ⟨(g ++ g') :: L1, ?_, ?_, by rw [List.length_cons]; omega⟩
    · rw [List.flatten_cons, List.append_assoc]
      exact ((hF.trans (hF'.append_left g)).symm).trans h1
    · intro x hx
      rcases List.mem_cons.1 hx with e | hx
      · subst e
        refine ⟨fun e => ?_, ?_⟩
        · have := (h2 g hg).1
          simp [this] at e
        · rw [hsum, List.map_append, List.sum_append, (h2 g hg).2, (h2 g' (hP.mem_iff.2 (List.mem_cons_of_mem _ hg'))).2, List.count_append, List.count_append, cu, cv, cv', cu0 g' hg']
          omega
      · have hx0 := hP'.mem_iff.2 (List.mem_cons_of_mem g' hx)
        refine ⟨(h2 x (hin x hx)).1, ?_⟩
        rw [hsum, (h2 x (hin x hx)).2, cu0 x hx0, cv0 x hx]; omega
theorem comp_all {n : Nat} {l : List Pay} (h : ∀ p ∈ l, payOK n p) : ∀ k, k ≤ l.length → ∃ L, Comp n l k L
  | 0, _ => ⟨_, comp_0⟩
  | k + 1, hk => by
    obtain ⟨L, hL⟩ := comp_all h k (by omega)
    exact comp_step (by omega) (at_pays h k (by omega)) hL
theorem sett_parts {b : List Int} {l : List Pay} (h : settM b l = true) : l.length ≤ 200 ∧ (∀ p ∈ l, payOK b.length p) ∧ ∀ i, i < b.length → b.getD i 0 = - gotT l (i : Int) l.length := by
  unfold settM at h
  simp only [Bool.and_eq_true, decide_eq_true_eq] at h
  obtain ⟨⟨⟨h1, h2⟩, h3⟩, h4⟩ := h
  refine ⟨h1, h3, fun i hi => ?_⟩
  have e := leftL_at (b := b) (l := l) (k := l.length) hi
  have hm : (leftL b l l.length).getD i 0 ∈ leftL b l l.length := by
    rw [List.getD_eq_getElem?_getD, List.getElem?_eq_getElem (by rw [leftL_len]; exact hi)]
    exact List.getElem_mem _
  have := h4 _ hm
  omega
theorem range_b {b : List Int} : (List.range b.length).map (fun i => b.getD i 0) = b := tbl_of
theorem neg_sum {g : List Nat} {n : Nat} {f h : Nat → Int} (hg : ∀ i ∈ g, i < n) (he : ∀ i, i < n → f i = - h i) : (g.map f).sum = - (g.map h).sum := by
  induction g with
  | nil => rfl
  | cons x g ih =>
    have a := he x (hg x (by simp))
    have b := ih fun i hi => hg i (by simp [hi])
    simp only [List.map_cons, List.sum_cons]; omega
theorem filter_sum : ∀ g : List Int, (g.filter fun x => decide (¬ x = 0)).sum = g.sum
  | [] => rfl
  | x :: g => by
    have ih := filter_sum g
    by_cases z : x = 0 <;> simp [List.filter_cons, z] at ih ⊢ <;> omega
theorem many_left {b : List Int} : ∀ L : List (List Nat), (∀ g ∈ L, g ≠ []) → L.length ≤ ((L.map fun g => (g.map fun i => b.getD i 0).filter fun x => decide (¬ x = 0)).filter fun l => !l.isEmpty).length + (L.flatten.map fun i => b.getD i 0).countP fun x => decide (x = 0)
  | [], _ => by simp
  | g :: L, h => by
    have ih := many_left (b := b) L fun x hx => h x (by simp [hx])
    have h0 := h g (by simp)
    rw [List.map_cons, List.flatten_cons, List.map_append, List.countP_append, List.filter_cons, List.length_cons]
    split
    · rw [List.length_cons]; omega
    · rename_i hc
      have : 0 < (g.map fun i => b.getD i 0).countP fun x => decide (x = 0) := by
        rcases g with _ | ⟨x, g⟩
        · exact absurd rfl h0
        · simp only [Bool.not_eq_true', List.isEmpty_eq_false_iff, Decidable.not_not, List.filter_eq_nil_iff] at hc
          have hx := hc (b.getD x 0) (by simp)
          simp only [decide_not, Bool.not_eq_true, Bool.not_eq_false', decide_eq_true_eq] at hx
          rw [List.map_cons, List.countP_cons_of_pos (by simpa using hx)]; omega
      omega
/-- Payments that settle are as many as the groups allow. -/
theorem sett_dom {b : List Int} {l : List Pay} (h : settM b l = true) : ∃ L, GPart (nvK b b.length) L ∧ (nvK b b.length).length ≤ L.length + l.length := by
  obtain ⟨_, h1, h2⟩ := sett_parts h
  obtain ⟨L, c1, c2, c3⟩ := comp_all h1 l.length (Nat.le_refl _)
  have hlt : ∀ g ∈ L, ∀ i ∈ g, i < b.length := fun g hg i hi => List.mem_range.1 (c1.mem_iff.1 (List.mem_flatten.2 ⟨g, hg, hi⟩))
  have hP := c1.map fun i => b.getD i 0
  rw [range_b] at hP
  have hn : nvK b b.length = b.filter fun x => decide (¬ x = 0) := by rw [nv_filter (Nat.le_refl _), List.take_length]
  have hm := many_left (b := b) L fun g hg => (c2 g hg).1
  rw [hP.countP_eq] at hm
  refine ⟨(L.map fun g => (g.map fun i => b.getD i 0).filter fun x => decide (¬ x = 0)).filter fun l => !l.isEmpty, ⟨?_, ?_⟩, ?_⟩
  · rw [List.flatten_filter_not_isEmpty, hn]
    have := hP.filter fun x => decide (¬ x = 0)
    rw [List.map_flatten, List.filter_flatten, List.map_map] at this
    exact this
  · intro x hx
    obtain ⟨hx1, hx2⟩ := List.mem_filter.1 hx
    obtain ⟨g, hg, rfl⟩ := List.mem_map.1 hx1
    refine ⟨fun e => by rw [e] at hx2; simp at hx2, ?_⟩
    rw [filter_sum, neg_sum (hlt g hg) h2, (c2 g hg).2]; rfl
  · have := List.length_eq_countP_add_countP (p := fun x => decide (x = 0)) (l := b)
    have e : (b.filter fun x => decide (¬ x = 0)).length = b.countP fun a => decide ¬ (decide (a = 0) = true) := by
      rw [List.countP_eq_length_filter]
      congr 1
      refine List.filter_congr fun x _ => ?_
      by_cases z : x = 0 <;> simp [z]
    rw [hn, e]; omega
/-- Payments add nothing to all balances together. -/
theorem sett_sum {b : List Int} {l : List Pay} (h : settM b l = true) : sumK b b.length = 0 := by
  obtain ⟨_, h1, h2⟩ := sett_parts h
  obtain ⟨L, c1, c2, c3⟩ := comp_all h1 l.length (Nat.le_refl _)
  rw [nv_sum, nv_filter (Nat.le_refl _), List.take_length, filter_sum]
  have e := neg_sum (g := List.range b.length) (n := b.length) (f := fun i => b.getD i 0) (h := fun i : Nat => gotT l (i : Int) l.length) (fun i hi => List.mem_range.1 hi) h2
  rw [range_b] at e
  rw [e, ← lsum_perm (c1.map _), flat_zero c2]; rfl
end Sim
