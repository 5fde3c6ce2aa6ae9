/- What functions of this seat compute, by values: contracts (lemmas of the statement's proof, under the conditions that each names). -/
import Derived.Test.YtmgklnbhbomlnaaQM8
namespace Sim
open Go Go.Proofs
set_option maxRecDepth 10000
set_option linter.unusedVariables false
set_option linter.unusedSimpArgs false
def rowK (c h m : Nat) : List Key := (List.range m).map fun k : Nat => ((c : Int), (h : Int), (k : Int) + 1)
def rowH (c m : Nat) : List Key := (List.range m).flatMap fun h : Nat => rowK c h 5
def rowC (n m : Nat) : List Key := (List.range m).flatMap fun c : Nat => rowH c n
theorem rowK_succ {c h m : Nat} : rowK c h (m + 1) = rowK c h m ++ [((c : Int), (h : Int), (m : Int) + 1)] := by simp [rowK, List.range_succ]
theorem rowH_succ {c m : Nat} : rowH c (m + 1) = rowH c m ++ rowK c m 5 := by simp [rowH, List.range_succ]
theorem rowC_succ {n m : Nat} : rowC n (m + 1) = rowC n m ++ rowH m n := by simp [rowC, List.range_succ]
/-- The keys before the k-th kind of a customer and a house. -/
def preK (n c h k : Nat) : List Key := rowC n c ++ (rowH c h ++ rowK c h k)
theorem pre_succ {n c h k : Nat} : preK n c h (k + 1) = preK n c h k ++ [((c : Int), (h : Int), (k : Int) + 1)] := by
  unfold preK; rw [rowK_succ]; simp
theorem pre_five {n c h : Nat} : preK n c h 5 = preK n c (h + 1) 0 := by
  unfold preK; rw [rowH_succ]; simp [rowK]
theorem pre_all {n c : Nat} : preK n c n 0 = preK n (c + 1) 0 0 := by
  unfold preK; rw [rowC_succ]; simp [rowK, rowH]
theorem pre_zero {n : Nat} : preK n 0 0 0 = [] := by simp [preK, rowC, rowH, rowK]
abbrev allK (n : Nat) : List Key := preK n 28 0 0
theorem all_rowC {n : Nat} : allK n = rowC n 28 := by simp [allK, preK, rowH, rowK]
def inR (n : Nat) (q : Key) : Prop := (0 ≤ q.1 ∧ q.1 ≤ 27) ∧ (0 ≤ q.2.1 ∧ q.2.1 < (n : Int)) ∧ (1 ≤ q.2.2 ∧ q.2.2 ≤ 5)
theorem rowK_mem {c h m : Nat} {q : Key} : q ∈ rowK c h m ↔ q.1 = (c : Int) ∧ q.2.1 = (h : Int) ∧ 1 ≤ q.2.2 ∧ q.2.2 ≤ (m : Int) := by
  obtain ⟨a, b, d⟩ := q
  simp only [rowK, List.mem_map, List.mem_range, Prod.mk.injEq]
  constructor
  · rintro ⟨k, hk, h1, h2, h3⟩; omega
  · rintro ⟨h1, h2, h3, h4⟩; exact ⟨(d - 1).toNat, by omega, by omega, by omega, by omega⟩
theorem rowH_mem {c m : Nat} {q : Key} : q ∈ rowH c m ↔ q.1 = (c : Int) ∧ (0 ≤ q.2.1 ∧ q.2.1 < (m : Int)) ∧ 1 ≤ q.2.2 ∧ q.2.2 ≤ 5 := by
  simp only [rowH, List.mem_flatMap, List.mem_range, rowK_mem]
  constructor
  · rintro ⟨h, hh, h1, h2, h3⟩; omega
  · rintro ⟨h1, h2, h3⟩; exact ⟨q.2.1.toNat, by omega, by omega, by omega, by omega⟩
theorem all_mem {n : Nat} {q : Key} : q ∈ allK n ↔ inR n q := by
  rw [all_rowC]
  unfold inR
  simp only [rowC, List.mem_flatMap, List.mem_range, rowH_mem]
  constructor
  · rintro ⟨c, hc, h1, h2, h3⟩; omega
  · rintro ⟨h1, h2, h3⟩; exact ⟨q.1.toNat, by omega, by omega, by omega, by omega⟩
theorem all_pair {n : Nat} : (allK n).Pairwise ltK := by
  have hr : ∀ m : Nat, (List.range m).Pairwise (fun a b => a < b) := fun m => List.pairwise_lt_range
  have h1 : ∀ c h m, (rowK c h m).Pairwise ltK := fun c h m => by
    unfold rowK
    rw [List.pairwise_map]
    refine List.Pairwise.imp ?_ (hr m)
    intro a b hab
    unfold ltK; dsimp only; omega
  have h2 : ∀ c m, (rowH c m).Pairwise ltK := fun c m => by
    unfold rowH
    rw [List.pairwise_flatMap]
    refine ⟨fun h _ => h1 c h 5, (hr m).imp fun {a b} hab x hx y hy => ?_⟩
    rw [rowK_mem] at hx hy
    unfold ltK; omega
  rw [all_rowC]
  unfold rowC
  rw [List.pairwise_flatMap]
  refine ⟨fun c _ => h2 c n, (hr 28).imp fun {a b} hab x hx y hy => ?_⟩
  rw [rowH_mem] at hx hy
  unfold ltK; omega
theorem pw_nodup {l : List Key} (h : l.Pairwise ltK) : l.Nodup := by
  refine List.Pairwise.imp ?_ h
  intro a b g e
  subst e
  exact ltK_irr g
theorem pw_eq {a b : List Key} (ha : a.Pairwise ltK) (hb : b.Pairwise ltK) (h : ∀ q, q ∈ a ↔ q ∈ b) : a = b :=
  sorted_uniq (ha.imp fun g => by unfold ltK at *; omega) (hb.imp fun g => by unfold ltK at *; omega) ((List.perm_ext_iff_of_nodup (pw_nodup ha) (pw_nodup hb)).2 h)
theorem ord_pair {em : List Em} (h : (keysE em).Nodup) : (ordK em).Pairwise ltK := by
  have h1 := sort_pair (keysE em)
  have h2 : ((keysE em).mergeSort leK).Nodup := (List.mergeSort_perm _ _).nodup_iff.2 h
  refine (h1.and h2).imp fun {a b} g => ?_
  apply Classical.byContradiction
  intro hc
  exact g.2 (ltK_tri hc g.1)
theorem ord_mem {em : List Em} {q : Key} : q ∈ ordK em ↔ q ∈ keysE em := (List.mergeSort_perm _ _).mem_iff
theorem filt_eq {p : Key → Bool} {a b : List Key} (ha : a.Pairwise ltK) (hb : b.Pairwise ltK) (h : ∀ q, p q = true → (q ∈ a ↔ q ∈ b)) : a.filter p = b.filter p := by
  refine pw_eq (ha.filter _) (hb.filter _) fun q => ?_
  rw [List.mem_filter, List.mem_filter]
  constructor
  · exact fun g => ⟨(h q g.2).1 g.1, g.2⟩
  · exact fun g => ⟨(h q g.2).2 g.1, g.2⟩
theorem sum_in {em : List Em} {q : Key} (h : ¬ sumO em q = 0) : q ∈ keysE em := Classical.byContradiction fun g => h (sum_not g)
theorem out_all {n : Nat} {em : List Em} {tick : Int} (hnd : (keysE em).Nodup) (hk : ∀ q ∈ keysE em, inR n q) : outL em tick (allK n) = outL em tick (ordK em) ∧ outR em (allK n) = outR em (ordK em) := by
  unfold outL outR
  refine ⟨?_, ?_⟩
  · rw [filt_eq all_pair (ord_pair hnd)]
    intro q hq
    simp only [decide_eq_true_eq] at hq
    have := sum_in (em := em) (q := q) (fun h => by rw [h] at hq; revert hq; decide)
    rw [all_mem, ord_mem]
    exact ⟨fun _ => this, hk q⟩
  · rw [filt_eq all_pair (ord_pair hnd)]
    intro q hq
    simp only [decide_eq_true_eq] at hq
    have := sum_in (em := em) (q := q) (fun h => by rw [h] at hq; revert hq; decide)
    rw [all_mem, ord_mem]
    exact ⟨fun _ => this, hk q⟩
theorem big_all {n : Nat} {em : List Em} (hnd : (keysE em).Nodup) (hk : ∀ q ∈ keysE em, inR n q) : bigE em ↔ ∃ q ∈ allK n, 1099511627776 < (sumO em q).tdiv 1000 := by
  constructor
  · rintro ⟨x, hx, hb⟩
    rw [sum_mem hnd x hx] at hb
    exact ⟨x.1, all_mem.2 (hk _ (List.mem_map.2 ⟨x, hx, rfl⟩)), hb⟩
  · rintro ⟨q, _, hb⟩
    have := sum_in (em := em) (q := q) (fun h => by rw [h] at hb; revert hb; decide)
    obtain ⟨x, hx, e⟩ := List.mem_map.1 this
    exact ⟨x, hx, by rw [sum_mem hnd x hx, e]; exact hb⟩
theorem par_inR {n : Nat} {a b c : Int} (h : parO n a b c) : inR n (c, b, a) := by
  unfold parO inM at h
  unfold inR
  dsimp only; omega
theorem emR_inR {n : Nat} {rs : List Rst} {k : Nat} (h : ∀ j, j < k → rstO n rs j) : ∀ q ∈ keysE (emR rs k), inR n q := fun q hq => by
  obtain ⟨j, hj, rfl⟩ := emR_keys q hq
  exact par_inR (h j hj).1
theorem emU_inR {t : List Tar} {hn : Int} {ls : List Lnk} {l : List Use} {em : List Em} (h0 : ∀ q ∈ keysE em, inR t.length q) : ∀ k, k ≤ l.length → chK t hn ls l k = 0 → ∀ q ∈ keysE (emU t hn ls l em k), inR t.length q
  | 0, _, _, q, hq => h0 q hq
  | k + 1, hk, h, q, hq => by
    have hc : chK t hn ls l k = 0 := by
      apply Classical.byContradiction
      intro hc
      simp only [chK] at h
      rw [if_pos hc] at h; exact hc h
    have he : chgE t hn ls (l.getD k dU) = 0 := by
      simp only [chK] at h
      rwa [if_neg (fun g => g hc)] at h
    have ih := emU_inR h0 k (by omega) hc
    simp only [emU] at hq
    rw [keys_add] at hq
    split at hq
    · exact ih q hq
    · rcases List.mem_append.1 hq with hq | hq
      · exact ih q hq
      · simp only [List.mem_singleton] at hq
        subst hq
        exact par_inR (chg_par he)
theorem emA_nodup {t : List Tar} {hn : Int} {ls : List Lnk} {l : List Use} {rs : List Rst} : (keysE (emA rs t hn ls l)).Nodup := by
  unfold emA
  have h0 : ∀ k, (keysE (emR rs k)).Nodup := by
    intro k
    induction k with
    | zero => simp [emR, keysE]
    | succ k ih => simp only [emR]; exact nodup_add ih
  have : ∀ k, (keysE (emU t hn ls l (emR rs rs.length) k)).Nodup := by
    intro k
    induction k with
    | zero => simp only [emU]; exact h0 _
    | succ k ih => simp only [emU]; exact nodup_add ih
  exact this _
end Sim
