/- What functions of this seat compute, by values: contracts (lemmas of the statement's proof, under the conditions that each names). -/
import Derived.Test.YtpaaaaijebdphaaQO2
namespace Sim
open Go Go.Proofs
set_option maxRecDepth 10000
set_option linter.unusedVariables false
set_option linter.unusedSimpArgs false
theorem outA_at {v : Nat → Int} {n : Nat} {l : List Int} : ∀ {m j}, j < m → (outA v n l m).getD j 0 = l.getD (lst v n (setA v n j)) 0
  | 0, j, h => absurd h (by omega)
  | m + 1, j, h => by
    rw [outA, List.getD_eq_getElem?_getD]
    by_cases e : j = m
    · subst e
      rw [List.getElem?_append_right (by rw [outA_len]; omega), outA_len]; simp
    · rw [List.getElem?_append_left (by rw [outA_len]; omega), ← List.getD_eq_getElem?_getD]
      exact outA_at (by omega)
theorem set_ok {v : Nat → Int} {n : Nat} (hn : n ≤ 60) {j : Nat} (hj : j < n) : 0 < setA v n j ∧ setA v n j < 2 ^ n ∧ setA v n j < 4611686018427387904 := by
  have hp := pow_le 60 hn
  have := (setA_cnt (v := v) hn j (by omega)).2
  exact ⟨setA_pos hn hj, this, by generalize 2 ^ n = q at *; omega⟩
theorem out_perm {v : Nat → Int} {n : Nat} {l : List Int} (hn : n ≤ 60) : ∀ j, j ≤ n → (outA v n l j ++ (els n (setA v n j)).map fun i => l.getD i 0).Perm ((List.range n).map fun i => l.getD i 0)
  | 0, _ => by simp [outA, setA, els_full]
  | j + 1, h => by
    have ih := out_perm (v := v) (l := l) hn j (by omega)
    obtain ⟨h0, h1, h2⟩ := set_ok (v := v) hn (show j < n by omega)
    have hb := bst_at (v := v) hn _ _ (Nat.le_refl _) h1
    have he := els_dif h2 (by have := hb.lt h0; omega) (hb.lt h0) (hb.bit h0)
    have e : outA v n l (j + 1) = outA v n l j ++ [l.getD (lst v n (setA v n j)) 0] := rfl
    have e2 : setA v n (j + 1) = dif (setA v n j) (2 ^ lst v n (setA v n j)) := rfl
    rw [e, e2, List.append_assoc]
    refine List.Perm.trans ?_ ih
    exact (he.map fun i => l.getD i 0).symm.append_left _
theorem order_perm {b l : List Int} (hn : l.length ≤ 60) : (orderL b l).Perm l := by
  unfold orderL
  have := out_perm (v := valK b l) (l := l) hn l.length (Nat.le_refl _)
  rw [setA_end hn, els_zero, List.map_nil, List.append_nil] at this
  refine (List.reverse_perm _).trans (this.trans ?_)
  rw [show (List.range l.length).map (fun i => l.getD i 0) = l from tbl_of]
def zk (b o : List Int) : Nat → Nat
  | 0 => 0
  | k + 1 => zk b o k + if psumK b o (k + 1) = 0 then 1 else 0
theorem order_at {b l : List Int} {k : Nat} (hk : k < l.length) : (orderL b l).getD k 0 = l.getD (lst (valK b l) l.length (setA (valK b l) l.length (l.length - (k + 1)))) 0 := by
  unfold orderL
  rw [List.getD_eq_getElem?_getD, List.getElem?_reverse (by rw [outA_len]; exact hk), outA_len, ← List.getD_eq_getElem?_getD, outA_at (by omega)]
  rw [show l.length - 1 - k = l.length - (k + 1) by omega]
theorem order_sums {b l : List Int} (hn : l.length ≤ 60) : ∀ k, k ≤ l.length → psumK b (orderL b l) k = smB (valK b l) (setA (valK b l) l.length (l.length - k)) l.length ∧ (zk b (orderL b l) k : Int) = bst (valK b l) l.length (setA (valK b l) l.length (l.length - k))
  | 0, _ => by
    have hz := smB_els (v := valK b l) (s := 0) l.length
    rw [els_zero] at hz
    rw [Nat.sub_zero, setA_end hn, hz]
    exact ⟨rfl, by simp [zk, bst, tabW]⟩
  | k + 1, h => by
    obtain ⟨ih1, ih2⟩ := order_sums (b := b) hn k (by omega)
    have hat := order_at (b := b) (k := k) (show k < l.length by omega)
    obtain ⟨h0, h1, h2⟩ := set_ok (v := valK b l) hn (show l.length - (k + 1) < l.length by omega)
    have hb := bst_at (v := valK b l) hn _ _ (Nat.le_refl _) h1
    have e2 : setA (valK b l) l.length (l.length - k) = dif (setA (valK b l) l.length (l.length - (k + 1))) (2 ^ lst (valK b l) l.length (setA (valK b l) l.length (l.length - (k + 1)))) := by
      rw [show l.length - k = l.length - (k + 1) + 1 by omega]; rfl
    have hs := smB_dif (v := valK b l) h2 (by have := hb.lt h0; omega) (hb.bit h0) l.length
    rw [← e2, if_pos (hb.lt h0)] at hs
    have hv := hb.val h0
    rw [← e2] at hv
    have hp : psumK b (orderL b l) (k + 1) = smB (valK b l) (setA (valK b l) l.length (l.length - (k + 1))) l.length := by
      rw [← hs, ← ih1]
      simp only [psumK, hat, valK]
    refine ⟨hp, ?_⟩
    rw [hv, ← ih2]
    simp only [zk]
    rw [hp]
    split <;> omega
theorem payK_cnt {b o : List Int} (hz : psumK b o o.length = 0) : ∀ k, k ≤ o.length → (payK b o k).length + zk b o k = k
  | 0, _ => by simp [payK, zk]
  | k + 1, h => by
    have ih := payK_cnt hz k (by omega)
    simp only [payK, zk]
    by_cases c : psumK b o (k + 1) = 0
    · rw [if_pos (.inl c), if_pos c]; omega
    · rw [if_neg (fun g => c (g.elim id fun e => by rw [e]; exact hz)), if_neg c, List.length_append, List.length_singleton]; omega
theorem gotT_eq {l : List Pay} {i : Int} : ∀ {k}, k ≤ l.length → gotT l i k = ((l.take k).map fun p => gotP p i).sum
  | 0, _ => by simp [gotT]
  | k + 1, h => by
    have ih := gotT_eq (l := l) (i := i) (k := k) (by omega)
    simp only [gotT]
    rw [List.take_succ_eq_append_getElem (by omega), List.map_append, List.sum_append, ih, List.getD_eq_getElem?_getD, List.getElem?_eq_getElem (by omega)]
    simp
/-- What the first payments give. -/
def giv (b o : List Int) (k : Nat) (i : Int) : Int := ((payK b o k).map fun p => gotP p i).sum
theorem o_inj {o : List Int} (hnd : o.Nodup) {i j : Nat} (hi : i < o.length) (hj : j < o.length) (h : o.getD i 0 = o.getD j 0) : i = j := by
  rw [List.getD_eq_getElem?_getD, List.getD_eq_getElem?_getD, List.getElem?_eq_getElem hi, List.getElem?_eq_getElem hj] at h
  exact (List.getElem_inj hnd).1 h
theorem giv_at {b o : List Int} (hnd : o.Nodup) (hz : psumK b o o.length = 0) : ∀ k, k ≤ o.length → (∀ j, j < k → giv b o k (o.getD j 0) = - b.getD (o.getD j 0).toNat 0) ∧ (k < o.length → giv b o k (o.getD k 0) = psumK b o k) ∧ (∀ j, k < j → j < o.length → giv b o k (o.getD j 0) = 0) ∧ ∀ i, i ∉ o → giv b o k i = 0
  | 0, _ => ⟨fun j h => absurd h (by omega), fun _ => rfl, fun _ _ _ => rfl, fun _ _ => rfl⟩
  | k + 1, h => by
    obtain ⟨a1, a2, a3, a4⟩ := giv_at hnd hz k (by omega)
    have a2 := a2 (by omega)
    have hS : psumK b o (k + 1) = psumK b o k + b.getD (o.getD k 0).toNat 0 := rfl
    by_cases c : psumK b o (k + 1) = 0 ∨ k + 1 = o.length
    · have hS0 : psumK b o (k + 1) = 0 := c.elim id fun e => by rw [e]; exact hz
      have e : ∀ i, giv b o (k + 1) i = giv b o k i := fun i => by unfold giv; simp only [payK]; rw [if_pos c]
      refine ⟨fun j hj => ?_, fun hk => ?_, fun j hj hjn => ?_, fun i hi => ?_⟩
      · rw [e]
        by_cases ej : j = k
        · subst ej; rw [a2]; omega
        · exact a1 j (by omega)
      · rw [e, a3 (k + 1) (by omega) hk, hS0]
      · rw [e]; exact a3 j (by omega) hjn
      · rw [e]; exact a4 i hi
    · have hk1 : k + 1 < o.length := by omega
      have hne : ¬ o.getD k 0 = o.getD (k + 1) 0 := fun e => by have := o_inj hnd (by omega) hk1 e; omega
      have hp : ∀ i, giv b o (k + 1) i = giv b o k i + gotP (payAt b o k) i := fun i => by
        unfold giv; simp only [payK]; rw [if_neg c, List.map_append, List.sum_append]; simp
      have hg : ∀ i, gotP (payAt b o k) i = (if o.getD (k + 1) 0 = i then psumK b o (k + 1) else 0) - (if o.getD k 0 = i then psumK b o (k + 1) else 0) := fun i => by
        unfold payAt gotP
        split <;> dsimp only <;> split <;> split <;> omega
      have oth : ∀ j, j < o.length → ¬ j = k → ¬ o.getD k 0 = o.getD j 0 := fun j hj hne e => hne (o_inj hnd (by omega) hj e).symm
      have oth1 : ∀ j, j < o.length → ¬ j = k + 1 → ¬ o.getD (k + 1) 0 = o.getD j 0 := fun j hj hne e => hne (o_inj hnd hk1 hj e).symm
      refine ⟨fun j hj => ?_, fun hk => ?_, fun j hj hjn => ?_, fun i hi => ?_⟩
      · rw [hp, hg]
        by_cases ej : j = k
        · subst ej; rw [a2, if_pos rfl, if_neg (fun e => hne e.symm)]; omega
        · rw [if_neg (oth j (by omega) ej), if_neg (oth1 j (by omega) (by omega)), a1 j (by omega)]; omega
      · rw [hp, hg, a3 (k + 1) (by omega) hk, if_pos rfl, if_neg hne]; omega
      · rw [hp, hg, if_neg (oth j hjn (by omega)), if_neg (oth1 j hjn (by omega)), a3 j (by omega) hjn]; omega
      · have i1 : ¬ o.getD k 0 = i := fun e => hi (by rw [← e, List.getD_eq_getElem?_getD, List.getElem?_eq_getElem (by omega)]; exact List.getElem_mem _)
        have i2 : ¬ o.getD (k + 1) 0 = i := fun e => hi (by rw [← e, List.getD_eq_getElem?_getD, List.getElem?_eq_getElem (by omega)]; exact List.getElem_mem _)
        rw [hp, hg, if_neg i1, if_neg i2, a4 i hi]; omega
theorem nz_nodup {b : List Int} : ∀ k, (nzK b k).Nodup
  | 0 => by simp [nzK]
  | k + 1 => by
    have ih := nz_nodup (b := b) k
    simp only [nzK]
    split
    · exact ih
    · refine List.nodup_append.2 ⟨ih, by simp, fun x hx y hy => ?_⟩
      have := nz_mem x hx
      simp only [List.mem_singleton] at hy
      omega
theorem nz_in {b : List Int} {i : Nat} : ∀ {k}, i < k → ¬ b.getD i 0 = 0 → (i : Int) ∈ nzK b k
  | 0, h, _ => absurd h (by omega)
  | k + 1, h, h0 => by
    simp only [nzK]
    by_cases e : i = k
    · subst e; rw [if_neg h0]; simp
    · have ih := nz_in (b := b) (i := i) (k := k) (by omega) h0
      split
      · exact ih
      · exact List.mem_append_left _ ih
theorem payK_ok {b o : List Int} (hc : ordOK b o) (hnd : o.Nodup) (hz : psumK b o o.length = 0) : ∀ k, k ≤ o.length → ∀ p ∈ payK b o k, payOK b.length p
  | 0, _, p, hp => by simp [payK] at hp
  | k + 1, h, p, hp => by
    simp only [payK] at hp
    by_cases c : psumK b o (k + 1) = 0 ∨ k + 1 = o.length
    · rw [if_pos c] at hp; exact payK_ok hc hnd hz k (by omega) p hp
    · rw [if_neg c] at hp
      rcases List.mem_append.1 hp with hp | hp
      · exact payK_ok hc hnd hz k (by omega) p hp
      · simp only [List.mem_singleton] at hp
        subst hp
        have h1 := ord_at hc.2.1 (show k < o.length by omega)
        have h2 := ord_at hc.2.1 (show k + 1 < o.length by omega)
        have hne : ¬ o.getD k 0 = o.getD (k + 1) 0 := fun e => by have := o_inj hnd (by omega) (by omega) e; omega
        have h3 := psum_le o hc.2.2 (k + 1)
        have h12 := hc.1
        unfold payAt payOK
        split <;> dsimp only <;> omega
theorem pay_ok {b : List Int} (h : openE b = 0) : settM b (payM b) = true ∧ ((payM b).length : Int) = leastN b := by
  obtain ⟨h40, hfit, hs, h12⟩ := open_ok h
  have hpre := open_pre h
  have hord := order_ok hpre.1 hpre.2.1 hpre.2.2
  have hol := order_len b (openL b)
  have hper := order_perm (b := b) (l := openL b) (by omega)
  have hnd : (orderL b (openL b)).Nodup := hper.nodup_iff.2 (by rw [(open_zero h).1]; exact nz_nodup _)
  have hsums := order_sums (b := b) (l := openL b) (by omega) (openL b).length (Nat.le_refl _)
  rw [Nat.sub_self] at hsums
  have hset : setA (valK b (openL b)) (openL b).length 0 = 2 ^ (openL b).length - 1 := rfl
  rw [hset, open_full h] at hsums
  obtain ⟨hz, hbst⟩ := hsums
  rw [← hol] at hz hbst
  have hc := payK_cnt hz (orderL b (openL b)).length (Nat.le_refl _)
  have e : payM b = payK b (orderL b (openL b)) (orderL b (openL b)).length := by unfold payM; rw [if_pos h]; rfl
  have e2 : leastN b = ((openL b).length : Int) - orderN b (openL b) := by unfold leastN; rw [if_pos h]
  have e3 : ((zk b (orderL b (openL b)) (orderL b (openL b)).length : Nat) : Int) = orderN b (openL b) := by rw [hbst, hol]; rfl
  have hgiv := giv_at hnd hz (orderL b (openL b)).length (Nat.le_refl _)
  have hpo := payK_ok hord hnd hz (orderL b (openL b)).length (Nat.le_refl _)
  have hlen := payK_len (b := b) (o := orderL b (openL b)) (orderL b (openL b)).length
  refine ⟨?_, by rw [e, e2, ← e3, ← hol]; omega⟩
  rw [e]
  unfold settM
  simp only [Bool.and_eq_true, decide_eq_true_eq]
  have h12' := hord.1
  refine ⟨⟨⟨by omega, hfit⟩, hpo⟩, fun x hx => ?_⟩
  obtain ⟨i, hi, rfl⟩ := List.getElem_of_mem hx
  have hib : i < b.length := by rw [leftL_len] at hi; exact hi
  have ee : (leftL b (payK b (orderL b (openL b)) (orderL b (openL b)).length) (payK b (orderL b (openL b)) (orderL b (openL b)).length).length)[i] = b.getD i 0 + giv b (orderL b (openL b)) (orderL b (openL b)).length (i : Int) := by
    have := leftL_at (b := b) (l := payK b (orderL b (openL b)) (orderL b (openL b)).length) (k := (payK b (orderL b (openL b)) (orderL b (openL b)).length).length) hib
    rw [gotT_eq (Nat.le_refl _), List.take_length, List.getD_eq_getElem?_getD, List.getElem?_eq_getElem hi] at this
    exact this
  rw [ee]
  by_cases z : b.getD i 0 = 0
  · by_cases hm : (i : Int) ∈ orderL b (openL b)
    · obtain ⟨j, hj, hji⟩ := List.getElem_of_mem hm
      have := hgiv.1 j hj
      rw [List.getD_eq_getElem?_getD, List.getElem?_eq_getElem hj, Option.getD_some, hji, Int.toNat_natCast] at this
      omega
    · rw [hgiv.2.2.2 _ hm]; omega
  · have hm : (i : Int) ∈ orderL b (openL b) := hper.mem_iff.2 (by rw [(open_zero h).1]; exact nz_in hib z)
    obtain ⟨j, hj, hji⟩ := List.getElem_of_mem hm
    have := hgiv.1 j hj
    rw [List.getD_eq_getElem?_getD, List.getElem?_eq_getElem hj, Option.getD_some, hji, Int.toNat_natCast] at this
    omega
end Sim
