/- What functions of this seat compute, by values: contracts (lemmas of the statement's proof, under the conditions that each names). -/
import Derived.Test.YtpaaaaijebdphaaQM8
import Derived.Test.YtpaaaaijebdphaaQM1
namespace Sim
open Go Go.Proofs
set_option maxRecDepth 10000
set_option linter.unusedVariables false
set_option linter.unusedSimpArgs false
section
variable {t : List Tar} {hn : Int} {ls : List Lnk}
def chS (t : List Tar) (hn : Int) (ls : List Lnk) (l : List Use) (q : Key) : Int := (l.map fun u => if ukey u = q then chgM t hn ls u else 0).sum
def emL (t : List Tar) (hn : Int) (ls : List Lnk) (l : List Use) : List Em := emU t hn ls l [] l.length
theorem emU_sum {l : List Use} {em : List Em} {q : Key} : ∀ k, k ≤ l.length → sumO (emU t hn ls l em k) q = sumO em q + chS t hn ls (l.take k) q
  | 0, _ => by simp [emU, chS]
  | k + 1, h => by
    have ih := emU_sum (l := l) (em := em) (q := q) k (by omega)
    have e : l.getD k dU = l[k] := by rw [List.getD_eq_getElem?_getD, List.getElem?_eq_getElem (by omega)]; rfl
    simp only [emU]
    rw [sumO_add, ih]
    unfold chS
    rw [List.take_succ_eq_append_getElem (by omega), List.map_append, List.sum_append, e]
    simp only [List.map_cons, List.map_nil, List.sum_cons, List.sum_nil]
    omega
theorem emL_sum {l : List Use} {q : Key} : sumO (emL t hn ls l) q = chS t hn ls l q := by
  unfold emL
  rw [emU_sum _ (Nat.le_refl _), List.take_length]
  simp [sumO]
theorem emU_mem {l : List Use} {q : Key} : ∀ k, k ≤ l.length → (q ∈ keysE (emU t hn ls l [] k) ↔ ∃ u ∈ l.take k, ukey u = q)
  | 0, _ => by simp [emU, keysE]
  | k + 1, h => by
    have ih := emU_mem (l := l) (q := q) k (by omega)
    have e : l.getD k dU = l[k] := by rw [List.getD_eq_getElem?_getD, List.getElem?_eq_getElem (by omega)]; rfl
    simp only [emU]
    rw [keys_add, List.take_succ_eq_append_getElem (by omega), e]
    have key : (∃ u ∈ l.take k ++ [l[k]], ukey u = q) ↔ (∃ u ∈ l.take k, ukey u = q) ∨ ukey l[k] = q := by
      constructor
      · rintro ⟨u, hu, hq⟩
        rcases List.mem_append.1 hu with h | h
        · exact .inl ⟨u, h, hq⟩
        · simp only [List.mem_singleton] at h; subst h; exact .inr hq
      · rintro (⟨u, hu, hq⟩ | hq)
        · exact ⟨u, List.mem_append.2 (.inl hu), hq⟩
        · exact ⟨_, List.mem_append.2 (.inr (by simp)), hq⟩
    rw [key, ← ih]
    split
    · rename_i hm
      constructor
      · exact .inl
      · rintro (h | h)
        · exact h
        · rw [← h]; exact hm
    · rw [List.mem_append, List.mem_singleton]
      constructor
      · rintro (h | h)
        · exact .inl h
        · exact .inr h.symm
      · rintro (h | h)
        · exact .inl h
        · exact .inr h.symm
theorem emL_mem {l : List Use} {q : Key} : q ∈ keysE (emL t hn ls l) ↔ ∃ u ∈ l, ukey u = q := by
  unfold emL
  rw [emU_mem _ (Nat.le_refl _), List.take_length]
theorem emL_nodup {l : List Use} : (keysE (emL t hn ls l)).Nodup := by
  unfold emL
  have : ∀ k, (keysE (emU t hn ls l [] k)).Nodup := by
    intro k
    induction k with
    | zero => simp [emU, keysE]
    | succ k ih => simp only [emU]; exact nodup_add ih
  exact this _
theorem ordK_mem {em : List Em} {q : Key} : q ∈ ordK em ↔ q ∈ keysE em := (List.mergeSort_perm _ _).mem_iff
theorem ordK_nodup {l : List Use} : (ordK (emL t hn ls l)).Nodup := (List.mergeSort_perm _ _).nodup_iff.2 emL_nodup
theorem perm_nodup {l m : List Key} (h1 : l.Nodup) (h2 : m.Nodup) (h : ∀ q, q ∈ l ↔ q ∈ m) : l.Perm m := (List.perm_ext_iff_of_nodup h1 h2).2 h
/-- What the machine's error says. -/
structure PerOK (t : List Tar) (hn : Int) (ls : List Lnk) (l : List Use) (tick : Int) : Prop where
  len : l.length ≤ 200
  tar : t.length ≤ 12
  tars : ∀ x ∈ t, tarO x
  tick : inM tick 1000000
  use : ∀ u ∈ l, useE t.length u = 0 ∧ chgE t hn ls u = 0
  big : ∀ u ∈ l, ¬ 1099511627776 < (chS t hn ls l (ukey u)).tdiv 1000
theorem useK_zero {n : Nat} {l : List Use} : ∀ k, k ≤ l.length → (useK n l k = 0 ↔ ∀ u ∈ l.take k, useE n u = 0)
  | 0, _ => by simp [useK]
  | k + 1, h => by
    have ih := useK_zero (n := n) (l := l) k (by omega)
    have e : l.getD k dU = l[k] := by rw [List.getD_eq_getElem?_getD, List.getElem?_eq_getElem (by omega)]; rfl
    simp only [useK]
    rw [List.take_succ_eq_append_getElem (by omega), e]
    constructor
    · intro hz u hu
      by_cases c : useK n l k = 0
      · rw [if_neg (fun g => g c)] at hz
        rcases List.mem_append.1 hu with h | h
        · exact ih.1 c u h
        · simp only [List.mem_singleton] at h; subst h; exact hz
      · rw [if_pos c] at hz; exact absurd hz c
    · intro hz
      have c := ih.2 fun u hu => hz u (List.mem_append.2 (.inl hu))
      rw [if_neg (fun g => g c)]
      exact hz _ (List.mem_append.2 (.inr (by simp)))
theorem chK_zero {l : List Use} : ∀ k, k ≤ l.length → (chK t hn ls l k = 0 ↔ ∀ u ∈ l.take k, chgE t hn ls u = 0)
  | 0, _ => by simp [chK]
  | k + 1, h => by
    have ih := chK_zero (l := l) k (by omega)
    have e : l.getD k dU = l[k] := by rw [List.getD_eq_getElem?_getD, List.getElem?_eq_getElem (by omega)]; rfl
    simp only [chK]
    rw [List.take_succ_eq_append_getElem (by omega), e]
    constructor
    · intro hz u hu
      by_cases c : chK t hn ls l k = 0
      · rw [if_neg (fun g => g c)] at hz
        rcases List.mem_append.1 hu with h | h
        · exact ih.1 c u h
        · simp only [List.mem_singleton] at h; subst h; exact hz
      · rw [if_pos c] at hz; exact absurd hz c
    · intro hz
      have c := ih.2 fun u hu => hz u (List.mem_append.2 (.inl hu))
      rw [if_neg (fun g => g c)]
      exact hz _ (List.mem_append.2 (.inr (by simp)))
theorem emA_nil {l : List Use} : emA [] t hn ls l = emL t hn ls l := rfl
theorem big_iff {l : List Use} : bigE (emL t hn ls l) ↔ ∃ u ∈ l, 1099511627776 < (chS t hn ls l (ukey u)).tdiv 1000 := by
  constructor
  · rintro ⟨x, hx, hb⟩
    rw [sum_mem emL_nodup x hx, emL_sum] at hb
    obtain ⟨u, hu, e⟩ := emL_mem.1 (List.mem_map.2 ⟨x, hx, rfl⟩ : x.1 ∈ keysE (emL t hn ls l))
    exact ⟨u, hu, by rw [e]; exact hb⟩
  · rintro ⟨u, hu, hb⟩
    obtain ⟨x, hx, e⟩ := List.mem_map.1 (emL_mem.2 ⟨u, hu, rfl⟩ : ukey u ∈ keysE (emL t hn ls l))
    refine ⟨x, hx, ?_⟩
    rw [sum_mem emL_nodup x hx, emL_sum, e]; exact hb
theorem per_iff {l : List Use} {tick : Int} : perE [] t hn ls l tick = 0 ↔ PerOK t hn ls l tick := by
  unfold perE
  constructor
  · intro h
    by_cases c1 : mchkE t l = 0
    case neg => rw [if_pos c1] at h; exact absurd h c1
    rw [if_neg (fun g => g c1)] at h
    by_cases c2 : inM tick 1000000
    case neg => rw [if_pos c2] at h; cases h
    rw [if_neg (fun g => g c2), if_neg (fun g => g fun k hk => absurd hk (by simp))] at h
    by_cases c3 : chK t hn ls l l.length = 0
    case neg => rw [if_pos c3] at h; exact absurd h c3
    rw [if_neg (fun g => g c3)] at h
    by_cases c4 : bigE (emA [] t hn ls l)
    · rw [if_pos c4] at h; cases h
    have h1 := mchk_len c1
    have h2 := mchk_tars c1
    unfold mchkE at c1
    rw [if_neg (by omega)] at c1
    by_cases c5 : ∀ x ∈ t, tarO x
    case neg => rw [if_pos c5] at c1; cases c1
    rw [if_neg (fun g => g c5), if_neg (by omega)] at c1
    have h3 := (useK_zero _ (Nat.le_refl _)).1 c1
    have h4 := (chK_zero _ (Nat.le_refl _)).1 c3
    rw [List.take_length] at h3 h4
    exact ⟨h1, h2, c5, c2, fun u hu => ⟨h3 u hu, h4 u hu⟩, fun u hu hb => c4 (big_iff.2 ⟨u, hu, hb⟩)⟩
  · rintro ⟨h1, h2, h3, h4, h5, h6⟩
    have c1 : mchkE t l = 0 := by
      unfold mchkE
      rw [if_neg (by omega), if_neg (fun g => g h3), if_neg (by omega)]
      exact (useK_zero _ (Nat.le_refl _)).2 fun u hu => (h5 u (by rwa [List.take_length] at hu)).1
    have c3 : chK t hn ls l l.length = 0 := (chK_zero _ (Nat.le_refl _)).2 fun u hu => (h5 u (by rwa [List.take_length] at hu)).2
    rw [if_neg (fun g => g c1), if_neg (fun g => g h4), if_neg (fun g => g fun k hk => absurd hk (by simp)), if_neg (fun g => g c3), if_neg]
    intro hb
    obtain ⟨u, hu, hb⟩ := big_iff.1 hb
    exact h6 u hu hb
/-- The postings of a period, from sums alone. -/
theorem out_congr {em fm : List Em} {tick : Int} (h1 : ∀ q, sumO em q = sumO fm q) (h2 : (keysE em).Perm (keysE fm)) : outL em tick (ordK em) = outL fm tick (ordK fm) := by
  unfold outL ordK
  rw [sort_perm h2]
  have e : sumO em = sumO fm := funext h1
  rw [e]
theorem chS_perm {l m : List Use} (h : l.Perm m) (q : Key) : chS t hn ls l q = chS t hn ls m q := sum_perm (h.map _)
theorem em_perm {l m : List Use} {tick : Int} (h : l.Perm m) : outL (emL t hn ls l) tick (ordK (emL t hn ls l)) = outL (emL t hn ls m) tick (ordK (emL t hn ls m)) := by
  refine out_congr (fun q => by rw [emL_sum, emL_sum, chS_perm h]) (perm_nodup emL_nodup emL_nodup fun q => ?_)
  rw [emL_mem, emL_mem]
  exact ⟨fun ⟨u, hu, e⟩ => ⟨u, h.mem_iff.1 hu, e⟩, fun ⟨u, hu, e⟩ => ⟨u, h.mem_iff.2 hu, e⟩⟩
theorem per_perm {l m : List Use} {tick : Int} (h : l.Perm m) (ok : PerOK t hn ls l tick) : PerOK t hn ls m tick :=
  ⟨by rw [← h.length_eq]; exact ok.len, ok.tar, ok.tars, ok.tick, fun u hu => ok.use u (h.mem_iff.2 hu), fun u hu => by rw [← chS_perm h]; exact ok.big u (h.mem_iff.2 hu)⟩
theorem chS_nonneg {l : List Use} (hp : ∀ u ∈ l, useP hn ls u) (hc : ∀ u ∈ l, chgE t hn ls u = 0) (q : Key) : 0 ≤ chS t hn ls l q := by
  induction l with
  | nil => simp [chS]
  | cons u l ih =>
    have h1 := ih (fun v hv => hp v (by simp [hv])) fun v hv => hc v (by simp [hv])
    have h2 := chg_le (hp u (by simp)) (hc u (by simp))
    unfold chS at h1 ⊢
    rw [List.map_cons, List.sum_cons]
    split <;> omega
/-- One use less. -/
theorem chS_less {l r : List Use} {u : Use} {q : Key} : chS t hn ls (l ++ u :: r) q = chS t hn ls (l ++ r) q + if ukey u = q then chgM t hn ls u else 0 := by
  unfold chS
  simp only [List.map_append, List.sum_append, List.map_cons, List.sum_cons]
  omega
theorem tdiv_mono {a b : Int} (h0 : 0 ≤ a) (h : a ≤ b) : a.tdiv 1000 ≤ b.tdiv 1000 := by
  rw [Int.tdiv_eq_ediv_of_nonneg h0, Int.tdiv_eq_ediv_of_nonneg (by omega)]
  omega
theorem per_less {l r : List Use} {u : Use} {tick : Int} (hp : ∀ v ∈ l ++ u :: r, useP hn ls v) (ok : PerOK t hn ls (l ++ u :: r) tick) : PerOK t hn ls (l ++ r) tick := by
  have hin : ∀ v ∈ l ++ r, v ∈ l ++ u :: r := fun v hv => by
    rcases List.mem_append.1 hv with h | h
    · exact List.mem_append.2 (.inl h)
    · exact List.mem_append.2 (.inr (List.mem_cons_of_mem _ h))
  refine ⟨?_, ok.tar, ok.tars, ok.tick, fun v hv => ok.use v (hin v hv), fun v hv => ?_⟩
  · have := ok.len
    rw [List.length_append, List.length_cons] at this
    rw [List.length_append]; omega
  · have h1 := ok.big v (hin v hv)
    have h2 := chS_nonneg (t := t) (fun w hw => hp w (hin w hw)) (fun w hw => (ok.use w (hin w hw)).2) (ukey v)
    have h3 := (chg_le (hp u (by simp)) (ok.use u (by simp)).2).1
    rw [chS_less] at h1
    have h4 := tdiv_mono h2 (b := chS t hn ls (l ++ r) (ukey v) + if ukey u = ukey v then chgM t hn ls u else 0) (by split <;> omega)
    omega
def pk (k : Key) : Int × Int × Int := if k.2.2 = 5 then (12 + k.1, k.2.1, k.2.2) else (k.2.1, 12 + k.1, k.2.2)
def kin' (q : Key) : Prop := (0 ≤ q.1 ∧ q.1 ≤ 27) ∧ (0 ≤ q.2.1 ∧ q.2.1 ≤ 11) ∧ (1 ≤ q.2.2 ∧ q.2.2 ≤ 5)
theorem ukey_in {l : List Use} {tick : Int} (ok : PerOK t hn ls l tick) {u : Use} (hu : u ∈ l) : kin' (ukey u) := by
  have h := chg_par (ok.use u hu).2
  have := ok.tar
  unfold parO inM at h
  unfold kin' ukey
  dsimp only; omega
theorem pk_inj {k q : Key} (hk : kin' k) (hq : kin' q) (h : pk k = pk q) : k = q := by
  unfold pk kin' at *
  by_cases c1 : k.2.2 = 5 <;> by_cases c2 : q.2.2 = 5
  · rw [if_pos c1, if_pos c2] at h
    simp only [Prod.mk.injEq] at h
    exact Prod.ext (by omega) (Prod.ext (by omega) (by omega))
  · rw [if_pos c1, if_neg c2] at h
    simp only [Prod.mk.injEq] at h
    omega
  · rw [if_neg c1, if_pos c2] at h
    simp only [Prod.mk.injEq] at h
    omega
  · rw [if_neg c1, if_neg c2] at h
    simp only [Prod.mk.injEq] at h
    exact Prod.ext (by omega) (Prod.ext (by omega) (by omega))
theorem pst_key {tick s : Int} {k : Key} : ((pstK tick k s).1, (pstK tick k s).2.1, (pstK tick k s).2.2.2.2.1) = pk k ∧ (pstK tick k s).2.2.1 = s.tdiv 1000 := by
  unfold pstK pk
  split <;> exact ⟨rfl, rfl⟩
theorem sumP_out {em : List Em} {tick : Int} {k : Key} (hk : kin' k) : ∀ {ks : List Key}, (∀ q ∈ ks, kin' q ∧ 0 ≤ sumO em q) → ks.Nodup → sumP (outL em tick ks) (pk k).1 (pk k).2.1 (pk k).2.2 = if k ∈ ks then (sumO em k).tdiv 1000 else 0
  | [], _, _ => by simp [outL, sumP]
  | q :: ks, h, hnd => by
    have hq := h q (by simp)
    rw [List.nodup_cons] at hnd
    have ih := sumP_out (em := em) (tick := tick) hk (ks := ks) (fun q hq => h q (by simp [hq])) hnd.2
    have hq0 := Int.tdiv_nonneg (a := sumO em q) (b := 1000) hq.2 (by omega)
    have hkey : ∀ s, keyP (pstK tick q s) (pk k).1 (pk k).2.1 (pk k).2.2 ↔ q = k := fun s => by
      have h1 := (pst_key (tick := tick) (s := s) (k := q)).1
      constructor
      · rintro ⟨g1, g2, g3⟩
        refine pk_inj hq.1 hk ?_
        rw [← h1]
        exact Prod.ext g1 (Prod.ext g2 g3)
      · rintro rfl
        rw [← h1]
        exact ⟨rfl, rfl, rfl⟩
    have hval := fun s => (pst_key (tick := tick) (s := s) (k := q)).2
    have hcons : outL em tick (q :: ks) = (if 0 < (sumO em q).tdiv 1000 then [pstK tick q (sumO em q)] else []) ++ outL em tick ks := by
      unfold outL
      by_cases c : 0 < (sumO em q).tdiv 1000 <;> simp [List.filter_cons, c]
    rw [hcons, sumP_app, ih]
    by_cases e : q = k
    · subst e
      rw [if_neg hnd.1, if_pos (show q ∈ q :: ks from List.mem_cons_self)]
      by_cases c : 0 < (sumO em q).tdiv 1000
      · rw [if_pos c]
        unfold sumP
        simp only [List.map_cons, List.map_nil, List.sum_cons, List.sum_nil]
        rw [if_pos ((hkey _).2 rfl), hval]; omega
      · rw [if_neg c]; simp [sumP]; omega
    · have hmm : (k ∈ q :: ks) ↔ k ∈ ks := by
        rw [List.mem_cons]; exact ⟨fun h => h.elim (fun h => absurd h.symm e) id, .inr⟩
      have hz : sumP (if 0 < (sumO em q).tdiv 1000 then [pstK tick q (sumO em q)] else []) (pk k).1 (pk k).2.1 (pk k).2.2 = 0 := by
        split
        · unfold sumP
          simp only [List.map_cons, List.map_nil, List.sum_cons, List.sum_nil]
          rw [if_neg (fun g => e ((hkey _).1 g))]; rfl
        · rfl
      rw [hz]
      by_cases m : k ∈ ks
      · rw [if_pos m, if_pos (hmm.2 m)]; omega
      · rw [if_neg m, if_neg (fun g => m (hmm.1 g))]; rfl
theorem pout_mem {em : List Em} {tick : Int} {ks : List Key} {p : Pst} (h : p ∈ outL em tick ks) : ∃ k ∈ ks, 0 < (sumO em k).tdiv 1000 ∧ p = pstK tick k (sumO em k) := by
  unfold outL at h
  obtain ⟨k, hk, rfl⟩ := List.mem_map.1 h
  obtain ⟨h1, h2⟩ := List.mem_filter.1 hk
  exact ⟨k, h1, by simpa using h2, rfl⟩
theorem out_ok {l : List Use} {tick : Int} (ok : PerOK t hn ls l tick) : (∀ p ∈ outL (emL t hn ls l) tick (ordK (emL t hn ls l)), rgtO p) ∧ (outL (emL t hn ls l) tick (ordK (emL t hn ls l))).length ≤ l.length := by
  constructor
  · intro p hp
    obtain ⟨k, hk, h0, rfl⟩ := pout_mem hp
    obtain ⟨u, hu, rfl⟩ := emL_mem.1 (ordK_mem.1 hk)
    have h1 := ukey_in ok hu
    have h2 := ok.big u hu
    rw [emL_sum] at h0 ⊢
    unfold kin' at h1
    unfold rgtO pstK
    split <;> dsimp only <;> omega
  · unfold outL
    rw [List.length_map]
    refine Nat.le_trans (List.length_filter_le _ _) ?_
    unfold ordK keysE emL
    rw [List.length_mergeSort, List.length_map]
    have : ∀ k, (emU t hn ls l [] k).length ≤ k := by
      intro k
      induction k with
      | zero => simp [emU]
      | succ k ih =>
        have := add_len (em := emU t hn ls l [] k) (k := ukey (l.getD k dU)) (c := chgM t hn ls (l.getD k dU))
        simp only [emU]; omega
    exact this _
theorem sumP_per {l : List Use} {tick : Int} (hp : ∀ u ∈ l, useP hn ls u) (ok : PerOK t hn ls l tick) {k : Key} (hk : kin' k) : sumP (outL (emL t hn ls l) tick (ordK (emL t hn ls l))) (pk k).1 (pk k).2.1 (pk k).2.2 = (chS t hn ls l k).tdiv 1000 := by
  rw [sumP_out hk (fun q hq => by
    obtain ⟨u, hu, rfl⟩ := emL_mem.1 (ordK_mem.1 hq)
    refine ⟨ukey_in ok hu, ?_⟩
    rw [emL_sum]; exact chS_nonneg hp (fun v hv => (ok.use v hv).2) _) ordK_nodup]
  by_cases m : k ∈ ordK (emL t hn ls l)
  · rw [if_pos m, emL_sum]
  · rw [if_neg m, ← emL_sum, sum_not (fun g => m (ordK_mem.2 g))]; rfl
/-- The gap that one use left out makes. -/
theorem omit_gap {l r : List Use} {u : Use} {tick : Int} (hp : ∀ v ∈ l ++ u :: r, useP hn ls v) (ok : PerOK t hn ls (l ++ u :: r) tick) {z : Gap} (hz : z ∈ specL (outL (emL t hn ls (l ++ u :: r)) tick (ordK (emL t hn ls (l ++ u :: r)))) (outL (emL t hn ls (l ++ r)) tick (ordK (emL t hn ls (l ++ r))))) :
    (z.1, z.2.1, z.2.2.1) = pk (ukey u) ∧ z.2.2.2.2 < z.2.2.2.1 := by
  have ok2 := per_less hp ok
  have hp2 : ∀ v ∈ l ++ r, useP hn ls v := fun v hv => hp v (by
    rcases List.mem_append.1 hv with h | h
    · exact List.mem_append.2 (.inl h)
    · exact List.mem_append.2 (.inr (List.mem_cons_of_mem _ h)))
  have hr : ∀ p ∈ outL (emL t hn ls (l ++ u :: r)) tick (ordK (emL t hn ls (l ++ u :: r))) ++ outL (emL t hn ls (l ++ r)) tick (ordK (emL t hn ls (l ++ r))), rgtO p := fun p hp => by
    rcases List.mem_append.1 hp with h | h
    · exact (out_ok ok).1 p h
    · exact (out_ok ok2).1 p h
  obtain ⟨p, hpm, rfl, hne⟩ := ((spec_mem hr).2 z).1 hz
  obtain ⟨k, hk, hpk⟩ : ∃ k, kin' k ∧ (p.1, p.2.1, p.2.2.2.2.1) = pk k := by
    rcases List.mem_append.1 hpm with h | h
    · obtain ⟨k, hk, _, rfl⟩ := pout_mem h
      obtain ⟨v, hv, rfl⟩ := emL_mem.1 (ordK_mem.1 hk)
      exact ⟨_, ukey_in ok hv, (pst_key (tick := tick)).1⟩
    · obtain ⟨k, hk, _, rfl⟩ := pout_mem h
      obtain ⟨v, hv, rfl⟩ := emL_mem.1 (ordK_mem.1 hk)
      exact ⟨_, ukey_in ok2 hv, (pst_key (tick := tick)).1⟩
  have e1 : p.1 = (pk k).1 := congrArg (·.1) hpk
  have e2 : p.2.1 = (pk k).2.1 := congrArg (·.2.1) hpk
  have e3 : p.2.2.2.2.1 = (pk k).2.2 := congrArg (·.2.2) hpk
  have s1 := sumP_per hp ok hk
  have s2 := sumP_per hp2 ok2 hk
  unfold gapP at hne ⊢
  dsimp only at hne ⊢
  rw [e1, e2, e3, s1, s2] at hne ⊢
  have hl := chS_less (t := t) (hn := hn) (ls := ls) (l := l) (r := r) (u := u) (q := k)
  have h2 := chS_nonneg hp2 (fun w hw => (ok2.use w hw).2) k
  have h3 := (chg_le (hp u (by simp)) (ok.use u (by simp)).2).1
  by_cases e : ukey u = k
  · rw [if_pos e] at hl
    subst e
    refine ⟨rfl, ?_⟩
    have := tdiv_mono h2 (b := chS t hn ls (l ++ u :: r) (ukey u)) (by omega)
    omega
  · rw [if_neg e, Int.add_zero] at hl
    rw [hl] at hne
    exact absurd rfl hne
theorem asc_one {l : List Gap} {a : Int × Int × Int} (h : AscG l) (ha : ∀ z ∈ l, (z.1, z.2.1, z.2.2.1) = a) : l.length ≤ 1 := by
  rcases l with _ | ⟨x, _ | ⟨y, l⟩⟩
  · simp
  · simp
  · have h1 := ha x (by simp)
    have h2 := ha y (by simp)
    unfold AscG at h
    rw [List.pairwise_cons] at h
    have h3 := h.1 y (by simp)
    rw [← h2] at h1
    simp only [Prod.mk.injEq] at h1
    unfold befG at h3
    omega
end
end Sim
