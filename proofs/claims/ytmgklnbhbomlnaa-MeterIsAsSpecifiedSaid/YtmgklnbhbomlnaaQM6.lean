/- What functions of this seat compute, by values: contracts (lemmas of the statement's proof, under the conditions that each names). -/
import Derived.Test.YtmgklnbhbomlnaaQM3
import Derived.Test.YtmgklnbhbomlnaaQM5
namespace Sim
open Go Go.Proofs
set_option maxRecDepth 10000
set_option linter.unusedVariables false
set_option linter.unusedSimpArgs false
abbrev Em := Key × Int
abbrev dE : Em := (dK, 0)
def encE3 (x : Em) : PV × PV := (keyV x.1, I x.2)
def sumO : List Em → Key → Int
  | [], _ => 0
  | x :: em, k => if x.1 = k then x.2 else sumO em k
def addE : List Em → Key → Int → List Em
  | [], k, c => [(k, c)]
  | x :: em, k, c => if x.1 = k then (k, x.2 + c) :: em else x :: addE em k c
theorem sameK_K {a k : Key} : sameK (keyV k) (keyV a) = decide (a = k) := by
  have hb : ∀ x y : Int, (x == y) = decide (x = y) := fun x y => rfl
  obtain ⟨a1, a2, a3⟩ := a
  obtain ⟨k1, k2, k3⟩ := k
  have : ((a1, a2, a3) = (k1, k2, k3)) ↔ (k1 = a1 ∧ k2 = a2 ∧ k3 = a3) := by simp only [Prod.mk.injEq]; omega
  simp only [this]
  simp [sameK, sameL, Bool.decide_and, hb]
theorem mget_E {k : Key} : ∀ {em : List Em}, (mget (em.map encE3) (.agg [I k.1, I k.2.1, I k.2.2])).getD (I 0) = I (sumO em k)
  | [] => rfl
  | x :: em => by
    have h : sameK (.agg [I k.1, I k.2.1, I k.2.2]) (encE3 x).1 = decide (x.1 = k) := sameK_K
    simp only [List.map_cons, mget, h, sumO, decide_eq_true_eq]
    by_cases c : x.1 = k
    · rw [if_pos c, if_pos c]; rfl
    · rw [if_neg c, if_neg c]; exact mget_E
theorem mput_E {k : Key} {c : Int} : ∀ {em : List Em}, mput (em.map encE3) (.agg [I k.1, I k.2.1, I k.2.2]) (I (sumO em k + c)) = (addE em k c).map encE3
  | [] => by simp [mput, addE, encE3, sumO]
  | x :: em => by
    have h : sameK (.agg [I k.1, I k.2.1, I k.2.2]) (encE3 x).1 = decide (x.1 = k) := sameK_K
    simp only [List.map_cons, mput, h, sumO, addE, decide_eq_true_eq]
    by_cases e : x.1 = k
    · rw [if_pos e, if_pos e, if_pos e]; rfl
    · rw [if_neg e, if_neg e, if_neg e, List.map_cons, mput_E]
theorem sumO_add {k q : Key} {c : Int} : ∀ {em : List Em}, sumO (addE em k c) q = sumO em q + if k = q then c else 0
  | [] => by simp [addE, sumO]
  | x :: em => by
    have ih := sumO_add (k := k) (q := q) (c := c) (em := em)
    simp only [addE, sumO]
    by_cases e : x.1 = k
    · rw [if_pos e]
      simp only [sumO]
      by_cases e2 : k = q
      · rw [if_pos e2, if_pos (by rw [e, e2]), if_pos e2]
      · rw [if_neg e2, if_neg (by rw [e]; exact e2), if_neg e2]; omega
    · rw [if_neg e]
      simp only [sumO]
      by_cases e2 : x.1 = q
      · rw [if_pos e2, if_pos e2, if_neg (fun g => e (by rw [e2, g]))]; omega
      · rw [if_neg e2, if_neg e2, ih]
def keysE (em : List Em) : List Key := em.map fun x => x.1
theorem keys_cons {x : Em} {em : List Em} : keysE (x :: em) = x.1 :: keysE em := rfl
theorem keys_add {k : Key} {c : Int} : ∀ {em : List Em}, keysE (addE em k c) = if k ∈ keysE em then keysE em else keysE em ++ [k]
  | [] => by simp [addE, keysE]
  | x :: em => by
    have ih := keys_add (k := k) (c := c) (em := em)
    rw [keys_cons]
    simp only [addE]
    by_cases e : x.1 = k
    · rw [if_pos e, keys_cons, if_pos (by rw [e]; simp), e]
    · rw [if_neg e, keys_cons, ih]
      by_cases m : k ∈ keysE em
      · rw [if_pos m, if_pos (List.mem_cons_of_mem _ m)]
      · rw [if_neg m, if_neg (fun g => (List.mem_cons.1 g).elim (fun g => e g.symm) m)]; rfl
theorem nodup_add {k : Key} {c : Int} {em : List Em} (h : (keysE em).Nodup) : (keysE (addE em k c)).Nodup := by
  rw [keys_add]
  split
  · exact h
  · rename_i m
    refine List.nodup_append.2 ⟨h, by simp, fun a ha b hb e => ?_⟩
    simp only [List.mem_singleton] at hb
    subst hb; subst e; exact m ha
theorem sum_mem {em : List Em} (h : (keysE em).Nodup) : ∀ x ∈ em, x.2 = sumO em x.1 := by
  induction em with
  | nil => intro x hx; simp at hx
  | cons y em ih =>
    intro x hx
    simp only [keysE, List.map_cons, List.nodup_cons] at h
    rcases List.mem_cons.1 hx with e | hx
    · subst e; simp [sumO]
    · have : ¬ y.1 = x.1 := fun e => h.1 (by rw [e]; exact List.mem_map.2 ⟨x, hx, rfl⟩)
      simp only [sumO]
      rw [if_neg this]
      exact ih h.2 x hx
theorem sum_not {em : List Em} {k : Key} (h : k ∉ keysE em) : sumO em k = 0 := by
  induction em with
  | nil => rfl
  | cons y em ih =>
    simp only [keysE, List.map_cons, List.mem_cons, not_or] at h
    simp only [sumO]
    rw [if_neg (fun e => h.1 e.symm)]
    exact ih h.2
theorem add_len {k : Key} {c : Int} : ∀ {em : List Em}, (addE em k c).length ≤ em.length + 1
  | [] => by simp [addE]
  | x :: em => by
    have ih := add_len (k := k) (c := c) (em := em)
    simp only [addE]
    split
    · simp
    · simp only [List.length_cons]; omega
def rkey (r : Rst) : Key := (r.1, r.2.1, r.2.2.1)
def ukey (u : Use) : Key := (u.2.2.1, u.2.1, u.1)
def rstO (n : Nat) (rs : List Rst) (k : Nat) : Prop := parO n (rs.getD k dR).2.2.1 (rs.getD k dR).2.1 (rs.getD k dR).1 ∧ (1 ≤ (rs.getD k dR).2.2.2 ∧ (rs.getD k dR).2.2.2 ≤ 999) ∧ (0 < k → ltK (rkey (rs.getD (k - 1) dR)) (rkey (rs.getD k dR)))
def emR (rs : List Rst) : Nat → List Em
  | 0 => []
  | k + 1 => addE (emR rs k) (rkey (rs.getD k dR)) (rs.getD k dR).2.2.2
def emU (t : List Tar) (hn : Int) (ls : List Lnk) (l : List Use) (em : List Em) : Nat → List Em
  | 0 => em
  | k + 1 => addE (emU t hn ls l em k) (ukey (l.getD k dU)) (chgM t hn ls (l.getD k dU))
/-- The first error of the first charges. -/
def chK (t : List Tar) (hn : Int) (ls : List Lnk) (l : List Use) : Nat → Int
  | 0 => 0
  | k + 1 => if ¬ chK t hn ls l k = 0 then chK t hn ls l k else chgE t hn ls (l.getD k dU)
def emA (rs : List Rst) (t : List Tar) (hn : Int) (ls : List Lnk) (l : List Use) : List Em := emU t hn ls l (emR rs rs.length) l.length
def bigE (em : List Em) : Prop := ∃ x ∈ em, 1099511627776 < x.2.tdiv 1000
noncomputable def perE (rs : List Rst) (t : List Tar) (hn : Int) (ls : List Lnk) (l : List Use) (tick : Int) : Int :=
  if ¬ mchkE t l = 0 then mchkE t l else if ¬ inM tick 1000000 then 3 else @ite _ (¬ ∀ k, k < rs.length → rstO t.length rs k) (Classical.propDecidable _) 1 (if ¬ chK t hn ls l l.length = 0 then chK t hn ls l l.length else @ite _ (bigE (emA rs t hn ls l)) (Classical.propDecidable _) 2 0)
def ordK (em : List Em) : List Key := (keysE em).mergeSort leK
def pstK (tick : Int) (k : Key) (s : Int) : Pst := if k.2.2 = 5 then (12 + k.1, k.2.1, s.tdiv 1000, tick, k.2.2, 0) else (k.2.1, 12 + k.1, s.tdiv 1000, tick, k.2.2, 0)
def outL (em : List Em) (tick : Int) (ks : List Key) : List Pst := (ks.filter fun k => decide (0 < (sumO em k).tdiv 1000)).map fun k => pstK tick k (sumO em k)
def rstK (k : Key) (s : Int) : Rst := (k.1, k.2.1, k.2.2, s.tmod 1000)
def outR (em : List Em) (ks : List Key) : List Rst := (ks.filter fun k => decide (0 < (sumO em k).tmod 1000)).map fun k => rstK k (sumO em k)
noncomputable def perL (rs : List Rst) (t : List Tar) (hn : Int) (ls : List Lnk) (l : List Use) (tick : Int) : List Pst := if perE rs t hn ls l tick = 0 then outL (emA rs t hn ls l) tick (ordK (emA rs t hn ls l)) else []
noncomputable def perR (rs : List Rst) (t : List Tar) (hn : Int) (ls : List Lnk) (l : List Use) (tick : Int) : List Rst := if perE rs t hn ls l tick = 0 then outR (emA rs t hn ls l) (ordK (emA rs t hn ls l)) else []
theorem ch_stay {t : List Tar} {hn : Int} {ls : List Lnk} {l : List Use} {k : Nat} (h : ¬ chK t hn ls l k = 0) : ∀ m, chK t hn ls l (k + m) = chK t hn ls l k
  | 0 => rfl
  | m + 1 => by
    have ih := ch_stay h m
    show chK t hn ls l (k + m + 1) = _
    simp only [chK]
    rw [if_pos (by rw [ih]; exact h), ih]
theorem ch_at {t : List Tar} {hn : Int} {ls : List Lnk} {l : List Use} {k : Nat} (hk : k < l.length) (h0 : chK t hn ls l k = 0) (h : ¬ chgE t hn ls (l.getD k dU) = 0) : chK t hn ls l l.length = chgE t hn ls (l.getD k dU) := by
  have e : chK t hn ls l (k + 1) = chgE t hn ls (l.getD k dU) := by simp only [chK]; rw [if_neg (fun g => g h0)]
  have := ch_stay (t := t) (hn := hn) (ls := ls) (l := l) (k := k + 1) (by rw [e]; exact h) (l.length - (k + 1))
  rwa [show k + 1 + (l.length - (k + 1)) = l.length by omega, e] at this
def EmIn (em : List Em) (b : Int) : Prop := (keysE em).Nodup ∧ ∀ k, 0 ≤ sumO em k ∧ sumO em k ≤ b
theorem emin_add {em : List Em} {b c d : Int} {k : Key} (h : EmIn em b) (hc : 0 ≤ c ∧ c ≤ d) : EmIn (addE em k c) (b + d) := by
  refine ⟨nodup_add h.1, fun q => ?_⟩
  rw [sumO_add]
  have := h.2 q
  split <;> omega
theorem emR_in {n : Nat} {rs : List Rst} : ∀ k, (∀ j, j < k → rstO n rs j) → EmIn (emR rs k) (999 * (k : Int)) ∧ (emR rs k).length ≤ k
  | 0, _ => ⟨⟨by simp [emR, keysE], fun q => by simp [emR, sumO]⟩, by simp [emR]⟩
  | k + 1, h => by
    obtain ⟨h1, h2⟩ := emR_in (n := n) (rs := rs) k fun j hj => h j (by omega)
    have hr := (h k (by omega)).2.1
    have := emin_add (k := rkey (rs.getD k dR)) (c := (rs.getD k dR).2.2.2) (d := 999) h1 ⟨by omega, hr.2⟩
    refine ⟨?_, ?_⟩
    · have e : 999 * ((k + 1 : Nat) : Int) = 999 * (k : Int) + 999 := by omega
      rw [e]; exact this
    · have := add_len (em := emR rs k) (k := rkey (rs.getD k dR)) (c := (rs.getD k dR).2.2.2)
      simp only [emR]; omega
theorem emU_in {t : List Tar} {hn : Int} {ls : List Lnk} {l : List Use} {em : List Em} {b : Int} (hp : ∀ u ∈ l, useP hn ls u) (hem : EmIn em b) : ∀ k, k ≤ l.length → chK t hn ls l k = 0 → EmIn (emU t hn ls l em k) (b + 16777216000000000 * (k : Int)) ∧ (emU t hn ls l em k).length ≤ em.length + k
  | 0, _, _ => ⟨by simp [emU]; exact hem, by simp [emU]⟩
  | k + 1, hk, h => by
    have h0 : chK t hn ls l k = 0 := by
      apply Classical.byContradiction
      intro hc
      simp only [chK] at h
      rw [if_pos hc] at h; exact hc h
    have he : chgE t hn ls (l.getD k dU) = 0 := by
      simp only [chK] at h
      rwa [if_neg (fun g => g h0)] at h
    obtain ⟨h1, h2⟩ := emU_in hp hem k (by omega) h0
    have hc := chg_le (hp _ (at_mem' (show k < l.length by omega))) he
    have := emin_add (k := ukey (l.getD k dU)) h1 hc
    refine ⟨?_, ?_⟩
    · have e : b + 16777216000000000 * ((k + 1 : Nat) : Int) = b + 16777216000000000 * (k : Int) + 16777216000000000 := by omega
      rw [e]; exact this
    · have := add_len (em := emU t hn ls l em k) (k := ukey (l.getD k dU)) (c := chgM t hn ls (l.getD k dU))
      simp only [emU]; omega
end Sim
