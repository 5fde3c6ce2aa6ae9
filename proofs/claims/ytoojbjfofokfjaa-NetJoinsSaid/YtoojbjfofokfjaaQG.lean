/- What functions of this seat compute, by values: contracts (lemmas of the statement's proof, under the conditions that each names). -/
import Derived.Test.YtoojbjfofokfjaaQF
import Derived.Test.YtoojbjfofokfjaaQS2
namespace Sim
open Go Go.Proofs
set_option maxRecDepth 10000
set_option linter.unusedVariables false
set_option linter.unusedSimpArgs false

/-! Sums by link and tick: in the order of their first send, and in the schedule's order. -/
def same (x y : Snd) : Prop := x.2.1 = y.2.1 ∧ x.1 = y.1
instance {x y : Snd} : Decidable (same x y) := inferInstanceAs (Decidable (_ ∧ _))
def befS (x y : Snd) : Prop := x.2.1 < y.2.1 ∨ (x.2.1 = y.2.1 ∧ x.1 < y.1)
def Asc (l : List Snd) : Prop := l.Pairwise befS
theorem asc_keys {l : List Snd} (h : Asc l) : keysD l := h.imp fun h e => by unfold befS at h; omega
def getS : List Snd → Snd → Int
  | [], _ => 0
  | y :: l, x => if same x y then y.2.2 else getS l x
def addS : List Snd → Snd → List Snd
  | [], x => [x]
  | y :: l, x => if same x y then (x.1, x.2.1, y.2.2 + x.2.2) :: l else y :: addS l x
theorem getS_mem {x y : Snd} : ∀ {l : List Snd}, keysD l → y ∈ l → same x y → getS l x = y.2.2
  | [], _, h, _ => by simp at h
  | z :: l, hk, h, hs => by
    unfold keysD at hk
    rw [List.pairwise_cons] at hk
    unfold getS
    rcases List.mem_cons.1 h with rfl | h
    · rw [if_pos hs]
    · rw [if_neg, getS_mem hk.2 h hs]
      intro h1
      have := hk.1 y h
      unfold same at h1 hs
      omega
theorem getS_none {x : Snd} : ∀ {l : List Snd}, (∀ y ∈ l, ¬ same x y) → getS l x = 0
  | [], _ => rfl
  | z :: l, h => by
    unfold getS
    rw [if_neg (h z (by simp)), getS_none fun y hy => h y (by simp [hy])]
theorem keys_perm {l m : List Snd} (h : l.Perm m) : keysD l ↔ keysD m := h.pairwise_iff fun {x y} h e => h ⟨e.1.symm, e.2.symm⟩
theorem getS_perm {l m : List Snd} (h : l.Perm m) (hk : keysD l) (x : Snd) : getS l x = getS m x := by
  by_cases he : ∃ y ∈ l, same x y
  · obtain ⟨y, hy, hs⟩ := he
    rw [getS_mem hk hy hs, getS_mem ((keys_perm h).1 hk) (h.mem_iff.1 hy) hs]
  · have he : ∀ y ∈ l, ¬ same x y := fun y hy hs => he ⟨y, hy, hs⟩
    rw [getS_none he, getS_none fun y hy => he y (h.mem_iff.2 hy)]
/-- The sums with a send more, in some order. -/
def canS (l : List Snd) (x : Snd) : List Snd := (x.1, x.2.1, getS l x + x.2.2) :: l.filter fun y => decide (¬ same x y)
theorem filter_all {l : List Snd} {x : Snd} (h : ∀ y ∈ l, ¬ same x y) : (l.filter fun y => decide (¬ same x y)) = l := List.filter_eq_self.2 fun y hy => by simpa using h y hy
theorem addS_can {x : Snd} : ∀ {l : List Snd}, keysD l → (addS l x).Perm (canS l x)
  | [], _ => by simp [addS, canS, getS]
  | y :: l, hk => by
    unfold keysD at hk
    rw [List.pairwise_cons] at hk
    unfold addS canS
    by_cases hs : same x y
    · rw [if_pos hs, getS, if_pos hs, List.filter_cons_of_neg (by simpa using hs), filter_all fun z hz h1 => ?_]
      have := hk.1 z hz
      unfold same at h1 hs
      omega
    · rw [if_neg hs, getS, if_neg hs, List.filter_cons_of_pos (by simpa using hs)]
      exact ((addS_can (x := x) hk.2).cons y).trans (List.Perm.swap _ _ _)
theorem putM_can {x : Snd} : ∀ {l : List Snd}, Asc l → (putM l x).Perm (canS l x)
  | [], _ => by simp [putM, canS, getS]
  | y :: l, hk => by
    unfold Asc at hk
    rw [List.pairwise_cons] at hk
    unfold putM canS
    by_cases hs : y.2.1 = x.2.1 ∧ y.1 = x.1
    · have hs' : same x y := ⟨hs.1.symm, hs.2.symm⟩
      rw [if_pos hs, getS, if_pos hs', List.filter_cons_of_neg (by simpa using hs'), filter_all fun z hz h1 => ?_, hs.1, hs.2]
      have := hk.1 z hz
      unfold same at h1
      unfold befS at this
      omega
    · have hs' : ¬ same x y := fun h => hs ⟨h.1.symm, h.2.symm⟩
      rw [if_neg hs]
      split
      · rename_i hb
        have hall : ∀ z ∈ y :: l, ¬ same x z := fun z hz h1 => by
          rcases List.mem_cons.1 hz with rfl | hz
          · exact hs' h1
          · have := hk.1 z hz
            unfold same at h1
            unfold befS at this
            omega
        rw [getS_none hall, filter_all hall, Int.zero_add]
      · rw [getS, if_neg hs', List.filter_cons_of_pos (by simpa using hs')]
        exact ((putM_can (x := x) hk.2).cons y).trans (List.Perm.swap _ _ _)
theorem can_perm {l m : List Snd} (h : l.Perm m) (hk : keysD l) (x : Snd) : (canS l x).Perm (canS m x) := by
  unfold canS
  rw [getS_perm h hk]
  exact (h.filter _).cons _
theorem putM_mem {x z : Snd} : ∀ {l : List Snd}, z ∈ putM l x → (z.2.1 = x.2.1 ∧ z.1 = x.1) ∨ ∃ y ∈ l, z.2.1 = y.2.1 ∧ z.1 = y.1
  | [], h => by simp [putM] at h; subst h; exact .inl ⟨rfl, rfl⟩
  | y :: l, h => by
    unfold putM at h
    split at h
    · rename_i hs
      rcases List.mem_cons.1 h with rfl | h
      · exact .inl hs
      · exact .inr ⟨z, by simp [h], rfl, rfl⟩
    · split at h
      · rcases List.mem_cons.1 h with rfl | h
        · exact .inl ⟨rfl, rfl⟩
        · exact .inr ⟨z, h, rfl, rfl⟩
      · rcases List.mem_cons.1 h with rfl | h
        · exact .inr ⟨z, by simp, rfl, rfl⟩
        · rcases putM_mem h with h | ⟨w, hw, h⟩
          · exact .inl h
          · exact .inr ⟨w, by simp [hw], h⟩
theorem putM_asc {x : Snd} : ∀ {l : List Snd}, Asc l → Asc (putM l x)
  | [], _ => by simp [putM, Asc]
  | y :: l, hk => by
    unfold Asc at hk ⊢
    rw [List.pairwise_cons] at hk
    unfold putM
    split
    · rename_i hs
      rw [List.pairwise_cons]
      exact ⟨fun z hz => hk.1 z hz, hk.2⟩
    · split
      · rename_i hb
        rw [List.pairwise_cons, List.pairwise_cons]
        refine ⟨fun z hz => ?_, hk⟩
        rcases List.mem_cons.1 hz with rfl | hz
        · unfold befS; omega
        · have := hk.1 z hz
          unfold befS at this ⊢; omega
      · rw [List.pairwise_cons]
        refine ⟨fun z hz => ?_, putM_asc hk.2⟩
        rcases putM_mem hz with h | ⟨w, hw, h⟩
        · unfold befS; omega
        · have := hk.1 w hw
          unfold befS at this ⊢; omega
/-- The sums are the same. -/
def Rel (em out : List Snd) : Prop := em.Perm out ∧ Asc out
theorem rel_step {em out : List Snd} (h : Rel em out) (x : Snd) : Rel (addS em x) (putM out x) :=
  have hk := (keys_perm h.1).2 (asc_keys h.2)
  ⟨(addS_can hk).trans ((can_perm h.1 hk x).trans (putM_can h.2).symm), putM_asc h.2⟩
theorem rel_fold : ∀ (l : List Snd) {em out : List Snd}, Rel em out → Rel (l.foldl addS em) (l.foldl putM out)
  | [], em, out, h => h
  | x :: l, em, out, h => rel_fold l (rel_step h x)
def emT (L : List (List Snd)) : Nat → List Snd
  | 0 => []
  | k + 1 => (L.getD k []).foldl addS (emT L k)
theorem rel_T {L : List (List Snd)} : ∀ k, Rel (emT L k) (outT L k)
  | 0 => ⟨.refl _, List.Pairwise.nil⟩
  | k + 1 => rel_fold _ (rel_T k)
theorem Bnd.perm {l m : List Snd} {N : Nat} (h : l.Perm m) (hb : Bnd m N) : Bnd l N := ⟨by rw [h.length_eq]; exact hb.1, fun y hy => hb.2 y (h.mem_iff.1 hy)⟩
theorem getS_bnd {x : Snd} {N : Nat} : ∀ {l : List Snd}, (∀ y ∈ l, 0 ≤ y.2.2 ∧ y.2.2 ≤ (N : Int) * 1073741824) → 0 ≤ getS l x ∧ getS l x ≤ (N : Int) * 1073741824
  | [], _ => by simp [getS]; omega
  | y :: l, h => by
    unfold getS
    split
    · exact h y (by simp)
    · exact getS_bnd fun z hz => h z (by simp [hz])
/-- The keys of all are small. -/
def KeyB (l : List Snd) : Prop := ∀ y ∈ l, smS y
theorem putM_keyB {x : Snd} (hx : smS x) {l : List Snd} (h : KeyB l) : KeyB (putM l x) := fun z hz => by
  rcases putM_mem hz with h1 | ⟨w, hw, h1⟩
  · unfold smS at *; omega
  · have := h w hw; unfold smS at *; omega
theorem fold_keyB : ∀ {l : List Snd} {out : List Snd}, (∀ x ∈ l, smS x) → KeyB out → KeyB (l.foldl putM out)
  | [], out, _, h => h
  | x :: l, out, hx, h => fold_keyB (l := l) (out := putM out x) (fun z hz => hx z (by simp [hz])) (putM_keyB (hx x (by simp)) h)
theorem OKr.small {hn : Int} {ls : List Lnk} {l : List Snd} (ok : OKr hn ls l) : ∀ x ∈ l, smS x := fun x hx => by
  obtain ⟨k, hk, rfl⟩ := at_mem (d := dS) hx
  have h1 := ok.tick k hk
  have h2 := ok.link k hk
  have h3 := ok.net.len
  unfold smS
  omega
theorem outT_keyB {hn : Int} {ls : List Lnk} {L : List (List Snd)} : ∀ {k}, (∀ i, i < k → OKr hn ls (L.getD i [])) → KeyB (outT L k)
  | 0, _ => by simp [outT, KeyB]
  | k + 1, h => fold_keyB (h k (by omega)).small (outT_keyB fun i hi => h i (by omega))
theorem leS_iff {a b : Snd} : leS a b = true ↔ a.2.1 < b.2.1 ∨ (a.2.1 = b.2.1 ∧ a.1 ≤ b.1) := by
  have h : leS a b = true ↔ ¬ cfS b a < 0 := by simp [leS]
  rw [h]
  unfold cfS
  by_cases e : b.2.1 = a.2.1
  · rw [if_pos e]; omega
  · rw [if_neg e]; omega
/-- Sorted, it is the schedule. -/
theorem sort_rel {v em out : List Snd} (h : Rel em out) (hv : v.Perm em) : v.mergeSort leS = out := by
  have hk := asc_keys h.2
  refine List.Perm.eq_of_pairwise (le := fun a b => leS a b = true) ?_ (List.pairwise_mergeSort ?_ ?_ v) ?_ ((List.mergeSort_perm v leS).trans (hv.trans h.1))
  · intro a b ha hb h1 h2
    have ha : a ∈ out := (((List.mergeSort_perm v leS).trans (hv.trans h.1)).mem_iff).1 ha
    rw [leS_iff] at h1 h2
    have hs : a.1 = b.1 ∧ a.2.1 = b.2.1 := by omega
    have f1 := fofD hk a ha
    have f2 := fofD hk b hb
    rw [hs.1, hs.2, ← f2] at f1
    exact Prod.ext hs.1 (Prod.ext hs.2 f1)
  · intro a b c h1 h2
    rw [leS_iff] at *
    omega
  · intro a b
    rw [Bool.or_eq_true, leS_iff, leS_iff]
    omega
  · exact h.2.imp fun {a b} h => by
      rw [leS_iff]
      unfold befS at h
      omega
/-! The map's entries. -/
def encS (s : Snd) : PV × PV := (.agg [I s.2.1, I s.1], I s.2.2)
theorem sameK_S {a b c d : Int} : sameK (.agg [I a, I b]) (.agg [I c, I d]) = decide (a = c ∧ b = d) := by
  have hb : ∀ x y : Int, (x == y) = decide (x = y) := fun x y => rfl
  simp [sameK, sameL, Bool.decide_and, hb]
theorem mget_S {x : Snd} : ∀ {em : List Snd}, (mget (em.map encS) (.agg [I x.2.1, I x.1])).getD (I 0) = I (getS em x)
  | [] => rfl
  | y :: em => by
    simp only [List.map_cons, mget, encS, sameK_S, getS, decide_eq_true_eq]
    by_cases h : x.2.1 = y.2.1 ∧ x.1 = y.1
    · rw [if_pos h, if_pos (show same x y from h)]; rfl
    · rw [if_neg h, if_neg (show ¬ same x y from h)]; exact mget_S
theorem mput_S {x : Snd} : ∀ {em : List Snd}, mput (em.map encS) (.agg [I x.2.1, I x.1]) (I (getS em x + x.2.2)) = (addS em x).map encS
  | [] => by simp [mput, addS, encS, getS]
  | y :: em => by
    simp only [List.map_cons, mput, sameK_S, getS, addS, decide_eq_true_eq]
    by_cases h : x.2.1 = y.2.1 ∧ x.1 = y.1
    · rw [show sameK (.agg [I x.2.1, I x.1]) (encS y).1 = true by simp [encS, sameK_S, h], if_pos rfl, if_pos (show same x y from h), if_pos (show same x y from h)]; rfl
    · rw [show sameK (.agg [I x.2.1, I x.1]) (encS y).1 = false by simp only [encS, sameK_S]; exact decide_eq_false h, if_neg (by simp), if_neg (show ¬ same x y from h), if_neg (show ¬ same x y from h), List.map_cons, mput_S]
/-- What has been seen of the entries. -/
def SeenAt (em : List Snd) (seen : List Nat) (out : List Snd) : Prop := seen.Nodup ∧ (∀ i ∈ seen, i < em.length) ∧ out = seen.map fun i => em.getD i dS
theorem nodup_leq : ∀ (L : Nat) (l : List Nat), l.Nodup → (∀ x ∈ l, x < L) → l.length ≤ L
  | 0, l, _, h => by
    cases l with
    | nil => exact Nat.le_refl _
    | cons a l => exact absurd (h a (by simp)) (by omega)
  | L + 1, l, hn, h => by
    by_cases hm : L ∈ l
    · have h1 := nodup_leq L (l.erase L) (hn.erase L) (fun x hx => by
        have h2 := (hn.mem_erase_iff).1 hx
        have := h x h2.2
        omega)
      rw [List.length_erase_of_mem hm] at h1
      omega
    · have := nodup_leq L l hn (fun x hx => by
        have h1 := h x hx
        have : x ≠ L := fun e => hm (e ▸ hx)
        omega)
      omega
theorem nodup_range : ∀ (L : Nat) (l : List Nat), l.Nodup → (∀ x ∈ l, x < L) → l.length = L → l.Perm (List.range L)
  | 0, l, _, h, hl => by
    cases l with
    | nil => exact .refl _
    | cons a l => simp at hl
  | L + 1, l, hn, h, hl => by
    have hm : L ∈ l := by
      apply Classical.byContradiction
      intro hm
      have := nodup_leq L l hn (fun x hx => by
        have h1 := h x hx
        have : x ≠ L := fun e => hm (e ▸ hx)
        omega)
      omega
    have ih := nodup_range L (l.erase L) (hn.erase L) (fun x hx => by
        have h2 := (hn.mem_erase_iff).1 hx
        have := h x h2.2
        omega) (by rw [List.length_erase_of_mem hm]; omega)
    rw [List.range_succ]
    exact (List.perm_cons_erase hm).trans ((ih.cons L).trans (List.perm_append_comm (l₁ := [L])))
theorem seen_end {em : List Snd} {seen : List Nat} {out : List Snd} (h : SeenAt em seen out) (hl : seen.length = em.length) : out.Perm em := by
  obtain ⟨h1, h2, rfl⟩ := h
  have := (nodup_range _ seen h1 h2 hl).map fun i => em.getD i dS
  refine this.trans (.of_eq ?_)
  apply List.ext_getElem
  · simp
  · intro i g1 g2
    simp [g2]
theorem seen_next {em : List Snd} {seen : List Nat} {out : List Snd} (h : SeenAt em seen out) {j : Nat} (hj : j < em.length) (hn : j ∉ seen) : SeenAt em (seen ++ [j]) (out ++ [em.getD j dS]) := by
  obtain ⟨h1, h2, rfl⟩ := h
  refine ⟨?_, ?_, by simp⟩
  · rw [List.nodup_append]
    exact ⟨h1, by simp, fun a ha b hb e => by simp at hb; subst hb; subst e; exact hn ha⟩
  · intro i hi
    rcases List.mem_append.1 hi with hi | hi
    · exact h2 i hi
    · simp at hi; subst hi; exact hj
end Sim
