/- What functions of this seat compute, by values: contracts (lemmas of the statement's proof, under the conditions that each names). -/
import Derived.Test.YtpdaiflnibekaaaQY3
namespace Sim
open Go Go.Proofs
set_option maxRecDepth 10000
set_option maxHeartbeats 2000000
set_option linter.unusedVariables false
set_option linter.unusedSimpArgs false

/-! Sums over pairs. -/
theorem sumT_add {f g : Nat → Int} {s : Nat} : ∀ n, sumT (fun i => f i + g i) s n = sumT f s n + sumT g s n
  | 0 => rfl
  | n + 1 => by
    have := sumT_add (f := f) (g := g) (s := s) n
    simp only [sumT, this]
    split <;> omega
theorem sumT_le {f g : Nat → Int} {s : Nat} : ∀ {n}, (∀ i, i < n → s.testBit i = true → f i ≤ g i) → sumT f s n ≤ sumT g s n
  | 0, _ => Int.le_refl _
  | n + 1, h => by
    have := sumT_le (f := f) (g := g) (s := s) (n := n) fun i hi => h i (by omega)
    simp only [sumT]
    split
    · rename_i hb; have := h n (by omega) hb; omega
    · exact this
theorem sumT_mul {f : Nat → Int} {c : Int} {s : Nat} : ∀ n, sumT (fun i => f i * c) s n = sumT f s n * c
  | 0 => by simp [sumT]
  | n + 1 => by
    have := sumT_mul (f := f) (c := c) (s := s) n
    simp only [sumT, this]
    split
    · rw [Int.add_mul]
    · rfl
theorem sumT_split {f : Nat → Int} {s k : Nat} (hk : s.testBit k = false) : ∀ n, sumT (fun i => if k < i then f i else 0) s n = if n ≤ k then 0 else sumT f s n - sumT f s k
  | 0 => by simp [sumT]
  | n + 1 => by
    have ih := sumT_split (f := f) hk n
    simp only [sumT, ih]
    by_cases h1 : n + 1 ≤ k
    · rw [if_pos h1, if_pos (show n ≤ k by omega), if_neg (show ¬ k < n by omega)]
      split <;> omega
    · rw [if_neg h1]
      by_cases h2 : n = k
      · subst h2; simp [hk]
      · rw [if_neg (show ¬ n ≤ k by omega), if_pos (show k < n by omega)]
        split <;> omega
def prM (rs : List Rep) (i j : Nat) : Int := if tk rs i * ch rs j ≤ tk rs j * ch rs i then tk rs i * ch rs j else tk rs j * ch rs i
theorem prM_comm {rs : List Rep} {i j : Nat} : prM rs i j = prM rs j i := by
  unfold prM; split <;> split <;> omega
/-- What each order of a set costs at least. -/
def Wf (rs : List Rep) (s n : Nat) : Int := sumT (fun i => ch rs i * tk rs i + sumT (prM rs i) s i) s n
theorem W_or {rs : List Rep} {s k n : Nat} (hk : s.testBit k = false) (hn : k < n) : Wf rs (s ||| 2 ^ k) n = Wf rs s n + (ch rs k * tk rs k + sumT (fun i => prM rs i k) s n) := by
  have hb : ∀ i, (s ||| 2 ^ k).testBit i = (s.testBit i || decide (k = i)) := fun i => by rw [Nat.testBit_or, Nat.testBit_two_pow]
  unfold Wf
  rw [sumT_or hk hn]
  have hkk : sumT (prM rs k) (s ||| 2 ^ k) k = sumT (prM rs k) s k := sumT_congr fun i hi => ⟨by rw [hb]; simp [show ¬ k = i by omega], fun _ => rfl⟩
  have hin : ∀ i, i < n → s.testBit i = true → sumT (prM rs i) (s ||| 2 ^ k) i = sumT (prM rs i) s i + (if k < i then prM rs i k else 0) := fun i hi hbi => by
    by_cases h : k < i
    · rw [sumT_or hk h, if_pos h]
    · rw [if_neg h]
      have : sumT (prM rs i) (s ||| 2 ^ k) i = sumT (prM rs i) s i := sumT_congr fun j hj => ⟨by rw [hb]; simp [show ¬ k = j by omega], fun _ => rfl⟩
      omega
  have h1 : sumT (fun i => ch rs i * tk rs i + sumT (prM rs i) (s ||| 2 ^ k) i) s n = sumT (fun i => (ch rs i * tk rs i + sumT (prM rs i) s i) + (if k < i then prM rs i k else 0)) s n :=
    sumT_congr fun i hi => ⟨rfl, fun hbi => by rw [hin i hi hbi]; omega⟩
  rw [h1, sumT_add, hkk]
  have h2 := sumT_split (f := fun i => prM rs i k) hk n
  rw [if_neg (by omega)] at h2
  have h3 : sumT (prM rs k) s k = sumT (fun i => prM rs i k) s k := sumT_congr fun i hi => ⟨rfl, fun _ => prM_comm⟩
  rw [h2, h3]
  omega
theorem pc_step {st : Int} {rs : List Rep} {o : List Int} {j : Nat} (h : goodT rs.length o (j + 1) = true) :
    pc rs st o (j + 1) = pc rs st o j + (ch rs (oi o j) * tk rs (oi o j) + sumT (fun i => tk rs i * ch rs (oi o j)) (dT o j) rs.length) := by
  have hn := now_load (st := st) (good_succ h).1
  simp only [pc]
  have e : nowT rs st o (j + 1) = nowT rs st o j + tk rs (oi o j) := rfl
  rw [e, hn, sumT_mul]
  have : st + loadM rs (dT o j) + tk rs (oi o j) - st = loadM rs (dT o j) + tk rs (oi o j) := by omega
  rw [this, Int.mul_add, Int.mul_comm (ch rs (oi o j)) (loadM rs (dT o j))]
  unfold loadM
  omega
theorem pc_ge {st : Int} {rs : List Rep} {o : List Int} : ∀ {j}, goodT rs.length o j = true → Wf rs (dT o j) rs.length ≤ pc rs st o j
  | 0, _ => by simp only [pc, dT, Wf, sumT_zero]; exact Int.le_refl _
  | j + 1, h => by
    have ih := pc_ge (st := st) (good_succ h).1
    have ha := good_at h (Nat.lt_succ_self j)
    rw [pc_step h]
    simp only [dT]
    rw [W_or ha.2.1 ha.2.2]
    have := sumT_le (f := fun i => prM rs i (oi o j)) (g := fun i => tk rs i * ch rs (oi o j)) (s := dT o j) (n := rs.length) fun i hi _ => by
      unfold prM; split <;> omega
    omega
theorem pc_eq {st : Int} {rs : List Rep} {o : List Int} : ∀ {j}, goodT rs.length o j = true → (∀ a b, a < b → b < j → tk rs (oi o a) * ch rs (oi o b) ≤ tk rs (oi o b) * ch rs (oi o a)) → pc rs st o j = Wf rs (dT o j) rs.length
  | 0, _, _ => by simp only [pc, dT, Wf, sumT_zero]
  | j + 1, h, hs => by
    have ih := pc_eq (st := st) (good_succ h).1 fun a b hab hb => hs a b hab (by omega)
    have ha := good_at h (Nat.lt_succ_self j)
    rw [pc_step h]
    simp only [dT]
    rw [W_or ha.2.1 ha.2.2, ih]
    congr 2
    refine sumT_congr fun i hi => ⟨rfl, fun hb => ?_⟩
    obtain ⟨a, a1, a2⟩ := mem_dT.1 hb
    subst a2
    have := hs a j a1 (by omega)
    unfold prM
    rw [if_pos this]

/-! The repairs sorted by their chance per tick. -/
def before (rs : List Rep) (x y : Nat) : Prop := tk rs x * ch rs y ≤ tk rs y * ch rs x
def posF (rs : List Rep) (k : Nat) (l : List Nat) : Nat → Nat
  | 0 => 0
  | p + 1 => if ch rs (l.getD p 0) * tk rs k < ch rs k * tk rs (l.getD p 0) then posF rs k l p else p + 1
def ordT (rs : List Rep) : Nat → List Nat
  | 0 => []
  | k + 1 => (ordT rs k).take (posF rs k (ordT rs k) (ordT rs k).length) ++ k :: (ordT rs k).drop (posF rs k (ordT rs k) (ordT rs k).length)
theorem posF_le {rs : List Rep} {k : Nat} {l : List Nat} : ∀ p, posF rs k l p ≤ p
  | 0 => Nat.le_refl _
  | p + 1 => by
    have := posF_le (rs := rs) (k := k) (l := l) p
    simp only [posF]
    split <;> omega
theorem posF_hi {rs : List Rep} {k : Nat} {l : List Nat} : ∀ {p a}, posF rs k l p ≤ a → a < p → ch rs (l.getD a 0) * tk rs k < ch rs k * tk rs (l.getD a 0)
  | 0, a, _, h => by omega
  | p + 1, a, h1, h2 => by
    simp only [posF] at h1
    split at h1
    · rename_i hlt
      by_cases e : a = p
      · subst e; exact hlt
      · exact posF_hi h1 (by omega)
    · omega
theorem posF_lo {rs : List Rep} {k : Nat} {l : List Nat} : ∀ {p q}, posF rs k l p = q + 1 → ¬ ch rs (l.getD q 0) * tk rs k < ch rs k * tk rs (l.getD q 0)
  | 0, q, h => by cases h
  | p + 1, q, h => by
    simp only [posF] at h
    split at h
    · exact posF_lo h
    · rename_i hlt
      have : q = p := by omega
      subst this; exact hlt
theorem ord_len {rs : List Rep} : ∀ k, (ordT rs k).length = k
  | 0 => rfl
  | k + 1 => by
    have ih := ord_len (rs := rs) k
    have := posF_le (rs := rs) (k := k) (l := ordT rs k) (ordT rs k).length
    simp only [ordT, List.length_append, List.length_cons, List.length_take, List.length_drop]
    omega
theorem ord_mem {rs : List Rep} {x : Nat} : ∀ k, x ∈ ordT rs k ↔ x < k
  | 0 => by simp [ordT]
  | k + 1 => by
    have ih := ord_mem (rs := rs) (x := x) k
    have h : x ∈ ordT rs k ↔ x ∈ (ordT rs k).take (posF rs k (ordT rs k) (ordT rs k).length) ∨ x ∈ (ordT rs k).drop (posF rs k (ordT rs k) (ordT rs k).length) := by
      rw [← List.mem_append, List.take_append_drop]
    simp only [ordT, List.mem_append, List.mem_cons]
    rw [ih] at h
    constructor
    · rintro (h1 | h1 | h1)
      · have := h.2 (.inl h1); omega
      · omega
      · have := h.2 (.inr h1); omega
    · intro hx
      by_cases e : x = k
      · exact .inr (.inl e)
      · rcases h.1 (by omega) with h1 | h1
        · exact .inl h1
        · exact .inr (.inr h1)
theorem ord_nodup {rs : List Rep} : ∀ k, (ordT rs k).Nodup
  | 0 => List.nodup_nil
  | k + 1 => by
    have ih := ord_nodup (rs := rs) k
    have hm := fun x => ord_mem (rs := rs) (x := x) k
    rw [← List.take_append_drop (posF rs k (ordT rs k) (ordT rs k).length) (ordT rs k), List.nodup_append] at ih
    obtain ⟨h1, h2, h3⟩ := ih
    simp only [ordT]
    rw [List.nodup_append]
    refine ⟨h1, ?_, fun a ha b hb e => ?_⟩
    · rw [List.nodup_cons]
      refine ⟨fun hk => ?_, h2⟩
      have := (hm k).1 (List.mem_of_mem_drop hk); omega
    · subst e
      rcases List.mem_cons.1 hb with rfl | hb
      · have := (hm a).1 (List.mem_of_mem_take ha); omega
      · exact h3 a ha a hb rfl
theorem before_trans {rs : List Rep} {x y z : Nat} (hy : 0 < tk rs y) (hx : 0 ≤ tk rs x) (hz : 0 ≤ tk rs z) (h1 : before rs x y) (h2 : before rs y z) : before rs x z := by
  unfold before at *
  have a1 : tk rs x * ch rs y * tk rs z ≤ tk rs y * ch rs x * tk rs z := Int.mul_le_mul_of_nonneg_right h1 hz
  have a2 : tk rs y * ch rs z * tk rs x ≤ tk rs z * ch rs y * tk rs x := Int.mul_le_mul_of_nonneg_right h2 hx
  have e1 : tk rs z * ch rs y * tk rs x = tk rs x * ch rs y * tk rs z := by
    rw [Int.mul_comm (tk rs z * ch rs y) (tk rs x), ← Int.mul_assoc, Int.mul_comm (tk rs x) (tk rs z), Int.mul_assoc, Int.mul_comm (tk rs z), ]
  have e2 : tk rs y * ch rs z * tk rs x = tk rs x * ch rs z * tk rs y := by
    rw [Int.mul_comm (tk rs y) (ch rs z), Int.mul_assoc, Int.mul_comm (tk rs y) (tk rs x), ← Int.mul_assoc, Int.mul_comm (ch rs z) (tk rs x)]
  have e3 : tk rs y * ch rs x * tk rs z = tk rs z * ch rs x * tk rs y := by
    rw [Int.mul_comm (tk rs y) (ch rs x), Int.mul_assoc, Int.mul_comm (tk rs y) (tk rs z), ← Int.mul_assoc, Int.mul_comm (ch rs x) (tk rs z)]
  rw [e1, e2] at a2
  rw [e3] at a1
  exact Int.le_of_mul_le_mul_right (Int.le_trans a2 a1) hy
theorem ord_sorted {rs : List Rep} (ht : ∀ k, k < rs.length → 0 < tk rs k) : ∀ k, k ≤ rs.length → (ordT rs k).Pairwise (before rs)
  | 0, _ => List.Pairwise.nil
  | k + 1, hk => by
    have ih := ord_sorted ht k (by omega)
    have hm := fun x => ord_mem (rs := rs) (x := x) k
    have hl := ord_len (rs := rs) k
    simp only [ordT]
    generalize hp : posF rs k (ordT rs k) (ordT rs k).length = p
    have hle := posF_le (rs := rs) (k := k) (l := ordT rs k) (ordT rs k).length
    rw [hp] at hle
    have ihs := ih
    rw [← List.take_append_drop p (ordT rs k), List.pairwise_append] at ih
    obtain ⟨h1, h2, h3⟩ := ih
    have hlo : ∀ a ∈ (ordT rs k).take p, before rs a k := fun a ha => by
      cases p with
      | zero => simp at ha
      | succ q =>
        have hq := posF_lo hp
        have hqk : (ordT rs k).getD q 0 < k := (hm _).1 (getD_mem 0 (by omega))
        have hbq : before rs ((ordT rs k).getD q 0) k := by
          unfold before
          rw [Int.mul_comm (tk rs ((ordT rs k).getD q 0)), Int.mul_comm (tk rs k)]
          omega
        rw [take_succ_getD 0 (by omega), List.mem_append] at ha
        rcases ha with ha | ha
        · have hab : before rs a ((ordT rs k).getD q 0) := by
            rw [← List.take_append_drop q (ordT rs k), List.pairwise_append] at ihs
            refine ihs.2.2 a ha _ (List.mem_iff_getElem.2 ⟨0, by rw [List.length_drop]; omega, ?_⟩)
            rw [List.getElem_drop]
            simp [List.getD_eq_getElem?_getD, show q < (ordT rs k).length by omega]
          have hak : a < k := (hm a).1 (List.mem_of_mem_take ha)
          exact before_trans (ht _ (by omega)) (Int.le_of_lt (ht _ (by omega))) (Int.le_of_lt (ht _ (by omega))) hab hbq
        · simp only [List.mem_singleton] at ha
          subst ha; exact hbq
    have hhi : ∀ b ∈ (ordT rs k).drop p, before rs k b := fun b hb => by
      obtain ⟨i, hi, e⟩ := List.mem_iff_getElem.1 hb
      rw [List.getElem_drop] at e
      rw [List.length_drop] at hi
      have := posF_hi (rs := rs) (k := k) (l := ordT rs k) (p := (ordT rs k).length) (a := p + i) (by omega) (by omega)
      have e2 : (ordT rs k).getD (p + i) 0 = b := by rw [← e]; simp [List.getD_eq_getElem?_getD, show p + i < (ordT rs k).length by omega]
      rw [e2] at this
      unfold before
      rw [Int.mul_comm (tk rs k), Int.mul_comm (tk rs b)]
      omega
    rw [List.pairwise_append]
    refine ⟨h1, ?_, fun a ha b hb => ?_⟩
    · rw [List.pairwise_cons]; exact ⟨hhi, h2⟩
    · rcases List.mem_cons.1 hb with rfl | hb
      · exact hlo a ha
      · exact h3 a ha b hb
/-- The order as the program has it. -/
def ordI (l : List Nat) : List Int := l.map fun (k : Nat) => (k : Int)
theorem ordI_oi {l : List Nat} {j : Nat} (h : j < l.length) : oi (ordI l) j = l.getD j 0 ∧ (ordI l).getD j 0 = ((l.getD j 0 : Nat) : Int) := by
  unfold oi ordI; simp [List.getD_eq_getElem?_getD, h]
theorem ord_good {l : List Nat} {n : Nat} (hn : l.Nodup) (hm : ∀ x ∈ l, x < n) : ∀ j, j ≤ l.length → goodT n (ordI l) j = true
  | 0, _ => rfl
  | j + 1, hj => by
    obtain ⟨h1, h2⟩ := ordI_oi (l := l) (j := j) (by omega)
    have h3 := hm _ (getD_mem 0 (show j < l.length by omega))
    have h4 : (dT (ordI l) j).testBit (oi (ordI l) j) = false := by
      cases hb : (dT (ordI l) j).testBit (oi (ordI l) j) with
      | false => rfl
      | true =>
        obtain ⟨a, a1, a2⟩ := mem_dT.1 hb
        obtain ⟨g1, _⟩ := ordI_oi (l := l) (j := a) (by omega)
        rw [g1, h1] at a2
        have ha : a < l.length := by omega
        have hj' : j < l.length := by omega
        have e1 : l.getD a 0 = l[a] := by simp [List.getD_eq_getElem?_getD, ha]
        have e2 : l.getD j 0 = l[j] := by simp [List.getD_eq_getElem?_getD, hj']
        rw [e1, e2] at a2
        exact absurd a2 (List.pairwise_iff_getElem.1 hn a j ha hj' (by omega))
    simp only [goodT, ord_good hn hm j (by omega), h2, h4, Bool.not_false, Bool.and_true, Bool.true_and, decide_eq_true_eq]; omega
/-- **The repairs in order of their ratios cost the least, where nothing is bound.** -/
theorem ratio_best {st : Int} {rs : List Rep} (hc : OKc st rs) (ha : ∀ k, k < rs.length → ac rs k = 0) (hd : ∀ k, k < rs.length → st + loadM rs (2 ^ rs.length - 1) ≤ du rs k) :
    (costM st rs (ordI (ordT rs rs.length))).2 = 0 ∧ (bestM st rs).2 = 0 ∧ (costM st rs (bestM st rs).1).2 = 0 ∧ (costM st rs (bestM st rs).1).1 = (costM st rs (ordI (ordT rs rs.length))).1 := by
  have hl := ord_len (rs := rs) rs.length
  have hlI : (ordI (ordT rs rs.length)).length = rs.length := by simp [ordI, hl]
  have hg := ord_good (n := rs.length) (ord_nodup (rs := rs) rs.length) (fun x hx => (ord_mem _).1 hx) rs.length (by omega)
  have hsort := ord_sorted (fun k hk => by have := (hc.tk).2 k hk; omega) rs.length (Nat.le_refl _)
  have hoi := fun j (hj : j < rs.length) => (ordI_oi (l := ordT rs rs.length) (j := j) (by omega)).1
  generalize ho : ordI (ordT rs rs.length) = o at *
  have hfree : ∀ j, j ≤ rs.length → stT rs o j = false := fun j => by
    induction j with
    | zero => intro _; rfl
    | succ j ih =>
      intro hj
      simp only [stT, ih (by omega), Bool.false_or, Bool.not_eq_false']
      rw [ha _ (good_at hg (by omega)).2.2]
      exact sub_iff.2 fun i hi => by simp at hi
  have htime : ∀ j, j ≤ rs.length → lateT rs st o j = false := fun j => by
    induction j with
    | zero => intro _; rfl
    | succ j ih =>
      intro hj
      simp only [lateT, ih (by omega), Bool.false_or, decide_eq_false_iff_not]
      have h1 := hd _ (good_at hg (show j < rs.length by omega)).2.2
      have h2 := now_load (st := st) (good_le hg (i := j + 1) hj)
      have h3 : loadM rs (dT o (j + 1)) ≤ loadM rs (2 ^ rs.length - 1) := load_mono hc fun i hi _ => by rw [Nat.testBit_two_pow_sub_one]; simp [hi]
      omega
  have hfit : Fits st rs o rs.length := ⟨hg, hfree _ (Nat.le_refl _), htime _ (Nat.le_refl _)⟩
  have hco := cost_of (st := st) (check_zero.2 hc) hlI (by rw [hlI]; exact hfit)
  obtain ⟨v, hv, hle⟩ := V_order hco.1
  have hb : (bestM st rs).2 = 0 := (best_err (check_zero.2 hc)).1.2 (by rw [hv]; simp)
  obtain ⟨v', hv', c1, c2⟩ := best_cost hb
  rw [hv] at hv'; cases hv'
  refine ⟨hco.1, hb, c1, ?_⟩
  obtain ⟨g1, _, g3, g4⟩ := cost_pc c1
  have hge := pc_ge (st := st) g4.good
  have heq := pc_eq (st := st) hg (fun a b hab hb => by
    rw [hoi a (by omega), hoi b hb]
    have := List.pairwise_iff_getElem.1 hsort a b (by omega) (by omega) hab
    unfold before at this
    have e1 : (ordT rs rs.length).getD a 0 = (ordT rs rs.length)[a]'(by omega) := by simp [List.getD_eq_getElem?_getD, show a < (ordT rs rs.length).length by omega]
    have e2 : (ordT rs rs.length).getD b 0 = (ordT rs rs.length)[b]'(by omega) := by simp [List.getD_eq_getElem?_getD, show b < (ordT rs rs.length).length by omega]
    rw [e1, e2]; exact this)
  rw [(dT_full g4.good).2 g3] at hge
  rw [(dT_full hg).2 rfl] at heq
  have h1 := hco.2
  rw [hlI] at h1
  omega
end Sim
