/- What functions of this seat compute, by values: contracts (lemmas of the statement's proof, under the conditions that each names). -/
import Derived.Test.YtpdaiflnibekaaaQL
namespace Sim
open Go Go.Proofs
set_option maxRecDepth 10000
set_option maxHeartbeats 2000000
set_option linter.unusedVariables false
set_option linter.unusedSimpArgs false

/-! Values of sets, as a map's entries. -/
def aget : List (Nat × Int) → Nat → Option Int
  | [], _ => none
  | e :: es, k => if k = e.1 then some e.2 else aget es k
def aput : List (Nat × Int) → Nat → Int → List (Nat × Int)
  | [], k, v => [(k, v)]
  | e :: es, k, v => if k = e.1 then (k, v) :: es else e :: aput es k v
abbrev encE (es : List (Nat × Int)) : List (PV × PV) := es.map fun e => (I e.1, I e.2)
theorem sameK_nat {a b : Nat} : sameK (I a) (I b) = decide (a = b) := by
  simp only [sameK, decide_true, Bool.true_and]
  by_cases h : a = b
  · simp [h]
  · have : ¬ (a : Int) = b := by omega
    simp [h, this]
theorem mget_enc {k : Nat} : ∀ {es : List (Nat × Int)}, mget (encE es) (I k) = (aget es k).map (PV.int .i64)
  | [] => rfl
  | e :: es => by
    have ih := mget_enc (k := k) (es := es)
    simp only [encE, List.map_cons, mget, aget, sameK_nat, decide_eq_true_eq] at ih ⊢
    split
    · rfl
    · exact ih
theorem mput_enc {k : Nat} {v : Int} : ∀ {es : List (Nat × Int)}, mput (encE es) (I k) (I v) = encE (aput es k v)
  | [] => rfl
  | e :: es => by
    have ih := mput_enc (k := k) (v := v) (es := es)
    simp only [encE, List.map_cons, mput, aput, sameK_nat, decide_eq_true_eq] at ih ⊢
    split
    · rfl
    · rw [ih]; rfl
theorem aget_put {k t : Nat} {v : Int} : ∀ {es : List (Nat × Int)}, aget (aput es k v) t = if t = k then some v else aget es t
  | [] => by simp only [aput, aget]
  | e :: es => by
    have ih := aget_put (k := k) (t := t) (v := v) (es := es)
    by_cases h : k = e.1
    · simp only [aput, h, if_true, aget]
      split <;> simp [*]
    · simp only [aput, h, if_false, aget, ih]
      by_cases h2 : t = e.1
      · simp [h2, show ¬ e.1 = k from fun x => h x.symm]
      · simp [h2]
def updV (s : Nat) (vs : List (Nat × Int)) (x : Nat × Int) : List (Nat × Int) :=
  match aget vs (s ||| 2 ^ x.1) with
  | none => vs
  | some r => match aget vs s with
    | none => aput vs s (x.2 + r)
    | some old => if x.2 + r < old then aput vs s (x.2 + r) else vs
def allS (rs : List Rep) : Nat := 2 ^ rs.length - 1
def valsT (st : Int) (rs : List Rep) : Nat → List (Nat × Int)
  | 0 => [(allS rs, 0)]
  | j + 1 => (nextM st rs (allS rs - 1 - j)).foldl (updV (allS rs - 1 - j)) (valsT st rs j)
def valsM (st : Int) (rs : List Rep) : List (Nat × Int) := valsT st rs (allS rs)
/-- The least cost from a set on. -/
def V (st : Int) (rs : List Rep) (s : Nat) : Option Int := aget (valsM st rs) s
def minS (f : Nat → Option Int) (s : Nat) (acc : Option Int) (x : Nat × Int) : Option Int :=
  match f (s ||| 2 ^ x.1) with
  | none => acc
  | some r => match acc with
    | none => some (x.2 + r)
    | some old => if x.2 + r < old then some (x.2 + r) else some old
theorem upd_other {s t : Nat} {vs : List (Nat × Int)} {x : Nat × Int} (h : t ≠ s) : aget (updV s vs x) t = aget vs t := by
  unfold updV
  split
  · rfl
  · split
    · rw [aget_put, if_neg h]
    · split
      · rw [aget_put, if_neg h]
      · rfl
theorem upd_self {s : Nat} {vs : List (Nat × Int)} {x : Nat × Int} : aget (updV s vs x) s = minS (aget vs) s (aget vs s) x := by
  unfold updV minS
  split
  · rfl
  · split
    · rename_i h; rw [aget_put, if_pos rfl]
    · rename_i h
      split
      · rw [aget_put, if_pos rfl]
      · exact h
theorem fold_other {s t : Nat} (h : t ≠ s) : ∀ (l : List (Nat × Int)) {vs : List (Nat × Int)}, aget (l.foldl (updV s) vs) t = aget vs t
  | [], vs => rfl
  | x :: l, vs => by rw [List.foldl_cons, fold_other h l, upd_other h]
theorem minS_congr {f g : Nat → Option Int} {s : Nat} (h : ∀ t, t ≠ s → f t = g t) : ∀ (l : List (Nat × Int)) {acc : Option Int}, (∀ x ∈ l, s ||| 2 ^ x.1 ≠ s) → l.foldl (minS f s) acc = l.foldl (minS g s) acc
  | [], acc, _ => rfl
  | x :: l, acc, hx => by
    rw [List.foldl_cons, List.foldl_cons, minS_congr h l fun y hy => hx y (by simp [hy])]
    congr 1
    unfold minS
    rw [h _ (hx x (by simp))]
theorem fold_self {s : Nat} : ∀ (l : List (Nat × Int)) {vs : List (Nat × Int)}, (∀ x ∈ l, s ||| 2 ^ x.1 ≠ s) → aget (l.foldl (updV s) vs) s = l.foldl (minS (aget vs) s) (aget vs s)
  | [], vs, _ => rfl
  | x :: l, vs, hx => by
    rw [List.foldl_cons, fold_self l fun y hy => hx y (by simp [hy]), upd_self, List.foldl_cons]
    exact minS_congr (fun t ht => upd_other ht) l fun y hy => hx y (by simp [hy])
theorem step_ok {st : Int} {rs : List Rep} {s k : Nat} (h : stepOK st rs s k = true) : s.testBit k = false ∧ sub (ac rs k) s = true ∧ st + loadM rs s + tk rs k ≤ du rs k := by
  simpa [stepOK] using h
theorem or_gt {s k : Nat} (h : s.testBit k = false) : s < s ||| 2 ^ k := by
  rw [or_add h]; have := Nat.two_pow_pos k; omega
theorem next_or {st : Int} {rs : List Rep} {s : Nat} {x : Nat × Int} (h : x ∈ nextM st rs s) : s < s ||| 2 ^ x.1 := or_gt (step_ok (next_mem.1 h).2.1).1
theorem next_le {st : Int} {rs : List Rep} {s : Nat} (hs : s ≤ allS rs) {x : Nat × Int} (h : x ∈ nextM st rs s) : s ||| 2 ^ x.1 ≤ allS rs := by
  have h1 := (next_mem.1 h).1
  have hp := one_le_pow rs.length
  unfold allS at *
  have := or_lt rs.length (a := s) (b := 2 ^ x.1) (by omega) (Nat.pow_lt_pow_right (by omega) h1)
  omega
theorem vals_low {st : Int} {rs : List Rep} : ∀ (j : Nat) {t : Nat}, j ≤ allS rs → (t < allS rs - j ∨ allS rs < t) → aget (valsT st rs j) t = none
  | 0, t, _, h => by simp only [valsT, aget]; rw [if_neg (by omega)]
  | j + 1, t, hj, h => by
    simp only [valsT]
    rw [fold_other (by omega)]
    exact vals_low j (by omega) (by omega)
theorem vals_keep {st : Int} {rs : List Rep} {j t : Nat} (ht : allS rs - j ≤ t) (htl : t ≤ allS rs) : ∀ (m : Nat), j + m ≤ allS rs → aget (valsT st rs (j + m)) t = aget (valsT st rs j) t
  | 0, _ => rfl
  | m + 1, h => by
    show aget ((nextM st rs (allS rs - 1 - (j + m))).foldl (updV (allS rs - 1 - (j + m))) (valsT st rs (j + m))) t = _
    have h' : j + m < allS rs := by omega
    rw [fold_other (by omega)]
    exact vals_keep ht htl m (by omega)
theorem vals_V {st : Int} {rs : List Rep} {j t : Nat} (hj : j ≤ allS rs) (ht : allS rs - j ≤ t) : aget (valsT st rs j) t = V st rs t := by
  by_cases htl : t ≤ allS rs
  · have := vals_keep (st := st) ht htl (allS rs - j) (by omega)
    rw [show j + (allS rs - j) = allS rs by omega] at this
    exact this.symm
  · rw [vals_low j hj (by omega)]
    exact (vals_low _ (Nat.le_refl _) (by omega)).symm
theorem V_all {st : Int} {rs : List Rep} : V st rs (allS rs) = some 0 := by
  rw [← vals_V (j := 0) (by omega) (by omega)]
  simp [valsT, aget]
theorem V_over {st : Int} {rs : List Rep} {s : Nat} (h : allS rs < s) : V st rs s = none := vals_low _ (Nat.le_refl _) (.inr h)
/-- **What the values are.** -/
theorem V_eq {st : Int} {rs : List Rep} {s : Nat} (hs : s < allS rs) : V st rs s = (nextM st rs s).foldl (minS (V st rs) s) none := by
  have e : allS rs - 1 - (allS rs - 1 - s) = s := by omega
  rw [← vals_V (j := allS rs - 1 - s + 1) (by omega) (by omega)]
  simp only [valsT]
  rw [e, fold_self _ fun x hx => Nat.ne_of_gt (next_or hx), vals_low _ (by omega) (by omega)]
  have : ∀ (l : List (Nat × Int)) (acc : Option Int), (∀ x ∈ l, s < s ||| 2 ^ x.1) → l.foldl (minS (aget (valsT st rs (allS rs - 1 - s))) s) acc = l.foldl (minS (V st rs) s) acc := by
    intro l
    induction l with
    | nil => intro acc _; rfl
    | cons x l ih =>
      intro acc hx
      rw [List.foldl_cons, List.foldl_cons, ih _ fun y hy => hx y (by simp [hy])]
      congr 1
      unfold minS
      have h1 := hx x (by simp)
      rw [vals_V (by omega) (by omega)]
  exact this _ _ fun x hx => next_or hx
theorem fold_none {f : Nat → Option Int} {s : Nat} : ∀ {l : List (Nat × Int)} {acc : Option Int}, l.foldl (minS f s) acc = none ↔ acc = none ∧ ∀ x ∈ l, f (s ||| 2 ^ x.1) = none
  | [], acc => by simp
  | x :: l, acc => by
    rw [List.foldl_cons, fold_none]
    unfold minS
    cases h : f (s ||| 2 ^ x.1) with
    | none => simp [h]
    | some r => cases acc with
      | none => simp [h]
      | some old => simp only [List.mem_cons, forall_eq_or_imp, h]; constructor
                    · rintro ⟨h1, _⟩; split at h1 <;> cases h1
                    · rintro ⟨h1, _⟩; cases h1
theorem fold_some {f : Nat → Option Int} {s : Nat} : ∀ {l : List (Nat × Int)} {acc : Option Int} {v : Int}, l.foldl (minS f s) acc = some v →
    (acc = some v ∨ ∃ x ∈ l, ∃ r, f (s ||| 2 ^ x.1) = some r ∧ x.2 + r = v) ∧ (∀ a, acc = some a → v ≤ a) ∧ ∀ x ∈ l, ∀ r, f (s ||| 2 ^ x.1) = some r → v ≤ x.2 + r
  | [], acc, v, h => by
    simp only [List.foldl_nil] at h
    subst h
    exact ⟨.inl rfl, fun a ha => by cases ha; omega, by simp⟩
  | x :: l, acc, v, h => by
    rw [List.foldl_cons] at h
    obtain ⟨h1, h2, h3⟩ := fold_some h
    unfold minS at h1 h2
    cases hf : f (s ||| 2 ^ x.1) with
    | none =>
      simp only [hf] at h1 h2
      refine ⟨?_, h2, fun y hy r hr => ?_⟩
      · rcases h1 with h1 | ⟨y, hy, h1⟩
        · exact .inl h1
        · exact .inr ⟨y, by simp [hy], h1⟩
      · rcases List.mem_cons.1 hy with rfl | hy
        · rw [hf] at hr; cases hr
        · exact h3 y hy r hr
    | some q =>
      simp only [hf] at h1 h2
      cases acc with
      | none =>
        simp only at h1 h2
        have hq := h2 _ rfl
        refine ⟨.inr ?_, (by intro a ha; cases ha), fun y hy r hr => ?_⟩
        · rcases h1 with h1 | ⟨y, hy, h1⟩
          · exact ⟨x, by simp, q, hf, by simpa using h1⟩
          · exact ⟨y, by simp [hy], h1⟩
        · rcases List.mem_cons.1 hy with rfl | hy
          · rw [hf] at hr; cases hr; exact hq
          · exact h3 y hy r hr
      | some old =>
        simp only at h1 h2
        by_cases hlt : x.2 + q < old
        · rw [if_pos hlt] at h1 h2
          have hq := h2 _ rfl
          refine ⟨.inr ?_, fun a ha => by cases ha; omega, fun y hy r hr => ?_⟩
          · rcases h1 with h1 | ⟨y, hy, h1⟩
            · exact ⟨x, by simp, q, hf, by simpa using h1⟩
            · exact ⟨y, by simp [hy], h1⟩
          · rcases List.mem_cons.1 hy with rfl | hy
            · rw [hf] at hr; cases hr; exact hq
            · exact h3 y hy r hr
        · rw [if_neg hlt] at h1 h2
          have hq := h2 _ rfl
          refine ⟨?_, fun a ha => by cases ha; exact hq, fun y hy r hr => ?_⟩
          · rcases h1 with h1 | ⟨y, hy, h1⟩
            · exact .inl h1
            · exact .inr ⟨y, by simp [hy], h1⟩
          · rcases List.mem_cons.1 hy with rfl | hy
            · rw [hf] at hr; cases hr; omega
            · exact h3 y hy r hr
/-- The value of a set is that of some step, and of none more. -/
theorem V_some {st : Int} {rs : List Rep} {s : Nat} {v : Int} (hs : s < allS rs) (h : V st rs s = some v) :
    (∃ x ∈ nextM st rs s, ∃ r, V st rs (s ||| 2 ^ x.1) = some r ∧ x.2 + r = v) ∧ ∀ x ∈ nextM st rs s, ∀ r, V st rs (s ||| 2 ^ x.1) = some r → v ≤ x.2 + r := by
  rw [V_eq hs] at h
  obtain ⟨h1, h2, h3⟩ := fold_some h
  exact ⟨h1.resolve_left (by simp), h3⟩
theorem V_none {st : Int} {rs : List Rep} {s : Nat} (hs : s < allS rs) : V st rs s = none ↔ ∀ x ∈ nextM st rs s, V st rs (s ||| 2 ^ x.1) = none := by
  rw [V_eq hs, fold_none]; simp
theorem V_b {st : Int} {rs : List Rep} (hc : OKc st rs) : ∀ (m : Nat) {s : Nat} {v : Int}, allS rs - s ≤ m → s ≤ allS rs → V st rs s = some v → 0 ≤ v ∧ v + 12000000000000 * (cnt s rs.length : Int) ≤ 12000000000000 * (rs.length : Int)
  | m, s, v, hm, hs, h => by
    by_cases e : s = allS rs
    · subst e
      rw [V_all] at h
      cases h
      rw [show cnt (allS rs) rs.length = rs.length from cnt_all _ _ (Nat.le_refl _)]
      omega
    · obtain ⟨⟨x, hx, r, hr, hv⟩, _⟩ := V_some (by omega) h
      have h1 := next_or hx
      have h2 := next_le hs hx
      have hb := next_b hc hx
      cases m with
      | zero => omega
      | succ m =>
        obtain ⟨i1, i2⟩ := V_b hc m (s := s ||| 2 ^ x.1) (by omega) h2 hr
        rw [cnt_or (step_ok (next_mem.1 hx).2.1).1 hb.1] at i2
        omega
theorem V_bound {st : Int} {rs : List Rep} (hc : OKc st rs) {s : Nat} {v : Int} (h : V st rs s = some v) : s ≤ allS rs ∧ 0 ≤ v ∧ v ≤ 120000000000000 := by
  have hs : s ≤ allS rs := by
    rcases Nat.lt_or_ge (allS rs) s with g | g
    · rw [V_over g] at h; cases h
    · exact g
  have := V_b hc (allS rs - s) (Nat.le_refl _) hs h
  have := hc.len
  exact ⟨hs, by omega, by omega⟩
end Sim
