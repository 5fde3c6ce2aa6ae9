/- What functions of this seat compute, by values: contracts (lemmas of the statement's proof, under the conditions that each names). -/
import Derived.Test.YtpdaiflnibekaaaQP
namespace Sim
open Go Go.Proofs
set_option maxRecDepth 10000
set_option maxHeartbeats 2000000
set_option linter.unusedVariables false
set_option linter.unusedSimpArgs false

/-! Sums over sets. -/
theorem sumT_congr {f g : Nat → Int} {s t : Nat} : ∀ {n}, (∀ i, i < n → (s.testBit i = t.testBit i) ∧ (s.testBit i = true → f i = g i)) → sumT f s n = sumT g t n
  | 0, _ => rfl
  | n + 1, h => by
    simp only [sumT]
    rw [sumT_congr (n := n) fun i hi => h i (by omega)]
    obtain ⟨h1, h2⟩ := h n (by omega)
    rw [h1] at h2 ⊢
    cases hb : t.testBit n
    · simp
    · simp only [if_true]; rw [h2 hb]
theorem sumT_or {f : Nat → Int} {s k : Nat} (hs : s.testBit k = false) : ∀ {n}, k < n → sumT f (s ||| 2 ^ k) n = sumT f s n + f k
  | 0, h => by omega
  | n + 1, h => by
    simp only [sumT]
    have hb : ∀ i, (s ||| 2 ^ k).testBit i = (s.testBit i || decide (k = i)) := fun i => by rw [Nat.testBit_or, Nat.testBit_two_pow]
    by_cases e : k = n
    · subst e
      rw [sumT_congr (g := f) (t := s) (n := k) fun i hi => ⟨by rw [hb]; simp [show ¬ k = i by omega], fun _ => rfl⟩]
      rw [hb, hs]; simp
    · rw [sumT_or hs (n := n) (by omega), hb]
      have : decide (k = n) = false := by simp [e]
      rw [this, Bool.or_false]
      split <;> omega
theorem sumT_zero {f : Nat → Int} : ∀ n, sumT f 0 n = 0
  | 0 => rfl
  | n + 1 => by simp [sumT, sumT_zero n]
theorem sumT_mono {f : Nat → Int} {s t : Nat} : ∀ {n}, (∀ i, i < n → 0 ≤ f i) → (∀ i, i < n → s.testBit i = true → t.testBit i = true) → sumT f s n ≤ sumT f t n
  | 0, _, _ => Int.le_refl _
  | n + 1, h, g => by
    have ih := sumT_mono (f := f) (s := s) (t := t) (n := n) (fun i hi => h i (by omega)) (fun i hi => g i (by omega))
    have h1 := h n (by omega)
    have h2 := g n (by omega)
    simp only [sumT]
    cases hs : s.testBit n <;> cases ht : t.testBit n <;> simp [hs, ht] at h2 ⊢ <;> omega
theorem load_or {rs : List Rep} {s k : Nat} (hs : s.testBit k = false) (hk : k < rs.length) : loadM rs (s ||| 2 ^ k) = loadM rs s + tk rs k := sumT_or hs hk
theorem load_mono {st : Int} {rs : List Rep} (hc : OKc st rs) {s t : Nat} (h : ∀ i, i < rs.length → s.testBit i = true → t.testBit i = true) : loadM rs s ≤ loadM rs t :=
  sumT_mono (fun i hi => by have := (hc.tk).2 i hi; omega) h

/-! Costs of orders. -/
/-- What the first j of an order cost. -/
def pc (rs : List Rep) (st : Int) (o : List Int) : Nat → Int
  | 0 => 0
  | j + 1 => pc rs st o j + ch rs (oi o j) * (nowT rs st o (j + 1) - st)
theorem now_load {st : Int} {rs : List Rep} {o : List Int} : ∀ {j}, goodT rs.length o j = true → nowT rs st o j = st + loadM rs (dT o j)
  | 0, _ => by simp only [nowT, dT, loadM, sumT_zero]; omega
  | j + 1, h => by
    have ih := now_load (st := st) (good_succ h).1
    have ha := good_at h (Nat.lt_succ_self j)
    simp only [nowT, dT, ih]
    rw [load_or ha.2.1 ha.2.2]; omega
theorem cost_sum {rs : List Rep} {st : Int} {l : List Int} : ∀ k, costT rs st l k = sumT (fun i => ch rs i * (l.getD i 0 - st)) (2 ^ k - 1) k
  | 0 => rfl
  | k + 1 => by
    simp only [costT, sumT, Nat.testBit_two_pow_sub_one]
    rw [cost_sum k]
    simp only [Nat.lt_succ_self, decide_true, if_true]
    congr 1
    exact sumT_congr fun i hi => ⟨by simp only [Nat.testBit_two_pow_sub_one]; simp [hi]; omega, fun _ => rfl⟩
theorem pc_sum {st : Int} {rs : List Rep} {o : List Int} : ∀ {j}, goodT rs.length o j = true → pc rs st o j = sumT (fun i => ch rs i * ((outT rs st o j).getD i 0 - st)) (dT o j) rs.length
  | 0, _ => by simp only [pc, dT, sumT_zero]
  | j + 1, h => by
    have ih := pc_sum (st := st) (good_succ h).1
    have ha := good_at h (Nat.lt_succ_self j)
    simp only [pc, dT, outT]
    rw [sumT_or ha.2.1 ha.2.2, ih]
    congr 1
    · refine sumT_congr fun i hi => ⟨rfl, fun hb => ?_⟩
      rw [getD_set, if_neg]
      rintro ⟨e, _⟩
      rw [← e, ha.2.1] at hb; cases hb
    · rw [getD_set, if_pos ⟨rfl, by rw [outT_len]; exact ha.2.2⟩]
/-- An order that is done in time. -/
structure Fits (st : Int) (rs : List Rep) (o : List Int) (j : Nat) : Prop where
  good : goodT rs.length o j = true
  free : stT rs o j = false
  time : lateT rs st o j = false
theorem Fits.pre {st : Int} {rs : List Rep} {o : List Int} {j : Nat} (h : Fits st rs o (j + 1)) : Fits st rs o j ∧ stepOK st rs (dT o j) (oi o j) = true := by
  have ha := good_at h.good (Nat.lt_succ_self j)
  have h1 := h.free
  have h2 := h.time
  simp only [stT, Bool.or_eq_false_iff, Bool.not_eq_false'] at h1
  simp only [lateT, Bool.or_eq_false_iff, decide_eq_false_iff_not] at h2
  refine ⟨⟨(good_succ h.good).1, h1.1, h2.1⟩, ?_⟩
  have hn := now_load (st := st) (good_succ h.good).1
  simp only [stepOK, ha.2.1, h1.2, Bool.not_false, Bool.true_and, decide_eq_true_eq]
  have : nowT rs st o (j + 1) = nowT rs st o j + tk rs (oi o j) := rfl
  omega
theorem Fits.le {st : Int} {rs : List Rep} {o : List Int} {j : Nat} (h : Fits st rs o j) {i : Nat} (hi : i ≤ j) : Fits st rs o i := by
  induction j with
  | zero => have : i = 0 := by omega
            subst this; exact h
  | succ j ih =>
    by_cases e : i = j + 1
    · subst e; exact h
    · exact ih h.pre.1 (by omega)
theorem fin_ok {st : Int} {rs : List Rep} {o : List Int} : (finM st rs o).2 = 0 ↔ checkM st rs = 0 ∧ o.length = rs.length ∧ Fits st rs o o.length := by
  unfold finM
  by_cases h1 : checkM st rs = 0
  case neg => simp [h1]
  rw [if_neg (fun hn => hn h1)]
  cases h2 : permM rs.length o
  case false =>
    simp only [if_true, Int.one_ne_zero, false_iff]
    rintro ⟨_, h3, h4⟩
    simp [permM, h4.good, h3] at h2
    have := h4.good
    rw [h3] at this
    rw [this] at h2; cases h2
  simp only [permM, Bool.and_eq_true, decide_eq_true_eq] at h2
  rw [if_neg (by simp)]
  have herr : errT rs st o o.length = 0 ↔ stT rs o o.length = false ∧ lateT rs st o o.length = false := by
    unfold errT
    by_cases h3 : stT rs o o.length = true
    · simp [h3]
    · by_cases h5 : lateT rs st o o.length = true
      · simp [h3, h5]
      · simp [h3, h5]
  by_cases he : errT rs st o o.length = 0
  · rw [if_neg (fun hn => hn he)]
    exact ⟨fun _ => ⟨h1, h2.2, h2.1, (herr.1 he).1, (herr.1 he).2⟩, fun _ => rfl⟩
  · rw [if_pos he]
    exact ⟨fun h => absurd h he, fun h => absurd (herr.2 ⟨h.2.2.free, h.2.2.time⟩) he⟩
theorem fin_out {st : Int} {rs : List Rep} {o : List Int} (h : (finM st rs o).2 = 0) : (finM st rs o).1 = outT rs st o o.length := by
  have h' := fin_ok.1 h
  have h2 : permM rs.length o = true := by unfold permM; rw [h'.2.2.good]; simp [h'.2.1]
  unfold finM
  rw [if_neg (fun hn => hn h'.1), if_neg (by simp [h2]), if_neg (by simp [errT, h'.2.2.free, h'.2.2.time])]
theorem cost_pc {st : Int} {rs : List Rep} {o : List Int} (h : (costM st rs o).2 = 0) : (costM st rs o).1 = pc rs st o o.length ∧ checkM st rs = 0 ∧ o.length = rs.length ∧ Fits st rs o o.length := by
  have hf : (finM st rs o).2 = 0 := h
  have h' := fin_ok.1 hf
  refine ⟨?_, h'⟩
  show costT rs st (finM st rs o).1 (finM st rs o).1.length = _
  rw [fin_out hf, outT_len, cost_sum, pc_sum h'.2.2.good, ← (dT_full h'.2.2.good).2 h'.2.1]
theorem cost_of {st : Int} {rs : List Rep} {o : List Int} (h1 : checkM st rs = 0) (h2 : o.length = rs.length) (h3 : Fits st rs o o.length) : (costM st rs o).2 = 0 ∧ (costM st rs o).1 = pc rs st o o.length := by
  have h : (costM st rs o).2 = 0 := fin_ok.2 ⟨h1, h2, h3⟩
  exact ⟨h, (cost_pc h).1⟩

/-! Orders and values. -/
theorem step_cost {st : Int} {rs : List Rep} {o : List Int} {j : Nat} (h : Fits st rs o (j + 1)) : ∃ x ∈ nextM st rs (dT o j), x.1 = oi o j ∧ dT o (j + 1) = dT o j ||| 2 ^ x.1 ∧ pc rs st o (j + 1) = pc rs st o j + x.2 := by
  have hp := h.pre
  have ha := good_at h.good (Nat.lt_succ_self j)
  refine ⟨(oi o j, ch rs (oi o j) * (loadM rs (dT o j) + tk rs (oi o j))), next_mem.2 ⟨ha.2.2, hp.2, rfl⟩, rfl, rfl, ?_⟩
  have hn := now_load (st := st) hp.1.good
  simp only [pc]
  have : nowT rs st o (j + 1) = nowT rs st o j + tk rs (oi o j) := rfl
  rw [this, hn]
  congr 2; omega
/-- **No order costs less than the values say.** -/
theorem order_V {st : Int} {rs : List Rep} {o : List Int} (hl : o.length = rs.length) (h : Fits st rs o o.length) : ∀ m j, j + m = rs.length → ∃ v, V st rs (dT o j) = some v ∧ pc rs st o j + v ≤ pc rs st o rs.length
  | 0, j, hj => by
    have e : j = rs.length := by omega
    have hg : goodT rs.length o rs.length = true := by have := h.good; rw [hl] at this; exact this
    subst e
    refine ⟨0, ?_, by omega⟩
    rw [(dT_full hg).2 rfl]; exact V_all
  | m + 1, j, hj => by
    obtain ⟨v, hv, hle⟩ := order_V hl h m (j + 1) (by omega)
    have hf : Fits st rs o (j + 1) := h.le (by omega)
    obtain ⟨x, hx, hx1, hd, hpc⟩ := step_cost hf
    have hcnt := dT_cnt hf.pre.1.good
    have hp := one_le_pow rs.length
    have hlt := cnt_lt_all (rs := rs) (s := dT o j) (by rw [hcnt]; omega) (by have := dT_lt hf.pre.1.good; unfold allS; omega)
    rw [hd] at hv
    cases hV : V st rs (dT o j) with
    | none => have := (V_none hlt).1 hV x hx; rw [this] at hv; cases hv
    | some w =>
      have := (V_some hlt hV).2 x hx v hv
      exact ⟨w, rfl, by omega⟩
theorem V_order {st : Int} {rs : List Rep} {o : List Int} (h : (costM st rs o).2 = 0) : ∃ v, V st rs 0 = some v ∧ v ≤ (costM st rs o).1 := by
  obtain ⟨h1, h2, h3, h4⟩ := cost_pc h
  obtain ⟨v, hv, hle⟩ := order_V h3 h4 rs.length 0 (by omega)
  refine ⟨v, hv, ?_⟩
  rw [h1, h3]
  simp only [pc] at hle
  omega
theorem oi_app {o : List Int} {k j : Nat} (h : j < o.length) : oi (o ++ [(k : Int)]) j = oi o j := by
  unfold oi; rw [List.getD_eq_getElem?_getD, List.getElem?_append_left h, ← List.getD_eq_getElem?_getD]
theorem getD_app {o : List Int} {k : Int} {j : Nat} (h : j < o.length) : (o ++ [k]).getD j 0 = o.getD j 0 := by
  rw [List.getD_eq_getElem?_getD, List.getElem?_append_left h, ← List.getD_eq_getElem?_getD]
theorem oi_last {o : List Int} {k : Nat} : oi (o ++ [(k : Int)]) o.length = k := by
  unfold oi; simp [List.getD_eq_getElem?_getD]
theorem app_same {st : Int} {rs : List Rep} {o : List Int} {k : Nat} : ∀ {j}, j ≤ o.length → dT (o ++ [(k : Int)]) j = dT o j ∧ nowT rs st (o ++ [(k : Int)]) j = nowT rs st o j ∧ goodT rs.length (o ++ [(k : Int)]) j = goodT rs.length o j ∧
    stT rs (o ++ [(k : Int)]) j = stT rs o j ∧ lateT rs st (o ++ [(k : Int)]) j = lateT rs st o j ∧ pc rs st (o ++ [(k : Int)]) j = pc rs st o j
  | 0, _ => ⟨rfl, rfl, rfl, rfl, rfl, rfl⟩
  | j + 1, h => by
    obtain ⟨h1, h2, h3, h4, h5, h6⟩ := app_same (st := st) (rs := rs) (o := o) (k := k) (j := j) (by omega)
    have e := oi_app (k := k) (show j < o.length by omega)
    have e2 := getD_app (k := (k : Int)) (show j < o.length by omega)
    simp only [dT, nowT, goodT, stT, lateT, pc, h1, h2, h3, h4, h5, h6, e, e2]
    exact ⟨trivial, trivial, trivial, trivial, rfl, trivial⟩
/-- One more. -/
theorem fits_app {st : Int} {rs : List Rep} {o : List Int} (h : Fits st rs o o.length) {k : Nat} (hk : k < rs.length) (hs : stepOK st rs (dT o o.length) k = true) : Fits st rs (o ++ [(k : Int)]) (o.length + 1) ∧ dT (o ++ [(k : Int)]) (o.length + 1) = dT o o.length ||| 2 ^ k ∧
    pc rs st (o ++ [(k : Int)]) (o.length + 1) = pc rs st o o.length + ch rs k * (loadM rs (dT o o.length) + tk rs k) := by
  obtain ⟨h1, h2, h3, h4, h5, h6⟩ := app_same (st := st) (rs := rs) (o := o) (k := k) (Nat.le_refl _)
  have hl := oi_last (o := o) (k := k)
  obtain ⟨s1, s2, s3⟩ := step_ok hs
  have hn := now_load (st := st) h.good
  have hg : (o ++ [(k : Int)]).getD o.length 0 = k := by simp [List.getD_eq_getElem?_getD]
  refine ⟨⟨?_, ?_, ?_⟩, ?_, ?_⟩
  · simp only [goodT, h3, h.good, hg, h1, hl, s1, Bool.not_false, Bool.and_true, Bool.true_and, decide_eq_true_eq]; omega
  · simp only [stT, h4, h.free, h1, hl, s2]; rfl
  · simp only [lateT, h5, h.time, hl, nowT, h2, Bool.false_or, decide_eq_false_iff_not]; omega
  · simp only [dT, h1, hl]
  · simp only [pc, nowT, h6, h2, hl, hn]
    congr 2; omega
/-- **The order of Best.** -/
theorem best_fits {st : Int} {rs : List Rep} {v : Int} (h : V st rs 0 = some v) : ∀ j, j ≤ rs.length → Fits st rs (bestT st rs j).2 j ∧ dT (bestT st rs j).2 j = (bestT st rs j).1 ∧ ∃ w, V st rs (bestT st rs j).1 = some w ∧ pc rs st (bestT st rs j).2 j + w = v
  | 0, _ => ⟨⟨rfl, rfl, rfl⟩, rfl, v, h, by simp [pc]⟩
  | j + 1, hj => by
    obtain ⟨h1, h2, w, hw, hpc⟩ := best_fits h j (by omega)
    have hb := best_at h j (by omega)
    have hlt := cnt_lt_all (rs := rs) (s := (bestT st rs j).1) (by rw [hb.cnt]; omega) hb.le
    obtain ⟨x, hx, r, hp, hr, hxr⟩ := pick_some hlt hw
    have hm := next_mem.1 hx
    have hlen := hb.len
    have hf := fits_app (o := (bestT st rs j).2) (by rw [hlen]; exact h1) hm.1 (by rw [hlen, h2]; exact hm.2.1)
    rw [hlen, h2] at hf
    have e : bestT st rs (j + 1) = ((bestT st rs j).1 ||| 2 ^ x.1, (bestT st rs j).2 ++ [(x.1 : Int)]) := by simp only [bestT, hp]
    rw [e]
    dsimp only
    refine ⟨hf.1, hf.2.1, r, hr, ?_⟩
    rw [hf.2.2, ← hm.2.2]; omega
theorem best_cost {st : Int} {rs : List Rep} (h : (bestM st rs).2 = 0) : ∃ v, V st rs 0 = some v ∧ (costM st rs (bestM st rs).1).2 = 0 ∧ (costM st rs (bestM st rs).1).1 = v := by
  have h0 : checkM st rs = 0 := by
    unfold bestM at h
    split at h
    · contradiction
    · rename_i h1; exact Classical.not_not.1 h1
  cases hv : V st rs 0 with
  | none => simp [bestM, h0, hv] at h
  | some v =>
    have e : (bestM st rs).1 = (bestT st rs rs.length).2 := by simp [bestM, h0, hv]
    obtain ⟨h1, h2, w, hw, hpc⟩ := best_fits hv rs.length (Nat.le_refl _)
    have hb := best_at hv rs.length (Nat.le_refl _)
    have hall : (bestT st rs rs.length).1 = allS rs := by
      have := (dT_full h1.good).2 rfl
      rw [h2] at this; exact this
    rw [hall, V_all] at hw
    cases hw
    refine ⟨v, rfl, ?_⟩
    rw [e]
    have hl : (bestT st rs rs.length).2.length = rs.length := hb.len
    have := cost_of h0 hl (by rw [hl]; exact h1)
    rw [hl] at this
    exact ⟨this.1, by rw [this.2]; omega⟩
theorem best_err {st : Int} {rs : List Rep} (hc : checkM st rs = 0) : ((bestM st rs).2 = 0 ↔ V st rs 0 ≠ none) ∧ ((bestM st rs).2 ≠ 0 → bestM st rs = ([], 21)) := by
  unfold bestM
  rw [if_neg (fun hn => hn hc)]
  cases V st rs 0 <;> simp
end Sim
