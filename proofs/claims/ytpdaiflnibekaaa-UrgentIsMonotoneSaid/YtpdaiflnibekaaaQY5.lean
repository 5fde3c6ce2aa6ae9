/- What functions of this seat compute, by values: contracts (lemmas of the statement's proof, under the conditions that each names). -/
import Derived.Test.YtpdaiflnibekaaaQY4
namespace Sim
open Go Go.Proofs
set_option maxRecDepth 10000
set_option maxHeartbeats 2000000
set_option linter.unusedVariables false
set_option linter.unusedSimpArgs false

/-! A crew with later deadlines, lesser chances and less before. -/
structure RelR (r r' : Rep) : Prop where
  take : r'.1 = r.1
  due : r.2.1 ≤ r'.2.1 ∧ r'.2.1 ≤ 1000000
  chance : 0 ≤ r'.2.2.1 ∧ r'.2.2.1 ≤ r.2.2.1
  after : 0 ≤ r'.2.2.2 ∧ sub r'.2.2.2.toNat r.2.2.2.toNat = true
structure RelL (rs ds : List Rep) : Prop where
  len : ds.length = rs.length
  rep : ∀ k, k < rs.length → RelR (rs.getD k dR) (ds.getD k dR)
theorem RelL.tk {rs ds : List Rep} (h : RelL rs ds) {k : Nat} (hk : k < rs.length) : tk ds k = tk rs k := (h.rep k hk).take
theorem RelL.du {rs ds : List Rep} (h : RelL rs ds) {k : Nat} (hk : k < rs.length) : du rs k ≤ du ds k := (h.rep k hk).due.1
theorem RelL.ch {rs ds : List Rep} (h : RelL rs ds) {k : Nat} (hk : k < rs.length) : ch ds k ≤ ch rs k := (h.rep k hk).chance.2
theorem RelL.ac {rs ds : List Rep} (h : RelL rs ds) {k : Nat} (hk : k < rs.length) : sub (ac ds k) (ac rs k) = true := (h.rep k hk).after.2
theorem sub_trans {a b c : Nat} (h : sub a b = true) (g : sub b c = true) : sub a c = true := sub_iff.2 fun i hi => sub_iff.1 g i (sub_iff.1 h i hi)
theorem sub_refl {a : Nat} : sub a a = true := sub_iff.2 fun i hi => hi
theorem sub_or {a b : Nat} (h : sub a b = true) (k : Nat) : sub (a ||| 2 ^ k) (b ||| 2 ^ k) = true := sub_iff.2 fun i hi => by
  rw [Nat.testBit_or] at hi ⊢
  rw [Bool.or_eq_true] at hi ⊢
  exact hi.imp (sub_iff.1 h i) id
theorem sub_or_r {a b : Nat} (h : sub a b = true) (k : Nat) : sub a (b ||| 2 ^ k) = true := sub_iff.2 fun i hi => by
  rw [Nat.testBit_or, sub_iff.1 h i hi]; rfl
theorem sub_or_l {a b k : Nat} (h : sub a b = true) (hk : b.testBit k = true) : sub (a ||| 2 ^ k) b = true := sub_iff.2 fun i hi => by
  rw [Nat.testBit_or, Nat.testBit_two_pow, Bool.or_eq_true, decide_eq_true_eq] at hi
  rcases hi with hi | rfl
  · exact sub_iff.1 h i hi
  · exact hk
theorem sweep_sub {rs ds : List Rep} (h : RelL rs ds) {d e : Nat} (hd : sub d e = true) : ∀ k, k ≤ rs.length → sub (sweep rs d k) (sweep ds e k) = true
  | 0, _ => hd
  | k + 1, hk => by
    have ih := sweep_sub h hd k (by omega)
    simp only [sweep]
    split
    · rename_i h1
      rw [if_pos (sub_trans (h.ac (by omega)) (sub_trans h1 ih))]
      exact sub_or ih k
    · split
      · exact sub_or_r ih k
      · exact ih
theorem done_sub {rs ds : List Rep} (h : RelL rs ds) : ∀ r, sub (doneT rs r) (doneT ds r) = true
  | 0 => sub_refl
  | r + 1 => by
    simp only [doneT]
    rw [h.len]
    exact sweep_sub h (done_sub h r) _ (Nat.le_refl _)
theorem rel_ok {st : Int} {rs ds : List Rep} (hc : OKc st rs) (h : RelL rs ds) : OKc st ds := by
  refine ⟨by rw [h.len]; exact hc.len, hc.start, fun k hk => ?_, ?_⟩
  · rw [h.len] at hk ⊢
    obtain ⟨h1, h2, h3, h4⟩ := hc.rep k hk
    have hr := h.rep k hk
    have hac := h.ac hk
    have hle : ac ds k ≤ ac rs k := by
      have : ac ds k &&& ac rs k = ac ds k := by simpa [sub] using hac
      rw [← this]; exact Nat.and_le_right
    obtain ⟨g1, g2, g3⟩ := h1
    obtain ⟨q1, q2, q3, q4⟩ := hr
    refine ⟨⟨by omega, by omega, by omega⟩, ?_, by omega, ?_⟩
    · show (ds.getD k dR).2.2.2 = (((ds.getD k dR).2.2.2.toNat : Nat) : Int)
      omega
    · cases hb : (ac ds k).testBit k with
      | false => rfl
      | true => rw [sub_iff.1 hac k hb] at h4; cases h4
  · have hs := done_sub h rs.length
    rw [hc.all] at hs
    have hlt := doneT_lt (rs := ds) rs.length
    rw [h.len] at hlt
    rw [h.len]
    exact full_eq hlt fun i hi => sub_iff.1 hs i (by rw [Nat.testBit_two_pow_sub_one]; simp [hi])
theorem rel_good {rs ds : List Rep} (h : RelL rs ds) {o : List Int} (j : Nat) : goodT ds.length o j = goodT rs.length o j := by rw [h.len]
theorem rel_now {rs ds : List Rep} (h : RelL rs ds) {st : Int} {o : List Int} : ∀ {j}, goodT rs.length o j = true → nowT ds st o j = nowT rs st o j
  | 0, _ => rfl
  | j + 1, hg => by
    simp only [nowT]
    rw [rel_now h (good_succ hg).1, h.tk (good_at hg (Nat.lt_succ_self j)).2.2]
theorem rel_fits {rs ds : List Rep} (h : RelL rs ds) {st : Int} {o : List Int} : ∀ {j}, Fits st rs o j → Fits st ds o j
  | 0, hf => ⟨rfl, rfl, rfl⟩
  | j + 1, hf => by
    have ih := rel_fits h hf.pre.1
    have ho := (good_at hf.good (Nat.lt_succ_self j)).2.2
    refine ⟨by rw [rel_good h]; exact hf.good, ?_, ?_⟩
    · have := free_at hf.free (Nat.lt_succ_self j)
      simp only [stT, ih.free, Bool.false_or, Bool.not_eq_false']
      exact sub_trans (h.ac ho) this
    · have := time_at hf.time (Nat.lt_succ_self j)
      simp only [lateT, ih.time, Bool.false_or, decide_eq_false_iff_not]
      rw [rel_now h hf.good]
      have := h.du ho
      omega
theorem rel_pc {rs ds : List Rep} {st : Int} (hc : OKc st rs) (h : RelL rs ds) {o : List Int} : ∀ {j}, goodT rs.length o j = true → pc ds st o j ≤ pc rs st o j
  | 0, _ => Int.le_refl _
  | j + 1, hg => by
    have ih := rel_pc hc h (good_succ hg).1
    have ho := (good_at hg (Nat.lt_succ_self j)).2.2
    have hn := rel_now h (st := st) hg
    have hm := now_mono hc hg (a := 0) (j + 1) (by omega)
    rw [Nat.zero_add] at hm
    have h0 : nowT rs st o 0 = st := rfl
    simp only [pc]
    rw [hn]
    have := Int.mul_le_mul_of_nonneg_right (h.ch ho) (show 0 ≤ nowT rs st o (j + 1) - st by omega)
    omega
/-- **It has an order where the other one has, and it costs no more.** -/
theorem rel_V {rs ds : List Rep} {st : Int} (hc : OKc st rs) (h : RelL rs ds) {v : Int} (hv : V st rs 0 = some v) : ∃ w, V st ds 0 = some w ∧ w ≤ v := by
  have hb : (bestM st rs).2 = 0 := (best_err (check_zero.2 hc)).1.2 (by rw [hv]; simp)
  obtain ⟨v', hv', h1, h2⟩ := best_cost hb
  rw [hv] at hv'; cases hv'
  obtain ⟨g1, g2, g3, g4⟩ := cost_pc h1
  have hcd := rel_ok hc h
  have hco := cost_of (st := st) (rs := ds) (o := (bestM st rs).1) (check_zero.2 hcd) (by rw [h.len]; exact g3) (rel_fits h g4)
  obtain ⟨w, hw, hle⟩ := V_order hco.1
  refine ⟨w, hw, ?_⟩
  have := rel_pc hc h g4.good
  rw [hco.2] at hle
  omega
/-! .. and without a set. -/
theorem sqT_sub {a b g : Nat} (h : sub a b = true) : ∀ i, sub (sqT a g i) (sqT b g i) = true
  | 0 => sub_refl
  | i + 1 => by
    have ih := sqT_sub (g := g) h i
    simp only [sqT]
    split
    · rename_i h1
      rw [if_pos ⟨h1.1, sub_iff.1 h i h1.2⟩]
      exact sub_or ih _
    · split
      · exact sub_or_r ih _
      · exact ih
theorem rel_app {rs ds : List Rep} (h : RelL rs ds) {r r' : Rep} (hr : RelR r r') : RelL (rs ++ [r]) (ds ++ [r']) := by
  refine ⟨by simp [h.len], fun k hk => ?_⟩
  simp only [List.length_append, List.length_singleton] at hk
  by_cases e : k < rs.length
  · have := h.rep k e
    rw [List.getD_eq_getElem?_getD, List.getD_eq_getElem?_getD, List.getElem?_append_left e, List.getElem?_append_left (by rw [h.len]; exact e), ← List.getD_eq_getElem?_getD, ← List.getD_eq_getElem?_getD]
    exact this
  · have : k = rs.length := by omega
    subst this
    have e1 : (rs ++ [r]).getD rs.length dR = r := by simp [List.getD_eq_getElem?_getD]
    have e2 : (ds ++ [r']).getD rs.length dR = r' := by rw [← h.len]; simp [List.getD_eq_getElem?_getD]
    rw [e1, e2]; exact hr
theorem rel_with {rs ds : List Rep} (h : RelL rs ds) (g : Nat) : ∀ k, k ≤ rs.length → RelL (withT rs g k) (withT ds g k)
  | 0, _ => ⟨rfl, fun k hk => by simp [withT] at hk⟩
  | k + 1, hk => by
    have ih := rel_with h g k (by omega)
    simp only [withT]
    split
    · exact ih
    · refine rel_app ih ?_
      have hr := h.rep k (by omega)
      refine ⟨hr.take, hr.due, hr.chance, ?_⟩
      simp only [withR]
      rw [h.len]
      refine ⟨by omega, ?_⟩
      rw [Int.toNat_natCast, Int.toNat_natCast]
      exact sqT_sub (h.ac (by omega)) _
theorem rel_bad {rs ds : List Rep} (h : RelL rs ds) {g : Nat} : ∀ k, k ≤ rs.length → badW rs g k = false → badW ds g k = false
  | 0, _, _ => rfl
  | k + 1, hk, hb => by
    simp only [badW, Bool.or_eq_false_iff] at hb ⊢
    refine ⟨rel_bad h k (by omega) hb.1, ?_⟩
    have h2 := hb.2
    cases hg : g.testBit k with
    | true => rfl
    | false =>
      rw [hg] at h2
      simp only [Bool.not_false, Bool.true_and, Bool.not_eq_false', beq_iff_eq] at h2 ⊢
      rw [and_zero] at h2 ⊢
      intro i hi
      exact h2 i ⟨hi.1, sub_iff.1 (h.ac (by omega)) i hi.2⟩
theorem rel_goes {rs ds : List Rep} {st : Int} (hc : OKc st rs) (h : RelL rs ds) {s : Nat} (hs : s < 2 ^ rs.length) (hg : goesOn st rs s = true) : goesOn st ds s = true := by
  have hcd := rel_ok hc h
  have hp := one_le_pow rs.length
  have hin : 0 ≤ ((s : Nat) : Int) ∧ ((s : Nat) : Int) ≤ ((2 ^ rs.length - 1 : Nat) : Int) := by
    generalize 2 ^ rs.length = q at *
    omega
  have hwr : ∀ (xs : List Rep), OKc st xs → xs.length = rs.length → withM st xs s = if badW xs s xs.length = true then ((0, []), 4) else ((st, withT xs s xs.length), 0) := fun xs hx hl => by
    unfold withM
    rw [if_neg (fun hn => hn (check_zero.2 hx)), if_neg (fun hn => hn (by rw [hl]; exact hin)), Int.toNat_natCast]
  obtain ⟨h1, h2, h3⟩ := goes_iff.1 hg
  rw [hwr rs hc rfl] at h1 h2 h3
  cases hb : badW rs s rs.length with
  | true => rw [hb] at h1; simp at h1
  | false =>
    rw [hb] at h2 h3
    simp only [Bool.false_eq_true, if_false] at h2 h3
    have hbd := rel_bad h _ (Nat.le_refl _) hb
    have hrel := rel_with h s rs.length (Nat.le_refl _)
    have hok := check_zero.1 h2
    rw [goes_iff, hwr ds hcd h.len, h.len, hbd]
    simp only [Bool.false_eq_true, if_false, true_and]
    refine ⟨check_zero.2 (rel_ok hok hrel), ?_⟩
    cases hv : V st (withT rs s rs.length) 0 with
    | none => exact absurd hv h3
    | some v =>
      obtain ⟨w, hw, _⟩ := rel_V hok hrel hv
      rw [hw]; simp
theorem rel_give {rs ds : List Rep} {st : Int} (hc : OKc st rs) (h : RelL rs ds) : chanceM ds (giveT st ds (2 ^ ds.length)).1 ≤ chanceM rs (giveT st rs (2 ^ rs.length)).1 := by
  obtain ⟨u1, u2, u3⟩ := give_ok hc
  obtain ⟨d1, d2, d3⟩ := give_ok (rel_ok hc h)
  have hg := rel_goes hc h u1 u2
  have h1 := d3 _ (by rw [h.len]; exact u1) hg
  have h2 : chanceM ds (giveT st rs (2 ^ rs.length)).1 ≤ chanceM rs (giveT st rs (2 ^ rs.length)).1 := by
    unfold chanceM
    rw [h.len]
    have : ∀ k, k ≤ rs.length → sumT (Sim.ch ds) (giveT st rs (2 ^ rs.length)).1 k ≤ sumT (Sim.ch rs) (giveT st rs (2 ^ rs.length)).1 k := fun k => by
      induction k with
      | zero => intro _; exact Int.le_refl _
      | succ k ih =>
        intro hk
        have := ih (by omega)
        have := h.ch (show k < rs.length by omega)
        simp only [sumT]
        split <;> omega
    exact this _ (Nat.le_refl _)
  omega
end Sim
