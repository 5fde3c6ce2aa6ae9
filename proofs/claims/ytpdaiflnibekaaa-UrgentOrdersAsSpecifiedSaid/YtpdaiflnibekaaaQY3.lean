/- What functions of this seat compute, by values: contracts (lemmas of the statement's proof, under the conditions that each names). -/
import Derived.Test.YtpdaiflnibekaaaQY
namespace Sim
open Go Go.Proofs
set_option maxRecDepth 10000
set_option maxHeartbeats 2000000
set_option linter.unusedVariables false
set_option linter.unusedSimpArgs false

/-! Places in an order. -/
theorem mem_dT {o : List Int} {i : Nat} : ∀ {j}, (dT o j).testBit i = true ↔ ∃ a, a < j ∧ oi o a = i
  | 0 => by simp [dT]
  | j + 1 => by
    simp only [dT, Nat.testBit_or, Nat.testBit_two_pow, Bool.or_eq_true, mem_dT, decide_eq_true_eq]
    constructor
    · rintro (⟨a, h1, h2⟩ | h)
      · exact ⟨a, by omega, h2⟩
      · exact ⟨j, by omega, h⟩
    · rintro ⟨a, h1, h2⟩
      by_cases e : a = j
      · subst e; exact .inr h2
      · exact .inl ⟨a, by omega, h2⟩
theorem oi_inj {n : Nat} {o : List Int} {j : Nat} (h : goodT n o j = true) {a b : Nat} (ha : a < j) (hb : b < j) (he : oi o a = oi o b) : a = b := by
  have key : ∀ a b, a < b → b < j → oi o a = oi o b → False := fun a b hab hb he => by
    have := (good_at h hb).2.1
    rw [← he] at this
    have h2 := (mem_dT (o := o) (i := oi o a) (j := b)).2 ⟨a, hab, rfl⟩
    rw [this] at h2; cases h2
  rcases Nat.lt_trichotomy a b with h1 | h1 | h1
  · exact (key a b h1 hb he).elim
  · exact h1
  · exact (key b a h1 ha he.symm).elim
theorem oi_all {n : Nat} {o : List Int} (h : goodT n o n = true) {k : Nat} (hk : k < n) : ∃ a, a < n ∧ oi o a = k := by
  refine mem_dT.1 ?_
  rw [(dT_full h).2 rfl, Nat.testBit_two_pow_sub_one]; simp [hk]
theorem free_at {rs : List Rep} {o : List Int} {n : Nat} (h : stT rs o n = false) {j : Nat} (hj : j < n) : sub (ac rs (oi o j)) (dT o j) = true := by
  induction n with
  | zero => omega
  | succ n ih =>
    simp only [stT, Bool.or_eq_false_iff, Bool.not_eq_false'] at h
    by_cases e : j = n
    · subst e; exact h.2
    · exact ih h.1 (by omega)
theorem time_at {rs : List Rep} {st : Int} {o : List Int} {n : Nat} (h : lateT rs st o n = false) {j : Nat} (hj : j < n) : nowT rs st o (j + 1) ≤ du rs (oi o j) := by
  induction n with
  | zero => omega
  | succ n ih =>
    simp only [lateT, Bool.or_eq_false_iff, decide_eq_false_iff_not] at h
    by_cases e : j = n
    · subst e; omega
    · exact ih h.1 (by omega)
theorem now_mono {st : Int} {rs : List Rep} (hc : OKc st rs) {o : List Int} {n : Nat} (h : goodT rs.length o n = true) {a : Nat} : ∀ m, a + m ≤ n → nowT rs st o a ≤ nowT rs st o (a + m)
  | 0, _ => Int.le_refl _
  | m + 1, hm => by
    have ih := now_mono hc h (a := a) m (by omega)
    have := (hc.tk).2 _ (good_at h (show a + m < n by omega)).2.2
    show _ ≤ nowT rs st o (a + m) + tk rs (oi o (a + m))
    omega
/-! What is done in time is done by the implied deadlines. -/
def Resp (st : Int) (rs : List Rep) (o L : List Int) : Prop := ∀ j, j < rs.length → nowT rs st o (j + 1) ≤ L.getD (oi o j) 0
theorem resp_S {st : Int} {rs : List Rep} (hc : OKc st rs) {o : List Int} (hf : Fits st rs o rs.length) {L : List Int} (h : Resp st rs o L) {k i : Nat} (hk : k < rs.length) : Resp st rs o (impS rs k L i) := by
  intro j hj
  unfold impS
  split
  · rename_i hb
    rw [getD_set]
    split
    · rename_i he
      have h1 := h j hj
      obtain ⟨b, hb1, hb2⟩ := oi_all hf.good hk
      have h2 := h b hb1
      have hs := sub_iff.1 (free_at hf.free hb1) i (by rw [hb2]; exact hb)
      obtain ⟨a, ha1, ha2⟩ := mem_dT.1 hs
      have haj : a = j := oi_inj hf.good (by omega) hj (by rw [ha2, he.1])
      subst haj
      have hm := now_mono hc hf.good (a := a + 1) (b - (a + 1)) (by omega)
      rw [show a + 1 + (b - (a + 1)) = b by omega] at hm
      have e : nowT rs st o (b + 1) = nowT rs st o b + tk rs (oi o b) := rfl
      rw [hb2] at e h2
      rw [← he.1] at h1
      split <;> omega
    · exact h j hj
  · exact h j hj
theorem resp_I {st : Int} {rs : List Rep} (hc : OKc st rs) {o : List Int} (hf : Fits st rs o rs.length) {L : List Int} (h : Resp st rs o L) {k : Nat} (hk : k < rs.length) : ∀ i, Resp st rs o (impI rs k L i)
  | 0 => h
  | i + 1 => resp_S hc hf (resp_I hc hf h hk i) hk
theorem resp_K {st : Int} {rs : List Rep} (hc : OKc st rs) {o : List Int} (hf : Fits st rs o rs.length) {L : List Int} (h : Resp st rs o L) : ∀ k, k ≤ rs.length → Resp st rs o (impK rs L k)
  | 0, _ => h
  | k + 1, hk => resp_I hc hf (resp_K hc hf h k (by omega)) (by omega) _
theorem resp_R {st : Int} {rs : List Rep} (hc : OKc st rs) {o : List Int} (hf : Fits st rs o rs.length) : ∀ r, Resp st rs o (impR rs r)
  | 0 => fun j hj => by
    have := time_at hf.time hj
    show _ ≤ (dues rs).getD (oi o j) 0
    rw [dues_get (good_at hf.good hj).2.2]; exact this
  | r + 1 => resp_K hc hf (resp_R hc hf r) _ (Nat.le_refl _)
theorem last_in {o : List Int} {s : Nat} : ∀ {n}, (∃ a, a < n ∧ s.testBit (oi o a) = true) → ∃ b, b < n ∧ s.testBit (oi o b) = true ∧ ∀ a, b < a → a < n → s.testBit (oi o a) = false
  | 0, ⟨a, h, _⟩ => by omega
  | n + 1, ⟨a, h1, h2⟩ => by
    cases hb : s.testBit (oi o n) with
    | true => exact ⟨n, by omega, hb, fun a h3 h4 => by omega⟩
    | false =>
      have : a ≠ n := fun e => by subst e; rw [h2] at hb; cases hb
      obtain ⟨b, g1, g2, g3⟩ := last_in (n := n) ⟨a, by omega, h2⟩
      refine ⟨b, by omega, g2, fun a h3 h4 => ?_⟩
      by_cases e : a = n
      · subst e; exact hb
      · exact g3 a h3 (by omega)
theorem bit_ex {s n : Nat} (h0 : s ≠ 0) (hs : s < 2 ^ n) : ∃ i, i < n ∧ s.testBit i = true := by
  apply Classical.byContradiction
  intro h
  apply h0
  apply Nat.eq_of_testBit_eq
  intro i
  rw [Nat.zero_testBit]
  rcases Nat.lt_or_ge i n with g | g
  · cases hb : s.testBit i with
    | false => rfl
    | true => exact absurd ⟨i, g, hb⟩ h
  · exact Nat.testBit_lt_two_pow (Nat.lt_of_lt_of_le hs (Nat.pow_le_pow_right (by omega) g))
/-- **Where a set is crowded nothing is in time.** -/
theorem crowded_V {st : Int} {rs : List Rep} {s : Int} (h : crowdedM st rs s = true) : V st rs 0 = none := by
  simp only [crowdedM, Bool.and_eq_true, decide_eq_true_eq] at h
  obtain ⟨h0, h1, h2⟩ := h
  have hc := check_zero.1 h0
  obtain ⟨g, hg⟩ : ∃ g : Nat, s = g := ⟨s.toNat, by omega⟩
  subst hg
  simp only [Int.toNat_natCast] at h2
  have hp := one_le_pow rs.length
  have hgl : g < 2 ^ rs.length := by
    generalize 2 ^ rs.length = q at *
    omega
  cases hv : V st rs 0 with
  | none => rfl
  | some v =>
    obtain ⟨hf, _, _⟩ := best_fits hv rs.length (Nat.le_refl _)
    generalize (bestT st rs rs.length).2 = o at *
    have hb := load_bound hc.tk g rs.length (Nat.le_refl _)
    have hst := hc.start
    have hci := (crowd_iff (im := impM rs) (g := g) (late := st + loadM rs g) (by unfold loadM; omega) rs.length).1 h2
    obtain ⟨i, hi, hbi⟩ := bit_ex (by omega) hgl
    obtain ⟨a, ha, hoa⟩ := oi_all hf.good hi
    obtain ⟨b, b1, b2, b3⟩ := last_in (o := o) (s := g) ⟨a, ha, by rw [hoa]; exact hbi⟩
    have hr := resp_R hc hf rs.length b b1
    have hlt := hci _ (good_at hf.good b1).2.2 b2
    have hl : loadM rs g ≤ loadM rs (dT o (b + 1)) := load_mono hc fun k hk hbk => by
      obtain ⟨c, c1, c2⟩ := oi_all hf.good hk
      refine mem_dT.2 ⟨c, ?_, c2⟩
      apply Classical.byContradiction
      intro hcb
      have := b3 c (by omega) c1
      rw [c2, hbk] at this; cases this
    have hn := now_load (st := st) (good_le hf.good (i := b + 1) (by omega))
    have hr' : nowT rs st o (b + 1) ≤ (impM rs).getD (oi o b) 0 := hr
    omega

/-! The implied deadlines are at rest. -/
def Topo (rs : List Rep) (d : Nat) : Prop := ∃ o : List Int, goodT rs.length o o.length = true ∧ stT rs o o.length = false ∧ dT o o.length = d
theorem topo_add {rs : List Rep} {d k : Nat} (h : Topo rs d) (hk : k < rs.length) (hs : sub (ac rs k) d = true) : Topo rs (d ||| 2 ^ k) := by
  cases hb : d.testBit k with
  | true => rw [or_same hb]; exact h
  | false =>
    obtain ⟨o, h1, h2, h3⟩ := h
    obtain ⟨g1, g2, g3, g4, g5, g6⟩ := app_same (st := 0) (rs := rs) (o := o) (k := k) (Nat.le_refl _)
    have hl := oi_last (o := o) (k := k)
    have hg : (o ++ [(k : Int)]).getD o.length 0 = k := by simp [List.getD_eq_getElem?_getD]
    refine ⟨o ++ [(k : Int)], ?_⟩
    rw [List.length_append, List.length_singleton]
    refine ⟨?_, ?_, ?_⟩
    · simp only [goodT, g3, h1, hg, g1, hl, h3, hb, Bool.not_false, Bool.and_true, Bool.true_and, decide_eq_true_eq]; omega
    · simp only [stT, g4, h2, g1, hl, h3, hs]; rfl
    · simp only [dT, g1, hl, h3]
theorem topo_sweep {rs : List Rep} {d : Nat} (h : Topo rs d) : ∀ k, k ≤ rs.length → Topo rs (sweep rs d k)
  | 0, _ => h
  | k + 1, hk => by
    have ih := topo_sweep h k (by omega)
    simp only [sweep]
    split
    · rename_i hs; exact topo_add ih (by omega) hs
    · exact ih
theorem topo_done {rs : List Rep} : ∀ r, Topo rs (doneT rs r)
  | 0 => ⟨[], rfl, rfl, rfl⟩
  | r + 1 => topo_sweep (topo_done r) _ (Nat.le_refl _)
/-- An order in which nothing comes before what has to be done before it. -/
theorem topo_ex {st : Int} {rs : List Rep} (hc : OKc st rs) : ∃ o : List Int, goodT rs.length o rs.length = true ∧ stT rs o rs.length = false := by
  obtain ⟨o, h1, h2, h3⟩ := topo_done (rs := rs) rs.length
  rw [hc.all] at h3
  have hl := (dT_full h1).1 h3
  rw [hl] at h1 h2
  exact ⟨o, h1, h2⟩
theorem impS_le {rs : List Rep} {k i x : Nat} {L : List Int} : (impS rs k L i).getD x 0 ≤ L.getD x 0 := by
  unfold impS
  split
  · rw [getD_set]
    split
    · rename_i h; rw [← h.1]; split <;> omega
    · omega
  · omega
theorem impI_le {rs : List Rep} {k x : Nat} {L : List Int} {i : Nat} : ∀ m, (impI rs k L (i + m)).getD x 0 ≤ (impI rs k L i).getD x 0
  | 0 => Int.le_refl _
  | m + 1 => by
    have h1 : (impS rs k (impI rs k L (i + m)) (i + m)).getD x 0 ≤ _ := impS_le
    have h2 := impI_le (rs := rs) (k := k) (x := x) (L := L) (i := i) m
    show (impS rs k (impI rs k L (i + m)) (i + m)).getD x 0 ≤ _
    omega
theorem impK_le {rs : List Rep} {x : Nat} {L : List Int} {k : Nat} : ∀ m, (impK rs L (k + m)).getD x 0 ≤ (impK rs L k).getD x 0
  | 0 => Int.le_refl _
  | m + 1 => by
    have h1 := impI_le (rs := rs) (k := k + m) (x := x) (L := impK rs L (k + m)) (i := 0) rs.length
    have h2 := impK_le (rs := rs) (x := x) (L := L) (k := k) m
    rw [Nat.zero_add] at h1
    show (impI rs (k + m) (impK rs L (k + m)) rs.length).getD x 0 ≤ _
    have e : impI rs (k + m) (impK rs L (k + m)) 0 = impK rs L (k + m) := rfl
    rw [e] at h1
    omega
/-- A round brings a deadline below those behind it. -/
theorem round_le {rs : List Rep} {L : List Int} (hL : L.length = rs.length) {k i : Nat} (hk : k < rs.length) (hi : i < rs.length) (hb : (ac rs k).testBit i = true) : (impK rs L rs.length).getD i 0 ≤ L.getD k 0 - tk rs k := by
  have h1 := impK_le (rs := rs) (x := i) (L := L) (k := k + 1) (rs.length - (k + 1))
  rw [show k + 1 + (rs.length - (k + 1)) = rs.length by omega] at h1
  have h2 := impI_le (rs := rs) (k := k) (x := i) (L := impK rs L k) (i := i + 1) (rs.length - (i + 1))
  rw [show i + 1 + (rs.length - (i + 1)) = rs.length by omega] at h2
  have h3 : (impI rs k (impK rs L k) (i + 1)).getD i 0 ≤ (impI rs k (impK rs L k) i).getD k 0 - tk rs k := by
    show (impS rs k (impI rs k (impK rs L k) i) i).getD i 0 ≤ _
    unfold impS
    rw [if_pos hb, getD_set, if_pos ⟨rfl, by rw [impI_len, impK_len, hL]; exact hi⟩]
    split <;> omega
  have h4 := impI_le (rs := rs) (k := k) (x := k) (L := impK rs L k) (i := 0) i
  rw [Nat.zero_add] at h4
  have h5 := impK_le (rs := rs) (x := k) (L := L) (k := 0) k
  rw [Nat.zero_add] at h5
  have e1 : impI rs k (impK rs L k) 0 = impK rs L k := rfl
  have e2 : impK rs L 0 = L := rfl
  have e3 : impK rs L (k + 1) = impI rs k (impK rs L k) rs.length := rfl
  rw [e1] at h4
  rw [e2] at h5
  rw [e3] at h1
  omega
/-- What is below all behind it stays. -/
theorem round_stays {rs : List Rep} {L : List Int} {T : Nat → Prop} (h : ∀ i, T i → ∀ k, k < rs.length → (ac rs k).testBit i = true → T k ∧ L.getD i 0 ≤ L.getD k 0 - tk rs k) :
    ∀ x, T x → (impK rs L rs.length).getD x 0 = L.getD x 0 := by
  have hS : ∀ (M : List Int) (k i : Nat), k < rs.length → (∀ x, T x → M.getD x 0 = L.getD x 0) → ∀ x, T x → (impS rs k M i).getD x 0 = L.getD x 0 := fun M k i hk hM x hx => by
    unfold impS
    split
    · rename_i hb
      rw [getD_set]
      split
      · rename_i he
        have hi : T i := by rw [he.1]; exact hx
        obtain ⟨h1, h2⟩ := h i hi k hk hb
        rw [hM i hi, hM k h1, ← he.1]
        rw [if_neg (by omega)]
      · exact hM x hx
    · exact hM x hx
  have hI : ∀ (M : List Int) (k : Nat), k < rs.length → (∀ x, T x → M.getD x 0 = L.getD x 0) → ∀ i x, T x → (impI rs k M i).getD x 0 = L.getD x 0 := fun M k hk hM i => by
    induction i with
    | zero => exact hM
    | succ i ih => exact hS _ k i hk ih
  have hK : ∀ k, k ≤ rs.length → ∀ x, T x → (impK rs L k).getD x 0 = L.getD x 0 := fun k => by
    induction k with
    | zero => intro _ x _; rfl
    | succ k ih => intro hk; exact hI _ k (by omega) (ih (by omega)) _
  exact hK _ (Nat.le_refl _)
theorem rest_R {rs : List Rep} {o : List Int} (hg : goodT rs.length o rs.length = true) (hf : stT rs o rs.length = false) : ∀ r, ∀ j, j < rs.length → rs.length ≤ j + r → ∀ k, k < rs.length → (ac rs k).testBit (oi o j) = true → (impR rs r).getD (oi o j) 0 ≤ (impR rs r).getD k 0 - tk rs k
  | 0, j, hj, h, _, _, _ => by omega
  | r + 1, j, hj, h, k, hk, hb => by
    have ih := rest_R hg hf r
    have hbeh : ∀ j k, j < rs.length → k < rs.length → (ac rs k).testBit (oi o j) = true → ∃ b, j < b ∧ b < rs.length ∧ oi o b = k := fun j k hj hk hb => by
      obtain ⟨b, b1, b2⟩ := oi_all hg hk
      have hs := sub_iff.1 (free_at hf b1) (oi o j) (by rw [b2]; exact hb)
      obtain ⟨a, a1, a2⟩ := mem_dT.1 hs
      have : a = j := oi_inj hg (by omega) hj a2
      exact ⟨b, by omega, b1, b2⟩
    have hst := round_stays (rs := rs) (L := impR rs r) (T := fun x => ∃ j, j < rs.length ∧ oi o j = x ∧ rs.length ≤ j + r) (fun i ⟨j, j1, j2, j3⟩ k hk hb => by
      subst j2
      obtain ⟨b, b1, b2, b3⟩ := hbeh j k j1 hk hb
      exact ⟨⟨b, b2, b3, by omega⟩, ih j j1 j3 k hk hb⟩)
    obtain ⟨b, b1, b2, b3⟩ := hbeh j k hj hk hb
    have h1 := hst k ⟨b, b2, b3, by omega⟩
    have h2 := round_le (L := impR rs r) (impR_len r) hk (good_at hg hj).2.2 hb
    show (impK rs (impR rs r) rs.length).getD (oi o j) 0 ≤ (impK rs (impR rs r) rs.length).getD k 0 - tk rs k
    omega
theorem imp_rest {st : Int} {rs : List Rep} (hc : OKc st rs) {i k : Nat} (hk : k < rs.length) (hb : (ac rs k).testBit i = true) : (impM rs).getD i 0 ≤ (impM rs).getD k 0 - tk rs k := by
  obtain ⟨o, hg, hf⟩ := topo_ex hc
  have hi : i < rs.length := by
    rcases Nat.lt_or_ge i rs.length with g | g
    · exact g
    · rw [Nat.testBit_lt_two_pow (Nat.lt_of_lt_of_le (hc.rep k hk).2.2.1 (Nat.pow_le_pow_right (by omega) g))] at hb; cases hb
  obtain ⟨j, j1, j2⟩ := oi_all hg hi
  subst j2
  exact rest_R hg hf rs.length j j1 (by omega) k hk hb
theorem imp_due {rs : List Rep} {k : Nat} (hk : k < rs.length) : (impM rs).getD k 0 ≤ du rs k := by
  have : ∀ r, (impR rs r).getD k 0 ≤ du rs k := fun r => by
    induction r with
    | zero => show (dues rs).getD k 0 ≤ _; rw [dues_get hk]; exact Int.le_refl _
    | succ r ih =>
      have := impK_le (rs := rs) (x := k) (L := impR rs r) (k := 0) rs.length
      rw [Nat.zero_add] at this
      show (impK rs (impR rs r) rs.length).getD k 0 ≤ _
      have e : impK rs (impR rs r) 0 = impR rs r := rfl
      rw [e] at this
      omega
  exact this _

/-! Where no set is crowded, the earliest deadline first is in time. -/
theorem set_mem {im : List Int} {last : Int} {i : Nat} : ∀ {n}, (setT im last n).testBit i = true ↔ i < n ∧ im.getD i 0 ≤ last
  | 0 => by simp [setT]
  | n + 1 => by
    simp only [setT]
    split
    · rename_i h
      rw [Nat.testBit_or, Nat.testBit_two_pow, Bool.or_eq_true, set_mem, decide_eq_true_eq]
      constructor
      · rintro (⟨h1, h2⟩ | rfl)
        · exact ⟨by omega, h2⟩
        · exact ⟨by omega, h⟩
      · rintro ⟨h1, h2⟩
        by_cases e : n = i
        · exact .inr e
        · exact .inl ⟨by omega, h2⟩
    · rename_i h
      rw [set_mem]
      constructor
      · rintro ⟨h1, h2⟩; exact ⟨by omega, h2⟩
      · rintro ⟨h1, h2⟩
        by_cases e : i = n
        · subst e; exact absurd h2 h
        · exact ⟨by omega, h2⟩
theorem min_out {im : List Int} {s : Nat} : ∀ {n}, (∃ k, k < n ∧ s.testBit k = false) → ∃ k, k < n ∧ s.testBit k = false ∧ ∀ j, j < n → s.testBit j = false → im.getD k 0 ≤ im.getD j 0
  | 0, ⟨k, h, _⟩ => by omega
  | n + 1, ⟨k, h1, h2⟩ => by
    by_cases hex : ∃ k, k < n ∧ s.testBit k = false
    · obtain ⟨m, g1, g2, g3⟩ := min_out (im := im) hex
      cases hn : s.testBit n with
      | true => exact ⟨m, by omega, g2, fun j hj hs => by
          by_cases e : j = n
          · subst e; rw [hn] at hs; cases hs
          · exact g3 j (by omega) hs⟩
      | false =>
        by_cases hle : im.getD m 0 ≤ im.getD n 0
        · exact ⟨m, by omega, g2, fun j hj hs => by
            by_cases e : j = n
            · subst e; exact hle
            · exact g3 j (by omega) hs⟩
        · exact ⟨n, by omega, hn, fun j hj hs => by
            by_cases e : j = n
            · subst e; exact Int.le_refl _
            · have := g3 j (by omega) hs; omega⟩
    · have : k = n := Classical.byContradiction fun e => hex ⟨k, by omega, h2⟩
      subst this
      exact ⟨k, by omega, h2, fun j hj hs => by
        by_cases e : j = k
        · subst e; exact Int.le_refl _
        · exact absurd ⟨j, by omega, hs⟩ hex⟩
theorem not_full {n s : Nat} (hs : s < 2 ^ n - 1) : ∃ k, k < n ∧ s.testBit k = false := by
  apply Classical.byContradiction
  intro h
  have := full_eq (d := s) (n := n) (by omega) fun i hi => by
    cases hb : s.testBit i with
    | true => rfl
    | false => exact absurd ⟨i, hi, hb⟩ h
  omega
theorem calm_at {st : Int} {rs : List Rep} : ∀ {n}, crowdT st rs n = none → ∀ j, j < n → st + loadM rs (crowdS rs j) ≤ (impM rs).getD j 0
  | 0, _, j, hj => by omega
  | n + 1, h, j, hj => by
    simp only [crowdT] at h
    cases hn : crowdT st rs n with
    | some s => simp [hn] at h
    | none =>
      simp only [hn] at h
      by_cases e : j = n
      · subst e
        split at h
        · cases h
        · omega
      · exact calm_at hn j (by omega)
theorem edf {st : Int} {rs : List Rep} (hc : OKc st rs) (hno : crowdT st rs rs.length = none) : ∀ (m s : Nat), allS rs - s ≤ m → s ≤ allS rs → (∀ a b, a < rs.length → b < rs.length → s.testBit a = true → s.testBit b = false → (impM rs).getD a 0 ≤ (impM rs).getD b 0) → V st rs s ≠ none
  | m, s, hm, hs, hq => by
    have hp := one_le_pow rs.length
    by_cases e : s = allS rs
    · subst e; rw [V_all]; simp
    · have hlt : s < allS rs := by omega
      obtain ⟨k, k1, k2, k3⟩ := min_out (im := impM rs) (s := s) (not_full (by unfold allS at hlt; exact hlt))
      have hin : ∀ a, a < rs.length → (s ||| 2 ^ k).testBit a = true → (impM rs).getD a 0 ≤ (impM rs).getD k 0 := fun a ha hb => by
        rw [Nat.testBit_or, Nat.testBit_two_pow, Bool.or_eq_true, decide_eq_true_eq] at hb
        rcases hb with hb | hb
        · exact hq a k ha k1 hb k2
        · subst hb; exact Int.le_refl _
      have hsub : sub (ac rs k) s = true := sub_iff.2 fun i hi => by
        have h1 := imp_rest hc k1 hi
        have h2 := (hc.tk).2 k k1
        have hi' : i < rs.length := by
          rcases Nat.lt_or_ge i rs.length with g | g
          · exact g
          · rw [Nat.testBit_lt_two_pow (Nat.lt_of_lt_of_le (hc.rep k k1).2.2.1 (Nat.pow_le_pow_right (by omega) g))] at hi; cases hi
        cases hb : s.testBit i with
        | true => rfl
        | false => have := k3 i hi' hb; omega
      have hload : loadM rs (s ||| 2 ^ k) ≤ loadM rs (crowdS rs k) := load_mono hc fun i hi hb => set_mem.2 ⟨hi, hin i hi hb⟩
      rw [load_or k2 k1] at hload
      have hcalm := calm_at hno k k1
      have hdue := imp_due (rs := rs) k1
      have hok : stepOK st rs s k = true := by
        simp only [stepOK, k2, hsub, Bool.not_false, Bool.true_and, decide_eq_true_eq]; omega
      have hx : (k, ch rs k * (loadM rs s + tk rs k)) ∈ nextM st rs s := next_mem.2 ⟨k1, hok, rfl⟩
      have hgt := next_or hx
      have hle := next_le hs hx
      dsimp only at hgt hle
      cases m with
      | zero => omega
      | succ m =>
        have ih := edf hc hno m (s ||| 2 ^ k) (by omega) hle (fun a b ha hb h1 h2 => by
          rw [Nat.testBit_or, Nat.testBit_two_pow] at h2
          simp only [Bool.or_eq_false_iff, decide_eq_false_iff_not] at h2
          have := hin a ha h1
          have := k3 b hb h2.1
          omega)
        intro hV
        exact ih ((V_none hlt).1 hV _ hx)
/-- **Nothing is in time exactly where Crowd has a set.** -/
theorem crowd_V {st : Int} {rs : List Rep} (hc : OKc st rs) : V st rs 0 = none ↔ ∃ s, crowdT st rs rs.length = some s := by
  constructor
  · intro h
    cases hn : crowdT st rs rs.length with
    | some s => exact ⟨s, rfl⟩
    | none => exact absurd h (edf hc hn (allS rs) 0 (by omega) (by omega) (fun a b _ _ h _ => by simp at h))
  · rintro ⟨s, hs⟩
    have : ∀ n, crowdT st rs n = some s → n ≤ rs.length → ∃ j, j < n ∧ s = crowdS rs j ∧ (impM rs).getD j 0 < st + loadM rs s := by
      intro n
      induction n with
      | zero => intro h; cases h
      | succ n ih =>
        intro h hn
        simp only [crowdT] at h
        cases hc' : crowdT st rs n with
        | some t =>
          simp only [hc'] at h
          cases h
          obtain ⟨j, h1, h2⟩ := ih hc' (by omega)
          exact ⟨j, by omega, h2⟩
        | none =>
          simp only [hc'] at h
          split at h
          · rename_i hlt; cases h; exact ⟨n, by omega, rfl, hlt⟩
          · cases h
    obtain ⟨j, j1, j2, j3⟩ := this _ hs (Nat.le_refl _)
    have hsl : s < 2 ^ rs.length := by rw [j2]; exact setT_lt _ (Nat.le_refl _)
    have hbit : s.testBit j = true := by rw [j2]; exact set_mem.2 ⟨j1, Int.le_refl _⟩
    have hs0 : s ≠ 0 := fun e => by subst e; simp at hbit
    have hb := load_bound hc.tk s rs.length (Nat.le_refl _)
    have hst := hc.start
    refine crowded_V (s := (s : Int)) ?_
    simp only [crowdedM, Bool.and_eq_true, decide_eq_true_eq, Int.toNat_natCast]
    refine ⟨check_zero.2 hc, ⟨by omega, ?_⟩, ?_⟩
    · generalize 2 ^ rs.length = q at *
      omega
    · refine (crowd_iff (by unfold loadM; omega) rs.length).2 fun k hk hb => ?_
      rw [j2] at hb
      have := (set_mem.1 hb).2
      omega
/-- The set that Crowd has is crowded. -/
theorem crowd_is {st : Int} {rs : List Rep} (hc : OKc st rs) {s : Nat} (hs : crowdT st rs rs.length = some s) : crowdedM st rs s = true := by
  have : ∀ n, crowdT st rs n = some s → n ≤ rs.length → ∃ j, j < n ∧ s = crowdS rs j ∧ (impM rs).getD j 0 < st + loadM rs s := by
    intro n
    induction n with
    | zero => intro h; cases h
    | succ n ih =>
      intro h hn
      simp only [crowdT] at h
      cases hc' : crowdT st rs n with
      | some t =>
        simp only [hc'] at h
        cases h
        obtain ⟨j, h1, h2⟩ := ih hc' (by omega)
        exact ⟨j, by omega, h2⟩
      | none =>
        simp only [hc'] at h
        split at h
        · rename_i hlt; cases h; exact ⟨n, by omega, rfl, hlt⟩
        · cases h
  obtain ⟨j, j1, j2, j3⟩ := this _ hs (Nat.le_refl _)
  have hsl : s < 2 ^ rs.length := by rw [j2]; exact setT_lt _ (Nat.le_refl _)
  have hbit : s.testBit j = true := by rw [j2]; exact set_mem.2 ⟨j1, Int.le_refl _⟩
  have hs0 : s ≠ 0 := fun e => by subst e; simp at hbit
  have hb := load_bound hc.tk s rs.length (Nat.le_refl _)
  have hst := hc.start
  simp only [crowdedM, Bool.and_eq_true, decide_eq_true_eq, Int.toNat_natCast]
  refine ⟨check_zero.2 hc, ⟨by omega, ?_⟩, ?_⟩
  · generalize 2 ^ rs.length = q at *
    omega
  · refine (crowd_iff (by unfold loadM; omega) rs.length).2 fun k hk hb => ?_
    rw [j2] at hb
    have := (set_mem.1 hb).2
    omega
end Sim
