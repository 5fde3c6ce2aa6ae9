/- What functions of this seat compute, by values: contracts (lemmas of the statement's proof, under the conditions that each names). -/
import Derived.Test.YtpdaiflnibekaaaQY4
import Derived.Test.YtpdaiflnibekaaaQB2
namespace Sim
open Go Go.Proofs
set_option maxRecDepth 10000
set_option maxHeartbeats 2000000
set_option linter.unusedVariables false
set_option linter.unusedSimpArgs false

/-! The document's Best and GiveUp are those of the program. -/
def contB (st : Int) (rs : List Rep) : Nat → Nat → List Int → List Int
  | 0, _, o => o
  | d + 1, s, o => match pick st rs s with
    | some x => contB st rs d (s ||| 2 ^ x.1) (o ++ [(x.1 : Int)])
    | none => o
def cj (rs : List Rep) (s k : Nat) : Int := ch rs k * (loadM rs s + tk rs k)
theorem contB_best {st : Int} {rs : List Rep} {v : Int} (h : V st rs 0 = some v) : ∀ d j, j + d = rs.length → contB st rs d (bestT st rs j).1 (bestT st rs j).2 = (bestT st rs rs.length).2
  | 0, j, hj => by
    have e : j = rs.length := by omega
    subst e; rfl
  | d + 1, j, hj => by
    have hb := best_at h j (by omega)
    obtain ⟨w, hw⟩ := hb.val
    have hlt := cnt_lt_all (rs := rs) (s := (bestT st rs j).1) (by rw [hb.cnt]; omega) hb.le
    obtain ⟨x, hx, r, hp, _⟩ := pick_some hlt hw
    have e : bestT st rs (j + 1) = ((bestT st rs j).1 ||| 2 ^ x.1, (bestT st rs j).2 ++ [(x.1 : Int)]) := by simp only [bestT, hp]
    have ih := contB_best h d (j + 1) (by omega)
    rw [e] at ih
    simp only [contB, hp]
    exact ih
theorem find_first {st : Int} {rs : List Rep} {s : Nat} {p : Nat × Int → Bool} : ∀ {n} {x : Nat × Int}, (stepsT st rs s n).find? p = some x → ∀ y ∈ stepsT st rs s n, y.1 < x.1 → p y = false
  | 0, x, h => by simp [stepsT] at h
  | n + 1, x, h => by
    have ih := @find_first st rs s p n
    intro y hy hlt
    simp only [stepsT] at h hy
    split at h
    · rename_i hs
      rw [if_pos hs] at hy
      rw [List.find?_append] at h
      cases hf : (stepsT st rs s n).find? p with
      | some z =>
        rw [hf, Option.some_or] at h
        cases h
        rcases List.mem_append.1 hy with g | g
        · exact ih hf y g hlt
        · have := (steps_mem.1 (List.mem_of_find?_eq_some hf)).1
          simp only [List.mem_singleton] at g
          rw [g] at hlt
          dsimp only at hlt
          omega
      | none =>
        have hall := List.find?_eq_none.1 hf
        rw [hf, Option.none_or] at h
        have hx := List.mem_of_find?_eq_some h
        simp only [List.mem_singleton] at hx
        rcases List.mem_append.1 hy with g | g
        · simpa using hall y g
        · simp only [List.mem_singleton] at g
          rw [g, hx] at hlt
          omega
    · rename_i hs
      rw [if_neg hs] at hy
      exact ih h y hy hlt
theorem pick_is {st : Int} {rs : List Rep} {s j : Nat} {v r : Int} (hs : s < allS rs) (hv : V st rs s = some v) (hj : j < rs.length) (hok : stepOK st rs s j = true) (hr : V st rs (s ||| 2 ^ j) = some r) (he : cj rs s j + r = v)
    (hf : ∀ i w, i < j → stepOK st rs s i = true → V st rs (s ||| 2 ^ i) = some w → cj rs s i + w ≠ v) : pick st rs s = some (j, cj rs s j) := by
  obtain ⟨x, hx, q, hp, hq, hxq⟩ := pick_some hs hv
  have hm := next_mem.1 hx
  rcases Nat.lt_trichotomy x.1 j with g | g | g
  · exact absurd (by rw [← hxq, hm.2.2]; rfl) (hf x.1 q g hm.2.1 hq)
  · rw [hp]
    obtain ⟨x1, x2⟩ := x
    dsimp only at g hm
    subst g
    rw [hm.2.2]; rfl
  · have := find_first hp (j, cj rs s j) (next_mem.2 ⟨hj, hok, rfl⟩) g
    unfold isBest at this
    simp [hr, hv, he] at this
structure GoodB (st : Int) (rs : List Rep) (d : Nat) (o : List Int) : Prop where
  good : ∀ v, Fits st rs o o.length → V st rs (dT o o.length) = some v → refB st rs d o = (contB st rs d (dT o o.length) o, 0) ∧ (costM st rs (contB st rs d (dT o o.length) o)).1 = pc rs st o o.length + v
  bad : (¬ Fits st rs o o.length ∨ V st rs (dT o o.length) = none) → refB st rs d o = ([], 21)
structure LI (st : Int) (rs : List Rep) (d : Nat) (o : List Int) (s k : Nat) (a : (List Int × Int) × Int) : Prop where
  either : (a = (([], 21), 0) ∧ ∀ i, i < k → stepOK st rs s i = true → V st rs (s ||| 2 ^ i) = none) ∨
    ∃ j r, j < k ∧ stepOK st rs s j = true ∧ V st rs (s ||| 2 ^ j) = some r ∧ a = ((contB st rs d (s ||| 2 ^ j) (o ++ [(j : Int)]), 0), pc rs st o o.length + cj rs s j + r) ∧
      ∀ i w, i < k → stepOK st rs s i = true → V st rs (s ||| 2 ^ i) = some w → cj rs s j + r ≤ cj rs s i + w ∧ (i < j → cj rs s j + r < cj rs s i + w)
theorem fits_of_app {st : Int} {rs : List Rep} {o : List Int} {k : Nat} (h : Fits st rs (o ++ [(k : Int)]) (o ++ [(k : Int)]).length) : Fits st rs o o.length ∧ stepOK st rs (dT o o.length) k = true := by
  rw [List.length_append, List.length_singleton] at h
  have hp := h.pre
  obtain ⟨h1, h2, h3, h4, h5, h6⟩ := app_same (st := st) (rs := rs) (o := o) (k := k) (Nat.le_refl _)
  obtain ⟨⟨a, b, c⟩, e⟩ := hp
  rw [h3] at a; rw [h4] at b; rw [h5] at c
  rw [h1, oi_last] at e
  exact ⟨⟨a, b, c⟩, e⟩
theorem mem_bit {n : Nat} {o : List Int} (h : goodT n o o.length = true) {k : Nat} (hk : (k : Int) ∈ o) : (dT o o.length).testBit k = true := by
  obtain ⟨i, hi, e⟩ := List.getElem_of_mem hk
  refine mem_dT.2 ⟨i, hi, ?_⟩
  unfold oi
  simp [List.getD_eq_getElem?_getD, hi, e]
theorem good_b {st : Int} {rs : List Rep} (hc : OKc st rs) : ∀ d o, o.length + d = rs.length → GoodB st rs d o
  | 0, o, hl => by
    have hle : o.length = rs.length := by omega
    refine ⟨fun v hf hv => ?_, fun h => ?_⟩
    · have h0 : (finM st rs o).2 = 0 := fin_ok.2 ⟨check_zero.2 hc, hle, hf⟩
      have hd : dT o o.length = allS rs := (dT_full hf.good).2 hle
      rw [hd, V_all] at hv
      cases hv
      have := cost_of (check_zero.2 hc) hle hf
      simp only [refB, contB, h0]
      exact ⟨rfl, by rw [this.2]; omega⟩
    · have h0 : (finM st rs o).2 ≠ 0 := fun h0 => by
        have hf := (fin_ok.1 h0).2.2
        rcases h with h | h
        · exact h hf
        · rw [show dT o o.length = allS rs from (dT_full hf.good).2 hle, V_all] at h; cases h
      simp only [refB, if_pos h0]
  | d + 1, o, hl => by
    have ih := good_b hc d
    have hlt : o.length < rs.length := by omega
    by_cases hf : Fits st rs o o.length
    case neg =>
      have hb : ∀ k, refL st rs (refB st rs d) o k = (([], 21), 0) := by
        intro k
        induction k with
        | zero => rfl
        | succ k ihk =>
          simp only [refL, ihk]
          split
          · rfl
          · have := (ih (o ++ [(k : Int)]) (by simp; omega)).bad (.inl fun h => hf (fits_of_app h).1)
            rw [this, if_neg (fun h => by cases h.1)]
      exact ⟨fun v h => absurd h hf, fun _ => by simp only [refB, hb]⟩
    generalize hs : dT o o.length = s
    have hsl : s < allS rs := by
      have h1 := dT_cnt hf.good
      have h2 := dT_lt hf.good
      rw [hs] at h1 h2
      exact cnt_lt_all (by omega) (by unfold allS; omega)
    have hinv : ∀ k, k ≤ rs.length → LI st rs d o s k (refL st rs (refB st rs d) o k) := by
      intro k
      induction k with
      | zero => exact fun _ => ⟨.inl ⟨rfl, fun i hi => by omega⟩⟩
      | succ k ihk =>
        intro hk
        obtain ⟨hi⟩ := ihk (by omega)
        have hsame : (stepOK st rs s k = true → V st rs (s ||| 2 ^ k) = none) → LI st rs d o s (k + 1) (refL st rs (refB st rs d) o k) := by
          intro hno
          refine ⟨?_⟩
          rcases hi with ⟨h1, h2⟩ | ⟨j, r, h1, h2, h3, h4, h5⟩
          · refine .inl ⟨h1, fun i hi hok => ?_⟩
            by_cases e : i = k
            · subst e; exact hno hok
            · exact h2 i (by omega) hok
          · refine .inr ⟨j, r, by omega, h2, h3, h4, fun i w hi hok hw => ?_⟩
            by_cases e : i = k
            · subst e; rw [hno hok] at hw; cases hw
            · exact h5 i w (by omega) hok hw
        simp only [refL]
        by_cases hin : (k : Int) ∈ o
        · rw [if_pos hin]
          refine hsame fun hok => ?_
          have := (step_ok hok).1
          rw [← hs, mem_bit hf.good hin] at this; cases this
        rw [if_neg hin]
        have hg := ih (o ++ [(k : Int)]) (by simp; omega)
        cases hok : stepOK st rs s k with
        | false =>
          have := hg.bad (.inl fun h => by have := (fits_of_app h).2; rw [hs, hok] at this; cases this)
          rw [this, if_neg (fun h => by cases h.1)]
          exact hsame fun h => by rw [hok] at h; cases h
        | true =>
          obtain ⟨f1, f2, f3⟩ := fits_app hf (k := k) (by omega) (by rw [hs]; exact hok)
          rw [hs] at f2 f3
          have el : (o ++ [(k : Int)]).length = o.length + 1 := by simp
          cases hV : V st rs (s ||| 2 ^ k) with
          | none =>
            have := hg.bad (.inr (by rw [el, f2]; exact hV))
            rw [this, if_neg (fun h => by cases h.1)]
            exact hsame fun _ => hV
          | some w =>
            obtain ⟨g1, g2⟩ := hg.good w (by rw [el]; exact f1) (by rw [el, f2]; exact hV)
            rw [el, f2] at g1 g2
            rw [f3] at g2
            rw [g1]
            dsimp only
            rw [g2]
            have ecj : ch rs k * (loadM rs s + tk rs k) = cj rs s k := rfl
            rw [ecj]
            refine ⟨?_⟩
            rcases hi with ⟨h1, h2⟩ | ⟨j, r, h1, h2, h3, h4, h5⟩
            · rw [if_pos ⟨rfl, .inl (by rw [h1]; decide)⟩]
              refine .inr ⟨k, w, by omega, hok, hV, rfl, fun i u hi hoi hu => ?_⟩
              by_cases e : i = k
              · subst e; rw [hV] at hu; cases hu; exact ⟨Int.le_refl _, fun h => by omega⟩
              · rw [h2 i (by omega) hoi] at hu; cases hu
            · by_cases hcmp : pc rs st o o.length + cj rs s k + w < (refL st rs (refB st rs d) o k).2
              · rw [if_pos ⟨rfl, .inr hcmp⟩]
                rw [h4] at hcmp
                dsimp only at hcmp
                refine .inr ⟨k, w, by omega, hok, hV, rfl, fun i u hi hoi hu => ?_⟩
                by_cases e : i = k
                · subst e; rw [hV] at hu; cases hu; exact ⟨Int.le_refl _, fun h => by omega⟩
                · have := (h5 i u (by omega) hoi hu).1
                  exact ⟨by omega, fun _ => by omega⟩
              · rw [if_neg (fun h => h.2.elim (fun h => h (by rw [h4])) hcmp)]
                rw [h4] at hcmp ⊢
                dsimp only at hcmp
                refine .inr ⟨j, r, by omega, h2, h3, rfl, fun i u hi hoi hu => ?_⟩
                by_cases e : i = k
                · subst e; rw [hV] at hu; cases hu; exact ⟨by omega, fun h => by omega⟩
                · exact h5 i u (by omega) hoi hu
    obtain ⟨hend⟩ := hinv rs.length (Nat.le_refl _)
    refine ⟨fun v _ hv => ?_, fun h => ?_⟩
    · rw [hs] at hv ⊢
      rcases hend with ⟨h1, h2⟩ | ⟨j, r, h1, h2, h3, h4, h5⟩
      · obtain ⟨⟨x, hx, r, hr, _⟩, _⟩ := V_some hsl hv
        have hm := next_mem.1 hx
        rw [h2 x.1 hm.1 hm.2.1] at hr; cases hr
      · have hle := (V_some hsl hv).2 (j, cj rs s j) (next_mem.2 ⟨h1, h2, rfl⟩) r h3
        obtain ⟨⟨x, hx, q, hq, hxq⟩, _⟩ := V_some hsl hv
        have hm := next_mem.1 hx
        have hx2 : x.2 = cj rs s x.1 := hm.2.2
        have hge := (h5 x.1 q hm.1 hm.2.1 hq).1
        dsimp only at hle
        have hev : cj rs s j + r = v := by omega
        have hp := pick_is hsl hv h1 h2 h3 hev fun i w hi hok hw => by have := (h5 i w (by omega) hok hw).2 hi; omega
        simp only [refB, h4, contB, hp]
        refine ⟨trivial, ?_⟩
        obtain ⟨f1, f2, f3⟩ := fits_app hf (k := j) h1 (by rw [hs]; exact h2)
        rw [hs] at f2 f3
        have el : (o ++ [(j : Int)]).length = o.length + 1 := by simp
        obtain ⟨g1, g2⟩ := (ih (o ++ [(j : Int)]) (by simp; omega)).good r (by rw [el]; exact f1) (by rw [el, f2]; exact h3)
        rw [el, f2] at g2
        rw [g2, f3, ← hev]
        have ecj : ch rs j * (loadM rs s + tk rs j) = cj rs s j := rfl
        rw [ecj]; omega
    · rcases h with h | h
      · exact absurd hf h
      · rw [hs] at h
        rcases hend with ⟨h1, h2⟩ | ⟨j, r, h1, h2, h3, h4, h5⟩
        · simp only [refB, h1]
        · have := (V_none hsl).1 h (j, cj rs s j) (next_mem.2 ⟨h1, h2, rfl⟩)
          dsimp only at this
          rw [this] at h3; cases h3
theorem rbest_eq {st : Int} {rs : List Rep} : rbestM st rs = bestM st rs := by
  unfold rbestM bestM
  by_cases h : checkM st rs = 0
  case neg => rw [if_pos h, if_pos h]
  rw [if_neg (fun hn => hn h), if_neg (fun hn => hn h)]
  have hg := good_b (check_zero.1 h) rs.length [] (by simp)
  have hf : Fits st rs [] ([] : List Int).length := ⟨rfl, rfl, rfl⟩
  have hd : dT [] ([] : List Int).length = 0 := rfl
  cases hv : V st rs 0 with
  | none => exact hg.bad (.inr (by rw [hd]; exact hv))
  | some v =>
    rw [(hg.good v hf (by rw [hd]; exact hv)).1, hd]
    have := contB_best hv rs.length 0 (by omega)
    simp only [bestT] at this
    rw [this]
theorem rgive_eq {st : Int} {rs : List Rep} : rgiveM st rs = giveM st rs := by
  unfold rgiveM giveM
  by_cases h : checkM st rs = 0
  case neg => rw [if_pos h, if_pos h]
  rw [if_neg (fun hn => hn h), if_neg (fun hn => hn h)]
  have hc := check_zero.1 h
  have hgo : ∀ s : Nat, goesOn st rs s = true ↔ (withM st rs (s : Int)).2 = 0 ∧ (rbestM (withM st rs (s : Int)).1.1 (withM st rs (s : Int)).1.2).2 = 0 := fun s => by rw [goes_best, rbest_eq]
  have key : ∀ s, (rgT st rs s = none ∧ giveT st rs s = (0, 1125899906842624) ∧ ∀ t, t < s → goesOn st rs t = false) ∨ ∃ n, rgT st rs s = some n ∧ giveT st rs s = (n, chanceM rs n) := by
    intro s
    induction s with
    | zero => exact .inl ⟨rfl, rfl, fun t ht => by omega⟩
    | succ s ih =>
      have hb := chance_bound hc.ch s rs.length (Nat.le_refl _)
      have hb2 : chanceM rs s < 1125899906842624 := by unfold chanceM; omega
      have hg := hgo s
      simp only [rgT, giveT]
      rcases ih with ⟨h1, h2, h3⟩ | ⟨n, h1, h2⟩
      · rw [h1, h2]
        simp only [rgS]
        by_cases a : (withM st rs (s : Int)).2 = 0
        · rw [if_pos a]
          by_cases b : (rbestM (withM st rs (s : Int)).1.1 (withM st rs (s : Int)).1.2).2 = 0
          · rw [if_pos b, if_pos ⟨hb2, hg.2 ⟨a, b⟩⟩]
            exact .inr ⟨s, rfl, rfl⟩
          · rw [if_neg b, if_neg (fun h => b (hg.1 h.2).2)]
            refine .inl ⟨rfl, rfl, fun t ht => ?_⟩
            by_cases e : t = s
            · subst e; cases hx : goesOn st rs t
              · rfl
              · exact absurd (hg.1 hx).2 b
            · exact h3 t (by omega)
        · rw [if_neg a, if_neg (fun h => a (hg.1 h.2).1)]
          refine .inl ⟨rfl, rfl, fun t ht => ?_⟩
          by_cases e : t = s
          · subst e; cases hx : goesOn st rs t
            · rfl
            · exact absurd (hg.1 hx).1 a
          · exact h3 t (by omega)
      · rw [h1, h2]
        simp only [rgS]
        refine .inr ?_
        by_cases a : (withM st rs (s : Int)).2 = 0
        · rw [if_pos a]
          by_cases c : chanceM rs s < chanceM rs n
          · rw [if_pos c]
            by_cases b : (rbestM (withM st rs (s : Int)).1.1 (withM st rs (s : Int)).1.2).2 = 0
            · rw [if_pos b, if_pos ⟨c, hg.2 ⟨a, b⟩⟩]
              exact ⟨s, rfl, rfl⟩
            · rw [if_neg b, if_neg (fun h => b (hg.1 h.2).2)]
              exact ⟨n, rfl, rfl⟩
          · rw [if_neg c, if_neg (fun h => c h.1)]
            exact ⟨n, rfl, rfl⟩
        · rw [if_neg a, if_neg (fun h => a (hg.1 h.2).1)]
          exact ⟨n, rfl, rfl⟩
  have hp := one_le_pow rs.length
  rcases key (2 ^ rs.length) with ⟨_, _, h3⟩ | ⟨n, h1, h2⟩
  · have := h3 (2 ^ rs.length - 1) (by omega)
    rw [goes_all hc] at this; cases this
  · rw [h1, h2]; rfl
end Sim
