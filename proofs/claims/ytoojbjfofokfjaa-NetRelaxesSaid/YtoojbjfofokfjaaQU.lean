/- What functions of this seat compute, by values: contracts (lemmas of the statement's proof, under the conditions that each names). -/
import Derived.Test.YtoojbjfofokfjaaQZ
namespace Sim
open Go Go.Proofs
set_option linter.unusedVariables false
set_option linter.unusedSimpArgs false
/-! A number of days later. -/
def shS (b : Int) (x : Snd) : Snd := (x.1, x.2.1 + b, x.2.2)
def shD (b : Int) (d : Dem) : Dem := (d.1, d.2.1, d.2.2.1, d.2.2.2.1 + b, d.2.2.2.2 + b)
theorem sh_at {l : List Snd} {b : Int} {k : Nat} (h : k < l.length) : (l.map (shS b)).getD k dS = shS b (l.getD k dS) := by
  simp [h]
theorem day_mod {t : Int} {m : Nat} (h : 0 ≤ t) : (t + 24 * (m : Int)).toNat % 24 = t.toNat % 24 := by omega
theorem cap_day {ls : List Lnk} {f t : Int} {m : Nat} (h : 0 ≤ t) : capM ls f (t + 24 * (m : Int)) = capM ls f t := by unfold capM; rw [day_mod h]
theorem pri_day {ls : List Lnk} {f t : Int} {m : Nat} (h : 0 ≤ t) : priM ls f (t + 24 * (m : Int)) = priM ls f t := by unfold priM; rw [day_mod h]
theorem haveS_sh {ls : List Lnk} {x : Snd} {a t b : Int} : haveS ls (shS b x) a (t + b) = haveS ls x a t := by
  unfold haveS linkM shS
  dsimp only
  by_cases h : x.2.1 < t
  · rw [if_pos h, if_pos (by omega)]
  · rw [if_neg h, if_neg (by omega)]
theorem haveM_sh {ls : List Lnk} {l : List Snd} {d : Dem} {a t b : Int} : haveM ls (l.map (shS b)) (shD b d) a (t + b) = haveM ls l d a t := by
  unfold haveM
  rw [haveT_Sm, haveT_Sm, List.length_map, Sm_eq (g := fun i => haveS ls (l.getD i dS) a t) (fun i hi => by rw [sh_at hi, haveS_sh])]
  congr 1
  unfold have0 shD
  dsimp only
  by_cases h : a = d.1 ∧ d.2.2.2.1 ≤ t
  · rw [if_pos h, if_pos ⟨h.1, by omega⟩]
  · rw [if_neg h, if_neg (fun g => h ⟨g.1, by omega⟩)]
theorem frM_sh {ls : List Lnk} {l : List Snd} {b : Int} {k : Nat} (h : k < l.length) : frM ls (l.map (shS b)) k = frM ls l k := by
  unfold frM
  rw [sh_at h]; rfl
theorem sumT_sh {ls : List Lnk} {l : List Snd} {t f b : Int} : sumT ls (l.map (shS b)) (t + b) f (l.map (shS b)).length = sumT ls l t f l.length := by
  rw [sumT_Sm, sumT_Sm, List.length_map]
  refine Sm_eq fun i hi => ?_
  rw [frM_sh hi, sh_at hi]
  unfold shS
  dsimp only
  by_cases h : (l.getD i dS).2.1 = t ∧ frM ls l i = f
  · rw [if_pos h, if_pos ⟨by omega, h.2⟩]
  · rw [if_neg h, if_neg (fun g => h ⟨by omega, g.2⟩)]
theorem OKr.sh {hn : Int} {ls : List Lnk} {l : List Snd} (ok : OKr hn ls l) {b : Int} (hb : 0 ≤ b) (ht : ∀ k, k < l.length → (l.getD k dS).2.1 + b < 1000000) : OKr hn ls (l.map (shS b)) := by
  refine ⟨ok.net, by rw [List.length_map]; exact ok.len, fun k hk => ?_, fun k hk => ?_, fun k hk => ?_, fun k h0 hk => ?_⟩
  all_goals rw [List.length_map] at hk
  · rw [sh_at hk]; exact ok.link k hk
  · rw [sh_at hk]
    have := ok.tick k hk
    have := ht k hk
    unfold shS; dsimp only; omega
  · rw [sh_at hk]; exact ok.bytes k hk
  · rw [sh_at hk, sh_at (by omega : k - 1 < l.length)]
    have := ok.asc k h0 hk
    unfold shS; dsimp only; omega
theorem cost_sh {hn : Int} {ls : List Lnk} {l : List Snd} (ok : OKr hn ls l) {m : Nat} (ok' : OKr hn ls (l.map (shS (24 * (m : Int))))) : costM hn ls (l.map (shS (24 * (m : Int)))) = costM hn ls l := by
  unfold costM
  rw [if_neg (fun h => h (right_zero.2 ok')), if_neg (fun h => h (right_zero.2 ok)), cost_sum, cost_sum, ← Sm_list, ← Sm_list, List.length_map]
  refine Sm_eq fun i hi => ?_
  rw [sh_at hi]
  unfold costG shS
  dsimp only
  rw [pri_day (ok.tick i hi).1]
theorem serving_sh {hn : Int} {ls : List Lnk} {l : List Snd} {d : Dem} (h : Serving hn ls l d) {m : Nat} (ht : ∀ k, k < l.length → (l.getD k dS).2.1 + 24 * (m : Int) < 1000000) (hd : d.2.2.2.2 + 24 * (m : Int) ≤ 1000000) : Serving hn ls (l.map (shS (24 * (m : Int)))) (shD (24 * (m : Int)) d) := by
  have ok' := h.ok.sh (by omega) ht
  refine ⟨ok', h.from_, h.to_, ?_, ?_, fun k hk => ?_, ?_⟩
  · have := h.dem
    unfold demR shD at *
    dsimp only at *
    omega
  · rw [fit_zero ok']
    intro x hx
    obtain ⟨y, hy, rfl⟩ := List.mem_map.1 hx
    have := (fit_zero h.ok).1 h.fits y hy
    obtain ⟨k, hk, rfl⟩ := at_mem (d := dS) hy
    unfold shS
    dsimp only
    rw [cap_day (h.ok.tick k hk).1]
    exact this
  · have hk : k < l.length := by simpa using hk
    have := h.fed k hk
    rw [frM_sh hk, sh_at hk]
    show sumT ls _ ((l.getD k dS).2.1 + 24 * (m : Int)) _ _ ≤ haveM ls _ _ _ ((l.getD k dS).2.1 + 24 * (m : Int))
    rw [sumT_sh, haveM_sh]
    exact this
  · have := h.late
    show d.2.2.1 ≤ haveM ls _ _ d.2.1 (d.2.2.2.2 + 24 * (m : Int))
    rw [haveM_sh]
    exact this
theorem arT_sh {ls : List Lnk} {l : List Snd} {d : Dem} {b : Int} : ∀ k, k ≤ l.length → arT ls (l.map (shS b)) (shD b d) k = arT ls l d k + b
  | 0, _ => rfl
  | k + 1, hk => by
    have ih := arT_sh (ls := ls) (l := l) (d := d) (b := b) k (by omega)
    simp only [arT, ih]
    rw [sh_at (by omega : k < l.length)]
    have e : (shS b (l.getD k dS)).2.1 + 1 = (l.getD k dS).2.1 + 1 + b := by unfold shS; dsimp only; omega
    rw [e]
    show (if d.2.2.2.1 + b ≤ (l.getD k dS).2.1 + 1 + b ∧ (l.getD k dS).2.1 + 1 + b < arT ls l d k + b ∧ d.2.2.1 ≤ haveM ls (l.map (shS b)) (shD b d) d.2.1 ((l.getD k dS).2.1 + 1 + b) then (l.getD k dS).2.1 + 1 + b else arT ls l d k + b) = _
    rw [haveM_sh]
    by_cases h : d.2.2.2.1 ≤ (l.getD k dS).2.1 + 1 ∧ (l.getD k dS).2.1 + 1 < arT ls l d k ∧ d.2.2.1 ≤ haveM ls l d d.2.1 ((l.getD k dS).2.1 + 1)
    · rw [if_pos h, if_pos ⟨by omega, by omega, h.2.2⟩]
    · rw [if_neg h, if_neg (fun g => h ⟨by omega, by omega, g.2.2⟩)]
/-- When it arrives. -/
def whenT (ls : List Lnk) (l : List Snd) (d : Dem) : Int := if d.2.2.1 ≤ haveM ls l d d.2.1 d.2.2.2.1 then d.2.2.2.1 else arT ls l d l.length
theorem arr_eq' {hn : Int} {ls : List Lnk} {l : List Snd} {d : Dem} (h : Serving hn ls l d) : arrM hn ls l d = (whenT ls l d, 0) := by
  unfold arrM whenT
  rw [if_neg (fun g => g (serves_iff.2 h))]
  split <;> rfl
theorem whenT_sh {ls : List Lnk} {l : List Snd} {d : Dem} {b : Int} : whenT ls (l.map (shS b)) (shD b d) = whenT ls l d + b := by
  unfold whenT
  have e := haveM_sh (ls := ls) (l := l) (d := d) (a := d.2.1) (t := d.2.2.2.1) (b := b)
  show (if d.2.2.1 ≤ haveM ls (l.map (shS b)) (shD b d) d.2.1 (d.2.2.2.1 + b) then d.2.2.2.1 + b else arT ls (l.map (shS b)) (shD b d) (l.map (shS b)).length) = _
  rw [e, List.length_map, arT_sh l.length (Nat.le_refl _)]
  split <;> rfl
theorem arT_bnd {ls : List Lnk} {l : List Snd} {d : Dem} (h : d.2.2.2.1 ≤ d.2.2.2.2) : ∀ k, d.2.2.2.1 ≤ arT ls l d k ∧ arT ls l d k ≤ d.2.2.2.2
  | 0 => ⟨h, Int.le_refl _⟩
  | k + 1 => by
    have ih := arT_bnd (ls := ls) (l := l) h k
    simp only [arT]
    split <;> omega
theorem whenT_bnd {hn : Int} {ls : List Lnk} {l : List Snd} {d : Dem} (h : Serving hn ls l d) : d.2.2.2.1 ≤ whenT ls l d ∧ whenT ls l d ≤ d.2.2.2.2 := by
  have hd : d.2.2.2.1 ≤ d.2.2.2.2 := by have := h.dem; unfold demR at this; omega
  unfold whenT
  split
  · omega
  · exact arT_bnd hd _
/-! With more capacity and an earlier beginning. -/
structure Wider (ls ls' : List Lnk) : Prop where
  len : ls'.length = ls.length
  ends : ∀ k, (ls'.getD k dL).1 = (ls.getD k dL).1 ∧ (ls'.getD k dL).2.1 = (ls.getD k dL).2.1
  caps : ∀ k h, k < ls.length → h < 24 → (capA (ls'.getD k dL) h = capA (ls.getD k dL) h ∨ capA (ls'.getD k dL) h = 1073741824) ∧ priA (ls'.getD k dL) h = priA (ls.getD k dL) h
theorem Wider.refl (ls : List Lnk) : Wider ls ls := ⟨rfl, fun _ => ⟨rfl, rfl⟩, fun _ _ _ _ => ⟨.inl rfl, rfl⟩⟩
section
variable {hn : Int} {ls ls' : List Lnk} {l : List Snd} {d : Dem}
theorem Wider.net (w : Wider ls ls') (h : OKn hn ls) : OKn hn ls' := by
  refine ⟨h.houses, by rw [w.len]; exact h.len, fun k hk => ?_, fun k a hk ha => ?_⟩
  · rw [w.len] at hk
    rw [(w.ends k).1, (w.ends k).2]; exact h.ends k hk
  · rw [w.len] at hk
    have := h.hours k a hk ha
    obtain ⟨h1, h2⟩ := w.caps k a hk ha
    omega
theorem Wider.right (w : Wider ls ls') (h : OKr hn ls l) : OKr hn ls' l := ⟨w.net h.net, h.len, fun k hk => by rw [w.len]; exact h.link k hk, h.tick, h.bytes, h.asc⟩
theorem Wider.haveS (w : Wider ls ls') (x : Snd) (a t : Int) : haveS ls' x a t = haveS ls x a t := by
  unfold Sim.haveS linkM
  rw [(w.ends _).1, (w.ends _).2]
theorem Wider.frM (w : Wider ls ls') (k : Nat) : frM ls' l k = frM ls l k := by
  unfold Sim.frM linkM
  rw [(w.ends _).1]
theorem Wider.haveT (w : Wider ls ls') (a t : Int) (n : Nat) : haveT ls' l a t n = haveT ls l a t n := by
  rw [haveT_Sm, haveT_Sm]
  exact Sm_eq fun i _ => w.haveS _ _ _
theorem Wider.sumT (w : Wider ls ls') (t f : Int) (n : Nat) : sumT ls' l t f n = sumT ls l t f n := by
  rw [sumT_Sm, sumT_Sm]
  exact Sm_eq fun i _ => by rw [w.frM]
/-- An earlier beginning. -/
def eaD (d : Dem) (r : Int) : Dem := (d.1, d.2.1, d.2.2.1, r, d.2.2.2.2)
theorem have0_ea {r : Int} (hd : 0 ≤ d.2.2.1) (hr : r ≤ d.2.2.2.1) (a t : Int) : have0 d a t ≤ have0 (eaD d r) a t := by
  unfold have0 eaD
  dsimp only
  by_cases h : a = d.1 ∧ d.2.2.2.1 ≤ t
  · rw [if_pos h, if_pos ⟨h.1, by omega⟩]; exact Int.le_refl _
  · rw [if_neg h]; split <;> omega
theorem Wider.have (w : Wider ls ls') {r : Int} (hd : 0 ≤ d.2.2.1) (hr : r ≤ d.2.2.2.1) (a t : Int) : haveM ls l d a t ≤ haveM ls' l (eaD d r) a t := by
  unfold haveM
  rw [w.haveT]
  have := have0_ea (d := d) hd hr a t
  omega
theorem Wider.serving (w : Wider ls ls') (h : Serving hn ls l d) {r : Int} (h0 : 0 ≤ r) (hr : r ≤ d.2.2.2.1) : Serving hn ls' l (eaD d r) := by
  have hd := h.dem
  unfold demR at hd
  refine ⟨w.right h.ok, h.from_, h.to_, ?_, ?_, fun k hk => ?_, ?_⟩
  · unfold demR eaD; dsimp only; omega
  · rw [fit_zero (w.right h.ok)]
    intro x hx
    have h1 := (fit_zero h.ok).1 h.fits x hx
    obtain ⟨k, hk, rfl⟩ := at_mem (d := dS) hx
    have h2 := h.ok.link k hk
    have h3 := h.ok.bytes k hk
    unfold capM at h1 ⊢
    obtain ⟨h4, _⟩ := w.caps (l.getD k dS).1.toNat ((l.getD k dS).2.1.toNat % 24) (by omega) (Nat.mod_lt _ (by omega))
    omega
  · rw [w.frM, w.sumT]
    exact Int.le_trans (h.fed k hk) (w.have (by omega) hr _ _)
  · exact Int.le_trans h.late (w.have (by omega) hr _ _)
theorem arT_below {d : Dem} : ∀ {k n : Nat}, k < n → d.2.2.2.1 ≤ (l.getD k dS).2.1 + 1 → d.2.2.1 ≤ haveM ls l d d.2.1 ((l.getD k dS).2.1 + 1) → arT ls l d n ≤ (l.getD k dS).2.1 + 1
  | k, 0, hk, _, _ => absurd hk (by omega)
  | k, n + 1, hk, h1, h2 => by
    simp only [arT]
    by_cases e : k = n
    · subst e
      split
      · omega
      · rename_i h
        have : ¬ (l.getD k dS).2.1 + 1 < arT ls l d k := fun g => h ⟨h1, g, h2⟩
        omega
    · have ih := arT_below (d := d) (k := k) (n := n) (by omega) h1 h2
      split <;> omega
theorem arT_from {d : Dem} : ∀ n, arT ls l d n = d.2.2.2.2 ∨ ∃ k, k < n ∧ arT ls l d n = (l.getD k dS).2.1 + 1 ∧ d.2.2.2.1 ≤ (l.getD k dS).2.1 + 1 ∧ d.2.2.1 ≤ haveM ls l d d.2.1 ((l.getD k dS).2.1 + 1)
  | 0 => .inl rfl
  | n + 1 => by
    simp only [arT]
    split
    · rename_i h
      exact .inr ⟨n, by omega, rfl, h.1, h.2.2⟩
    · rcases arT_from (d := d) n with h | ⟨k, h1, h2⟩
      · exact .inl h
      · exact .inr ⟨k, by omega, h2⟩
theorem haveT_before (h : Serving hn ls l d) {r : Int} (hr : r ≤ d.2.2.2.1) (a : Int) : haveT ls l a r l.length = 0 := by
  rw [haveT_Sm, Sm_eq (g := fun _ => 0), Sm_zero]
  intro i hi
  have := first_tick h i hi
  unfold Sim.haveS
  rw [if_neg (by omega)]
theorem Wider.arrives (w : Wider ls ls') (h : Serving hn ls l d) {r : Int} (h0 : 0 ≤ r) (hr : r ≤ d.2.2.2.1) : whenT ls' l (eaD d r) ≤ whenT ls l d := by
  have hd := h.dem
  unfold demR at hd
  have hb := whenT_bnd h
  by_cases c1 : d.2.2.1 ≤ haveM ls' l (eaD d r) d.2.1 r
  · have e : whenT ls' l (eaD d r) = r := by unfold whenT; rw [if_pos (show (eaD d r).2.2.1 ≤ haveM ls' l (eaD d r) (eaD d r).2.1 (eaD d r).2.2.2.1 from c1)]; rfl
    omega
  · have e : whenT ls' l (eaD d r) = arT ls' l (eaD d r) l.length := by unfold whenT; rw [if_neg (show ¬ (eaD d r).2.2.1 ≤ haveM ls' l (eaD d r) (eaD d r).2.1 (eaD d r).2.2.2.1 from c1)]
    have hbe := arT_bnd (ls := ls') (l := l) (d := eaD d r) (show r ≤ d.2.2.2.2 by omega) l.length
    have hbe2 : arT ls' l (eaD d r) l.length ≤ d.2.2.2.2 := hbe.2
    rw [e]
    unfold whenT
    split
    · rename_i c2
      exfalso
      apply c1
      unfold haveM at c2 ⊢
      rw [w.haveT, haveT_before h hr]
      rw [haveT_before h (Int.le_refl _)] at c2
      have hto : d.2.1 = d.1 := by
        apply Classical.byContradiction
        intro hc
        have : have0 d d.2.1 d.2.2.2.1 = 0 := by unfold have0; rw [if_neg (fun g => hc g.1)]
        omega
      have : have0 (eaD d r) d.2.1 r = d.2.2.1 := by
        unfold have0
        rw [if_pos ⟨hto, Int.le_refl _⟩]; rfl
      omega
    · rcases arT_from (ls := ls) (l := l) (d := d) l.length with g | ⟨k, h1, h2, h3, h4⟩
      · omega
      · rw [h2]
        exact arT_below h1 (by show r ≤ _; omega) (by
          show d.2.2.1 ≤ haveM ls' l (eaD d r) d.2.1 _
          exact Int.le_trans h4 (w.have (by omega) hr _ _))
end
/-- A link with another capacity at an hour. -/
def capS (a : Lnk) (h : Nat) : Lnk := (a.1, a.2.1, (fun i => if i.1 = h then 1073741824 else a.2.2.1 i), a.2.2.2)
theorem wider_set {ls : List Lnk} {i h : Nat} (hi : i < ls.length) (hh : h < 24) : Wider ls (ls.set i (capS (ls.getD i dL) h)) := by
  have key : ∀ k, (ls.set i (capS (ls.getD i dL) h)).getD k dL = if i = k then capS (ls.getD i dL) h else ls.getD k dL := fun k => by
    rw [List.getD_eq_getElem?_getD, List.getElem?_set]
    by_cases e : i = k
    · subst e; simp [hi]
    · simp [e]
  refine ⟨by simp, fun k => ?_, fun k a hk ha => ?_⟩
  · rw [key]
    split
    · rename_i e; subst e; exact ⟨rfl, rfl⟩
    · exact ⟨rfl, rfl⟩
  · rw [key]
    split
    · rename_i e; subst e
      refine ⟨?_, rfl⟩
      unfold capA
      rw [dif_pos ha, dif_pos ha]
      unfold capS
      dsimp only
      by_cases e : a = h
      · rw [if_pos e]; exact .inr rfl
      · rw [if_neg e]; exact .inl rfl
    · exact ⟨.inl rfl, rfl⟩
end Sim
