/- What functions of this seat compute, by values: contracts (lemmas of the statement's proof, under the conditions that each names). -/
import Derived.Test.YtbojbamchaohpaaQF5
namespace Sim
set_option linter.unusedVariables false
set_option linter.unusedSimpArgs false
structure SI (A : List Arc) (out : List (List Nat)) (lv : List Int) (N m s t : Nat) (sent : Int) : Prop where
 wp : WPr A m
 ar : ∀ k, k < A.length → aF A k < N ∧ aT A k < N
 out1 : ∀ u, u < N → ∀ k ∈ out.getD u [], k < A.length ∧ aF A k = u
 out2 : ∀ k, k < A.length → k ∈ out.getD (aF A k) []
 lo : out.length = N
 ll : lv.length = N
 sN : s < N
 tN : t < N
 st : s ≠ t
 pr : ∀ k, k < A.length → -1000000 ≤ aP A k ∧ aP A k ≤ 1000000
 l0 : lv.getD s 0 = 0
 lvb : ∀ v, v < N → -(1000000 * (N : Int)) ≤ lv.getD v 0 ∧ lv.getD v 0 ≤ 1000000 * (N : Int)
 val : (fnA A N s t).Val (flA A) sent
 pot : ∃ φ : Nat → Int, (∀ k, k < A.length → 0 < aL A k → 0 ≤ aP A k + φ (aF A k) - φ (aT A k)) ∧ ∀ v, Rch A s v → φ v = lv.getD v 0
section
variable {A : List Arc} {out : List (List Nat)} {lv : List Int} {N m s t : Nat} {sent p : Int}
theorem SI.gr (S : SI A out lv N m s t sent) : Gr A out lv N s := by
 obtain ⟨φ, h1, h2⟩ := S.pot
 refine ⟨S.ar, S.out1, S.out2, S.lo, S.ll, S.sN, S.pr, fun k hk hl hr => ?_, S.l0⟩
 have := h1 k hk hl
 rwa [h2 _ hr, h2 _ (.arc k hk hl hr)] at this
theorem fn_aug_eq {P : List Nat} (w : WPr A m) (hP : ∀ k ∈ P, k < 2 * m) : fnA (aug A p P) N s t = fnA A N s t := by
 have hs := fun j => aug_same (p := p) (j := j) w.len hP
 have hc := fn_aug (N := N) (s := s) (t := t) (p := p) (A := A) (fun i hi => ⟨w.F i hi, w.T i hi⟩) w.len hP
 unfold fnA at hc ⊢
 dsimp only at hc
 rw [aug_len]
 have e1 : (fun i => aF (aug A p P) (2 * i)) = fun i => aF A (2 * i) := funext fun i => (hs _).1
 have e2 : (fun i => aT (aug A p P) (2 * i)) = fun i => aT A (2 * i) := funext fun i => (hs _).2.1
 have e3 : (fun i => aP (aug A p P) (2 * i)) = fun i => aP A (2 * i) := funext fun i => (hs _).2.2
 have e4 : (fun i => aL (aug A p P) (2 * i) + aL (aug A p P) (2 * i + 1)) = fun i => aL A (2 * i) + aL A (2 * i + 1) := funext hc
 rw [e1, e2, e3, e4]
theorem si_step (S : SI A out lv N m s t sent) (ht : Rch A s t) (hp : 0 ≤ p) (hk : ∀ k ∈ pathM A out lv N s t, p ≤ aL A k) : SI (aug A p (pathM A out lv N s t)) out (lvM A out lv N s) N m s t (sent + p) := by
 have G := S.gr
 have hpo := path_ok G ht
 obtain ⟨y1, y2, y3, y4, y5⟩ := lv_ok G
 generalize pathM A out lv N s t = P at *
 generalize lvM A out lv N s = lv' at *
 have hP : ∀ k ∈ P, k < 2 * m := fun k hk => by rw [← S.wp.len]; exact (hpo.arc k hk).1
 have hs := fun j => aug_same (p := p) (j := j) S.wp.len hP
 have hsF : ∀ j, aF (aug A p P) j = aF A j := fun j => (hs j).1
 have hsT : ∀ j, aT (aug A p P) j = aT A j := fun j => (hs j).2.1
 have hsP : ∀ j, aP (aug A p P) j = aP A j := fun j => (hs j).2.2
 -- an open arc was open, or is the reverse of one of the path
 have hop : ∀ k, k < A.length → 0 < aL (aug A p P) k → (0 < aL A k) ∨ (rv k ∈ P) := fun k hk h => by
  rw [aug_L S.wp.len hP] at h
  by_cases c : rv k ∈ P
  ·exact .inr c
  ·rw [List.count_eq_zero_of_not_mem c] at h
   have := Int.mul_nonneg hp (show (0 : Int) ≤ (P.count k : Int) by omega)
   refine .inl ?_
   simp at h; omega
 have hrev : ∀ k, k < A.length → rv k ∈ P → Rch A s (aF A k) ∧ Rch A s (aT A k) ∧ aP A k + lv'.getD (aF A k) 0 - lv'.getD (aT A k) 0 = 0 := fun k hk h => by
  obtain ⟨_, _, a1, a2, a3⟩ := hpo.arc _ h
  obtain ⟨b1, b2, b3⟩ := S.wp.rv (k := k) (by rw [← S.wp.len]; exact hk)
  rw [b1] at a1
  rw [b2] at a2
  rw [b1, b2, b3] at a3
  exact ⟨a2, a1, by omega⟩
 have hR : ∀ v, Rch (aug A p P) s v → Rch A s v := fun v h => by
  induction h with
  | src => exact .src
  | arc k hk hl h ih =>
   rw [aug_len] at hk
   rw [hsT]
   rw [hsF] at ih
   rcases hop k hk hl with g | g
   ·exact .arc k hk g ih
   ·exact (hrev k hk g).2.1
 refine ⟨aug_wp S.wp hpo hp hk, fun k hk => ?_, fun u hu k hk => ?_, fun k hk => ?_, S.lo, y1, S.sN, S.tN, S.st, fun k hk => ?_, y2, fun v hv => ?_, fun v hv => ?_, ?_⟩
 ·rw [hsF, hsT]; rw [aug_len] at hk; exact S.ar k hk
 ·rw [hsF, aug_len]; exact S.out1 u hu k hk
 ·rw [hsF]; rw [aug_len] at hk; exact S.out2 k hk
 ·rw [hsP]; rw [aug_len] at hk; exact S.pr k hk
 ·by_cases c : Rch A s v
  ·exact (y4 v hv c).2
  ·rw [y5 v hv c]; exact S.lvb v hv
 ·have hn := aug_net (N := N) (t := t) (p := p) (m := m) hpo.isP (fun i hi => ⟨S.wp.F i hi, S.wp.T i hi⟩) S.wp.len hP v
  rw [fn_aug_eq S.wp hP, hn, S.val v hv]
  show (if s = v then sent else 0) - (if t = v then sent else 0) + _ = (if s = v then sent + p else 0) - (if t = v then sent + p else 0)
  repeat' split
  all_goals omega
 ·obtain ⟨φ, f1, f2⟩ := S.pot
  refine ⟨fun v => @ite _ (Rch A s v) (Classical.propDecidable _) (lv'.getD v 0) (φ v + 2000000 * (N : Int)), fun k hk hl => ?_, fun v hv => ?_⟩
  ·rw [aug_len] at hk
   rw [hsF, hsT, hsP]
   dsimp only
   rcases hop k hk hl with g | g
   ·have h1 := f1 k hk g
    obtain ⟨u1, u2⟩ := S.ar k hk
    by_cases c1 : Rch A s (aF A k)
    ·have c2 : Rch A s (aT A k) := .arc k hk g c1
     rw [if_pos c1, if_pos c2]
     exact y3 k hk g c1
    ·rw [if_neg c1]
     by_cases c2 : Rch A s (aT A k)
     ·rw [if_pos c2]
      have h2 := f2 _ c2
      have h3 := y4 _ u2 c2
      have h4 := S.lvb _ u2
      omega
     ·rw [if_neg c2]; omega
   ·obtain ⟨a1, a2, a3⟩ := hrev k hk g
    rw [if_pos a1, if_pos a2]; omega
  ·dsimp only; rw [if_pos (hR v hv)]
theorem si_flow (S : SI A out lv N m s t sent) : (fnA A N s t).WF ∧ (fnA A N s t).Flow (flA A) sent ∧ ∃ φ, (fnA A N s t).Pot (flA A) φ := by
 have hm : (fnA A N s t).m = m := by show A.length / 2 = m; rw [S.wp.len]; omega
 obtain ⟨φ, f1, f2⟩ := S.pot
 have hl := S.wp.len
 refine ⟨⟨S.sN, S.tN, fun i hi => ?_⟩, ⟨fun i hi => ?_, fun i hi => ?_, S.val⟩, φ, fun i hi => ⟨fun h => ?_, fun h => ?_⟩⟩ <;> rw [hm] at hi
 ·exact S.ar (2 * i) (by omega)
 ·exact S.wp.nn _ (by omega)
 ·have := S.wp.nn (2 * i) (by omega)
  show aL A (2 * i + 1) ≤ aL A (2 * i) + aL A (2 * i + 1)
  omega
 ·have h : aL A (2 * i + 1) < aL A (2 * i) + aL A (2 * i + 1) := h
  exact f1 (2 * i) (by omega) (by omega)
 ·have h : 0 < aL A (2 * i + 1) := h
  have := f1 (2 * i + 1) (by omega) h
  rw [S.wp.F i hi, S.wp.T i hi, S.wp.P i hi] at this
  show aP A (2 * i) + φ (aF A (2 * i)) - φ (aT A (2 * i)) ≤ 0
  omega
theorem si_max (S : SI A out lv N m s t sent) (h : ¬ Rch A s t) {f : Nat → Int} {b : Int} (hf : (fnA A N s t).Flow f b) : b ≤ sent := by
 have hm : (fnA A N s t).m = m := by show A.length / 2 = m; rw [S.wp.len]; omega
 have hl := S.wp.len
 refine @FN.cut (fnA A N s t) (si_flow S).1 (flA A) f sent b (Rch A s) (fun _ => Classical.propDecidable _) S.val hf .src h (fun i hi h1 h2 => ?_) fun i hi h1 h2 => ?_
 ·rw [hm] at hi
  show aL A (2 * i) + aL A (2 * i + 1) ≤ aL A (2 * i + 1)
  have : ¬ 0 < aL A (2 * i) := fun g => h2 (.arc (2 * i) (by omega) g h1)
  omega
 ·rw [hm] at hi
  show aL A (2 * i + 1) ≤ 0
  have : ¬ 0 < aL A (2 * i + 1) := fun g => h1 (by
   have : Rch A s (aT A (2 * i + 1)) := .arc (2 * i + 1) (by omega) g (by rw [S.wp.F i hi]; exact h2)
   rwa [S.wp.T i hi] at this)
  omega
end
def pushM (A : List Arc) (b : Int) (P : List Nat) : Int := P.foldl (fun x k => if aL A k < x then aL A k else x) b
theorem push_le {A : List Arc} : ∀ {P : List Nat} {b : Int}, pushM A b P ≤ b ∧ (∀ k ∈ P, pushM A b P ≤ aL A k) ∧ (0 < b → (∀ k ∈ P, 0 < aL A k) → 0 < pushM A b P)
 | [], b => ⟨Int.le_refl _, by simp, fun h _ => h⟩
 | k :: P, b => by
  obtain ⟨h1, h2, h3⟩ := push_le (A := A) (P := P) (b := if aL A k < b then aL A k else b)
  have e : pushM A b (k :: P) = pushM A (if aL A k < b then aL A k else b) P := rfl
  rw [e]
  refine ⟨?_, fun j hj => ?_, fun hb hj => h3 ?_ fun j hj' => hj j (by simp [hj'])⟩
  ·split at h1 <;> rename_i c <;> simp only [c, if_true, if_false] <;> omega
  ·rcases List.mem_cons.1 hj with g | g
   ·subst g
    split at h1 <;> rename_i c <;> simp only [c, if_true, if_false] <;> omega
   ·exact h2 j g
  ·have := hj k (by simp)
   split <;> omega
inductive SendR (out : List (List Nat)) (N s t : Nat) (bytes : Int) : List Arc → List Int → Int → List Arc → Int → Prop
 | full (A lv sent) (h : ¬ sent < bytes) : SendR out N s t bytes A lv sent A sent
 | stop (A lv sent) (h : sent < bytes) (hd : (finD A out lv N s).done.getD t true = false) : SendR out N s t bytes A lv sent A sent
 | step (A lv sent A' r) (h : sent < bytes) (hd : (finD A out lv N s).done.getD t true = true)
   (hr : SendR out N s t bytes (aug A (pushM A (bytes - sent) (pathM A out lv N s t)) (pathM A out lv N s t)) (lvM A out lv N s) (sent + pushM A (bytes - sent) (pathM A out lv N s t)) A' r) : SendR out N s t bytes A lv sent A' r
theorem send_det {out : List (List Nat)} {N s t : Nat} {bytes : Int} {A : List Arc} {lv : List Int} {sent : Int} {A' A'' : List Arc} {r r' : Int} (h : SendR out N s t bytes A lv sent A' r) (h' : SendR out N s t bytes A lv sent A'' r') : A' = A'' ∧ r = r' := by
 induction h with
 | full A lv sent h =>
  cases h' with
  | full => exact ⟨rfl, rfl⟩
  | stop _ _ _ g => exact absurd g h
  | step _ _ _ _ _ g => exact absurd g h
 | stop A lv sent h hd =>
  cases h' with
  | full _ _ _ g => exact absurd h g
  | stop => exact ⟨rfl, rfl⟩
  | step _ _ _ _ _ _ g => rw [hd] at g; cases g
 | step A lv sent A' r h hd hr ih =>
  cases h' with
  | full _ _ _ g => exact absurd h g
  | stop _ _ _ _ g => rw [hd] at g; cases g
  | step _ _ _ _ _ _ _ g => exact ih g
section
variable {A : List Arc} {out : List (List Nat)} {lv : List Int} {N m s t : Nat} {sent bytes : Int}
theorem done_iff (S : SI A out lv N m s t sent) : (finD A out lv N s).done.getD t true = true ↔ Rch A s t := by
 obtain ⟨dp, F⟩ := fin_ok S.gr
 exact F.don t S.tN
theorem send_one (S : SI A out lv N m s t sent) (h : sent < bytes) (hd : (finD A out lv N s).done.getD t true = true) : SI (aug A (pushM A (bytes - sent) (pathM A out lv N s t)) (pathM A out lv N s t)) out (lvM A out lv N s) N m s t (sent + pushM A (bytes - sent) (pathM A out lv N s t)) ∧ 0 < pushM A (bytes - sent) (pathM A out lv N s t) ∧ pushM A (bytes - sent) (pathM A out lv N s t) ≤ bytes - sent := by
 have ht := (done_iff S).1 hd
 have hpo := path_ok S.gr ht
 obtain ⟨h1, h2, h3⟩ := push_le (A := A) (P := pathM A out lv N s t) (b := bytes - sent)
 have h4 := h3 (by omega) fun k hk => (hpo.arc k hk).2.1
 exact ⟨si_step S ht (by omega) h2, h4, h1⟩
theorem send_ex : ∀ (n : Nat) {A : List Arc} {lv : List Int} {sent : Int}, (bytes - sent).toNat ≤ n → SI A out lv N m s t sent → ∃ A' r, SendR out N s t bytes A lv sent A' r := by
 intro n
 induction n with
 | zero =>
  intro A lv sent hn S
  exact ⟨A, sent, .full _ _ _ (by omega)⟩
 | succ n ih =>
  intro A lv sent hn S
  by_cases h : sent < bytes
  ·cases hd : (finD A out lv N s).done.getD t true with
   | false => exact ⟨A, sent, .stop _ _ _ h hd⟩
   | true =>
    obtain ⟨S', h1, h2⟩ := send_one S h hd
    obtain ⟨A', r, hr⟩ := ih (by omega) S'
    exact ⟨A', r, .step _ _ _ _ _ h hd hr⟩
  ·exact ⟨A, sent, .full _ _ _ h⟩
theorem send_ok {A' : List Arc} {r : Int} (h : SendR out N s t bytes A lv sent A' r) : SI A out lv N m s t sent → sent ≤ bytes → ∃ lv', SI A' out lv' N m s t r ∧ r ≤ bytes ∧ sent ≤ r ∧ (r < bytes → ¬ Rch A' s t) ∧ fnA A' N s t = fnA A N s t := by
 induction h with
 | full A lv sent h => exact fun S hb => ⟨lv, S, hb, Int.le_refl _, fun g => absurd g h, rfl⟩
 | stop A lv sent h hd =>
  intro S hb
  exact ⟨lv, S, hb, Int.le_refl _, fun _ g => (by rw [(done_iff S).2 g] at hd; cases hd), rfl⟩
 | step A lv sent A' r h hd hr ih =>
  intro S hb
  obtain ⟨S', h1, h2⟩ := send_one S h hd
  obtain ⟨lv', a1, a2, a3, a4, a5⟩ := ih S' (by omega)
  refine ⟨lv', a1, a2, by omega, a4, a5.trans ?_⟩
  have hpo := path_ok S.gr ((done_iff S).1 hd)
  exact fn_aug_eq S.wp fun k hk => by rw [← S.wp.len]; exact (hpo.arc k hk).1
theorem send_best {A' : List Arc} {r : Int} (h : SendR out N s t bytes A lv 0 A' r) (S : SI A out lv N m s t 0) (hb : 0 ≤ bytes) :
  0 ≤ r ∧ r ≤ bytes ∧ (fnA A N s t).Flow (flA A') r ∧ (∃ φ, (fnA A N s t).Pot (flA A') φ) ∧ (r < bytes → ∀ f b, (fnA A N s t).Flow f b → b ≤ r) ∧ WPr A' m ∧ A'.length = A.length := by
 obtain ⟨lv', S', h1, h2, h3, h4⟩ := send_ok h S hb
 have := si_flow S'
 rw [h4] at this
 refine ⟨h2, h1, this.2.1, this.2.2, fun g f b hf => ?_, S'.wp, ?_⟩
 ·rw [← h4] at hf
  exact si_max S' (h3 g) hf
 ·rw [S'.wp.len, S.wp.len]
end
noncomputable def sendM (A : List Arc) (out : List (List Nat)) (lv : List Int) (N s t : Nat) (bytes : Int) : List Arc × Int := @dite _ (∃ x : List Arc × Int, SendR out N s t bytes A lv 0 x.1 x.2) (Classical.propDecidable _) Classical.choose fun _ => ([], 0)
theorem sendM_of {A : List Arc} {out : List (List Nat)} {lv : List Int} {N s t : Nat} {bytes : Int} {A' : List Arc} {r : Int} (h : SendR out N s t bytes A lv 0 A' r) : sendM A out lv N s t bytes = (A', r) := by
 unfold sendM
 rw [dif_pos ⟨(A', r), h⟩]
 have := Classical.choose_spec (⟨(A', r), h⟩ : ∃ x : List Arc × Int, SendR out N s t bytes A lv 0 x.1 x.2)
 obtain ⟨h1, h2⟩ := send_det this h
 exact Prod.ext h1 h2
theorem sendM_R {A : List Arc} {out : List (List Nat)} {lv : List Int} {N m s t : Nat} {bytes : Int} (S : SI A out lv N m s t 0) : SendR out N s t bytes A lv 0 (sendM A out lv N s t bytes).1 (sendM A out lv N s t bytes).2 := by
 obtain ⟨A', r, h⟩ := send_ex (bytes := bytes) _ (Nat.le_refl _) S
 rw [sendM_of h]; exact h
end Sim
