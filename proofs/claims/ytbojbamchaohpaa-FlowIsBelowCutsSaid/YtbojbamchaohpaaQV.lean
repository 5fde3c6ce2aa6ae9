/- What functions of this seat compute, by values: contracts (lemmas of the statement's proof, under the conditions that each names). -/
import Derived.Test.YtbojbamchaohpaaQF5
import Derived.Test.YtbojbamchaohpaaQF1
namespace Sim
set_option linter.unusedVariables false
set_option linter.unusedSimpArgs false
structure SI (A : List Arc) (out : List (List Nat)) (lv : List Int) (N m s t : Nat) (sent : Int) : Prop where
 wp : WPr A m
 ar : ∀ k, k < A.length → aF A k < N ∧ aT A k < N
 out1 : ∀ u, u < N → ∀ k ∈ out.getD u [], k < A.length ∧ aF A k = u
 out2 : ∀ k, k < A.length → k ∈ out.getD (aF A k) []
 lo : out.length = N
 ll : lv.length = N
 sN : s < N
 tN : t < N
 st : s ≠ t
 pr : ∀ k, k < A.length → -1000000 ≤ aP A k ∧ aP A k ≤ 1000000
 l0 : lv.getD s 0 = 0
 lvb : ∀ v, v < N → -(1000000 * (N : Int)) ≤ lv.getD v 0 ∧ lv.getD v 0 ≤ 1000000 * (N : Int)
 val : (fnA A N s t).Val (flA A) sent
 pot : ∃ φ : Nat → Int, (∀ k, k < A.length → 0 < aL A k → 0 ≤ aP A k + φ (aF A k) - φ (aT A k)) ∧ ∀ v, Rch A s v → φ v = lv.getD v 0
section
variable {A : List Arc} {out : List (List Nat)} {lv : List Int} {N m s t : Nat} {sent p : Int}
theorem SI.gr (S : SI A out lv N m s t sent) : Gr A out lv N s := by
 obtain ⟨φ, h1, h2⟩ := S.pot
 refine ⟨S.ar, S.out1, S.out2, S.lo, S.ll, S.sN, S.pr, fun k hk hl hr => ?_, S.l0⟩
 have := h1 k hk hl
 rwa [h2 _ hr, h2 _ (.arc k hk hl hr)] at this
theorem fn_aug_eq {P : List Nat} (w : WPr A m) (hP : ∀ k ∈ P, k < 2 * m) : fnA (aug A p P) N s t = fnA A N s t := by
 have hs := fun j => aug_same (p := p) (j := j) w.len hP
 have hc := fn_aug (N := N) (s := s) (t := t) (p := p) (A := A) (fun i hi => ⟨w.F i hi, w.T i hi⟩) w.len hP
 unfold fnA at hc ⊢
 dsimp only at hc
 rw [aug_len]
 have e1 : (fun i => aF (aug A p P) (2 * i)) = fun i => aF A (2 * i) := funext fun i => (hs _).1
 have e2 : (fun i => aT (aug A p P) (2 * i)) = fun i => aT A (2 * i) := funext fun i => (hs _).2.1
 have e3 : (fun i => aP (aug A p P) (2 * i)) = fun i => aP A (2 * i) := funext fun i => (hs _).2.2
 have e4 : (fun i => aL (aug A p P) (2 * i) + aL (aug A p P) (2 * i + 1)) = fun i => aL A (2 * i) + aL A (2 * i + 1) := funext hc
 rw [e1, e2, e3, e4]
theorem si_step (S : SI A out lv N m s t sent) (ht : Rch A s t) (hp : 0 ≤ p) (hk : ∀ k ∈ pathM A out lv N s t, p ≤ aL A k) : SI (aug A p (pathM A out lv N s t)) out (lvM A out lv N s) N m s t (sent + p) := by
 have G := S.gr
 have hpo := path_ok G ht
 obtain ⟨y1, y2, y3, y4, y5⟩ := lv_ok G
 generalize pathM A out lv N s t = P at *
 generalize lvM A out lv N s = lv' at *
 have hP : ∀ k ∈ P, k < 2 * m := fun k hk => by rw [← S.wp.len]; exact (hpo.arc k hk).1
 have hs := fun j => aug_same (p := p) (j := j) S.wp.len hP
 have hsF : ∀ j, aF (aug A p P) j = aF A j := fun j => (hs j).1
 have hsT : ∀ j, aT (aug A p P) j = aT A j := fun j => (hs j).2.1
 have hsP : ∀ j, aP (aug A p P) j = aP A j := fun j => (hs j).2.2
 -- an open arc was open, or is the reverse of one of the path
 have hop : ∀ k, k < A.length → 0 < aL (aug A p P) k → (0 < aL A k) ∨ (rv k ∈ P) := fun k hk h => by
  rw [aug_L S.wp.len hP] at h
  by_cases c : rv k ∈ P
  ·exact .inr c
  ·rw [List.count_eq_zero_of_not_mem c] at h
   have := Int.mul_nonneg hp (show (0 : Int) ≤ (P.count k : Int) by omega)
   refine .inl ?_
   simp at h; omega
 have hrev : ∀ k, k < A.length → rv k ∈ P → Rch A s (aF A k) ∧ Rch A s (aT A k) ∧ aP A k + lv'.getD (aF A k) 0 - lv'.getD (aT A k) 0 = 0 := fun k hk h => by
  obtain ⟨_, _, a1, a2, a3⟩ := hpo.arc _ h
  obtain ⟨b1, b2, b3⟩ := S.wp.rv (k := k) (by rw [← S.wp.len]; exact hk)
  rw [b1] at a1
  rw [b2] at a2
  rw [b1, b2, b3] at a3
  exact ⟨a2, a1, by omega⟩
 have hR : ∀ v, Rch (aug A p P) s v → Rch A s v := fun v h => by
  induction h with
  | src => exact .src
  | arc k hk hl h ih =>
   rw [aug_len] at hk
   rw [hsT]
   rw [hsF] at ih
   rcases hop k hk hl with g | g
   ·exact .arc k hk g ih
   ·exact (hrev k hk g).2.1
 refine ⟨aug_wp S.wp hpo hp hk, fun k hk => ?_, fun u hu k hk => ?_, fun k hk => ?_, S.lo, y1, S.sN, S.tN, S.st, fun k hk => ?_, y2, fun v hv => ?_, fun v hv => ?_, ?_⟩
 ·rw [hsF, hsT]; rw [aug_len] at hk; exact S.ar k hk
 ·rw [hsF, aug_len]; exact S.out1 u hu k hk
 ·rw [hsF]; rw [aug_len] at hk; exact S.out2 k hk
 ·rw [hsP]; rw [aug_len] at hk; exact S.pr k hk
 ·by_cases c : Rch A s v
  ·exact (y4 v hv c).2
  ·rw [y5 v hv c]; exact S.lvb v hv
 ·have hn := aug_net (N := N) (t := t) (p := p) (m := m) hpo.isP (fun i hi => ⟨S.wp.F i hi, S.wp.T i hi⟩) S.wp.len hP v
  rw [fn_aug_eq S.wp hP, hn, S.val v hv]
  show (if s = v then sent else 0) - (if t = v then sent else 0) + _ = (if s = v then sent + p else 0) - (if t = v then sent + p else 0)
  repeat' split
  all_goals omega
 ·obtain ⟨φ, f1, f2⟩ := S.pot
  refine ⟨fun v => @ite _ (Rch A s v) (Classical.propDecidable _) (lv'.getD v 0) (φ v + 2000000 * (N : Int)), fun k hk hl => ?_, fun v hv => ?_⟩
  ·rw [aug_len] at hk
   rw [hsF, hsT, hsP]
   dsimp only
   rcases hop k hk hl with g | g
   ·have h1 := f1 k hk g
    obtain ⟨u1, u2⟩ := S.ar k hk
    by_cases c1 : Rch A s (aF A k)
    ·have c2 : Rch A s (aT A k) := .arc k hk g c1
     rw [if_pos c1, if_pos c2]
     exact y3 k hk g c1
    ·rw [if_neg c1]
     by_cases c2 : Rch A s (aT A k)
     ·rw [if_pos c2]
      have h2 := f2 _ c2
      have h3 := y4 _ u2 c2
      have h4 := S.lvb _ u2
      omega
     ·rw [if_neg c2]; omega
   ·obtain ⟨a1, a2, a3⟩ := hrev k hk g
    rw [if_pos a1, if_pos a2]; omega
  ·dsimp only; rw [if_pos (hR v hv)]
theorem si_flow (S : SI A out lv N m s t sent) : (fnA A N s t).WF ∧ (fnA A N s t).Flow (flA A) sent ∧ ∃ φ, (fnA A N s t).Pot (flA A) φ := by
 have hm : (fnA A N s t).m = m := by show A.length / 2 = m; rw [S.wp.len]; omega
 obtain ⟨φ, f1, f2⟩ := S.pot
 have hl := S.wp.len
 refine ⟨⟨S.sN, S.tN, fun i hi => ?_⟩, ⟨fun i hi => ?_, fun i hi => ?_, S.val⟩, φ, fun i hi => ⟨fun h => ?_, fun h => ?_⟩⟩ <;> rw [hm] at hi
 ·exact S.ar (2 * i) (by omega)
 ·exact S.wp.nn _ (by omega)
 ·have := S.wp.nn (2 * i) (by omega)
  show aL A (2 * i + 1) ≤ aL A (2 * i) + aL A (2 * i + 1)
  omega
 ·have h : aL A (2 * i + 1) < aL A (2 * i) + aL A (2 * i + 1) := h
  exact f1 (2 * i) (by omega) (by omega)
 ·have h : 0 < aL A (2 * i + 1) := h
  have := f1 (2 * i + 1) (by omega) h
  rw [S.wp.F i hi, S.wp.T i hi, S.wp.P i hi] at this
  show aP A (2 * i) + φ (aF A (2 * i)) - φ (aT A (2 * i)) ≤ 0
  omega
theorem si_max (S : SI A out lv N m s t sent) (h : ¬ Rch A s t) {f : Nat → Int} {b : Int} (hf : (fnA A N s t).Flow f b) : b ≤ sent := by
 have hm : (fnA A N s t).m = m := by show A.length / 2 = m; rw [S.wp.len]; omega
 have hl := S.wp.len
 refine @FN.cut (fnA A N s t) (si_flow S).1 (flA A) f sent b (Rch A s) (fun _ => Classical.propDecidable _) S.val hf .src h (fun i hi h1 h2 => ?_) fun i hi h1 h2 => ?_
 ·rw [hm] at hi
  show aL A (2 * i) + aL A (2 * i + 1) ≤ aL A (2 * i + 1)
  have : ¬ 0 < aL A (2 * i) := fun g => h2 (.arc (2 * i) (by omega) g h1)
  omega
 ·rw [hm] at hi
  show aL A (2 * i + 1) ≤ 0
  have : ¬ 0 < aL A (2 * i + 1) := fun g => h1 (by
   have : Rch A s (aT A (2 * i + 1)) := .arc (2 * i + 1) (by omega) g (by rw [S.wp.F i hi]; exact h2)
   rwa [S.wp.T i hi] at this)
  omega
end
def pushM (A : List Arc) (b : Int) (P : List Nat) : Int := P.foldl (fun x k => if aL A k < x then aL A k else x) b
theorem push_le {A : List Arc} : ∀ {P : List Nat} {b : Int}, pushM A b P ≤ b ∧ (∀ k ∈ P, pushM A b P ≤ aL A k) ∧ (0 < b → (∀ k ∈ P, 0 < aL A k) → 0 < pushM A b P)
 | [], b => ⟨Int.le_refl _, by simp, fun h _ => h⟩
 | k :: P, b => by
  obtain ⟨h1, h2, h3⟩ := push_le (A := A) (P := P) (b := if aL A k < b then aL A k else b)
  have e : pushM A b (k :: P) = pushM A (if aL A k < b then aL A k else b) P := rfl
  rw [e]
  refine ⟨?_, fun j hj => ?_, fun hb hj => h3 ?_ fun j hj' => hj j (by simp [hj'])⟩
  ·split at h1 <;> rename_i c <;> simp only [c, if_true, if_false] <;> omega
  ·rcases List.mem_cons.1 hj with g | g
   ·subst g
    split at h1 <;> rename_i c <;> simp only [c, if_true, if_false] <;> omega
   ·exact h2 j g
  ·have := hj k (by simp)
   split <;> omega
inductive SendR (out : List (List Nat)) (N s t : Nat) (bytes : Int) : List Arc → List Int → Int → List Arc → Int → Prop
 | full (A lv sent) (h : ¬ sent < bytes) : SendR out N s t bytes A lv sent A sent
 | stop (A lv sent) (h : sent < bytes) (hd : (finD A out lv N s).done.getD t true = false) : SendR out N s t bytes A lv sent A sent
 | step (A lv sent A' r) (h : sent < bytes) (hd : (finD A out lv N s).done.getD t true = true)
   (hr : SendR out N s t bytes (aug A (pushM A (bytes - sent) (pathM A out lv N s t)) (pathM A out lv N s t)) (lvM A out lv N s) (sent + pushM A (bytes - sent) (pathM A out lv N s t)) A' r) : SendR out N s t bytes A lv sent A' r
theorem send_det {out : List (List Nat)} {N s t : Nat} {bytes : Int} {A : List Arc} {lv : List Int} {sent : Int} {A' A'' : List Arc} {r r' : Int} (h : SendR out N s t bytes A lv sent A' r) (h' : SendR out N s t bytes A lv sent A'' r') : A' = A'' ∧ r = r' := by
 induction h with
 | full A lv sent h =>
  cases h' with
  | full => exact ⟨rfl, rfl⟩
  | stop _ _ _ g => exact absurd g h
  | step _ _ _ _ _ g => exact absurd g h
 | stop A lv sent h hd =>
  cases h' with
  | full _ _ _ g => exact absurd h g
  | stop => exact ⟨rfl, rfl⟩
  | step _ _ _ _ _ _ g => rw [hd] at g; cases g
 | step A lv sent A' r h hd hr ih =>
  cases h' with
  | full _ _ _ g => exact absurd h g
  | stop _ _ _ _ g => rw [hd] at g; cases g
  | step _ _ _ _ _ _ _ g => exact ih g
section
variable {A : List Arc} {out : List (List Nat)} {lv : List Int} {N m s t : Nat} {sent bytes : Int}
theorem done_iff (S : SI A out lv N m s t sent) : (finD A out lv N s).done.getD t true = true ↔ Rch A s t := by
 obtain ⟨dp, F⟩ := fin_ok S.gr
 exact F.don t S.tN
theorem send_one (S : SI A out lv N m s t sent) (h : sent < bytes) (hd : (finD A out lv N s).done.getD t true = true) : SI (aug A (pushM A (bytes - sent) (pathM A out lv N s t)) (pathM A out lv N s t)) out (lvM A out lv N s) N m s t (sent + pushM A (bytes - sent) (pathM A out lv N s t)) ∧ 0 < pushM A (bytes - sent) (pathM A out lv N s t) ∧ pushM A (bytes - sent) (pathM A out lv N s t) ≤ bytes - sent := by
 have ht := (done_iff S).1 hd
 have hpo := path_ok S.gr ht
 obtain ⟨h1, h2, h3⟩ := push_le (A := A) (P := pathM A out lv N s t) (b := bytes - sent)
 have h4 := h3 (by omega) fun k hk => (hpo.arc k hk).2.1
 exact ⟨si_step S ht (by omega) h2, h4, h1⟩
theorem send_ex : ∀ (n : Nat) {A : List Arc} {lv : List Int} {sent : Int}, (bytes - sent).toNat ≤ n → SI A out lv N m s t sent → ∃ A' r, SendR out N s t bytes A lv sent A' r := by
 intro n
 induction n with
 | zero =>
  intro A lv sent hn S
  exact ⟨A, sent, .full _ _ _ (by omega)⟩
 | succ n ih =>
  intro A lv sent hn S
  by_cases h : sent < bytes
  ·cases hd : (finD A out lv N s).done.getD t true with
   | false => exact ⟨A, sent, .stop _ _ _ h hd⟩
   | true =>
    obtain ⟨S', h1, h2⟩ := send_one S h hd
    obtain ⟨A', r, hr⟩ := ih (by omega) S'
    exact ⟨A', r, .step _ _ _ _ _ h hd hr⟩
  ·exact ⟨A, sent, .full _ _ _ h⟩
theorem send_ok {A' : List Arc} {r : Int} (h : SendR out N s t bytes A lv sent A' r) : SI A out lv N m s t sent → sent ≤ bytes → ∃ lv', SI A' out lv' N m s t r ∧ r ≤ bytes ∧ sent ≤ r ∧ (r < bytes → ¬ Rch A' s t) ∧ fnA A' N s t = fnA A N s t := by
 induction h with
 | full A lv sent h => exact fun S hb => ⟨lv, S, hb, Int.le_refl _, fun g => absurd g h, rfl⟩
 | stop A lv sent h hd =>
  intro S hb
  exact ⟨lv, S, hb, Int.le_refl _, fun _ g => (by rw [(done_iff S).2 g] at hd; cases hd), rfl⟩
 | step A lv sent A' r h hd hr ih =>
  intro S hb
  obtain ⟨S', h1, h2⟩ := send_one S h hd
  obtain ⟨lv', a1, a2, a3, a4, a5⟩ := ih S' (by omega)
  refine ⟨lv', a1, a2, by omega, a4, a5.trans ?_⟩
  have hpo := path_ok S.gr ((done_iff S).1 hd)
  exact fn_aug_eq S.wp fun k hk => by rw [← S.wp.len]; exact (hpo.arc k hk).1
end
noncomputable def sendM (A : List Arc) (out : List (List Nat)) (lv : List Int) (N s t : Nat) (bytes : Int) : List Arc × Int := @dite _ (∃ x : List Arc × Int, SendR out N s t bytes A lv 0 x.1 x.2) (Classical.propDecidable _) Classical.choose fun _ => ([], 0)
theorem sendM_of {A : List Arc} {out : List (List Nat)} {lv : List Int} {N s t : Nat} {bytes : Int} {A' : List Arc} {r : Int} (h : SendR out N s t bytes A lv 0 A' r) : sendM A out lv N s t bytes = (A', r) := by
 unfold sendM
 rw [dif_pos ⟨(A', r), h⟩]
 have := Classical.choose_spec (⟨(A', r), h⟩ : ∃ x : List Arc × Int, SendR out N s t bytes A lv 0 x.1 x.2)
 obtain ⟨h1, h2⟩ := send_det this h
 exact Prod.ext h1 h2
theorem sendM_R {A : List Arc} {out : List (List Nat)} {lv : List Int} {N m s t : Nat} {bytes : Int} (S : SI A out lv N m s t 0) : SendR out N s t bytes A lv 0 (sendM A out lv N s t bytes).1 (sendM A out lv N s t bytes).2 := by
 obtain ⟨A', r, h⟩ := send_ex (bytes := bytes) _ (Nat.le_refl _) S
 rw [sendM_of h]; exact h
end Sim
namespace Sim
set_option linter.unusedVariables false
set_option linter.unusedSimpArgs false
structure BS where
 cost : List Int
 known : List Bool
 last : List Int
def rlxB (A : List Arc) (st : BS) (k : Nat) : BS :=
 if 0 < aL A k ∧ st.known.getD (aF A k) false = true ∧ (st.known.getD (aT A k) false = false ∨ st.cost.getD (aF A k) 0 + aP A k < st.cost.getD (aT A k) 0) then ⟨st.cost.set (aT A k) (st.cost.getD (aF A k) 0 + aP A k), st.known.set (aT A k) true, st.last.set (aT A k) k⟩ else st
def fldB (A : List Arc) (st : BS) (n : Nat) : BS := (List.range n).foldl (rlxB A) st
def rndB (A : List Arc) (st : BS) : BS := fldB A st A.length
def iniB (N s : Nat) : BS := ⟨List.replicate N 0, (List.replicate N false).set s true, List.replicate N 0⟩
def runB (A : List Arc) (N s : Nat) : Nat → BS
 | 0 => iniB N s
 | n + 1 => rndB A (runB A N s n)
def finB (A : List Arc) (N s : Nat) : BS := runB A N s N
inductive PL (A : List Arc) (last : List Int) (s : Nat) : Nat → List Nat → Prop
 | nil : PL A last s s []
 | cons (v : Nat) (P : List Nat) (hv : v ≠ s) (hT : aT A (last.getD v 0).toNat = v) (h : PL A last s (aF A (last.getD v 0).toNat) P) : PL A last s v ((last.getD v 0).toNat :: P)
def wtP (A : List Arc) (P : List Nat) : Int := (P.map (aP A)).sum
def Opn (A : List Arc) (P : List Nat) : Prop := ∀ k ∈ P, k < A.length ∧ 0 < aL A k
structure Gb (A : List Arc) (N s : Nat) (φ : Nat → Int) : Prop where
 ar : ∀ k, k < A.length → aF A k < N ∧ aT A k < N
 sN : s < N
 pr : ∀ k, k < A.length → -1000000 ≤ aP A k ∧ aP A k ≤ 1000000
 pot : ∀ k, k < A.length → 0 < aL A k → 0 ≤ aP A k + φ (aF A k) - φ (aT A k)
structure BI (A : List Arc) (N s : Nat) (φ : Nat → Int) (st : BS) (c : Nat) : Prop where
 lc : st.cost.length = N
 lk : st.known.length = N
 ll : st.last.length = N
 ks : st.known.getD s false = true
 cs : st.cost.getD s 0 = 0
 par : ∀ v, v < N → st.known.getD v false = true → v ≠ s → ∃ k : Nat, st.last.getD v 0 = (k : Int) ∧ k < A.length ∧ 0 < aL A k ∧ aT A k = v ∧ st.known.getD (aF A k) false = true ∧ st.cost.getD (aF A k) 0 + aP A k ≤ st.cost.getD v 0
 pl : ∀ v, v < N → st.known.getD v false = true → ∃ P, PL A st.last s v P
 wk : ∀ v, v < N → st.known.getD v false = true → ∃ P, IsP A s v P ∧ Opn A P ∧ wtP A P = st.cost.getD v 0
 mag : ∀ v, v < N → st.known.getD v false = true → -(1000000 * (c : Int)) ≤ st.cost.getD v 0 ∧ st.cost.getD v 0 ≤ 1000000 * (c : Int)
section
variable {A : List Arc} {N s : Nat} {φ : Nat → Int}
theorem nodup_le' : ∀ (L : Nat) (l : List Nat), l.Nodup → (∀ x ∈ l, x < L) → l.length ≤ L
 | 0, l, _, h => by
  cases l with
  | nil => exact Nat.le_refl _
  | cons a l => exact absurd (h a (by simp)) (by omega)
 | L + 1, l, hn, h => by
  by_cases hm : L ∈ l
  ·have h1 := nodup_le' L (l.erase L) (hn.erase L) (fun x hx => by
    have h2 := (hn.mem_erase_iff).1 hx
    have := h x h2.2
    omega)
   rw [List.length_erase_of_mem hm] at h1
   omega
  ·have := nodup_le' L l hn (fun x hx => by
    have h1 := h x hx
    have : x ≠ L := fun e => hm (e ▸ hx)
    omega)
   omega
structure FB (A : List Arc) (N s : Nat) (st : BS) : Prop where
 known : ∀ v, v < N → (st.known.getD v false = true ↔ Rch A s v)
 clo : ∀ k, k < A.length → 0 < aL A k → Rch A s (aF A k) → st.cost.getD (aT A k) 0 ≤ st.cost.getD (aF A k) 0 + aP A k
 cs : st.cost.getD s 0 = 0
 path : ∀ v, v < N → Rch A s v → ∃ P, PL A st.last s v P ∧ IsP A s v P ∧ (P.map (aT A)).Nodup ∧ ∀ k ∈ P, k < A.length ∧ 0 < aL A k ∧ Rch A s (aF A k) ∧ Rch A s (aT A k) ∧ aP A k + st.cost.getD (aF A k) 0 - st.cost.getD (aT A k) 0 = 0
end
end Sim
namespace Sim
set_option linter.unusedVariables false
set_option linter.unusedSimpArgs false
structure SB (A : List Arc) (N m s t : Nat) (sent : Int) : Prop where
 wp : WPr A m
 ar : ∀ k, k < A.length → aF A k < N ∧ aT A k < N
 sN : s < N
 tN : t < N
 st : s ≠ t
 pr : ∀ k, k < A.length → -1000000 ≤ aP A k ∧ aP A k ≤ 1000000
 val : (fnA A N s t).Val (flA A) sent
 pot : ∃ φ : Nat → Int, ∀ k, k < A.length → 0 < aL A k → 0 ≤ aP A k + φ (aF A k) - φ (aT A k)
theorem SI.sb {A : List Arc} {out : List (List Nat)} {lv : List Int} {N m s t : Nat} {sent : Int} (S : SI A out lv N m s t sent) : SB A N m s t sent :=
 ⟨S.wp, S.ar, S.sN, S.tN, S.st, S.pr, S.val, by obtain ⟨φ, h, _⟩ := S.pot; exact ⟨φ, h⟩⟩
def pathB (A : List Arc) (N s t : Nat) : List Nat := pathF A (finB A N s).last s N t
section
variable {A : List Arc} {N m s t : Nat} {sent p bytes : Int}
end
inductive SpecR (N s t : Nat) (bytes : Int) : List Arc → Int → List Arc → Int → Prop
 | full (A sent) (h : ¬ sent < bytes) : SpecR N s t bytes A sent A sent
 | stop (A sent) (h : sent < bytes) (hd : (finB A N s).known.getD t false = false) : SpecR N s t bytes A sent A sent
 | step (A sent A' r) (h : sent < bytes) (hd : (finB A N s).known.getD t false = true)
   (hr : SpecR N s t bytes (aug A (pushM A (bytes - sent) (pathB A N s t)) (pathB A N s t)) (sent + pushM A (bytes - sent) (pathB A N s t)) A' r) : SpecR N s t bytes A sent A' r
section
variable {A : List Arc} {N m s t : Nat} {sent bytes : Int}
end
end Sim
namespace Sim
open Go Go.Proofs
set_option linter.unusedVariables false
set_option linter.unusedSimpArgs false
theorem mixed : Try.prog.follows .mixedOrders = true := by kernel_rfl
abbrev itV (x : It) : PV := .agg [I x.1, I (x.2 : Nat)]
theorem nth_its {l : List It} {k : Nat} (h : k < l.length) : nth (l.map itV) k = .agg [I (l.getD k dI).1, I ((l.getD k dI).2 : Nat)] := nth_mapD dI h
theorem pur_its {l : List It} : pursL (l.map itV) = true := pur_map fun x => by simp [pur_agg, pursL_cons, pur_int, pursL_nil]
theorem inj_its {l m : List It} : (l.map itV = m.map itV) = (l = m) := inj_map fun x y h => by
 simp only [PV.agg.injEq, List.cons.injEq, true_and, and_true, PV.int.injEq] at h
 exact Prod.ext h.1 (by omega)
abbrev arcV (a : Arc) : PV := .agg [I (a.1 : Nat), I (a.2.1 : Nat), I a.2.2.1, I a.2.2.2]
theorem nth_arcs {l : List Arc} {k : Nat} (h : k < l.length) : nth (l.map arcV) k = .agg [I ((l.getD k dA).1 : Nat), I ((l.getD k dA).2.1 : Nat), I (l.getD k dA).2.2.1, I (l.getD k dA).2.2.2] := nth_mapD dA h
theorem pur_arcs {l : List Arc} : pursL (l.map arcV) = true := pur_map fun x => by simp [pur_agg, pursL_cons, pur_int, pursL_nil]
theorem inj_arcs {l m : List Arc} : (l.map arcV = m.map arcV) = (l = m) := inj_map fun x y h => by
 simp only [PV.agg.injEq, List.cons.injEq, true_and, and_true, PV.int.injEq] at h
 exact Prod.ext (by omega) (Prod.ext (by omega) (Prod.ext h.2.2.1 h.2.2.2))
abbrev Lnk := Int × Int × (Fin 24 → Int) × (Fin 24 → Int)
abbrev dL : Lnk := (0, 0, fun _ => 0, fun _ => 0)
def lkC (a : Lnk) : List PV := I a.1 :: I a.2.1 :: ((List.ofFn a.2.2.1).map (PV.int .i64) ++ (List.ofFn a.2.2.2).map (PV.int .i64))
abbrev lnkV (a : Lnk) : PV := .agg (lkC a)
abbrev lnks (l : List Lnk) : PV := .lits 50 (l.map lnkV)
abbrev Net := Int × List Lnk
abbrev netV (n : Net) : PV := .agg [I n.1, lnks n.2]
abbrev Snd := Int × Int × Int
abbrev dS : Snd := (0, 0, 0)
abbrev sndV (a : Snd) : PV := .agg [I a.1, I a.2.1, I a.2.2]
abbrev snds (l : List Snd) : PV := .lits 3 (l.map sndV)
def capA (a : Lnk) (h : Nat) : Int := if g : h < 24 then a.2.2.1 ⟨h, g⟩ else 0
def priA (a : Lnk) (h : Nat) : Int := if g : h < 24 then a.2.2.2 ⟨h, g⟩ else 0
theorem ofFn_at {f : Fin 24 → Int} {h : Nat} (g : h < 24) : (List.ofFn f)[h]? = some (f ⟨h, g⟩) := by
 rw [List.getElem?_eq_getElem (by rw [List.length_ofFn]; exact g), List.getElem_ofFn]
theorem ofFn_inj {f g : Fin 24 → Int} (h : List.ofFn f = List.ofFn g) : f = g := funext fun i => by
 have h1 := ofFn_at (f := f) i.2
 have h2 := ofFn_at (f := g) i.2
 rw [h, h2] at h1
 exact (Option.some.inj h1).symm
theorem ofFn_len {f : Fin 24 → Int} : ((List.ofFn f).map (PV.int .i64)).length = 24 := by rw [List.length_map, List.length_ofFn]
theorem lkC_len {a : Lnk} : (lkC a).length = 50 := by simp [lkC]
theorem lkC_0 {a : Lnk} : (lkC a)[0]? = some (I a.1) := by simp [lkC]
theorem lkC_1 {a : Lnk} : (lkC a)[1]? = some (I a.2.1) := by simp [lkC]
theorem lkC_cap {a : Lnk} {h : Nat} (g : h < 24) : (lkC a)[2 + h]? = some (I (capA a h)) := by
 simp only [lkC, capA, g, dite_true]
 rw [show 2 + h = h + 1 + 1 by omega, List.getElem?_cons_succ, List.getElem?_cons_succ, List.getElem?_append_left (by rw [ofFn_len]; exact g), List.getElem?_map, ofFn_at g]; rfl
theorem lkC_pri {a : Lnk} {h : Nat} (g : h < 24) : (lkC a)[26 + h]? = some (I (priA a h)) := by
 simp only [lkC, priA, g, dite_true]
 rw [show 26 + h = (24 + h) + 1 + 1 by omega, List.getElem?_cons_succ, List.getElem?_cons_succ, List.getElem?_append_right (by rw [ofFn_len]; omega), ofFn_len, show 24 + h - 24 = h by omega, List.getElem?_map, ofFn_at g]; rfl
theorem lkC_take {a : Lnk} : List.take 50 (lkC a) = lkC a := List.take_of_length_le (by rw [lkC_len]; omega)
theorem lkC_inj {a b : Lnk} (h : lkC a = lkC b) : a = b := by
 simp only [lkC, List.cons.injEq, PV.int.injEq, true_and] at h
 obtain ⟨h1, h2, h3⟩ := h
 obtain ⟨h4, h5⟩ := List.append_inj h3 (by rw [ofFn_len, ofFn_len])
 have e : ∀ {f g : Fin 24 → Int}, (List.ofFn f).map (PV.int .i64) = (List.ofFn g).map (PV.int .i64) → f = g := fun h => ofFn_inj (map_inj' (fun x y h => by injection h) h)
 exact Prod.ext h1 (Prod.ext h2 (Prod.ext (e h4) (e h5)))
theorem pur_lkC {a : Lnk} : pursL (lkC a) = true := by
 have : ∀ {l : List Int} {r : List PV}, pursL r = true → pursL (l.map (PV.int .i64) ++ r) = true := by
  intro l r h
  induction l with
  | nil => exact h
  | cons a l ih => simp [pursL_cons, pur_int, ih]
 simp only [lkC, pursL_cons, pur_int, Bool.true_and]
 exact this (pur_ints)
theorem nth_lnks {l : List Lnk} {k : Nat} (h : k < l.length) : nth (l.map lnkV) k = .agg (lkC (l.getD k dL)) := nth_mapD dL h
theorem pur_lnks {l : List Lnk} : pursL (l.map lnkV) = true := pur_map fun x => by rw [pur_agg, pur_lkC]
theorem inj_lnks {l m : List Lnk} : (l.map lnkV = m.map lnkV) = (l = m) := inj_map fun x y h => by
 simp only [PV.agg.injEq] at h
 exact lkC_inj h
theorem nth_snds {l : List Snd} {k : Nat} (h : k < l.length) : nth (l.map sndV) k = .agg [I (l.getD k dS).1, I (l.getD k dS).2.1, I (l.getD k dS).2.2] := nth_mapD dS h
theorem pur_snds {l : List Snd} : pursL (l.map sndV) = true := pur_map fun x => by simp [pur_agg, pursL_cons, pur_int, pursL_nil]
theorem inj_snds {l m : List Snd} : (l.map sndV = m.map sndV) = (l = m) := inj_map fun x y h => by
 simp only [PV.agg.injEq, List.cons.injEq, true_and, and_true, PV.int.injEq] at h
 exact Prod.ext h.1 (Prod.ext h.2.1 h.2.2)
end Sim
