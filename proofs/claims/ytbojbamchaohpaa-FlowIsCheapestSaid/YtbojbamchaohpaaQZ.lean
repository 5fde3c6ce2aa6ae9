/- What functions of this seat compute, by values: contracts (lemmas of the statement's proof, under the conditions that each names). -/
import Derived.Test.YtbojbamchaohpaaQCO
import Derived.Test.YtbojbamchaohpaaQS
import Derived.Test.YtbojbamchaohpaaQPO
import Derived.Test.YtbojbamchaohpaaSimW
namespace Sim
open Go Go.Proofs
set_option linter.unusedVariables false
set_option linter.unusedSimpArgs false
section
variable {hn : Int} {ls : List Lnk} {us l : List Snd} {d : Dem}
theorem most_ok (hc : fckM hn ls us d = 0) : PlanOK hn ls us d 1099511627776 ∧ mostM hn ls us d = (planR hn ls us d 1099511627776).2 := by
 obtain ⟨hf, hd, _, _⟩ := fck_ok hc
 exact ⟨planR_ok hf hd (by decide), by unfold mostM; rw [if_pos hc]⟩
theorem cheap_most (hc : fckM hn ls us d = 0) : chpE hn ls us d = 0 ↔ d.2.2.1 ≤ mostM hn ls us d := by
 obtain ⟨P, e⟩ := most_ok hc
 obtain ⟨hf, hd, hD, _⟩ := fck_ok hc
 obtain ⟨_, _, hr⟩ := dem_ok hd
 have hr0 := hr.1
 have hr1 := hr.2.1
 have Q := planR_ok (bytes := d.2.2.1) hf hd (by omega)
 rw [e]
 constructor
 ·intro h
  obtain ⟨_, e2, _⟩ := cheap_ok h
  have q := Q.plan
  rw [e2] at q
  by_cases c : (planR hn ls us d 1099511627776).2 < 1099511627776
  ·exact P.max c _ _ hr1 q
  ·omega
 ·intro h
  apply Classical.byContradiction
  intro hne
  obtain ⟨_, h2⟩ := cheap_none hc hne
  by_cases c : (planR hn ls us d d.2.2.1).2 < d.2.2.1
  ·have := Q.max c _ _ P.n1 P.plan
   omega
  ·have e2 : (planR hn ls us d d.2.2.1).2 = d.2.2.1 := by have := Q.n1; omega
   have q := Q.plan
   rw [e2] at q
   exact h2 _ q
theorem okE_plan (hf : fitM hn ls us = 0) (hd : demM hn d = true) {due : Int} (h0 : d.2.2.2.1 ≤ due) (h1 : due ≤ 1000000) : okE hn ls us d due = true ↔ ∃ g, (netD hn ls us d).Plan (due - d.2.2.2.1).toNat d.1.toNat d.2.1.toNat d.2.2.1 g := by
 obtain ⟨_, _, hr⟩ := dem_ok hd
 have hr0 := hr.1
 have hr1 := hr.2.1
 have P := planR_ok (bytes := d.2.2.1) hf (dW_ok hd h0 h1) (by omega)
 unfold okE
 rw [decide_eq_true_eq]
 constructor
 ·intro h
  have e : (planR hn ls us (dW d due) d.2.2.1).2 = d.2.2.1 := by have := P.n1; omega
  have p := P.plan
  rw [e] at p
  exact ⟨_, p⟩
 ·rintro ⟨g, hg⟩ hlt
  have := P.max hlt _ _ hr1 hg
  omega
theorem fst_iff (hc : fckM hn ls us d = 0) {k : Nat} (hk : k ≤ durM d) : okE hn ls us d (d.2.2.2.1 + (k : Int)) = true ↔ fstE hn ls us d ≤ k := by
 obtain ⟨hf, hd, hD, hdu⟩ := fck_ok hc
 obtain ⟨_, _, hr⟩ := dem_ok hd
 have hr2 := hr.2.2.1
 have hr3 := hr.2.2.2.2
 obtain ⟨g1, g2, g3⟩ := fstM_ok (f := fun k : Nat => okE hn ls us d (d.2.2.2.1 + (k : Int))) (n := durM d + 1)
 unfold fstE
 constructor
 ·intro h
  apply Classical.byContradiction
  intro hn'
  have := g2 k (by omega)
  rw [h] at this; cases this
 ·intro h
  exact okE_mono hf hd (by omega) (by omega) (by omega) (g3 (by omega))
theorem cheap_earl (hc : fckM hn ls us d = 0) : chpE hn ls us d = 0 ↔ earE hn ls us d = 0 := by
 obtain ⟨hf, hd, hD, hdu⟩ := fck_ok hc
 obtain ⟨_, _, hr⟩ := dem_ok hd
 have e1 : chpE hn ls us d = 0 ↔ okE hn ls us d (d.2.2.2.1 + (durM d : Nat)) = true := by
  rw [← hdu]
  unfold chpE okE
  rw [if_neg (fun g => g hc), dW_self, decide_eq_true_eq]
  constructor
  ·intro h c; rw [if_pos c] at h; cases h
  ·intro h; rw [if_neg h]
 rw [e1, fst_iff hc (Nat.le_refl _)]
 unfold earE
 rw [if_neg (fun g => g hc)]
 constructor
 ·intro h; rw [if_pos (by omega)]
 ·intro h
  apply Classical.byContradiction
  intro hn'
  rw [if_neg (by omega)] at h; cases h
theorem earN_bnd (hc : fckM hn ls us d = 0) (h : earE hn ls us d = 0) : earN hn ls us d = d.2.2.2.1 + (fstE hn ls us d : Nat) ∧ fstE hn ls us d ≤ durM d := by
 refine ⟨by unfold earN; rw [if_pos h], ?_⟩
 unfold earE at h
 rw [if_neg (fun g => g hc)] at h
 apply Classical.byContradiction
 intro hn'
 rw [if_neg (by omega)] at h; cases h
theorem ar_bnd (h : Serving hn ls l d) : ∀ n, d.2.2.2.1 ≤ arT ls l d n ∧ arT ls l d n ≤ d.2.2.2.2 ∧ d.2.2.1 ≤ haveM ls l d d.2.1 (arT ls l d n)
 | 0 => ⟨h.dem.2.2.2.1, Int.le_refl _, h.late⟩
 | n + 1 => by
  obtain ⟨h1, h2, h3⟩ := ar_bnd h n
  rw [arT]
  split
  ·rename_i c; exact ⟨c.1, by omega, c.2.2⟩
  ·exact ⟨h1, h2, h3⟩
theorem arr_bnd (h : servesM hn ls l d = 0) : (arrM hn ls l d).2 = 0 ∧ d.2.2.2.1 ≤ (arrM hn ls l d).1 ∧ (arrM hn ls l d).1 ≤ d.2.2.2.2 ∧ d.2.2.1 ≤ haveM ls l d d.2.1 (arrM hn ls l d).1 := by
 have sv := serves_iff.1 h
 unfold arrM
 rw [if_neg (fun g => g h)]
 split
 ·rename_i c; exact ⟨rfl, Int.le_refl _, sv.dem.2.2.2.1, c⟩
 ·obtain ⟨h1, h2, h3⟩ := ar_bnd sv l.length
  exact ⟨rfl, h1, h2, h3⟩
theorem law20 (hc : fckM hn ls us d = 0) (hs : servesM hn ls l d = 0) (hb : besT hn ls us l l.length = true) : chpE hn ls us d = 0 ∧ costM hn ls (chpL hn ls us d) ≤ costM hn ls l ∧ earN hn ls us d ≤ (arrM hn ls l d).1 := by
 obtain ⟨hf, hd, hD, hdu⟩ := fck_ok hc
 obtain ⟨_, _, hr⟩ := dem_ok hd
 have hr1 := hr.2.1
 have hr2 := hr.2.2.1
 have hr3 := hr.2.2.2.2
 have sv := serves_iff.1 hs
 have bb := (bes_ok hf sv.ok).1 hb
 have p := serving_plan (D := durM d) sv hf bb (by rw [← hdu]; exact sv.late)
 have h0 : chpE hn ls us d = 0 := by
  apply Classical.byContradiction
  intro hne
  exact (cheap_none hc hne).2 _ p
 obtain ⟨_, e2, ho⟩ := cheap_ok h0
 have P := planR_ok (bytes := d.2.2.1) hf hd (by have := hr.1; omega)
 refine ⟨h0, ?_, ?_⟩
 ·have h1 := P.best hf hd hr1 p 1 (Int.le_refl _) (by rw [e2]; omega)
  rw [Int.one_mul] at h1
  have h2 := cst_le (r := d.2.2.2.1) (us := us) sv.ok (D := durM d)
  have h3 : costM hn ls l = costT ls l l.length := by unfold costM; rw [if_neg (fun g => g (right_zero.2 sv.ok))]
  rw [ho.cost, h3]
  exact Int.le_trans h1 h2
 ·obtain ⟨_, a1, a2, a3⟩ := arr_bnd hs
  obtain ⟨e3, e4⟩ := earN_bnd hc ((cheap_earl hc).1 h0)
  generalize (arrM hn ls l d).1 = a at *
  have ea : a = d.2.2.2.1 + ((a - d.2.2.2.1).toNat : Nat) := by omega
  rw [ea] at a3
  have pa := serving_plan (D := (a - d.2.2.2.1).toNat) sv hf bb a3
  have hk : (a - d.2.2.2.1).toNat ≤ durM d := by omega
  have := (fst_iff hc hk).1 ((okE_plan hf hd (by omega) (by omega)).2 ⟨_, by rw [show (d.2.2.2.1 + ((a - d.2.2.2.1).toNat : Int) - d.2.2.2.1).toNat = (a - d.2.2.2.1).toNat by omega]; exact pa⟩)
  rw [e3]; omega
end
end Sim
namespace Sim
open Go Go.Proofs
set_option maxRecDepth 100000
set_option linter.unusedVariables false
set_option linter.unusedSimpArgs false
def decI : List PV → Option (List Int)
 | [] => some []
 | .int .i64 a :: l => (decI l).map fun rs => a :: rs
 | _ => none
theorem decI_ok : ∀ {l : List PV} {rs : List Int}, decI l = some rs → l = rs.map (PV.int .i64)
 | [], rs, h => by simp only [decI, Option.some.injEq] at h; subst h; rfl
 | p :: l, rs, h => by
  unfold decI at h
  split at h
  ·rename_i e; cases e
  ·rename_i a l' e
   cases e
   simp only [Option.map_eq_some_iff] at h
   obtain ⟨rs', h1, rfl⟩ := h
   rw [decI_ok h1]; rfl
  ·cases h
def lkI (a : Lnk) : List Int := a.1 :: a.2.1 :: (List.ofFn a.2.2.1 ++ List.ofFn a.2.2.2)
def mkL (xs : List Int) : Lnk := (xs.getD 0 0, xs.getD 1 0, fun i => xs.getD (2 + i.1) 0, fun i => xs.getD (26 + i.1) 0)
theorem lkI_C (a : Lnk) : lkC a = (lkI a).map (PV.int .i64) := by simp [lkC, lkI]
def decL : List PV → Option (List Lnk)
 | [] => some []
 | .agg cs :: l => (decI cs).bind fun xs => if lkI (mkL xs) = xs then (decL l).map fun rs => mkL xs :: rs else none
 | _ => none
theorem decL_ok : ∀ {l : List PV} {rs : List Lnk}, decL l = some rs → l = rs.map lnkV
 | [], rs, h => by simp only [decL, Option.some.injEq] at h; subst h; rfl
 | p :: l, rs, h => by
  unfold decL at h
  split at h
  ·rename_i e; cases e
  ·rename_i cs l' e
   cases e
   simp only [Option.bind_eq_some_iff] at h
   obtain ⟨xs, h1, h⟩ := h
   split at h
   ·rename_i hx
    simp only [Option.map_eq_some_iff] at h
    obtain ⟨rs', h2, rfl⟩ := h
    rw [decL_ok h2, decI_ok h1, List.map_cons, lnkV, lkI_C, hx]
   ·cases h
  ·cases h
def decS : List PV → Option (List Snd)
 | [] => some []
 | .agg [.int .i64 a, .int .i64 b, .int .i64 c] :: l => (decS l).map fun rs => (a, b, c) :: rs
 | _ => none
theorem decS_ok : ∀ {l : List PV} {rs : List Snd}, decS l = some rs → l = rs.map sndV
 | [], rs, h => by simp only [decS, Option.some.injEq] at h; subst h; rfl
 | p :: l, rs, h => by
  unfold decS at h
  split at h
  ·rename_i e; cases e
  ·rename_i a b c l' e
   cases e
   simp only [Option.map_eq_some_iff] at h
   obtain ⟨rs', h1, rfl⟩ := h
   rw [decS_ok h1]; rfl
  ·cases h
def sendC (out : List (List Nat)) (N s t : Nat) (bytes : Int) : Nat → List Arc → List Int → Int → Option (List Arc × Int)
 | 0, _, _, _ => none
 | f + 1, A, lv, sent => if sent < bytes then (if (finD A out lv N s).done.getD t true = true then sendC out N s t bytes f (aug A (pushM A (bytes - sent) (pathM A out lv N s t)) (pathM A out lv N s t)) (lvM A out lv N s) (sent + pushM A (bytes - sent) (pathM A out lv N s t)) else some (A, sent)) else some (A, sent)
theorem sendC_R {out : List (List Nat)} {N s t : Nat} {bytes : Int} : ∀ {f : Nat} {A : List Arc} {lv : List Int} {sent : Int} {A' : List Arc} {r : Int}, sendC out N s t bytes f A lv sent = some (A', r) → SendR out N s t bytes A lv sent A' r
 | 0, _, _, _, _, _, h => by cases h
 | f + 1, A, lv, sent, A', r, h => by
  rw [sendC] at h
  by_cases c : sent < bytes
  ·rw [if_pos c] at h
   by_cases c2 : (finD A out lv N s).done.getD t true = true
   ·rw [if_pos c2] at h
    exact .step _ _ _ _ _ c c2 (sendC_R h)
   ·rw [if_neg c2] at h
    cases h
    exact .stop _ _ _ c (by simpa using c2)
  ·rw [if_neg c] at h
   cases h
   exact .full _ _ _ c
def planC (hn : Int) (ls : List Lnk) (us : List Snd) (d : Dem) (bytes : Int) : Option (List Arc × Int) :=
 if d.1 = d.2.1 then some (gA (netD hn ls us d).p (pairsM hn ls d), bytes)
 else sendC (gO (netD hn ls us d).p (nodesM hn d) (pairsM hn ls d)) (nodesM hn d) d.1.toNat (durM d * hn.toNat + d.2.1.toNat) bytes 50 (gA (netD hn ls us d).p (pairsM hn ls d)) (List.replicate (nodesM hn d) 0) 0
theorem planC_ok {hn : Int} {ls : List Lnk} {us : List Snd} {d : Dem} {bytes : Int} {x : List Arc × Int} (h : planC hn ls us d bytes = some x) : planR hn ls us d bytes = x := by
 unfold planC at h
 unfold planR
 by_cases c : d.1 = d.2.1
 ·rw [if_pos c] at h ⊢
  exact Option.some.inj h
 ·rw [if_neg c] at h ⊢
  obtain ⟨A', r⟩ := x
  exact sendM_of (sendC_R h)
def mostC (hn : Int) (ls : List Lnk) (us : List Snd) (d : Dem) : Option Int := if fckM hn ls us d = 0 then (planC hn ls us d 1099511627776).map (·.2) else some 0
theorem mostC_ok {hn : Int} {ls : List Lnk} {us : List Snd} {d : Dem} {r : Int} (h : mostC hn ls us d = some r) : mostM hn ls us d = r := by
 unfold mostC at h
 unfold mostM
 split at h
 ·rename_i c
  rw [if_pos c]
  simp only [Option.map_eq_some_iff] at h
  obtain ⟨x, h1, rfl⟩ := h
  rw [planC_ok h1]
 ·rename_i c
  rw [if_neg c]; exact Option.some.inj h
def chpC (hn : Int) (ls : List Lnk) (us : List Snd) (d : Dem) : Option (List Snd × Int) :=
 if fckM hn ls us d ≠ 0 then some ([], fckM hn ls us d) else (planC hn ls us d d.2.2.1).map fun q => if q.2 < d.2.2.1 then ([], 21) else (outP q.1 hn.toNat (hn.toNat + ls.length) d.2.2.2.1 (pairsM hn ls d), 0)
theorem chpC_ok {hn : Int} {ls : List Lnk} {us : List Snd} {d : Dem} {x : List Snd × Int} (h : chpC hn ls us d = some x) : chpL hn ls us d = x.1 ∧ chpE hn ls us d = x.2 := by
 unfold chpC at h
 unfold chpL chpE
 split at h
 ·rename_i c
  cases h
  rw [if_pos c, if_neg c]; exact ⟨rfl, rfl⟩
 ·rename_i c
  simp only [Option.map_eq_some_iff] at h
  obtain ⟨q, h1, rfl⟩ := h
  rw [if_neg c, planC_ok h1]
  by_cases c2 : q.2 < d.2.2.1
  ·rw [if_pos c2, if_pos c2]; exact ⟨rfl, rfl⟩
  ·rw [if_neg c2, if_neg c2]; exact ⟨rfl, rfl⟩
def fstC (f : Nat → Option Bool) : Nat → Option Nat
 | 0 => some 0
 | n + 1 => (fstC f n).bind fun i => if i < n then some i else (f n).map fun b => if b = true then n else n + 1
theorem fstC_ok {f : Nat → Option Bool} {g : Nat → Bool} (h : ∀ k b, f k = some b → g k = b) : ∀ {n i}, fstC f n = some i → fstM g n = i
 | 0, i, e => Option.some.inj e
 | n + 1, i, e => by
  simp only [fstC, Option.bind_eq_some_iff] at e
  obtain ⟨j, e1, e2⟩ := e
  have ih := fstC_ok h e1
  rw [fstM, ih]
  by_cases c : j < n
  ·rw [if_pos c] at e2 ⊢
   exact Option.some.inj e2
  ·rw [if_neg c] at e2 ⊢
   simp only [Option.map_eq_some_iff] at e2
   obtain ⟨b, e3, rfl⟩ := e2
   rw [h _ _ e3]
def earC (hn : Int) (ls : List Lnk) (us : List Snd) (d : Dem) : Option (Int × Int) :=
 if fckM hn ls us d ≠ 0 then some (0, fckM hn ls us d) else (fstC (fun k => (planC hn ls us (dW d (d.2.2.2.1 + (k : Int))) d.2.2.1).map fun q => decide (¬ q.2 < d.2.2.1)) (durM d + 1)).map fun i => if i < durM d + 1 then (d.2.2.2.1 + (i : Int), 0) else (0, 21)
theorem earC_ok {hn : Int} {ls : List Lnk} {us : List Snd} {d : Dem} {x : Int × Int} (h : earC hn ls us d = some x) : earN hn ls us d = x.1 ∧ earE hn ls us d = x.2 := by
 unfold earC at h
 unfold earN earE
 split at h
 ·rename_i c
  cases h
  rw [if_pos c, if_neg c]; exact ⟨rfl, rfl⟩
 ·rename_i c
  simp only [Option.map_eq_some_iff] at h
  obtain ⟨i, h1, rfl⟩ := h
  have : fstE hn ls us d = i := fstC_ok (fun k b e => by
   simp only [Option.map_eq_some_iff] at e
   obtain ⟨q, e1, rfl⟩ := e
   unfold okE
   rw [planC_ok e1]) h1
  rw [if_neg c, this]
  by_cases c2 : i < durM d + 1
  ·rw [if_pos c2, if_pos c2]; exact ⟨rfl, rfl⟩
  ·rw [if_neg c2, if_neg c2]; exact ⟨rfl, rfl⟩
def ext (f : FuncId) (args : List PV) : Option PV :=
 match args with
 | [.agg [.int .i64 hn, .lits 50 n], .lits 3 l] => (decL n).bind fun ls => (decS l).bind fun l => if f = 17 then some (.tuple [I (costM hn ls l), I (rightM hn ls l)]) else none
 | [.agg [.int .i64 hn, .lits 50 n], .lits 3 l, .agg [.int .i64 p, .int .i64 q, .int .i64 r, .int .i64 s, .int .i64 t]] => (decL n).bind fun ls => (decS l).bind fun l =>
  if f = 18 then some (I (servesM hn ls l (p, q, r, s, t)))
  else if f = 10 then some (I (fckM hn ls l (p, q, r, s, t)))
  else if f = 11 then (mostC hn ls l (p, q, r, s, t)).map fun x => .tuple [I x, I (fckM hn ls l (p, q, r, s, t))]
  else if f = 13 then (chpC hn ls l (p, q, r, s, t)).map fun x => .tuple [snds x.1, I x.2]
  else if f = 12 then (earC hn ls l (p, q, r, s, t)).map fun x => .tuple [I x.1, I x.2] else none
 | _ => none
theorem ext_ok : ∀ f args r, ext f args = some r → VC Try.prog f args r := by
 intro f args r h
 unfold ext at h
 split at h
 ·simp only [Option.bind_eq_some_iff] at h
  obtain ⟨ls, h1, l, h2, h⟩ := h
  rw [decL_ok h1, decS_ok h2]
  split at h
  ·rename_i e; subst e; cases h; exact c_cost _ ls l
  ·cases h
 ·simp only [Option.bind_eq_some_iff] at h
  obtain ⟨ls, h1, l, h2, h⟩ := h
  rw [decL_ok h1, decS_ok h2]
  split at h
  ·rename_i e; subst e; cases h; exact c_serves _ ls l (_, _, _, _, _)
  split at h
  ·rename_i e; subst e; cases h; exact c_fcheck _ ls l (_, _, _, _, _)
  split at h
  ·rename_i e; subst e
   simp only [Option.map_eq_some_iff] at h
   obtain ⟨x, h3, rfl⟩ := h
   rw [← mostC_ok h3]; exact c_most _ ls l (_, _, _, _, _)
  split at h
  ·rename_i e; subst e
   simp only [Option.map_eq_some_iff] at h
   obtain ⟨x, h3, rfl⟩ := h
   rw [← (chpC_ok h3).1, ← (chpC_ok h3).2]; exact c_cheap _ ls l (_, _, _, _, _)
  split at h
  ·rename_i e; subst e
   simp only [Option.map_eq_some_iff] at h
   obtain ⟨x, h3, rfl⟩ := h
   rw [← (earC_ok h3).1, ← (earC_ok h3).2]; exact c_earl _ ls l (_, _, _, _, _)
  ·cases h
 ·cases h
def cf (f : FuncId) : List Nat × List Nat := ([], [])
end Sim
