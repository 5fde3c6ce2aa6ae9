/- What functions of this seat compute, by values: contracts (lemmas of the statement's proof, under the conditions that each names). -/
import Derived.Test.YtbojbamchaohpaaQF3
namespace Sim
set_option linter.unusedVariables false
set_option linter.unusedSimpArgs false
def ini (N s : Nat) : DS := ⟨(List.replicate N (-1)).set s 0, List.replicate N (-1), List.replicate N false, [(0, s)]⟩
def finD (A : List Arc) (out : List (List Nat)) (lv : List Int) (N s : Nat) : DS := runD A out lv (meas out (ini N s)) (ini N s)
def lvN (lv : List Int) (st : DS) (N : Nat) : List Int := (List.range N).map fun v => if st.done.getD v true = true then lv.getD v 0 + st.far.getD v 0 else lv.getD v 0
def pathF (A : List Arc) (last : List Int) (s : Nat) : Nat → Nat → List Nat
 | 0, _ => []
 | f + 1, v => if v = s then [] else (last.getD v 0).toNat :: pathF A last s f (aF A (last.getD v 0).toNat)
def pathM (A : List Arc) (out : List (List Nat)) (lv : List Int) (N s t : Nat) : List Nat := pathF A (finD A out lv N s).last s N t
def lvM (A : List Arc) (out : List (List Nat)) (lv : List Int) (N s : Nat) : List Int := lvN lv (finD A out lv N s) N
inductive IsP (A : List Arc) (s : Nat) : Nat → List Nat → Prop
 | nil : IsP A s s []
 | cons (k : Nat) (P : List Nat) (h : IsP A s (aF A k) P) : IsP A s (aT A k) (k :: P)
section
variable {A : List Arc} {out : List (List Nat)} {lv : List Int} {N s : Nat}
theorem repI {n k : Nat} {x : Int} (h : k < n) : (List.replicate n x).getD k 0 = x := by simp [h]
theorem ini_ok (G : Gr A out lv N s) : DI A lv N s (ini N s) 0 (fun _ => True) (fun _ => 0) := by
 have sN := G.sN
 have hfa : ∀ v, v < N → (ini N s).far.getD v 0 = if v = s then 0 else -1 := fun v hv => by
  unfold ini; dsimp only
  rw [getI_set (by simpa using sN), repI hv]
 have hdn : ∀ v, v < N → (ini N s).done.getD v true = false := fun v hv => by
  unfold ini; dsimp only; simp [hv]
 have hv0 : ∀ v, v < N → 0 ≤ (ini N s).far.getD v 0 → v = s := fun v hv h => by
  rw [hfa v hv] at h
  by_cases e : v = s
  ·exact e
  ·rw [if_neg e] at h; omega
 refine ⟨by simp [ini], by simp [ini], by simp [ini], fun k k0 kl => ?_, fun v hv h => ?_, fun x hx => ?_, fun v hv h1 h2 => ?_, fun v hv h => ?_, fun x hx => ?_, fun k hk h => ?_, ?_, Int.le_refl _, fun v hv h1 h2 => absurd (hv0 v hv h1) h2, rfl, fun v hv h => Nat.zero_le _, fun v hv h => ?_, fun v hv h => ?_⟩
 ·simp [ini] at kl; omega
 ·rw [hv0 v hv h]; exact .src
 ·simp only [ini, List.mem_singleton] at hx
  subst hx
  rw [hfa s sN, if_pos rfl]
  exact ⟨sN, Int.le_refl _, Int.le_refl _⟩
 ·have := hv0 v hv h1
  subst this
  rw [hfa v hv, if_pos rfl]
  simp [ini]
 ·rw [hdn v hv] at h; cases h
 ·simp only [ini, List.mem_singleton] at hx
  subst hx; exact Int.le_refl _
 ·rw [hdn _ (G.ar k hk).1] at h; cases h
 ·rw [hfa s sN, if_pos rfl]
 ·rw [hdn v hv] at h; cases h
 ·have := hv0 v hv h
  subst this
  rw [hfa v hv, if_pos rfl, G.l0]; simp
structure FD (A : List Arc) (lv : List Int) (N s : Nat) (st : DS) (dp : Nat → Nat) : Prop where
 lf : st.far.length = N
 ll : st.last.length = N
 ld : st.done.length = N
 don : ∀ v, v < N → (st.done.getD v true = true ↔ Rch A s v)
 far : ∀ v, v < N → (0 ≤ st.far.getD v 0 ↔ Rch A s v)
 clo : ∀ k, k < A.length → 0 < aL A k → Rch A s (aF A k) → st.far.getD (aT A k) 0 ≤ nxt A lv (st.far.getD (aF A k) 0) k
 src : st.far.getD s 0 = 0
 par : ∀ v, v < N → Rch A s v → v ≠ s → ∃ k : Nat, st.last.getD v 0 = (k : Int) ∧ k < A.length ∧ 0 < aL A k ∧ aT A k = v ∧ Rch A s (aF A k) ∧ st.far.getD v 0 = nxt A lv (st.far.getD (aF A k) 0) k ∧ dp v = dp (aF A k) + 1
 dps : dp s = 0
 dpN : ∀ v, v < N → Rch A s v → dp v < N
 mag : ∀ v, v < N → Rch A s v → -(1000000 * (N : Int)) ≤ st.far.getD v 0 + lv.getD v 0 ∧ st.far.getD v 0 + lv.getD v 0 ≤ 1000000 * (N : Int)
theorem rch_lt (G : Gr A out lv N s) {v : Nat} (h : Rch A s v) : v < N := by
 cases h with
 | src => exact G.sN
 | arc k hk hl h => exact (G.ar k hk).2
theorem fin_ok (G : Gr A out lv N s) : ∃ dp, FD A lv N s (finD A out lv N s) dp := by
 obtain ⟨hq, d, dp, I⟩ := run_ok G (Nat.le_refl _) (ini_ok G)
 have hst : runD A out lv (meas out (ini N s)) (ini N s) = finD A out lv N s := rfl
 rw [hst] at hq I
 generalize finD A out lv N s = st at *
 have hq : st.q = [] := List.length_eq_zero_iff.1 hq
 have h1 : ∀ v, v < N → 0 ≤ st.far.getD v 0 → st.done.getD v true = true := fun v hv h => by
  cases hd : st.done.getD v true with
  | true => rfl
  | false =>
   have := I.cur v hv h hd
   rw [hq] at this; simp at this
 have h2 : ∀ v, Rch A s v → v < N → 0 ≤ st.far.getD v 0 := fun v h => by
  induction h with
  | src => intro _; rw [I.src]; exact Int.le_refl _
  | arc k hk hl h ih =>
   intro _
   have := ih (G.ar k hk).1
   exact (I.clo k hk (h1 _ (G.ar k hk).1 this) hl trivial).1
 have h3 : ∀ v, v < N → (0 ≤ st.far.getD v 0 ↔ Rch A s v) := fun v hv => ⟨I.rch v hv, fun h => h2 v h hv⟩
 have h4 : ∀ v, v < N → (st.done.getD v true = true ↔ Rch A s v) := fun v hv => ⟨fun h => I.rch v hv (I.dn v hv h).1, fun h => h1 v hv (h2 v h hv)⟩
 have hcN : st.done.count true ≤ N := by rw [← I.ld]; exact List.count_le_length
 refine ⟨dp, I.lf, I.ll, I.ld, h4, h3, fun k hk hl hr => ?_, I.src, fun v hv hr hs => ?_, I.dps, fun v hv hr => ?_, fun v hv hr => ?_⟩
 ·exact (I.clo k hk ((h4 _ (G.ar k hk).1).2 hr) hl trivial).2
 ·obtain ⟨k, a1, a2, a3, a4, a5, a6, a7⟩ := I.par v hv ((h3 v hv).2 hr) hs
  exact ⟨k, a1, a2, a3, a4, (h4 _ (G.ar k a2).1).1 a5, a6, a7⟩
 ·have := I.dpd v hv ((h4 v hv).2 hr)
  omega
 ·have h5 := I.mag v hv ((h3 v hv).2 hr)
  have h6 := I.dpd v hv ((h4 v hv).2 hr)
  omega
theorem lvN_at {st : DS} {v : Nat} (h : v < N) : (lvN lv st N).getD v 0 = if st.done.getD v true = true then lv.getD v 0 + st.far.getD v 0 else lv.getD v 0 := by
 unfold lvN; simp [h]
structure PathOK (A : List Arc) (lv' : List Int) (s t : Nat) (P : List Nat) : Prop where
 isP : IsP A s t P
 arc : ∀ k ∈ P, k < A.length ∧ 0 < aL A k ∧ Rch A s (aF A k) ∧ Rch A s (aT A k) ∧ aP A k + lv'.getD (aF A k) 0 - lv'.getD (aT A k) 0 = 0
 nd : (P.map (aT A)).Nodup
theorem path_go (G : Gr A out lv N s) {st : DS} {dp : Nat → Nat} (F : FD A lv N s st dp) : ∀ {f v : Nat}, v < N → Rch A s v → dp v ≤ f → PathOK A (lvN lv st N) s v (pathF A st.last s f v) ∧ ∀ k ∈ pathF A st.last s f v, dp (aT A k) ≤ dp v
 | 0, v, hv, hr, hf => by
  have e : v = s := by
   apply Classical.byContradiction
   intro g
   obtain ⟨k, _, _, _, _, _, _, h⟩ := F.par v hv hr g
   omega
  subst e
  exact ⟨⟨.nil, by simp [pathF], by simp [pathF]⟩, by simp [pathF]⟩
 | f + 1, v, hv, hr, hf => by
  simp only [pathF]
  by_cases e : v = s
  ·subst e
   rw [if_pos rfl]
   exact ⟨⟨.nil, by simp, by simp⟩, by simp⟩
  ·rw [if_neg e]
   obtain ⟨k, a1, a2, a3, a4, a5, a6, a7⟩ := F.par v hv hr e
   rw [a1, Int.toNat_natCast]
   obtain ⟨⟨i1, i2, i3⟩, i4⟩ := path_go G F (f := f) (G.ar k a2).1 a5 (by omega)
   refine ⟨⟨?_, ?_, ?_⟩, ?_⟩
   ·rw [← a4]; exact .cons k _ i1
   ·intro j hj
    rcases List.mem_cons.1 hj with g | g
    ·subst g
     refine ⟨a2, a3, a5, by rw [a4]; exact hr, ?_⟩
     rw [lvN_at (G.ar j a2).1, lvN_at (G.ar j a2).2, if_pos ((F.don _ (G.ar j a2).1).2 a5), if_pos ((F.don _ (G.ar j a2).2).2 (by rw [a4]; exact hr)), a4, a6]
     unfold nxt
     rw [a4]; omega
    ·exact i2 j g
   ·rw [List.map_cons, List.nodup_cons]
    refine ⟨fun hm => ?_, i3⟩
    obtain ⟨j, hj, hje⟩ := List.mem_map.1 hm
    have := i4 j hj
    rw [hje, a4] at this
    omega
   ·intro j hj
    rcases List.mem_cons.1 hj with g | g
    ·subst g; rw [a4]; exact Nat.le_refl _
    ·have := i4 j g; omega
theorem path_ok (G : Gr A out lv N s) {t : Nat} (ht : Rch A s t) : PathOK A (lvM A out lv N s) s t (pathM A out lv N s t) := by
 obtain ⟨dp, F⟩ := fin_ok G
 have hN := rch_lt G ht
 have := F.dpN t hN ht
 exact (path_go G F hN ht (by omega)).1
theorem lv_ok (G : Gr A out lv N s) : (lvM A out lv N s).length = N ∧ (lvM A out lv N s).getD s 0 = 0 ∧ (∀ k, k < A.length → 0 < aL A k → Rch A s (aF A k) → 0 ≤ aP A k + (lvM A out lv N s).getD (aF A k) 0 - (lvM A out lv N s).getD (aT A k) 0) ∧
  (∀ v, v < N → Rch A s v → lv.getD v 0 ≤ (lvM A out lv N s).getD v 0 ∧ -(1000000 * (N : Int)) ≤ (lvM A out lv N s).getD v 0 ∧ (lvM A out lv N s).getD v 0 ≤ 1000000 * (N : Int)) ∧ ∀ v, v < N → ¬ Rch A s v → (lvM A out lv N s).getD v 0 = lv.getD v 0 := by
 obtain ⟨dp, F⟩ := fin_ok G
 have hy : ∀ v, v < N → Rch A s v → (lvM A out lv N s).getD v 0 = lv.getD v 0 + (finD A out lv N s).far.getD v 0 := fun v hv hr => by
  unfold lvM; rw [lvN_at hv, if_pos ((F.don v hv).2 hr)]
 refine ⟨by simp [lvM, lvN], ?_, fun k hk hl hr => ?_, fun v hv hr => ?_, fun v hv hr => ?_⟩
 ·rw [hy s G.sN .src, G.l0, F.src]; rfl
 ·have hr2 : Rch A s (aT A k) := .arc k hk hl hr
  rw [hy _ (G.ar k hk).1 hr, hy _ (G.ar k hk).2 hr2]
  have := F.clo k hk hl hr
  unfold nxt at this
  omega
 ·rw [hy v hv hr]
  have h1 := F.mag v hv hr
  have h2 := (F.far v hv).2 hr
  omega
 ·unfold lvM; rw [lvN_at hv, if_neg (fun h => hr ((F.don v hv).1 h))]
end
end Sim
namespace Sim
set_option linter.unusedVariables false
set_option linter.unusedSimpArgs false
def rv (k : Nat) : Nat := if k % 2 = 0 then k + 1 else k - 1
def addL (A : List Arc) (k : Nat) (x : Int) : List Arc := A.set k ((A.getD k dA).1, (A.getD k dA).2.1, (A.getD k dA).2.2.1 + x, (A.getD k dA).2.2.2)
def aug1 (A : List Arc) (p : Int) (k : Nat) : List Arc := addL (addL A k (-p)) (rv k) p
def aug (A : List Arc) (p : Int) (P : List Nat) : List Arc := P.foldl (fun A k => aug1 A p k) A
theorem rv_rv {k : Nat} : rv (rv k) = k := by
 unfold rv
 by_cases h : k % 2 = 0
 ·rw [if_pos h, if_neg (show ¬ (k + 1) % 2 = 0 by omega)]; omega
 ·rw [if_neg h, if_pos (show (k - 1) % 2 = 0 by omega)]; omega
theorem rv_lt {k m : Nat} (h : k < 2 * m) : rv k < 2 * m := by unfold rv; split <;> omega
theorem rv_ne {k : Nat} : rv k ≠ k := by unfold rv; split <;> omega
theorem addL_len {A : List Arc} {k : Nat} {x : Int} : (addL A k x).length = A.length := by simp [addL]
theorem addL_at {A : List Arc} {k j : Nat} {x : Int} (h : k < A.length) : (addL A k x).getD j dA = if j = k then ((A.getD k dA).1, (A.getD k dA).2.1, (A.getD k dA).2.2.1 + x, (A.getD k dA).2.2.2) else A.getD j dA := by
 unfold addL
 rw [List.getD_eq_getElem?_getD, List.getElem?_set]
 by_cases e : j = k
 ·subst e; simp [h]
 ·have e' : ¬ k = j := fun g => e g.symm
  rw [if_neg e', if_neg e, List.getD_eq_getElem?_getD]
section
variable {A : List Arc} {k j : Nat} {x : Int}
theorem addL_F (h : k < A.length) : aF (addL A k x) j = aF A j := by
 unfold aF; rw [addL_at h]; split
 ·rename_i e; rw [e]
 ·rfl
theorem addL_T (h : k < A.length) : aT (addL A k x) j = aT A j := by
 unfold aT; rw [addL_at h]; split
 ·rename_i e; rw [e]
 ·rfl
theorem addL_P (h : k < A.length) : aP (addL A k x) j = aP A j := by
 unfold aP; rw [addL_at h]; split
 ·rename_i e; rw [e]
 ·rfl
theorem addL_L (h : k < A.length) : aL (addL A k x) j = if j = k then aL A k + x else aL A j := by
 unfold aL; rw [addL_at h]; split <;> rfl
end
section
variable {A : List Arc} {p : Int} {m k j : Nat}
theorem aug1_len : (aug1 A p k).length = A.length := by unfold aug1; rw [addL_len, addL_len]
theorem aug1_F (hm : A.length = 2 * m) (h : k < 2 * m) : aF (aug1 A p k) j = aF A j := by
 have := rv_lt h
 unfold aug1; rw [addL_F (by rw [addL_len]; omega), addL_F (by omega)]
theorem aug1_T (hm : A.length = 2 * m) (h : k < 2 * m) : aT (aug1 A p k) j = aT A j := by
 have := rv_lt h
 unfold aug1; rw [addL_T (by rw [addL_len]; omega), addL_T (by omega)]
theorem aug1_P (hm : A.length = 2 * m) (h : k < 2 * m) : aP (aug1 A p k) j = aP A j := by
 have := rv_lt h
 unfold aug1; rw [addL_P (by rw [addL_len]; omega), addL_P (by omega)]
theorem aug1_L (hm : A.length = 2 * m) (h : k < 2 * m) : aL (aug1 A p k) j = aL A j - (if j = k then p else 0) + if j = rv k then p else 0 := by
 have h1 := rv_lt h
 have h2 := rv_ne (k := k)
 unfold aug1; rw [addL_L (by rw [addL_len]; omega), addL_L (by omega), addL_L (by omega)]
 by_cases e1 : j = rv k
 ·rw [if_pos e1, if_pos e1, if_neg (by omega), if_neg (by omega), e1]; omega
 ·rw [if_neg e1, if_neg e1]
  by_cases e2 : j = k
  ·rw [if_pos e2, if_pos e2, e2]; omega
  ·rw [if_neg e2, if_neg e2]; omega
theorem aug_len : ∀ {P : List Nat} {A : List Arc}, (aug A p P).length = A.length
 | [], _ => rfl
 | k :: P, A => by
  have e : aug A p (k :: P) = aug (aug1 A p k) p P := rfl
  rw [e, aug_len, aug1_len]
theorem aug_same : ∀ {P : List Nat} {A : List Arc}, A.length = 2 * m → (∀ k ∈ P, k < 2 * m) → aF (aug A p P) j = aF A j ∧ aT (aug A p P) j = aT A j ∧ aP (aug A p P) j = aP A j
 | [], _, _, _ => ⟨rfl, rfl, rfl⟩
 | k :: P, A, hm, h => by
  have e : aug A p (k :: P) = aug (aug1 A p k) p P := rfl
  have hk := h k (by simp)
  obtain ⟨h1, h2, h3⟩ := aug_same (P := P) (A := aug1 A p k) (by rw [aug1_len]; exact hm) fun k hk => h k (by simp [hk])
  rw [e, h1, h2, h3, aug1_F hm hk, aug1_T hm hk, aug1_P hm hk]
  exact ⟨rfl, rfl, rfl⟩
theorem aug_L : ∀ {P : List Nat} {A : List Arc}, A.length = 2 * m → (∀ k ∈ P, k < 2 * m) → aL (aug A p P) j = aL A j - p * (P.count j : Int) + p * (P.count (rv j) : Int)
 | [], A, _, _ => by simp [aug]
 | k :: P, A, hm, h => by
  have e : aug A p (k :: P) = aug (aug1 A p k) p P := rfl
  have hk := h k (by simp)
  rw [e, aug_L (P := P) (A := aug1 A p k) (by rw [aug1_len]; exact hm) fun k hk => h k (by simp [hk]), aug1_L hm hk]
  rw [List.count_cons, List.count_cons]
  have c1 : (k == j) = decide (j = k) := by
   rw [Bool.eq_iff_iff]; simp; exact ⟨fun h => h.symm, fun h => h.symm⟩
  have c2 : (k == rv j) = decide (j = rv k) := by
   rw [Bool.eq_iff_iff]; simp
   exact ⟨fun h => by rw [h, rv_rv], fun h => by rw [h, rv_rv]⟩
  rw [c1, c2]
  have hx : ∀ (c : Nat) (q : Prop) [Decidable q], p * ((c + (if decide q = true then 1 else 0) : Nat) : Int) = p * (c : Int) + if q then p else 0 := fun c q _ => by
   by_cases hq : q
   ·simp only [hq, decide_true, if_true]
    rw [Int.natCast_add, Int.mul_add]; simp
   ·simp only [hq, decide_false, if_false]
    simp
  rw [hx, hx]
  omega
end
def fnA (A : List Arc) (N s t : Nat) : FN := ⟨N, A.length / 2, s, t, fun i => aF A (2 * i), fun i => aT A (2 * i), fun i => aL A (2 * i) + aL A (2 * i + 1), fun i => aP A (2 * i)⟩
def flA (A : List Arc) (i : Nat) : Int := aL A (2 * i + 1)
structure WPr (A : List Arc) (m : Nat) : Prop where
 len : A.length = 2 * m
 F : ∀ i, i < m → aF A (2 * i + 1) = aT A (2 * i)
 T : ∀ i, i < m → aT A (2 * i + 1) = aF A (2 * i)
 P : ∀ i, i < m → aP A (2 * i + 1) = - aP A (2 * i)
 nn : ∀ j, j < 2 * m → 0 ≤ aL A j
theorem WPr.rv {A : List Arc} {m : Nat} (w : WPr A m) {k : Nat} (h : k < 2 * m) : aF A (rv k) = aT A k ∧ aT A (rv k) = aF A k ∧ aP A (rv k) = - aP A k := by
 unfold Sim.rv
 by_cases e : k % 2 = 0
 ·rw [if_pos e]
  have h1 := w.F (k / 2) (by omega)
  have h2 := w.T (k / 2) (by omega)
  have h3 := w.P (k / 2) (by omega)
  rw [show 2 * (k / 2) = k by omega] at h1 h2 h3
  exact ⟨h1, h2, h3⟩
 ·rw [if_neg e]
  have h1 := w.F (k / 2) (by omega)
  have h2 := w.T (k / 2) (by omega)
  have h3 := w.P (k / 2) (by omega)
  rw [show 2 * (k / 2) + 1 = k by omega, show 2 * (k / 2) = k - 1 by omega] at h1 h2 h3
  exact ⟨h2.symm, h1.symm, by omega⟩
section
variable {A : List Arc} {m N s t : Nat} {p : Int}
theorem isP_congr {B : List Arc} (h : ∀ k, aF B k = aF A k ∧ aT B k = aT A k) {v : Nat} {P : List Nat} (hp : IsP A s v P) : IsP B s v P := by
 induction hp with
 | nil => exact .nil
 | cons k P _ ih =>
  rw [← (h k).2]
  refine .cons k P ?_
  rw [(h k).1]; exact ih
theorem aug_net {v : Nat} {P : List Nat} (hI : IsP A s v P) : ∀ (w : ∀ i, i < m → aF A (2 * i + 1) = aT A (2 * i) ∧ aT A (2 * i + 1) = aF A (2 * i)) (hl : A.length = 2 * m), (∀ k ∈ P, k < 2 * m) → ∀ x, (fnA A N s t).net (flA (aug A p P)) x = (fnA A N s t).net (flA A) x + ((if s = x then p else 0) - if v = x then p else 0) := by
 intro w hl hP x
 have key : ∀ {P : List Nat} {v : Nat} {B : List Arc}, IsP B s v P → B.length = 2 * m → (∀ i, i < m → aF B (2 * i + 1) = aT B (2 * i) ∧ aT B (2 * i + 1) = aF B (2 * i)) → (∀ k ∈ P, k < 2 * m) → (fnA B N s t).net (flA (aug B p P)) x = (fnA B N s t).net (flA B) x + ((if s = x then p else 0) - if v = x then p else 0) := by
  intro P
  induction P with
  | nil =>
   intro v B h hl w hP
   cases h
   show (fnA B N s t).net (flA B) x = _
   omega
  | cons k P ih =>
   intro v B h hl w hP
   cases h with
   | cons _ _ h =>
    have hk := hP k (by simp)
    have hs : ∀ j, aF (aug1 B p k) j = aF B j ∧ aT (aug1 B p k) j = aT B j := fun j => ⟨aug1_F hl hk, aug1_T hl hk⟩
    have h1 := ih (v := aF B k) (B := aug1 B p k) (isP_congr hs h) (by rw [aug1_len]; exact hl) (fun i hi => by rw [(hs _).1, (hs _).2, (hs _).1, (hs _).2]; exact w i hi) fun j hj => hP j (by simp [hj])
    have e : aug B p (k :: P) = aug (aug1 B p k) p P := rfl
    have hn : ∀ f, (fnA (aug1 B p k) N s t).net f x = (fnA B N s t).net f x := fun f => by
     unfold FN.net fnA
     dsimp only
     rw [aug1_len]
     have hF : ∀ j, aF (aug1 B p k) j = aF B j := fun j => (hs j).1
     have hT : ∀ j, aT (aug1 B p k) j = aT B j := fun j => (hs j).2
     simp only [hF, hT]
    rw [hn, hn] at h1
    rw [e, h1]
    -- one arc
    have hm : (fnA B N s t).m = m := by show B.length / 2 = m; rw [hl]; omega
    have e2 : (fnA B N s t).net (flA (aug1 B p k)) x = (fnA B N s t).net (flA B) x + sumN (fun i => if k / 2 = i then ((if aF B k = x then p else 0) - if aT B k = x then p else 0) else 0) m := by
     unfold FN.net
     rw [hm, ← sumN_add]
     refine sumN_congr fun i hi => ?_
     show (if aF B (2 * i) = x then flA (aug1 B p k) i else 0) - (if aT B (2 * i) = x then flA (aug1 B p k) i else 0) = (if aF B (2 * i) = x then flA B i else 0) - (if aT B (2 * i) = x then flA B i else 0) + _
     unfold flA
     rw [aug1_L hl hk]
     by_cases c : k / 2 = i
     ·rw [if_pos c]
      by_cases e : k % 2 = 0
      ·have e1 : k = 2 * i := by omega
       have e2 : rv k = 2 * i + 1 := by unfold rv; rw [if_pos e]; omega
       rw [if_neg (show ¬ 2 * i + 1 = k by omega), if_pos e2.symm, e1]
       repeat' split
       all_goals omega
      ·have e1 : k = 2 * i + 1 := by omega
       have e2 : rv k = 2 * i := by unfold rv; rw [if_neg e]; omega
       rw [if_pos e1.symm, if_neg (show ¬ 2 * i + 1 = rv k by omega), e1, (w i hi).1, (w i hi).2]
       repeat' split
       all_goals omega
     ·have e2 : ¬ 2 * i + 1 = rv k := by unfold rv; split <;> omega
      rw [if_neg c, if_neg (show ¬ 2 * i + 1 = k by omega), if_neg e2]
      simp
    rw [e2, sumN_one, if_pos (by omega)]
    omega
 exact key hI hl w hP
theorem fn_aug {P : List Nat} : ∀ {A : List Arc} (w : ∀ i, i < m → aF A (2 * i + 1) = aT A (2 * i) ∧ aT A (2 * i + 1) = aF A (2 * i)) (hl : A.length = 2 * m) (hP : ∀ k ∈ P, k < 2 * m), (∀ i, (fnA (aug A p P) N s t).cap i = (fnA A N s t).cap i) := by
 intro A w hl hP i
 show aL (aug A p P) (2 * i) + aL (aug A p P) (2 * i + 1) = aL A (2 * i) + aL A (2 * i + 1)
 rw [aug_L hl hP, aug_L hl hP]
 have e1 : rv (2 * i) = 2 * i + 1 := by unfold rv; rw [if_pos (by omega)]
 have e2 : rv (2 * i + 1) = 2 * i := by unfold rv; rw [if_neg (by omega)]; omega
 rw [e1, e2]; omega
theorem aug_wp (w : WPr A m) {P : List Nat} {lv' : List Int} {v : Nat} (h : PathOK A lv' s v P) (hp : 0 ≤ p) (hk : ∀ k ∈ P, p ≤ aL A k) : WPr (aug A p P) m := by
 have hP : ∀ k ∈ P, k < 2 * m := fun k hk => by rw [← w.len]; exact (h.arc k hk).1
 have hs := fun j => aug_same (p := p) (j := j) w.len hP
 refine ⟨by rw [aug_len]; exact w.len, fun i hi => ?_, fun i hi => ?_, fun i hi => ?_, fun j hj => ?_⟩
 ·rw [(hs _).1, (hs _).2.1]; exact w.F i hi
 ·rw [(hs _).1, (hs _).2.1]; exact w.T i hi
 ·rw [(hs _).2.2, (hs _).2.2]; exact w.P i hi
 ·rw [aug_L w.len hP]
  have h0 := w.nn j hj
  have hnd : P.Nodup := List.Pairwise.of_map (aT A) (fun a b g e => g (by rw [e])) h.nd
  have c1 : P.count j ≤ 1 := List.nodup_iff_count.1 hnd j
  have c2 : (0 : Int) ≤ p * (P.count (rv j) : Int) := Int.mul_nonneg hp (by omega)
  by_cases hj : j ∈ P
  ·have := hk j hj
   have e : P.count j = 1 := by have := List.count_pos_iff.2 hj; omega
   rw [e]; simp; omega
  ·rw [List.count_eq_zero_of_not_mem hj]; simp; omega
end
end Sim
