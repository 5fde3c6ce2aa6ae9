/- What functions of this seat compute, by values: contracts (lemmas of the statement's proof, under the conditions that each names). -/
import Derived.Test.YtbojbamchaohpaaQF7
import Derived.Test.YtbojbamchaohpaaQF1
import Derived.Test.YtbojbamchaohpaaSimX
namespace Sim
set_option linter.unusedVariables false
set_option linter.unusedSimpArgs false
structure SB (A : List Arc) (N m s t : Nat) (sent : Int) : Prop where
 wp : WPr A m
 ar : ∀ k, k < A.length → aF A k < N ∧ aT A k < N
 sN : s < N
 tN : t < N
 st : s ≠ t
 pr : ∀ k, k < A.length → -1000000 ≤ aP A k ∧ aP A k ≤ 1000000
 val : (fnA A N s t).Val (flA A) sent
 pot : ∃ φ : Nat → Int, ∀ k, k < A.length → 0 < aL A k → 0 ≤ aP A k + φ (aF A k) - φ (aT A k)
theorem SI.sb {A : List Arc} {out : List (List Nat)} {lv : List Int} {N m s t : Nat} {sent : Int} (S : SI A out lv N m s t sent) : SB A N m s t sent :=
 ⟨S.wp, S.ar, S.sN, S.tN, S.st, S.pr, S.val, by obtain ⟨φ, h, _⟩ := S.pot; exact ⟨φ, h⟩⟩
theorem SB.gb {A : List Arc} {N m s t : Nat} {sent : Int} (S : SB A N m s t sent) : ∃ φ, Gb A N s φ := by
 obtain ⟨φ, h⟩ := S.pot
 exact ⟨φ, S.ar, S.sN, S.pr, h⟩
theorem upper (f : Nat → Int) : ∀ N, ∃ B, ∀ v, v < N → f v ≤ B
 | 0 => ⟨0, fun v h => absurd h (by omega)⟩
 | N + 1 => by
  obtain ⟨B, h⟩ := upper f N
  refine ⟨if B < f N then f N else B, fun v hv => ?_⟩
  by_cases e : v = N
  ·subst e; split <;> omega
  ·have := h v (by omega)
   split <;> omega
def pathB (A : List Arc) (N s t : Nat) : List Nat := pathF A (finB A N s).last s N t
section
variable {A : List Arc} {N m s t : Nat} {sent p bytes : Int}
theorem pathF_PL {last : List Int} {v : Nat} {P : List Nat} (h : PL A last s v P) : ∀ f, P.length ≤ f → pathF A last s f v = P := by
 induction h with
 | nil =>
  intro f _
  cases f with
  | zero => rfl
  | succ f => simp [pathF]
 | cons v P hv hT h ih =>
  intro f hf
  cases f with
  | zero => simp at hf
  | succ f =>
   simp only [pathF]
   rw [if_neg hv, ih f (by rw [List.length_cons] at hf; omega)]
theorem pathB_ok (S : SB A N m s t sent) (ht : Rch A s t) : PathOK A (finB A N s).cost s t (pathB A N s t) ∧ PL A (finB A N s).last s t (pathB A N s t) := by
 obtain ⟨φ, G⟩ := S.gb
 obtain ⟨P, p1, p2, p3, p4⟩ := (finB_ok G).path t S.tN ht
 have hl : P.length ≤ N := by
  have := nodup_le' N _ p3 fun x hx => by
   obtain ⟨k, hk, rfl⟩ := List.mem_map.1 hx
   exact (S.ar k (p4 k hk).1).2
  rwa [List.length_map] at this
 have e : pathB A N s t = P := pathF_PL p1 N hl
 rw [e]
 exact ⟨⟨p2, p4, p3⟩, p1⟩
theorem sb_step (S : SB A N m s t sent) (ht : Rch A s t) (hp : 0 ≤ p) (hk : ∀ k ∈ pathB A N s t, p ≤ aL A k) : SB (aug A p (pathB A N s t)) N m s t (sent + p) := by
 obtain ⟨φ0, G⟩ := S.gb
 have hpo := (pathB_ok S ht).1
 have F := finB_ok G
 generalize pathB A N s t = P at *
 generalize hcst : (finB A N s).cost = ψ at *
 have hP : ∀ k ∈ P, k < 2 * m := fun k hk => by rw [← S.wp.len]; exact (hpo.arc k hk).1
 have hs := fun j => aug_same (p := p) (j := j) S.wp.len hP
 have hsF : ∀ j, aF (aug A p P) j = aF A j := fun j => (hs j).1
 have hsT : ∀ j, aT (aug A p P) j = aT A j := fun j => (hs j).2.1
 have hsP : ∀ j, aP (aug A p P) j = aP A j := fun j => (hs j).2.2
 have hop : ∀ k, k < A.length → 0 < aL (aug A p P) k → (0 < aL A k) ∨ (rv k ∈ P) := fun k hk h => by
  rw [aug_L S.wp.len hP] at h
  by_cases c : rv k ∈ P
  ·exact .inr c
  ·rw [List.count_eq_zero_of_not_mem c] at h
   have := Int.mul_nonneg hp (show (0 : Int) ≤ (P.count k : Int) by omega)
   refine .inl ?_
   simp at h; omega
 have hrev : ∀ k, k < A.length → rv k ∈ P → Rch A s (aF A k) ∧ Rch A s (aT A k) ∧ aP A k + ψ.getD (aF A k) 0 - ψ.getD (aT A k) 0 = 0 := fun k hk h => by
  obtain ⟨_, _, a1, a2, a3⟩ := hpo.arc _ h
  obtain ⟨b1, b2, b3⟩ := S.wp.rv (k := k) (by rw [← S.wp.len]; exact hk)
  rw [b1] at a1
  rw [b2] at a2
  rw [b1, b2, b3] at a3
  exact ⟨a2, a1, by omega⟩
 refine ⟨aug_wp S.wp hpo hp hk, fun k hk => ?_, S.sN, S.tN, S.st, fun k hk => ?_, fun v hv => ?_, ?_⟩
 ·rw [hsF, hsT]; rw [aug_len] at hk; exact S.ar k hk
 ·rw [hsP]; rw [aug_len] at hk; exact S.pr k hk
 ·have hn := aug_net (N := N) (t := t) (p := p) (m := m) hpo.isP (fun i hi => ⟨S.wp.F i hi, S.wp.T i hi⟩) S.wp.len hP v
  rw [fn_aug_eq S.wp hP, hn, S.val v hv]
  show (if s = v then sent else 0) - (if t = v then sent else 0) + _ = (if s = v then sent + p else 0) - (if t = v then sent + p else 0)
  repeat' split
  all_goals omega
 ·obtain ⟨φ, f1⟩ := S.pot
  obtain ⟨B, hB⟩ := upper (fun v => ψ.getD v 0 - φ v) N
  refine ⟨fun v => @ite _ (Rch A s v) (Classical.propDecidable _) (ψ.getD v 0) (φ v + B), fun k hk hl => ?_⟩
  rw [aug_len] at hk
  rw [hsF, hsT, hsP]
  dsimp only
  rcases hop k hk hl with g | g
  ·have h1 := f1 k hk g
   obtain ⟨u1, u2⟩ := S.ar k hk
   by_cases c1 : Rch A s (aF A k)
   ·have c2 : Rch A s (aT A k) := .arc k hk g c1
    rw [if_pos c1, if_pos c2]
    have := F.clo k hk g c1
    rw [hcst] at this
    omega
   ·rw [if_neg c1]
    by_cases c2 : Rch A s (aT A k)
    ·rw [if_pos c2]
     have h2 := hB _ u2
     try dsimp only at h2
     omega
    ·rw [if_neg c2]; omega
  ·obtain ⟨a1, a2, a3⟩ := hrev k hk g
   rw [if_pos a1, if_pos a2]; omega
theorem sb_flow (S : SB A N m s t sent) : (fnA A N s t).WF ∧ (fnA A N s t).Flow (flA A) sent ∧ ∃ φ, (fnA A N s t).Pot (flA A) φ := by
 have hm : (fnA A N s t).m = m := by show A.length / 2 = m; rw [S.wp.len]; omega
 obtain ⟨φ, f1⟩ := S.pot
 have hl := S.wp.len
 refine ⟨⟨S.sN, S.tN, fun i hi => ?_⟩, ⟨fun i hi => ?_, fun i hi => ?_, S.val⟩, φ, fun i hi => ⟨fun h => ?_, fun h => ?_⟩⟩ <;> rw [hm] at hi
 ·exact S.ar (2 * i) (by omega)
 ·exact S.wp.nn _ (by omega)
 ·have := S.wp.nn (2 * i) (by omega)
  show aL A (2 * i + 1) ≤ aL A (2 * i) + aL A (2 * i + 1)
  omega
 ·have h : aL A (2 * i + 1) < aL A (2 * i) + aL A (2 * i + 1) := h
  exact f1 (2 * i) (by omega) (by omega)
 ·have h : 0 < aL A (2 * i + 1) := h
  have := f1 (2 * i + 1) (by omega) h
  rw [S.wp.F i hi, S.wp.T i hi, S.wp.P i hi] at this
  show aP A (2 * i) + φ (aF A (2 * i)) - φ (aT A (2 * i)) ≤ 0
  omega
theorem sb_max (S : SB A N m s t sent) (h : ¬ Rch A s t) {f : Nat → Int} {b : Int} (hf : (fnA A N s t).Flow f b) : b ≤ sent := by
 have hm : (fnA A N s t).m = m := by show A.length / 2 = m; rw [S.wp.len]; omega
 have hl := S.wp.len
 refine @FN.cut (fnA A N s t) (sb_flow S).1 (flA A) f sent b (Rch A s) (fun _ => Classical.propDecidable _) S.val hf .src h (fun i hi h1 h2 => ?_) fun i hi h1 h2 => ?_
 ·rw [hm] at hi
  show aL A (2 * i) + aL A (2 * i + 1) ≤ aL A (2 * i + 1)
  have : ¬ 0 < aL A (2 * i) := fun g => h2 (.arc (2 * i) (by omega) g h1)
  omega
 ·rw [hm] at hi
  show aL A (2 * i + 1) ≤ 0
  have : ¬ 0 < aL A (2 * i + 1) := fun g => h1 (by
   have : Rch A s (aT A (2 * i + 1)) := .arc (2 * i + 1) (by omega) g (by rw [S.wp.F i hi]; exact h2)
   rwa [S.wp.T i hi] at this)
  omega
theorem known_iff (S : SB A N m s t sent) : (finB A N s).known.getD t false = true ↔ Rch A s t := by
 obtain ⟨φ, G⟩ := S.gb
 exact (finB_ok G).known t S.tN
end
inductive SpecR (N s t : Nat) (bytes : Int) : List Arc → Int → List Arc → Int → Prop
 | full (A sent) (h : ¬ sent < bytes) : SpecR N s t bytes A sent A sent
 | stop (A sent) (h : sent < bytes) (hd : (finB A N s).known.getD t false = false) : SpecR N s t bytes A sent A sent
 | step (A sent A' r) (h : sent < bytes) (hd : (finB A N s).known.getD t false = true)
   (hr : SpecR N s t bytes (aug A (pushM A (bytes - sent) (pathB A N s t)) (pathB A N s t)) (sent + pushM A (bytes - sent) (pathB A N s t)) A' r) : SpecR N s t bytes A sent A' r
theorem spec_det {N s t : Nat} {bytes : Int} {A : List Arc} {sent : Int} {A' A'' : List Arc} {r r' : Int} (h : SpecR N s t bytes A sent A' r) (h' : SpecR N s t bytes A sent A'' r') : A' = A'' ∧ r = r' := by
 induction h with
 | full A sent h =>
  cases h' with
  | full => exact ⟨rfl, rfl⟩
  | stop _ _ g => exact absurd g h
  | step _ _ _ _ g => exact absurd g h
 | stop A sent h hd =>
  cases h' with
  | full _ _ g => exact absurd h g
  | stop => exact ⟨rfl, rfl⟩
  | step _ _ _ _ _ g => rw [hd] at g; cases g
 | step A sent A' r h hd hr ih =>
  cases h' with
  | full _ _ g => exact absurd h g
  | stop _ _ _ g => rw [hd] at g; cases g
  | step _ _ _ _ _ _ g => exact ih g
section
variable {A : List Arc} {N m s t : Nat} {sent bytes : Int}
theorem spec_one (S : SB A N m s t sent) (h : sent < bytes) (hd : (finB A N s).known.getD t false = true) : SB (aug A (pushM A (bytes - sent) (pathB A N s t)) (pathB A N s t)) N m s t (sent + pushM A (bytes - sent) (pathB A N s t)) ∧ 0 < pushM A (bytes - sent) (pathB A N s t) ∧ pushM A (bytes - sent) (pathB A N s t) ≤ bytes - sent := by
 have ht := (known_iff S).1 hd
 have hpo := (pathB_ok S ht).1
 obtain ⟨h1, h2, h3⟩ := push_le (A := A) (P := pathB A N s t) (b := bytes - sent)
 have h4 := h3 (by omega) fun k hk => (hpo.arc k hk).2.1
 exact ⟨sb_step S ht (by omega) h2, h4, h1⟩
theorem spec_ex : ∀ (n : Nat) {A : List Arc} {sent : Int}, (bytes - sent).toNat ≤ n → SB A N m s t sent → ∃ A' r, SpecR N s t bytes A sent A' r := by
 intro n
 induction n with
 | zero =>
  intro A sent hn S
  exact ⟨A, sent, .full _ _ (by omega)⟩
 | succ n ih =>
  intro A sent hn S
  by_cases h : sent < bytes
  ·cases hd : (finB A N s).known.getD t false with
   | false => exact ⟨A, sent, .stop _ _ h hd⟩
   | true =>
    obtain ⟨S', h1, h2⟩ := spec_one S h hd
    obtain ⟨A', r, hr⟩ := ih (by omega) S'
    exact ⟨A', r, .step _ _ _ _ h hd hr⟩
  ·exact ⟨A, sent, .full _ _ h⟩
theorem spec_ok {A' : List Arc} {r : Int} (h : SpecR N s t bytes A sent A' r) : SB A N m s t sent → sent ≤ bytes → SB A' N m s t r ∧ r ≤ bytes ∧ sent ≤ r ∧ (r < bytes → ¬ Rch A' s t) ∧ fnA A' N s t = fnA A N s t := by
 induction h with
 | full A sent h => exact fun S hb => ⟨S, hb, Int.le_refl _, fun g => absurd g h, rfl⟩
 | stop A sent h hd =>
  intro S hb
  exact ⟨S, hb, Int.le_refl _, fun _ g => (by rw [(known_iff S).2 g] at hd; cases hd), rfl⟩
 | step A sent A' r h hd hr ih =>
  intro S hb
  obtain ⟨S', h1, h2⟩ := spec_one S h hd
  obtain ⟨a1, a2, a3, a4, a5⟩ := ih S' (by omega)
  refine ⟨a1, a2, by omega, a4, a5.trans ?_⟩
  have hpo := (pathB_ok S ((known_iff S).1 hd)).1
  exact fn_aug_eq S.wp fun k hk => by rw [← S.wp.len]; exact (hpo.arc k hk).1
theorem spec_best {A' : List Arc} {r : Int} (h : SpecR N s t bytes A 0 A' r) (S : SB A N m s t 0) (hb : 0 ≤ bytes) :
  0 ≤ r ∧ r ≤ bytes ∧ (fnA A N s t).Flow (flA A') r ∧ (∃ φ, (fnA A N s t).Pot (flA A') φ) ∧ (r < bytes → ∀ f b, (fnA A N s t).Flow f b → b ≤ r) ∧ WPr A' m ∧ fnA A' N s t = fnA A N s t := by
 obtain ⟨S', h1, h2, h3, h4⟩ := spec_ok h S hb
 have := sb_flow S'
 rw [h4] at this
 refine ⟨h2, h1, this.2.1, this.2.2, fun g f b hf => ?_, S'.wp, h4⟩
 rw [← h4] at hf
 exact sb_max S' (h3 g) hf
end
noncomputable def specM (A : List Arc) (N s t : Nat) (bytes : Int) : List Arc × Int := @dite _ (∃ x : List Arc × Int, SpecR N s t bytes A 0 x.1 x.2) (Classical.propDecidable _) Classical.choose fun _ => ([], 0)
theorem specM_of {A : List Arc} {N s t : Nat} {bytes : Int} {A' : List Arc} {r : Int} (h : SpecR N s t bytes A 0 A' r) : specM A N s t bytes = (A', r) := by
 unfold specM
 rw [dif_pos ⟨(A', r), h⟩]
 have := Classical.choose_spec (⟨(A', r), h⟩ : ∃ x : List Arc × Int, SpecR N s t bytes A 0 x.1 x.2)
 obtain ⟨h1, h2⟩ := spec_det this h
 exact Prod.ext h1 h2
theorem specM_R {A : List Arc} {N m s t : Nat} {bytes : Int} (S : SB A N m s t 0) : SpecR N s t bytes A 0 (specM A N s t bytes).1 (specM A N s t bytes).2 := by
 obtain ⟨A', r, h⟩ := spec_ex (bytes := bytes) _ (Nat.le_refl _) S
 rw [specM_of h]; exact h
theorem both {A : List Arc} {out : List (List Nat)} {lv : List Int} {N m s t : Nat} {bytes : Int} (S : SI A out lv N m s t 0) (hb : 0 ≤ bytes) : (sendM A out lv N s t bytes).2 = (specM A N s t bytes).2 ∧ (fnA A N s t).cost (flA (sendM A out lv N s t bytes).1) = (fnA A N s t).cost (flA (specM A N s t bytes).1) := by
 obtain ⟨a1, a2, a3, ⟨φ, a4⟩, a5, _⟩ := send_best (sendM_R (bytes := bytes) S) S hb
 obtain ⟨b1, b2, b3, ⟨ψ, b4⟩, b5, _⟩ := spec_best (specM_R (bytes := bytes) S.sb) S.sb hb
 have hw := (si_flow S).1
 have e : (sendM A out lv N s t bytes).2 = (specM A N s t bytes).2 := by
  by_cases c1 : (sendM A out lv N s t bytes).2 < bytes
  ·have h1 := a5 c1 _ _ b3
   by_cases c2 : (specM A N s t bytes).2 < bytes
   ·have h2 := b5 c2 _ _ a3
    omega
   ·omega
  ·by_cases c2 : (specM A N s t bytes).2 < bytes
   ·have h2 := b5 c2 _ _ a3
    omega
   ·omega
 refine ⟨e, ?_⟩
 rw [e] at a3
 have h1 := FN.opt hw a3 a4 b3.nn (c := 1) (fun i hi => by rw [Int.one_mul]; exact b3.le i hi) b3.val (by rw [Int.one_mul]) (by decide)
 have h2 := FN.opt hw b3 b4 a3.nn (c := 1) (fun i hi => by rw [Int.one_mul]; exact a3.le i hi) a3.val (by rw [Int.one_mul]) (by decide)
 rw [Int.one_mul] at h1 h2
 omega
end Sim
namespace Sim
open Go Go.Proofs
set_option linter.unusedVariables false
set_option linter.unusedSimpArgs false
theorem mixed : Try.prog.follows .mixedOrders = true := by kernel_rfl
abbrev itV (x : It) : PV := .agg [I x.1, I (x.2 : Nat)]
theorem nth_its {l : List It} {k : Nat} (h : k < l.length) : nth (l.map itV) k = .agg [I (l.getD k dI).1, I ((l.getD k dI).2 : Nat)] := nth_mapD dI h
theorem pur_its {l : List It} : pursL (l.map itV) = true := pur_map fun x => by simp [pur_agg, pursL_cons, pur_int, pursL_nil]
theorem inj_its {l m : List It} : (l.map itV = m.map itV) = (l = m) := inj_map fun x y h => by
 simp only [PV.agg.injEq, List.cons.injEq, true_and, and_true, PV.int.injEq] at h
 exact Prod.ext h.1 (by omega)
abbrev arcV (a : Arc) : PV := .agg [I (a.1 : Nat), I (a.2.1 : Nat), I a.2.2.1, I a.2.2.2]
theorem nth_arcs {l : List Arc} {k : Nat} (h : k < l.length) : nth (l.map arcV) k = .agg [I ((l.getD k dA).1 : Nat), I ((l.getD k dA).2.1 : Nat), I (l.getD k dA).2.2.1, I (l.getD k dA).2.2.2] := nth_mapD dA h
theorem pur_arcs {l : List Arc} : pursL (l.map arcV) = true := pur_map fun x => by simp [pur_agg, pursL_cons, pur_int, pursL_nil]
theorem inj_arcs {l m : List Arc} : (l.map arcV = m.map arcV) = (l = m) := inj_map fun x y h => by
 simp only [PV.agg.injEq, List.cons.injEq, true_and, and_true, PV.int.injEq] at h
 exact Prod.ext (by omega) (Prod.ext (by omega) (Prod.ext h.2.2.1 h.2.2.2))
abbrev Lnk := Int × Int × (Fin 24 → Int) × (Fin 24 → Int)
abbrev dL : Lnk := (0, 0, fun _ => 0, fun _ => 0)
def lkC (a : Lnk) : List PV := I a.1 :: I a.2.1 :: ((List.ofFn a.2.2.1).map (PV.int .i64) ++ (List.ofFn a.2.2.2).map (PV.int .i64))
abbrev lnkV (a : Lnk) : PV := .agg (lkC a)
abbrev lnks (l : List Lnk) : PV := .lits 50 (l.map lnkV)
abbrev Net := Int × List Lnk
abbrev netV (n : Net) : PV := .agg [I n.1, lnks n.2]
abbrev Snd := Int × Int × Int
abbrev dS : Snd := (0, 0, 0)
abbrev sndV (a : Snd) : PV := .agg [I a.1, I a.2.1, I a.2.2]
abbrev snds (l : List Snd) : PV := .lits 3 (l.map sndV)
def capA (a : Lnk) (h : Nat) : Int := if g : h < 24 then a.2.2.1 ⟨h, g⟩ else 0
def priA (a : Lnk) (h : Nat) : Int := if g : h < 24 then a.2.2.2 ⟨h, g⟩ else 0
theorem ofFn_at {f : Fin 24 → Int} {h : Nat} (g : h < 24) : (List.ofFn f)[h]? = some (f ⟨h, g⟩) := by
 rw [List.getElem?_eq_getElem (by rw [List.length_ofFn]; exact g), List.getElem_ofFn]
theorem ofFn_inj {f g : Fin 24 → Int} (h : List.ofFn f = List.ofFn g) : f = g := funext fun i => by
 have h1 := ofFn_at (f := f) i.2
 have h2 := ofFn_at (f := g) i.2
 rw [h, h2] at h1
 exact (Option.some.inj h1).symm
theorem ofFn_len {f : Fin 24 → Int} : ((List.ofFn f).map (PV.int .i64)).length = 24 := by rw [List.length_map, List.length_ofFn]
theorem lkC_len {a : Lnk} : (lkC a).length = 50 := by simp [lkC]
theorem lkC_0 {a : Lnk} : (lkC a)[0]? = some (I a.1) := by simp [lkC]
theorem lkC_1 {a : Lnk} : (lkC a)[1]? = some (I a.2.1) := by simp [lkC]
theorem lkC_cap {a : Lnk} {h : Nat} (g : h < 24) : (lkC a)[2 + h]? = some (I (capA a h)) := by
 simp only [lkC, capA, g, dite_true]
 rw [show 2 + h = h + 1 + 1 by omega, List.getElem?_cons_succ, List.getElem?_cons_succ, List.getElem?_append_left (by rw [ofFn_len]; exact g), List.getElem?_map, ofFn_at g]; rfl
theorem lkC_pri {a : Lnk} {h : Nat} (g : h < 24) : (lkC a)[26 + h]? = some (I (priA a h)) := by
 simp only [lkC, priA, g, dite_true]
 rw [show 26 + h = (24 + h) + 1 + 1 by omega, List.getElem?_cons_succ, List.getElem?_cons_succ, List.getElem?_append_right (by rw [ofFn_len]; omega), ofFn_len, show 24 + h - 24 = h by omega, List.getElem?_map, ofFn_at g]; rfl
theorem lkC_take {a : Lnk} : List.take 50 (lkC a) = lkC a := List.take_of_length_le (by rw [lkC_len]; omega)
theorem lkC_inj {a b : Lnk} (h : lkC a = lkC b) : a = b := by
 simp only [lkC, List.cons.injEq, PV.int.injEq, true_and] at h
 obtain ⟨h1, h2, h3⟩ := h
 obtain ⟨h4, h5⟩ := List.append_inj h3 (by rw [ofFn_len, ofFn_len])
 have e : ∀ {f g : Fin 24 → Int}, (List.ofFn f).map (PV.int .i64) = (List.ofFn g).map (PV.int .i64) → f = g := fun h => ofFn_inj (map_inj' (fun x y h => by injection h) h)
 exact Prod.ext h1 (Prod.ext h2 (Prod.ext (e h4) (e h5)))
theorem pur_lkC {a : Lnk} : pursL (lkC a) = true := by
 have : ∀ {l : List Int} {r : List PV}, pursL r = true → pursL (l.map (PV.int .i64) ++ r) = true := by
  intro l r h
  induction l with
  | nil => exact h
  | cons a l ih => simp [pursL_cons, pur_int, ih]
 simp only [lkC, pursL_cons, pur_int, Bool.true_and]
 exact this (pur_ints)
theorem nth_lnks {l : List Lnk} {k : Nat} (h : k < l.length) : nth (l.map lnkV) k = .agg (lkC (l.getD k dL)) := nth_mapD dL h
theorem pur_lnks {l : List Lnk} : pursL (l.map lnkV) = true := pur_map fun x => by rw [pur_agg, pur_lkC]
theorem inj_lnks {l m : List Lnk} : (l.map lnkV = m.map lnkV) = (l = m) := inj_map fun x y h => by
 simp only [PV.agg.injEq] at h
 exact lkC_inj h
theorem nth_snds {l : List Snd} {k : Nat} (h : k < l.length) : nth (l.map sndV) k = .agg [I (l.getD k dS).1, I (l.getD k dS).2.1, I (l.getD k dS).2.2] := nth_mapD dS h
theorem pur_snds {l : List Snd} : pursL (l.map sndV) = true := pur_map fun x => by simp [pur_agg, pursL_cons, pur_int, pursL_nil]
theorem inj_snds {l m : List Snd} : (l.map sndV = m.map sndV) = (l = m) := inj_map fun x y h => by
 simp only [PV.agg.injEq, List.cons.injEq, true_and, and_true, PV.int.injEq] at h
 exact Prod.ext h.1 (Prod.ext h.2.1 h.2.2)
end Sim
namespace Sim
open Go
set_option maxRecDepth 100000
set_option linter.defProp false
def bdD := (And.intro (And.intro (And.intro (And.intro (And.intro (And.intro @ur_skip @ur_seq) (And.intro @ur_block @ur_exit)) (And.intro (And.intro @ur_ret @ur_region) (And.intro @ur_cond
 @cont_nil))) (And.intro (And.intro (And.intro @cont_seq @cont_blk) (And.intro @cont_lp @leave_seq)) (And.intro (And.intro @leave_blk @leave_lp) (And.intro @done_nil (And.intro @done_seq
 @done_blk))))) (And.intro (And.intro (And.intro (And.intro @done_lp @ops_consL) (And.intro @ops_consN @ops_guardN)) (And.intro (And.intro @setps_cons @setps_nil) (And.intro @ops_consVc (And.intro
 @ops_guardVc @opsV_yield)))) (And.intro (And.intro (And.intro @ops_nil @upd_same) (And.intro @upd_ne @havoc_in)) (And.intro (And.intro @havoc_out @ev_tmp) (And.intro @ev_int (And.intro @ev_bool
 @ev_nils)))))) (And.intro (And.intro (And.intro (And.intro (And.intro @ev_nilp @ev_nilf) (And.intro @ev_nili @ev_func)) (And.intro (And.intro @guardP_eq @iop_move) (And.intro @iop_assign (And.intro
 @pick3_bool @iop_pick)))) (And.intro (And.intro (And.intro @iop_alloc @iop_box) (And.intro @iop_build @iop_buildSlice)) (And.intro (And.intro @iop_load @iop_store) (And.intro @iop_nilCheck
 (And.intro @iop_binOp @iop_unOp))))) (And.intro (And.intro (And.intro (And.intro @iop_convert @iop_makeFunc) (And.intro @iop_makeSlice @iop_slice)) (And.intro (And.intro @iop_fieldAddr @iop_field)
 (And.intro @iop_indexAddr (And.intro @iop_extract @iop_callv)))) (And.intro (And.intro (And.intro @iop_callb @iop_calli) (And.intro @iop_makeMap @iop_mapUpdate)) (And.intro (And.intro @iop_lookup
 @evs_cons) (And.intro @evs_nil (And.intro @evp_cons @evp_nil)))))))
def bdP := (And.intro (And.intro (And.intro (And.intro (And.intro (And.intro (And.intro (And.intro @ur_range @Nat.one_ne_zero) (And.intro @rndX_cfg @nY_move)) (And.intro (And.intro @nY_assign
 @nY_pick) (And.intro @nY_alloc (And.intro @nY_box @nY_build)))) (And.intro (And.intro (And.intro @nY_buildSlice @nY_load) (And.intro @nY_store @nY_nilCheck)) (And.intro (And.intro @nY_binOp
 @nilO_tmp) (And.intro @nilO_int (And.intro @nilC_nils @bnn_eql))))) (And.intro (And.intro (And.intro (And.intro @nY_unOp @nY_convert) (And.intro @nY_makeInterface @nY_makeFunc)) (And.intro
 (And.intro @nY_makeMap @nY_makeSlice) (And.intro @nY_slice (And.intro @nY_fieldAddr @nY_field)))) (And.intro (And.intro (And.intro @nY_indexAddr @nY_lookup) (And.intro @nY_mapUpdate @nY_typeAssert))
 (And.intro (And.intro @nY_extract @nY_callf) (And.intro @nY_callb (And.intro @nY_calli @nY_callt)))))) (And.intro (And.intro (And.intro (And.intro (And.intro @isNone_none @cfg_yl) (And.intro
 @opsIf_some @opsIf_none)) (And.intro (And.intro @opsIf_if @map_if) (And.intro @condC_true (And.intro @condC_false @guardC_u)))) (And.intro (And.intro (And.intro @guardC_tt @guardC_tf) (And.intro
 @guardC_ft @guardC_ff)) (And.intro (And.intro @Option.map_some.{0,0} @Option.map_none.{0,0}) (And.intro @Option.bind_some.{0,0} (And.intro @Option.getD_some.{0} @Option.getD_none.{0}))))) (And.intro
 (And.intro (And.intro (And.intro @Bool.false_eq_true @true_and) (And.intro @and_true @List.getD_cons_zero.{0})) (And.intro (And.intro @List.getD_cons_succ.{0} @List.getElem?_toArray.{0}) (And.intro
 @List.getElem?_cons_zero.{0} (And.intro @List.getElem?_cons_succ.{0} @not_dec)))) (And.intro (And.intro (And.intro @cfg_P @cfg_tab) (And.intro @cfg_muts (And.intro @cfg_frz @cfg_num))) (And.intro
 (And.intro @numOf_eq @List.map_nil.{0,0}) (And.intro @List.length_map.{0,0} (And.intro @agree_upd @agree_havoc))))))) (And.intro (And.intro (And.intro (And.intro (And.intro (And.intro
 @List.contains_cons.{0} @List.contains_nil.{0}) (And.intro @Bool.or_false @Bool.or_true)) (And.intro (And.intro @Int.natCast_nonneg @Int.ofNat_lt) (And.intro @Int.toNat_natCast (And.intro @nth_int
 @decide_true)))) (And.intro (And.intro (And.intro @decide_false @Option.some.injEq.{0}) (And.intro @exists_eq_left'.{1} @PV.int.injEq)) (And.intro (And.intro @List.lookup_cons.{0,0}
 @List.lookup_nil.{0,0}) (And.intro @tabOf_cons (And.intro @tab_v @tab_a))))) (And.intro (And.intro (And.intro (And.intro @tab_x @tab_c) (And.intro @Bool.and_true @Bool.and_self)) (And.intro
 (And.intro @Bool.true_and @List.cons_append.{0}) (And.intro @List.nil_append.{0} (And.intro @List.append_nil.{0} @GS_ref)))) (And.intro (And.intro (And.intro @updO_same @updO_ne) (And.intro
 @List.length_append.{0} @List.length_cons.{0})) (And.intro (And.intro @List.length_nil.{0} @Nat.zero_add) (And.intro @Nat.add_zero (And.intro @List.drop_zero.{0} @List.take_zero.{0})))))) (And.intro
 (And.intro (And.intro (And.intro (And.intro @Nat.not_succ_le_self @List.replicate_succ.{0}) (And.intro @List.replicate_zero.{0} @List.length_replicate.{0})) (And.intro (And.intro
 @List.set_cons_zero.{0} @List.set_cons_succ.{0}) (And.intro @nth_zero (And.intro @Prod.mk.injEq.{0,0} @IObj.arr.injEq)))) (And.intro (And.intro (And.intro @Nat.lt_irrefl @Nat.lt_succ_self)
 (And.intro @Bool.not_true @Bool.not_false)) (And.intro (And.intro @not_true_eq_false @not_false_eq_true) (And.intro @take_map_len (And.intro @or_false @or_true))))) (And.intro (And.intro (And.intro
 (And.intro @Nat.le_refl @Classical.not_not) (And.intro @cells_bool @pur_bool)) (And.intro (And.intro @cells_int @pur_int) (And.intro @isCell_int (And.intro @cells_nilp @cells_ptr)))) (And.intro
 (And.intro (And.intro @pur_vptr @cells_nils) (And.intro @cells_lits (And.intro @pur_lits @isCell_lits))) (And.intro (And.intro @cells_ref @pur_ref) (And.intro @pur_func (And.intro @cells_agg
 @pur_agg)))))))) (And.intro (And.intro (And.intro (And.intro (And.intro (And.intro (And.intro @DRx_int @DRx_bool) (And.intro @DRx_nils_lits @DRx_ref)) (And.intro (And.intro @DRx_agg @DRx_tuple)
 (And.intro @DRxL_cons (And.intro @DRxL_nil @grd_some)))) (And.intro (And.intro (And.intro @nilCk_ptr @mkSl_int) (And.intro @mkSl_re @intOfP_int)) (And.intro (And.intro @slcP_ft @fldV_agg) (And.intro
 @idxA_int (And.intro @extr_tuple @mthP_iface))))) (And.intro (And.intro (And.intro (And.intro @iop_makeInterface @iop_typeAssert) (And.intro @asT_same @soft_arr)) (And.intro (And.intro @tmpNo_tmp
 @softS_ptr) (And.intro @heldS_ptr (And.intro @isInt1_int @isInt1_ref)))) (And.intro (And.intro (And.intro @isInt_ref @isInt_agg) (And.intro @softA_ref @isInt_int)) (And.intro (And.intro
 @List.all_cons.{0} @List.all_nil.{0}) (And.intro @all_ints (And.intro @nrmAll_cons @nrmAll_nil)))))) (And.intro (And.intro (And.intro (And.intro (And.intro @bi_len @lenM_none) (And.intro
 @mapPut_mref @mapGet_mref)) (And.intro (And.intro @mapLk_ff @mapB_some) (And.intro @bi_append (And.intro @bi_min @bi_max)))) (And.intro (And.intro (And.intro @nrm_agg @nrmL_cons) (And.intro
 @nrmL_nil @nrm_nils)) (And.intro (And.intro @nrm1_some @nrm_no) (And.intro @nrm_int (And.intro @nrm_bool @nrm_lits))))) (And.intro (And.intro (And.intro (And.intro @nrm_ref @nrm_func) (And.intro
 @nrm_ptr @nrm1_int)) (And.intro (And.intro @nrm1_lits @pickP_f) (And.intro @pickP_t (And.intro @loadP_vptr @loadP_ptr)))) (And.intro (And.intro (And.intro @setCells_agg @setCells_int) (And.intro
 @setCells_bool (And.intro @setCells_nils @setCells_ref))) (And.intro (And.intro @storeP_ptr @fieldP_vptr) (And.intro @fieldP_ptr (And.intro @indexP_lits @indexP_ref))))))) (And.intro (And.intro
 (And.intro (And.intro (And.intro (And.intro @indexP_vptr @indexP_ptr) (And.intro @lenP_nils @lenP_lits)) (And.intro (And.intro @lenP_ref @elemsP_lits) (And.intro @sliceP_lits (And.intro @sliceP_ref
 @appendP_ref)))) (And.intro (And.intro (And.intro @b_add @b_sub) (And.intro @b_mul @b_quo)) (And.intro (And.intro @b_rem @b_xor) (And.intro @b_eql (And.intro @b_neq @b_lss))))) (And.intro (And.intro
 (And.intro (And.intro @b_leq @b_gtr) (And.intro @b_geq @b_shr)) (And.intro (And.intro @u_neg @u_not) (And.intro @cv_int (And.intro @fill_nil @fill_cons)))) (And.intro (And.intro (And.intro
 @fill1_some @buildP_eq) (And.intro @bldA_none @bldA_some)) (And.intro (And.intro @bel_nil @bel_cons) (And.intro @splice_eq (And.intro @env0_eq @ires_eq)))))) (And.intro (And.intro (And.intro
 (And.intro (And.intro @iresL_1 @iresL_2) (And.intro @iresAll_nil @iresAll_cons)) (And.intro (And.intro @iresOne_tmp @iresOne_cell) (And.intro @valT_eq (And.intro @pursL_cons @pursL_nil))))
 (And.intro (And.intro (And.intro @arr_eq @arrB_some) (And.intro @callP_eq @tsOf_eq)) (And.intro (And.intro @boxP_eq @bslP_eq) (And.intro @beq_eq_false_iff_ne.{0} (And.intro @ne_eq.{1} @set_int)))))
 (And.intro (And.intro (And.intro (And.intro @Int.natCast_inj @List.take_succ_cons.{0}) (And.intro @List.drop_succ_cons.{0} @List.drop_nil.{0})) (And.intro (And.intro @List.take_nil.{0} @guardC_fd)
 (And.intro @condC_d (And.intro @bb_neq' @Int.le_refl)))) (And.intro (And.intro (And.intro @beq_self_eq_true.{0} @see_eq) (And.intro @past_eq (And.intro @hard_eq @false_and))) (And.intro (And.intro
 @and_false @Bool.true_eq_false) (And.intro @bits_u64 (And.intro @Nat.min_def @Int.cast_ofNat_Int)))))))))
end Sim
