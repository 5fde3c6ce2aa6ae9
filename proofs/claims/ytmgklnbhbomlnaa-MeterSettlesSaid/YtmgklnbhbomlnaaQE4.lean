/- What functions of this seat compute, by values: contracts (lemmas of the statement's proof, under the conditions that each names). -/
import Derived.Test.YtmgklnbhbomlnaaQD
import Derived.Test.YtmgklnbhbomlnaaQS3
import Derived.Test.YtmgklnbhbomlnaaQP2
namespace Sim
open Go Go.Proofs
set_option maxRecDepth 10000
set_option linter.unusedVariables false
set_option linter.unusedSimpArgs false
def sumQ (ps : List Pst) (i : Int) : Int := (ps.map fun p => gotQ p i).sum
theorem at_in {ps : List Pst} {k : Nat} (h : k < ps.length) : ps.getD k dP ∈ ps := by
  rw [List.getD_eq_getElem?_getD, List.getElem?_eq_getElem h]; exact List.getElem_mem _
theorem map_step {ps : List Pst} {f : Pst → Int} {k : Nat} (h : k < ps.length) : ((ps.take (k + 1)).map f).sum = ((ps.take k).map f).sum + f (ps.getD k dP) := by
  rw [List.take_succ_eq_append_getElem h, List.map_append, List.sum_append, List.getD_eq_getElem?_getD, List.getElem?_eq_getElem h]
  simp
theorem of_sum {n : Int} {ps : List Pst} {i : Int} (ok : BookOK n ps) : ∀ k, k ≤ ps.length → ofS (ofK ps i k) = ((ps.take k).map fun p => gotQ p i).sum
  | 0, _ => by simp [ofS, ofK]
  | k + 1, h => by
    have ih := of_sum (i := i) ok k (by omega)
    have h1 := (ok.one k (by omega)).1.2.2
    rw [map_step (by omega), ← ih]
    simp only [ofK]
    unfold gotQ
    by_cases c1 : (ps.getD k dP).1 = i
    · rw [if_pos c1, ofS_app, if_pos c1, if_neg (fun e => h1 (by rw [c1, e]))]; omega
    · rw [if_neg c1]
      by_cases c2 : (ps.getD k dP).2.1 = i
      · rw [if_pos c2, ofS_app, if_neg c1, if_pos c2]; omega
      · rw [if_neg c2, if_neg c1, if_neg c2]; omega
theorem of_tot {n : Int} {ps : List Pst} {i fr : Int} {w : Nat} (ok : BookOK n ps) : ∀ k, k ≤ ps.length → totA ps fr (ofK ps i k) w = ((ps.take k).map fun p => if fr ≤ p.2.2.2.1 ∧ p.2.2.2.2.1 = (w : Int) then gotQ p i else 0).sum
  | 0, _ => by simp [totA, ofK]
  | k + 1, h => by
    have ih := of_tot (i := i) (fr := fr) (w := w) ok k (by omega)
    have h1 := (ok.one k (by omega)).1.2.2
    rw [map_step (by omega), ← ih]
    simp only [ofK]
    unfold gotQ
    by_cases c1 : (ps.getD k dP).1 = i
    · rw [if_pos c1, totA_app, Int.toNat_natCast, if_pos c1, if_neg (show ¬ (ps.getD k dP).2.1 = i from fun e => h1 (by rw [c1, e]))]; split <;> omega
    · rw [if_neg c1]
      by_cases c2 : (ps.getD k dP).2.1 = i
      · rw [if_pos c2, totA_app, Int.toNat_natCast, if_neg c1, if_pos c2]; split <;> omega
      · rw [if_neg c2, if_neg c1, if_neg c2]; split <;> omega
theorem of_all {n : Int} {ps : List Pst} {i : Int} (ok : BookOK n ps) : ofS (ofK ps i ps.length) = sumQ ps i := by
  rw [of_sum ok _ (Nat.le_refl _), List.take_length]; rfl
theorem sumQ_app {ps qs : List Pst} {i : Int} : sumQ (ps ++ qs) i = sumQ ps i + sumQ qs i := by
  unfold sumQ; rw [List.map_append, List.sum_append]
theorem sumQ_step {ps : List Pst} {i : Int} {k : Nat} (h : k < ps.length) : sumQ (ps.take (k + 1)) i = sumQ (ps.take k) i + gotQ (ps.getD k dP) i := map_step h
/-- The sum over the first accounts. -/
def accS (ps : List Pst) : Nat → Int
  | 0 => 0
  | a + 1 => accS ps a + sumQ ps (a : Int)
theorem one_sum {x v : Int} (h : 0 ≤ x) : ∀ n : Nat, (((List.range n).map fun i : Nat => if x = (i : Int) then v else 0).sum) = if x < n then v else 0
  | 0 => by simp; omega
  | n + 1 => by
    rw [List.range_succ, List.map_append, List.sum_append, one_sum h n]
    simp only [List.map_cons, List.map_nil, List.sum_cons, List.sum_nil]
    repeat' split
    all_goals omega
theorem accS_eq {ps : List Pst} : ∀ n, accS ps n = ((List.range n).map fun i : Nat => sumQ ps (i : Int)).sum
  | 0 => rfl
  | n + 1 => by rw [List.range_succ, List.map_append, List.sum_append, ← accS_eq n]; simp [accS]
theorem sum_add2 {f g : Nat → Int} : ∀ l : List Nat, (l.map fun i => f i + g i).sum = (l.map f).sum + (l.map g).sum
  | [] => rfl
  | x :: l => by
    have ih := sum_add2 (f := f) (g := g) l
    simp only [List.map_cons, List.sum_cons, ih]; omega
/-- The balances are 0 together. -/
theorem acc_zero {n : Nat} : ∀ {ps : List Pst}, (∀ p ∈ ps, (0 ≤ p.1 ∧ p.1 < n) ∧ (0 ≤ p.2.1 ∧ p.2.1 < n)) → accS ps n = 0
  | [], _ => by
    have : ∀ n, accS [] n = 0 := fun n => by
      induction n with
      | zero => rfl
      | succ n ih => simp only [accS, ih]; rfl
    exact this n
  | p :: ps, h => by
    have ih := acc_zero (ps := ps) fun q hq => h q (by simp [hq])
    obtain ⟨⟨p1, p2⟩, p3, p4⟩ := h p (by simp)
    rw [accS_eq] at ih ⊢
    have e : ((List.range n).map fun i : Nat => sumQ (p :: ps) (i : Int)) = (List.range n).map fun i : Nat => ((if p.1 = (i : Int) then p.2.2.1 else 0) + ((if p.2.1 = (i : Int) then -p.2.2.1 else 0) + sumQ ps (i : Int))) := by
      refine List.map_congr_left fun i _ => ?_
      unfold sumQ
      rw [List.map_cons, List.sum_cons]
      unfold gotQ
      repeat' split
      all_goals omega
    rw [e, sum_add2, sum_add2, ih, one_sum p1, one_sum p3, if_pos p2, if_pos p4]; omega
theorem book_mem {n : Int} {ps : List Pst} (ok : BookOK n ps) {p : Pst} (hp : p ∈ ps) : (accO n p.1 ∧ accO n p.2.1 ∧ ¬ p.1 = p.2.1) ∧ rngO p := by
  obtain ⟨k, hk, rfl⟩ := List.getElem_of_mem hp
  have := ok.one k hk
  rwa [List.getD_eq_getElem?_getD, List.getElem?_eq_getElem hk] at this
theorem gotQ_in {p : Pst} (h : 1 ≤ p.2.2.1 ∧ p.2.2.1 ≤ 1099511627776) (i : Int) : -1099511627776 ≤ gotQ p i ∧ gotQ p i ≤ 1099511627776 := by
  unfold gotQ
  repeat' split
  all_goals omega
theorem sumQ_in {i : Int} : ∀ {ps : List Pst}, (∀ p ∈ ps, 1 ≤ p.2.2.1 ∧ p.2.2.1 ≤ 1099511627776) → -(1099511627776 * (ps.length : Int)) ≤ sumQ ps i ∧ sumQ ps i ≤ 1099511627776 * (ps.length : Int)
  | [], _ => by simp [sumQ]
  | p :: ps, h => by
    have ih := sumQ_in (i := i) (ps := ps) fun q hq => h q (by simp [hq])
    have hp := gotQ_in (h p (by simp)) i
    unfold sumQ at ih ⊢
    rw [List.map_cons, List.sum_cons, List.length_cons]
    have e : (1099511627776 : Int) * ((ps.length + 1 : Nat) : Int) = 1099511627776 * (ps.length : Int) + 1099511627776 := by omega
    omega
theorem accS_in {ps : List Pst} (h : ∀ p ∈ ps, 1 ≤ p.2.2.1 ∧ p.2.2.1 ≤ 1099511627776) (hl : ps.length ≤ 1000) : ∀ n : Nat, -(1099511627776000 * (n : Int)) ≤ accS ps n ∧ accS ps n ≤ 1099511627776000 * (n : Int)
  | 0 => by simp [accS]
  | n + 1 => by
    have ih := accS_in h hl n
    have := sumQ_in (i := (n : Int)) h
    simp only [accS]
    have e : (1099511627776000 : Int) * ((n + 1 : Nat) : Int) = 1099511627776000 * (n : Int) + 1099511627776000 := by omega
    omega
def gainK (P : List Pst) (a : Int) (w : Nat) : Int := (P.map fun x => if x.2.2.2.2.1 = (w : Int) then gotQ x a else 0).sum
theorem gain_app {P : List Pst} {x : Pst} {a : Int} {w : Nat} : gainK (P ++ [x]) a w = gainK P a w + if x.2.2.2.2.1 = (w : Int) then gotQ x a else 0 := by
  unfold gainK; rw [List.map_append, List.sum_append]; simp
theorem gain_in {a : Int} {w : Nat} : ∀ {ps : List Pst}, (∀ p ∈ ps, 1 ≤ p.2.2.1 ∧ p.2.2.1 ≤ 1099511627776) → -(1099511627776 * (ps.length : Int)) ≤ gainK ps a w ∧ gainK ps a w ≤ 1099511627776 * (ps.length : Int)
  | [], _ => by simp [gainK]
  | p :: ps, h => by
    have ih := gain_in (a := a) (w := w) (ps := ps) fun q hq => h q (by simp [hq])
    have hp := gotQ_in (h p (by simp)) a
    unfold gainK at ih ⊢
    rw [List.map_cons, List.sum_cons, List.length_cons]
    have e : (1099511627776 : Int) * ((ps.length + 1 : Nat) : Int) = 1099511627776 * (ps.length : Int) + 1099511627776 := by omega
    split <;> omega
theorem gain_tot {n : Int} {ps P : List Pst} {a tick : Int} {w : Nat} (ok : BookOK n (ps ++ P)) (h1 : ∀ p ∈ ps, p.2.2.2.1 < tick) (h2 : ∀ p ∈ P, p.2.2.2.1 = tick) : totA (ps ++ P) tick (ofK (ps ++ P) a (ps ++ P).length) w = gainK P a w := by
  rw [of_tot ok _ (Nat.le_refl _), List.take_length, List.map_append, List.sum_append]
  have e1 : (ps.map fun p => if tick ≤ p.2.2.2.1 ∧ p.2.2.2.2.1 = (w : Int) then gotQ p a else 0).sum = 0 := by
    clear ok
    induction ps with
    | nil => rfl
    | cons p ps ih =>
      rw [List.map_cons, List.sum_cons, ih fun q hq => h1 q (by simp [hq])]
      have := h1 p (by simp)
      rw [if_neg (by omega)]; rfl
  have e2 : (P.map fun p => if tick ≤ p.2.2.2.1 ∧ p.2.2.2.2.1 = (w : Int) then gotQ p a else 0) = P.map fun x => if x.2.2.2.2.1 = (w : Int) then gotQ x a else 0 := by
    refine List.map_congr_left fun p hp => ?_
    have := h2 p hp
    by_cases c : p.2.2.2.2.1 = (w : Int)
    · rw [if_pos ⟨by omega, c⟩, if_pos c]
    · rw [if_neg (fun g => c g.2), if_neg c]
  rw [e1, e2]
  unfold gainK; omega
/-- The tick of a book's last posting is the greatest. -/
theorem last_tick {n : Int} {ps : List Pst} (ok : BookOK n ps) : ∀ k, k < ps.length → ∀ j, j ≤ k → (ps.getD j dP).2.2.2.1 ≤ (ps.getD k dP).2.2.2.1
  | 0, _, j, hj => by rw [show j = 0 by omega]; exact Int.le_refl _
  | k + 1, hk, j, hj => by
    have h := ok.asc (k + 1) (by omega) hk
    rw [show k + 1 - 1 = k by omega] at h
    by_cases e : j = k + 1
    · subst e; exact Int.le_refl _
    · exact Int.le_trans (last_tick ok k (by omega) j (by omega)) h
def lastT (ps : List Pst) : Int := if ps.length = 0 then 0 else (ps.getD (ps.length - 1) dP).2.2.2.1
theorem lastT_le {n : Int} {ps : List Pst} (ok : BookOK n ps) : ∀ p ∈ ps, p.2.2.2.1 ≤ lastT ps := fun p hp => by
  obtain ⟨j, hj, rfl⟩ := List.getElem_of_mem hp
  have := last_tick ok (ps.length - 1) (by omega) j (by omega)
  unfold lastT
  rw [if_neg (by omega)]
  rwa [List.getD_eq_getElem?_getD, List.getElem?_eq_getElem hj] at this
theorem lastT_in {n : Int} {ps : List Pst} (ok : BookOK n ps) : 0 ≤ lastT ps ∧ lastT ps ≤ 1000000 := by
  unfold lastT
  by_cases c : ps.length = 0
  · rw [if_pos c]; omega
  · rw [if_neg c]
    have := (ok.one (ps.length - 1) (by omega)).2
    unfold rngO at this
    omega
end Sim
