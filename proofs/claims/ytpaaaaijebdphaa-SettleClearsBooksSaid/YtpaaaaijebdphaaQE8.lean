/- What functions of this seat compute, by values: contracts (lemmas of the statement's proof, under the conditions that each names). -/
import Derived.Test.YtpaaaaijebdphaaQD8
import Derived.Test.YtpaaaaijebdphaaQN
import Derived.Test.YtpaaaaijebdphaaQO3
namespace Sim
open Go Go.Proofs
set_option maxRecDepth 10000
set_option linter.unusedVariables false
set_option linter.unusedSimpArgs false
def sumQ (ps : List Pst) (i : Int) : Int := (ps.map fun p => gotQ p i).sum
theorem at_in {ps : List Pst} {k : Nat} (h : k < ps.length) : ps.getD k dP ∈ ps := by
  rw [List.getD_eq_getElem?_getD, List.getElem?_eq_getElem h]; exact List.getElem_mem _
theorem map_step {α : Type} [Inhabited α] {ps : List Pst} {f : Pst → Int} {k : Nat} (h : k < ps.length) : ((ps.take (k + 1)).map f).sum = ((ps.take k).map f).sum + f (ps.getD k dP) := by
  rw [List.take_succ_eq_append_getElem h, List.map_append, List.sum_append, List.getD_eq_getElem?_getD, List.getElem?_eq_getElem h]
  simp
theorem of_sum {n : Int} {ps : List Pst} {i : Int} (ok : BookOK n ps) : ∀ k, k ≤ ps.length → ofS (ofK ps i k) = ((ps.take k).map fun p => gotQ p i).sum
  | 0, _ => by simp [ofS, ofK]
  | k + 1, h => by
    have ih := of_sum (i := i) ok k (by omega)
    have h1 := (ok.one k (by omega)).1.2.2
    rw [map_step (α := Nat) (by omega), ← ih]
    simp only [ofK]
    unfold gotQ
    by_cases c1 : (ps.getD k dP).1 = i
    · rw [if_pos c1, ofS_app, if_pos c1, if_neg (fun e => h1 (by rw [c1, e]))]; omega
    · rw [if_neg c1]
      by_cases c2 : (ps.getD k dP).2.1 = i
      · rw [if_pos c2, ofS_app, if_neg c1, if_pos c2]; omega
      · rw [if_neg c2, if_neg c1, if_neg c2]; omega
theorem of_tot {n : Int} {ps : List Pst} {i fr : Int} {w : Nat} (ok : BookOK n ps) : ∀ k, k ≤ ps.length → totA ps fr (ofK ps i k) w = ((ps.take k).map fun p => if fr ≤ p.2.2.2.1 ∧ p.2.2.2.2.1 = (w : Int) then gotQ p i else 0).sum
  | 0, _ => by simp [totA, ofK]
  | k + 1, h => by
    have ih := of_tot (i := i) (fr := fr) (w := w) ok k (by omega)
    have h1 := (ok.one k (by omega)).1.2.2
    rw [map_step (α := Nat) (by omega), ← ih]
    simp only [ofK]
    unfold gotQ
    by_cases c1 : (ps.getD k dP).1 = i
    · rw [if_pos c1, totA_app, Int.toNat_natCast, if_pos c1, if_neg (show ¬ (ps.getD k dP).2.1 = i from fun e => h1 (by rw [c1, e]))]; split <;> omega
    · rw [if_neg c1]
      by_cases c2 : (ps.getD k dP).2.1 = i
      · rw [if_pos c2, totA_app, Int.toNat_natCast, if_neg c1, if_pos c2]; split <;> omega
      · rw [if_neg c2, if_neg c1, if_neg c2]; split <;> omega
theorem of_all {n : Int} {ps : List Pst} {i : Int} (ok : BookOK n ps) : ofS (ofK ps i ps.length) = sumQ ps i := by
  rw [of_sum ok _ (Nat.le_refl _), List.take_length]; rfl
theorem bal_all {ps : List Pst} {i t : Int} (h : ∀ p ∈ ps, p.2.2.2.1 ≤ t) : ∀ k, k ≤ ps.length → balK ps i t k = ((ps.take k).map fun p => gotQ p i).sum
  | 0, _ => by simp [balK]
  | k + 1, hk => by
    have ih := bal_all (i := i) h k (by omega)
    rw [map_step (α := Nat) (by omega), ← ih]
    simp only [balK]
    rw [if_pos (h _ (at_in (by omega)))]
theorem bal_sumQ {ps : List Pst} {i t : Int} (h : ∀ p ∈ ps, p.2.2.2.1 ≤ t) : balK ps i t ps.length = sumQ ps i := by
  rw [bal_all h _ (Nat.le_refl _), List.take_length]; rfl
theorem sumQ_app {ps qs : List Pst} {i : Int} : sumQ (ps ++ qs) i = sumQ ps i + sumQ qs i := by
  unfold sumQ; rw [List.map_append, List.sum_append]
theorem sumQ_pay {l : List Pay} {t i : Int} : sumQ (l.map (payPst t)) i = gotT l i l.length := by
  rw [gotT_eq (Nat.le_refl _), List.take_length]
  unfold sumQ
  rw [List.map_map]; rfl
/-- The balances are 0 together. -/
theorem all_zero {n : Nat} {ps : List Pst} (h : ∀ p ∈ ps, (0 ≤ p.1 ∧ p.1 < n) ∧ (0 ≤ p.2.1 ∧ p.2.1 < n)) : ((List.range n).map fun i : Nat => sumQ ps (i : Int)).sum = 0 := by
  induction ps with
  | nil =>
    have : ∀ l : List Nat, (l.map fun i : Nat => sumQ [] (i : Int)).sum = 0 := by
      intro l
      induction l with
      | nil => rfl
      | cons x l ih => simp only [List.map_cons, List.sum_cons, ih]; rfl
    exact this _
  | cons p ps ih =>
    have ih := ih fun q hq => h q (by simp [hq])
    have hp := h p (by simp)
    have e : ((List.range n).map fun i : Nat => sumQ (p :: ps) (i : Int)) = (List.range n).map fun i : Nat => gotP (p.1, p.2.1, p.2.2.1) (i : Int) + sumQ ps (i : Int) := by
      refine List.map_congr_left fun i _ => ?_
      unfold sumQ
      rw [List.map_cons, List.sum_cons]; rfl
    rw [e, sum_add, ih, sum_got (p := (p.1, p.2.1, p.2.2.1)) (Int.toNat_of_nonneg hp.1.1) (Int.toNat_of_nonneg hp.2.1)]
    have c1 : (List.range n).count p.1.toNat = 1 := by rw [List.Nodup.count List.nodup_range, if_pos (List.mem_range.2 (by omega))]
    have c2 : (List.range n).count p.2.1.toNat = 1 := by rw [List.Nodup.count List.nodup_range, if_pos (List.mem_range.2 (by omega))]
    rw [c1, c2]; omega
theorem book_mem {n : Int} {ps : List Pst} (ok : BookOK n ps) {p : Pst} (hp : p ∈ ps) : (accO n p.1 ∧ accO n p.2.1 ∧ ¬ p.1 = p.2.1) ∧ rngO p := by
  obtain ⟨k, hk, rfl⟩ := List.getElem_of_mem hp
  have := ok.one k hk
  rwa [List.getD_eq_getElem?_getD, List.getElem?_eq_getElem hk] at this
theorem bals_zero {n : Int} {ps : List Pst} {t : Int} (h : befOK n ps t) : balsE n ps t = 0 ∧ balsL n ps t = tbl n.toNat (fun i => sumQ ps (i : Int)) := by
  have hE : balsE n ps t = 0 := by
    unfold balsE
    rw [if_neg (fun g => g (book_zero.2 h.1)), if_neg (fun g => g h.2.1)]
  refine ⟨hE, ?_⟩
  unfold balsL balsT
  rw [if_pos hE]
  exact tbl_ext fun i hi => bal_sumQ h.2.2
theorem sumK_tbl {n : Nat} {f : Nat → Int} : sumK (tbl n f) (tbl n f).length = ((List.range n).map f).sum := by
  have key : ∀ k, k ≤ n → sumK (tbl n f) k = ((List.range k).map f).sum := by
    intro k
    induction k with
    | zero => intro _; rfl
    | succ k ih =>
      intro hk
      simp only [sumK]
      rw [ih (by omega), tbl_at (by omega), List.range_succ, List.map_append, List.sum_append]
      simp
  rw [key _ (by rw [tbl_len]; exact Nat.le_refl _), tbl_len]
theorem open_two {n : Int} {ps : List Pst} {t : Int} (h : befOK n ps t) (he : ¬ openE (balsL n ps t) = 0) : openE (balsL n ps t) = 2 ∨ openE (balsL n ps t) = 3 := by
  obtain ⟨h1, h2⟩ := bals_zero h
  have hn := h.1.num
  have hz : sumK (balsL n ps t) (balsL n ps t).length = 0 := by
    rw [h2, sumK_tbl]
    exact all_zero fun p hp => by
      have := (book_mem h.1 hp).1
      unfold accO at this
      omega
  unfold openE at he ⊢
  rw [if_neg (show ¬ ¬ sumK (balsL n ps t) (balsL n ps t).length = 0 from fun g => g hz)] at he ⊢
  split
  · exact .inl rfl
  · split
    · exact .inr rfl
    · split
      · exact .inl rfl
      · rename_i h3 h4 h5
        rw [if_neg h3, if_neg h4, if_neg h5] at he
        exact absurd rfl he
theorem pay_one {n : Int} {t : Int} {y : Pay} (hn : 1 ≤ n) (ht : 0 ≤ t ∧ t ≤ 1000000) (h : payOK n.toNat y) : oneE n (payPst t y) = if y.2.2 ≤ 1099511627776 then 0 else 3 := by
  unfold payOK at h
  have ha : accO n (payPst t y).1 ∧ accO n (payPst t y).2.1 ∧ ¬ (payPst t y).1 = (payPst t y).2.1 := by
    unfold accO payPst; dsimp only; omega
  unfold oneE
  rw [if_neg (fun g => g ha)]
  by_cases c : y.2.2 ≤ 1099511627776
  · rw [if_pos c, if_neg (fun g => g (by unfold rngO payPst; dsimp only; omega))]
  · rw [if_neg c, if_pos (fun g => by unfold rngO payPst at g; dsimp only at g; omega)]
theorem book_app {n : Int} {ps : List Pst} {p : Pst} (ok : BookOK n ps) (hl : ps.length < 10000) (ht : ∀ q ∈ ps, q.2.2.2.1 ≤ p.2.2.2.1) : bookE n (ps ++ [p]) = oneE n p := by
  have hn := ok.num
  have hlen : (ps ++ [p]).length = ps.length + 1 := by simp
  have hat : ∀ j, j < ps.length → (ps ++ [p]).getD j dP = ps.getD j dP := fun j hj => by
    rw [List.getD_eq_getElem?_getD, List.getElem?_append_left hj, ← List.getD_eq_getElem?_getD]
  have hlast : (ps ++ [p]).getD ps.length dP = p := by
    rw [List.getD_eq_getElem?_getD, List.getElem?_append_right (Nat.le_refl _)]; simp
  unfold bookE
  rw [if_neg (by omega), if_neg (by omega), hlen]
  simp only [chkK]
  have h0 : chkK n (ps ++ [p]) ps.length = 0 := (chk_zero _).2 fun j hj => by
    rw [hat j hj]
    exact ⟨one_zero.2 (ok.one j hj), fun h0 => by rw [hat (j - 1) (by omega)]; exact ok.asc j h0 hj⟩
  rw [if_neg (fun g => g h0), hlast]
  by_cases c : oneE n p = 0
  · rw [if_neg (fun g => g c), c, if_neg]
    rintro ⟨g1, g2⟩
    rw [hat _ (by omega)] at g2
    have := ht _ (at_in (show ps.length - 1 < ps.length by omega))
    omega
  · rw [if_pos c]
theorem qs_mem {ps : List Pst} {l : List Pay} {t : Int} {k : Nat} (h : ∀ q ∈ ps, q.2.2.2.1 ≤ t) : ∀ q ∈ qsK ps l t k, q.2.2.2.1 ≤ t := fun q hq => by
  unfold qsK at hq
  rcases List.mem_append.1 hq with hq | hq
  · exact h q hq
  · obtain ⟨y, _, rfl⟩ := List.mem_map.1 hq
    exact Int.le_refl _
theorem qs_len {ps : List Pst} {l : List Pay} {t : Int} {k : Nat} (h : k ≤ l.length) : (qsK ps l t k).length = ps.length + k := by
  unfold qsK; rw [List.length_append, List.length_map, List.length_take]; omega
theorem err_ok {n : Int} {ps : List Pst} {l : List Pay} {t : Int} (hb : befOK n ps t) (hps : ps.length ≤ 30) (hl : l.length ≤ 200) (hp : ∀ y ∈ l, payOK n.toNat y) : ∀ k, k ≤ l.length → (∀ j, j < k → (l.getD j dY).2.2 ≤ 1099511627776) → errK n ps l t k = 0 ∧ BookOK n (qsK ps l t k)
  | 0, _, _ => ⟨rfl, by simpa [qsK] using hb.1⟩
  | k + 1, hk, hm => by
    obtain ⟨ih1, ih2⟩ := err_ok hb hps hl hp k (by omega) fun j hj => hm j (by omega)
    have h1 := pay_one (t := t) hb.1.num.1 hb.2.1 (at_pays hp k (by omega))
    rw [if_pos (hm k (by omega))] at h1
    have h2 := book_app (p := payPst t (l.getD k dY)) ih2 (by rw [qs_len (by omega)]; omega) (qs_mem hb.2.2)
    rw [h1] at h2
    rw [qsK_step (by omega)]
    refine ⟨?_, book_zero.1 h2⟩
    simp only [errK]
    rw [if_neg (fun g => g ih1)]
    unfold postE
    rw [if_pos (book_zero.2 ih2), h2]
theorem err_bad {n : Int} {ps : List Pst} {l : List Pay} {t : Int} (hb : befOK n ps t) (hps : ps.length ≤ 30) (hl : l.length ≤ 200) (hp : ∀ y ∈ l, payOK n.toNat y) {k : Nat} (hk : k < l.length) (hm : ∀ j, j < k → (l.getD j dY).2.2 ≤ 1099511627776) (hx : ¬ (l.getD k dY).2.2 ≤ 1099511627776) : errK n ps l t l.length = 3 := by
  obtain ⟨ih1, ih2⟩ := err_ok hb hps hl hp k (by omega) hm
  have h1 := pay_one (t := t) hb.1.num.1 hb.2.1 (at_pays hp k hk)
  rw [if_neg hx] at h1
  have h2 := book_app (p := payPst t (l.getD k dY)) ih2 (by rw [qs_len (by omega)]; omega) (qs_mem hb.2.2)
  rw [h1] at h2
  have h3 : errK n ps l t (k + 1) = 3 := by
    simp only [errK]
    rw [if_neg (fun g => g ih1)]
    unfold postE
    rw [if_pos (book_zero.2 ih2), h2]
  rw [err_at hk (by rw [h3]; decide), h3]
/-- Behind clearing. -/
structure ClearAt (n : Int) (ps : List Pst) (t : Int) (cs : List Pst) : Prop where
  bef : befOK n cs t
  zero : ∀ i : Nat, i < n.toNat → sumQ cs (i : Int) = 0
  net : ∀ i : Nat, i < n.toNat → (totL cs (i : Int) t).getD 6 0 - (totL ps (i : Int) t).getD 6 0 = - sumQ ps (i : Int)
theorem tot6 {n : Int} {ps : List Pst} {i t : Int} (ok : BookOK n ps) : (totL ps i t).getD 6 0 = (ps.map fun p => if t ≤ p.2.2.2.1 ∧ p.2.2.2.2.1 = ((6 : Nat) : Int) then gotQ p i else 0).sum := by
  unfold totL
  rw [tbl_at (by omega), of_tot ok _ (Nat.le_refl _), List.take_length]
theorem clear_at {n : Int} {ps : List Pst} {t : Int} (hb : befOK n ps t) (hps : ps.length ≤ 30) (he : openE (balsL n ps t) = 0) (hm : ∀ j, j < (payM (balsL n ps t)).length → ((payM (balsL n ps t)).getD j dY).2.2 ≤ 1099511627776) :
    errK n ps (payM (balsL n ps t)) t (payM (balsL n ps t)).length = 0 ∧ ClearAt n ps t (qsK ps (payM (balsL n ps t)) t (payM (balsL n ps t)).length) := by
  obtain ⟨hs, _⟩ := pay_ok he
  obtain ⟨h1, h2, h3⟩ := sett_parts hs
  have hbl := (bals_zero hb).2
  have hlen : (balsL n ps t).length = n.toNat := by rw [hbl, tbl_len]
  rw [hlen] at h2 h3
  obtain ⟨e1, e2⟩ := err_ok hb hps h1 h2 _ (Nat.le_refl _) hm
  have hqs : qsK ps (payM (balsL n ps t)) t (payM (balsL n ps t)).length = ps ++ (payM (balsL n ps t)).map (payPst t) := by unfold qsK; rw [List.take_length]
  have hz : ∀ i : Nat, i < n.toNat → sumQ ((payM (balsL n ps t)).map (payPst t)) (i : Int) = - sumQ ps (i : Int) := fun i hi => by
    have := h3 i hi
    rw [hbl, tbl_at hi] at this
    rw [sumQ_pay, hbl]; omega
  refine ⟨e1, ⟨e2, hb.2.1, qs_mem hb.2.2⟩, fun i hi => ?_, fun i hi => ?_⟩
  · rw [hqs, sumQ_app, hz i hi]; omega
  · rw [tot6 e2, tot6 hb.1, hqs, List.map_append, List.sum_append, ← hz i hi]
    have : ∀ l : List Pay, ((l.map (payPst t)).map fun p => if t ≤ p.2.2.2.1 ∧ p.2.2.2.2.1 = ((6 : Nat) : Int) then gotQ p (i : Int) else 0).sum = sumQ (l.map (payPst t)) (i : Int) := by
      intro l
      induction l with
      | nil => rfl
      | cons y l ih =>
        unfold sumQ at ih ⊢
        simp only [List.map_cons, List.sum_cons, ih]
        rw [if_pos ⟨Int.le_refl _, rfl⟩]
    rw [this]; omega
/-- All ticks until the last one. -/
theorem tick_le {n : Int} {ps : List Pst} (ok : BookOK n ps) {t : Int} (h : (ps.getD (ps.length - 1) dP).2.2.2.1 ≤ t) : ∀ p ∈ ps, p.2.2.2.1 ≤ t := by
  have key : ∀ m j, j + m < ps.length → (ps.getD j dP).2.2.2.1 ≤ (ps.getD (j + m) dP).2.2.2.1 := by
    intro m
    induction m with
    | zero => intro j _; exact Int.le_refl _
    | succ m ih =>
      intro j hj
      have h1 := ih j (by omega)
      have h2 := ok.asc (j + (m + 1)) (by omega) hj
      rw [show j + (m + 1) - 1 = j + m by omega] at h2
      omega
  intro p hp
  obtain ⟨k, hk, rfl⟩ := List.getElem_of_mem hp
  have := key (ps.length - 1 - k) k (by omega)
  rw [show k + (ps.length - 1 - k) = ps.length - 1 by omega] at this
  rw [List.getD_eq_getElem?_getD, List.getElem?_eq_getElem hk, Option.getD_some] at this
  omega
end Sim
