/- What functions of this seat compute, by values: contracts (lemmas of the statement's proof, under the conditions that each names). -/
import Derived.Test.YtoojbjfofokfjaaQY
namespace Sim
open Go Go.Proofs
set_option linter.unusedVariables false
set_option linter.unusedSimpArgs false
/-! Sums over lists. -/
def sumG (g : Snd → Int) : List Snd → Int
  | [] => 0
  | x :: l => g x + sumG g l
theorem Sm_shift {f : Nat → Int} : ∀ n, Sm f (n + 1) = f 0 + Sm (fun i => f (i + 1)) n
  | 0 => by simp [Sm]
  | n + 1 => by
    have := Sm_shift (f := f) n
    simp only [Sm] at this ⊢; omega
theorem Sm_list {g : Snd → Int} : ∀ l : List Snd, Sm (fun i => g (l.getD i dS)) l.length = sumG g l
  | [] => rfl
  | x :: l => by
    rw [List.length_cons, Sm_shift, sumG, ← Sm_list l]; rfl
theorem sumG_put {g : Snd → Int} (hg : ∀ a b u v, g (a, b, u + v) = g (a, b, u) + g (a, b, v)) {x : Snd} : ∀ l : List Snd, sumG g (putM l x) = sumG g l + g x
  | [] => by simp [putM, sumG]
  | y :: l => by
    have ih := sumG_put hg (x := x) l
    unfold putM
    split
    · rename_i h
      simp only [sumG]
      have e1 : g (y.1, y.2.1, y.2.2 + x.2.2) = g y + g x := by
        rw [hg]
        have e : (y.1, y.2.1, x.2.2) = x := Prod.ext h.2 (Prod.ext h.1 rfl)
        rw [e]
      omega
    · split
      · simp only [sumG]; omega
      · simp only [sumG, ih]; omega
theorem sumG_fold {g : Snd → Int} (hg : ∀ a b u v, g (a, b, u + v) = g (a, b, u) + g (a, b, v)) : ∀ (l acc : List Snd), sumG g (l.foldl putM acc) = sumG g acc + sumG g l
  | [], acc => by simp [sumG]
  | x :: l, acc => by
    rw [List.foldl_cons, sumG_fold hg l, sumG_put hg, sumG]; omega
/-- The bytes over a link in a tick. -/
def atK (f t : Int) (x : Snd) : Int := if x.1 = f ∧ x.2.1 = t then x.2.2 else 0
theorem atK_add (f t : Int) : ∀ a b u v, atK f t (a, b, u + v) = atK f t (a, b, u) + atK f t (a, b, v) := fun a b u v => by
  unfold atK; dsimp only; split <;> omega
theorem atK_none {f t : Int} : ∀ {l : List Snd}, (∀ y ∈ l, ¬ (y.1 = f ∧ y.2.1 = t)) → sumG (atK f t) l = 0
  | [], _ => rfl
  | x :: l, h => by
    simp only [sumG]
    rw [atK_none fun y hy => h y (by simp [hy])]
    unfold atK
    rw [if_neg (h x (by simp))]
    rfl
theorem asc_atK : ∀ {l : List Snd}, Asc l → ∀ s ∈ l, sumG (atK s.1 s.2.1) l = s.2.2
  | [], _, s, h => by simp at h
  | x :: l, ha, s, h => by
    unfold Asc at ha
    rw [List.pairwise_cons] at ha
    simp only [sumG]
    rcases List.mem_cons.1 h with rfl | h
    · rw [atK_none fun y hy e => by
        have := ha.1 y hy
        unfold befS at this; omega]
      unfold atK
      rw [if_pos ⟨rfl, rfl⟩]; omega
    · rw [asc_atK ha.2 s h]
      have := ha.1 s h
      unfold atK
      rw [if_neg (by unfold befS at this; omega)]; omega
theorem atK_some {f t : Int} : ∀ {l : List Snd}, sumG (atK f t) l ≠ 0 → ∃ s ∈ l, s.1 = f ∧ s.2.1 = t
  | [], h => absurd rfl h
  | x :: l, h => by
    by_cases e : x.1 = f ∧ x.2.1 = t
    · exact ⟨x, by simp, e⟩
    · simp only [sumG] at h
      have h1 : atK f t x = 0 := by unfold atK; rw [if_neg e]
      rw [h1, Int.zero_add] at h
      obtain ⟨s, hs, g⟩ := atK_some h
      exact ⟨s, by simp [hs], g⟩
theorem atK_nonneg {f t : Int} : ∀ {l : List Snd}, (∀ x ∈ l, 0 ≤ x.2.2) → 0 ≤ sumG (atK f t) l
  | [], _ => Int.le_refl _
  | x :: l, h => by
    have ih := atK_nonneg (f := f) (t := t) (l := l) fun y hy => h y (by simp [hy])
    have := h x (by simp)
    simp only [sumG]
    have : 0 ≤ atK f t x := by unfold atK; split <;> omega
    omega
theorem atK_le : ∀ {l : List Snd}, (∀ x ∈ l, 0 ≤ x.2.2) → ∀ s ∈ l, s.2.2 ≤ sumG (atK s.1 s.2.1) l
  | [], _, s, h => by simp at h
  | x :: l, hp, s, h => by
    have h0 := atK_nonneg (f := s.1) (t := s.2.1) (l := l) fun y hy => hp y (by simp [hy])
    have hx := hp x (by simp)
    simp only [sumG]
    rcases List.mem_cons.1 h with rfl | h
    · have : atK s.1 s.2.1 s = s.2.2 := by unfold atK; rw [if_pos ⟨rfl, rfl⟩]
      omega
    · have := atK_le (fun y hy => hp y (by simp [hy])) s h
      have : 0 ≤ atK s.1 s.2.1 x := by unfold atK; split <;> omega
      omega
theorem asc_sub {l m : List Snd} (hl : Asc l) (hm : Asc m) (pl : ∀ x ∈ l, 0 < x.2.2) (h : ∀ f t, sumG (atK f t) l = sumG (atK f t) m) : ∀ s ∈ l, s ∈ m := fun s hs => by
  have h1 := asc_atK hl s hs
  rw [h] at h1
  obtain ⟨s', hs', e⟩ := atK_some (l := m) (f := s.1) (t := s.2.1) (by have := pl s hs; omega)
  have h2 := asc_atK hm s' hs'
  rw [e.1, e.2, h1] at h2
  have : s = s' := Prod.ext e.1.symm (Prod.ext e.2.symm h2)
  rw [this]; exact hs'
theorem asc_nodup {l : List Snd} (h : Asc l) : l.Nodup := h.imp fun h e => by subst e; unfold befS at h; omega
theorem asc_ext {l m : List Snd} (hl : Asc l) (hm : Asc m) (pl : ∀ x ∈ l, 0 < x.2.2) (pm : ∀ x ∈ m, 0 < x.2.2) (h : ∀ f t, sumG (atK f t) l = sumG (atK f t) m) : l = m := by
  have hp : l.Perm m := (List.perm_ext_iff_of_nodup (asc_nodup hl) (asc_nodup hm)).2 fun s => ⟨asc_sub hl hm pl h s, asc_sub hm hl pm (fun f t => (h f t).symm) s⟩
  exact List.Perm.eq_of_pairwise (le := befS) (fun a b _ _ h1 h2 => by unfold befS at h1 h2; omega) hl hm hp
/-- What holds for all sends' keys holds for those of the schedule. -/
theorem putM_all {Q : Int → Int → Prop} {x : Snd} (hx : Q x.1 x.2.1) {l : List Snd} (h : ∀ y ∈ l, Q y.1 y.2.1) : ∀ y ∈ putM l x, Q y.1 y.2.1 := fun y hy => by
  rcases putM_mem hy with e | ⟨w, hw, e⟩
  · rw [e.1, e.2]; exact hx
  · rw [e.1, e.2]; exact h w hw
theorem fold_all {Q : Int → Int → Prop} : ∀ {l acc : List Snd}, (∀ x ∈ l, Q x.1 x.2.1) → (∀ y ∈ acc, Q y.1 y.2.1) → ∀ y ∈ l.foldl putM acc, Q y.1 y.2.1
  | [], acc, _, h => h
  | x :: l, acc, hx, h => fold_all (l := l) (acc := putM acc x) (fun z hz => hx z (by simp [hz])) (putM_all (hx x (by simp)) h)
theorem putM_pos {x : Snd} (hx : 0 < x.2.2) : ∀ {l : List Snd}, (∀ y ∈ l, 0 < y.2.2) → ∀ y ∈ putM l x, 0 < y.2.2
  | [], _, y, hy => by simp [putM] at hy; subst hy; exact hx
  | z :: l, h, y, hy => by
    have hz := h z (by simp)
    unfold putM at hy
    split at hy
    · rcases List.mem_cons.1 hy with rfl | hy
      · dsimp only; omega
      · exact h y (by simp [hy])
    · split at hy
      · rcases List.mem_cons.1 hy with rfl | hy
        · exact hx
        · exact h y hy
      · rcases List.mem_cons.1 hy with rfl | hy
        · exact hz
        · exact putM_pos hx (fun w hw => h w (by simp [hw])) y hy
theorem fold_pos : ∀ {l acc : List Snd}, (∀ x ∈ l, 0 < x.2.2) → (∀ y ∈ acc, 0 < y.2.2) → ∀ y ∈ l.foldl putM acc, 0 < y.2.2
  | [], acc, _, h => h
  | x :: l, acc, hx, h => fold_pos (l := l) (acc := putM acc x) (fun z hz => hx z (by simp [hz])) (putM_pos (hx x (by simp)) h)
theorem fold_asc : ∀ {l acc : List Snd}, Asc acc → Asc (l.foldl putM acc)
  | [], acc, h => h
  | x :: l, acc, h => fold_asc (l := l) (acc := putM acc x) (putM_asc h)
/-! Two schedules joined. -/
theorem outM_two (a b : List Snd) : outM [a, b] = b.foldl putM (a.foldl putM []) := rfl
theorem rsT_two {hn : Int} {ls : List Lnk} {a b : List Snd} (ha : OKr hn ls a) (hb : OKr hn ls b) : rsT hn ls [a, b] 2 = 0 := by
  rw [rsT_zero]
  intro i hi
  match i, hi with
  | 0, _ => exact ha
  | 1, _ => exact hb
structure Joint (hn : Int) (ls : List Lnk) (a b o : List Snd) : Prop where
  asc : Asc o
  pos : ∀ x ∈ o, 0 < x.2.2
  bytes : ∀ f t, sumG (atK f t) o = sumG (atK f t) a + sumG (atK f t) b
  lin : ∀ g : Snd → Int, (∀ a b u v, g (a, b, u + v) = g (a, b, u) + g (a, b, v)) → sumG g o = sumG g a + sumG g b
  keys : ∀ x ∈ o, (0 ≤ x.1 ∧ x.1 < (ls.length : Int)) ∧ (0 ≤ x.2.1 ∧ x.2.1 < 1000000)
  len : o.length ≤ a.length + b.length
theorem bytes_pos {hn : Int} {ls : List Lnk} {l : List Snd} (ok : OKr hn ls l) : ∀ x ∈ l, 0 < x.2.2 := fun x hx => by
  obtain ⟨k, hk, rfl⟩ := at_mem (d := dS) hx
  have := ok.bytes k hk; omega
theorem keys_ok {hn : Int} {ls : List Lnk} {l : List Snd} (ok : OKr hn ls l) : ∀ x ∈ l, (0 ≤ x.1 ∧ x.1 < (ls.length : Int)) ∧ (0 ≤ x.2.1 ∧ x.2.1 < 1000000) := fun x hx => by
  obtain ⟨k, hk, rfl⟩ := at_mem (d := dS) hx
  exact ⟨ok.link k hk, ok.tick k hk⟩
theorem joint {hn : Int} {ls : List Lnk} {a b : List Snd} (ha : OKr hn ls a) (hb : OKr hn ls b) : Joint hn ls a b (outM [a, b]) := by
  rw [outM_two]
  refine ⟨fold_asc (fold_asc List.Pairwise.nil), fold_pos (bytes_pos hb) (fold_pos (bytes_pos ha) (by simp)), fun f t => ?_, fun g hg => ?_, ?_, ?_⟩
  · rw [sumG_fold (atK_add f t), sumG_fold (atK_add f t), sumG]; omega
  · rw [sumG_fold hg, sumG_fold hg, sumG]; omega
  · exact fold_all (Q := fun f t => (0 ≤ f ∧ f < (ls.length : Int)) ∧ (0 ≤ t ∧ t < 1000000)) (keys_ok hb) (fold_all (Q := fun f t => (0 ≤ f ∧ f < (ls.length : Int)) ∧ (0 ≤ t ∧ t < 1000000)) (keys_ok ha) (by simp))
  · have h1 : Bnd ([] : List Snd) 0 := ⟨by simp, by simp⟩
    have h2 := foldl_bnd (l := a) (fun x hx => ha.bytes' x hx) h1
    have h3 := foldl_bnd (l := b) (fun x hx => hb.bytes' x hx) h2
    have := h3.1
    omega
theorem join_comm {hn : Int} {ls : List Lnk} {a b : List Snd} (ha : OKr hn ls a) (hb : OKr hn ls b) : outM [a, b] = outM [b, a] := by
  have h1 := joint ha hb
  have h2 := joint hb ha
  exact asc_ext h1.asc h2.asc h1.pos h2.pos fun f t => by rw [h1.bytes, h2.bytes]; omega
theorem joinE_two {hn : Int} {ls : List Lnk} {a b : List Snd} (ha : OKr hn ls a) (hb : OKr hn ls b) (la : a.length ≤ 60) (lb : b.length ≤ 60) : joinE hn ls [a, b] = if bigT (outM [a, b]) (outM [a, b]).length = true then 3 else 0 := by
  have h1 := (joint ha hb).len
  unfold joinE
  rw [if_neg (fun h => h (check_zero.2 ha.net)), if_neg (fun h => h (rsT_two ha hb)), if_neg (by omega)]
/-- The schedule is right. -/
theorem joint_ok {hn : Int} {ls : List Lnk} {a b : List Snd} (ha : OKr hn ls a) (hb : OKr hn ls b) (la : a.length ≤ 60) (lb : b.length ≤ 60) (h : bigT (outM [a, b]) (outM [a, b]).length = false) : OKr hn ls (outM [a, b]) := by
  have j := joint ha hb
  generalize outM [a, b] = o at *
  have hl := j.len
  refine ⟨ha.net, by omega, fun k hk => (j.keys _ (getD_mem dS hk)).1, fun k hk => (j.keys _ (getD_mem dS hk)).2, fun k hk => ⟨?_, bigT_false.1 h k hk⟩, fun k h0 hk => ?_⟩
  · have := j.pos _ (getD_mem dS hk); omega
  · have := List.pairwise_iff_getElem.1 j.asc (k - 1) k (by omega) hk (by omega)
    unfold befS at this
    simpa [hk, show k - 1 < o.length by omega] using this
theorem sent_sum (l : List Snd) (f t : Int) : sentT l f t l.length = sumG (atK f t) l := by
  have : ∀ n, sentT l f t n = Sm (fun i => atK f t (l.getD i dS)) n := fun n => by
    induction n with
    | zero => rfl
    | succ n ih => simp only [sentT, Sm, ih]; rfl
  rw [this, Sm_list]
def costG (ls : List Lnk) (x : Snd) : Int := x.2.2 * priM ls x.1 x.2.1
theorem costG_add (ls : List Lnk) : ∀ a b u v, costG ls (a, b, u + v) = costG ls (a, b, u) + costG ls (a, b, v) := fun a b u v => by
  unfold costG; dsimp only; rw [Int.add_mul]
theorem cost_sum (ls : List Lnk) (l : List Snd) : costT ls l l.length = sumG (costG ls) l := by
  have : ∀ n, costT ls l n = Sm (fun i => costG ls (l.getD i dS)) n := fun n => by
    induction n with
    | zero => rfl
    | succ n ih => simp only [costT, Sm, ih]; rfl
  rw [this, Sm_list]
theorem fit_zero {hn : Int} {ls : List Lnk} {l : List Snd} (ok : OKr hn ls l) : fitM hn ls l = 0 ↔ ∀ x ∈ l, x.2.2 ≤ capM ls x.1 x.2.1 := by
  have key : ∀ n, ftT ls l n = true ↔ ∃ k, k < n ∧ capM ls (l.getD k dS).1 (l.getD k dS).2.1 < (l.getD k dS).2.2 := fun n => by
    induction n with
    | zero => simp [ftT]
    | succ n ih =>
      simp only [ftT, Bool.or_eq_true, decide_eq_true_eq, ih]
      constructor
      · rintro (⟨k, h, g⟩ | h)
        · exact ⟨k, by omega, g⟩
        · exact ⟨n, by omega, h⟩
      · rintro ⟨k, h, g⟩
        by_cases e : k = n
        · subst e; exact .inr g
        · exact .inl ⟨k, by omega, g⟩
  unfold fitM
  rw [if_neg (fun h => h (right_zero.2 ok))]
  constructor
  · intro h x hx
    obtain ⟨k, hk, rfl⟩ := at_mem (d := dS) hx
    apply Classical.byContradiction
    intro hc
    rw [if_pos ((key _).2 ⟨k, hk, by omega⟩)] at h
    cases h
  · intro h
    rw [if_neg]
    intro hc
    obtain ⟨k, hk, g⟩ := (key _).1 hc
    have := h _ (getD_mem dS hk)
    omega
theorem fit_part {hn : Int} {ls : List Lnk} {a b : List Snd} (ha : OKr hn ls a) (hb : OKr hn ls b) (ho : OKr hn ls (outM [a, b])) (h : fitM hn ls (outM [a, b]) = 0) : fitM hn ls a = 0 ∧ fitM hn ls b = 0 := by
  have j := joint ha hb
  rw [fit_zero ho] at h
  have key : ∀ c d : List Snd, (∀ f t, sumG (atK f t) (outM [a, b]) = sumG (atK f t) c + sumG (atK f t) d) → OKr hn ls c → OKr hn ls d → ∀ x ∈ c, x.2.2 ≤ capM ls x.1 x.2.1 := fun c d hs hc hd x hx => by
    have h1 := atK_le (fun y hy => Int.le_of_lt (bytes_pos hc y hy)) x hx
    have h2 := atK_nonneg (f := x.1) (t := x.2.1) (l := d) fun y hy => Int.le_of_lt (bytes_pos hd y hy)
    have h3 := hs x.1 x.2.1
    have hp := bytes_pos hc x hx
    obtain ⟨s, hs1, e1, e2⟩ := atK_some (l := outM [a, b]) (f := x.1) (t := x.2.1) (by omega)
    have h4 := asc_atK j.asc s hs1
    have h5 := h s hs1
    rw [e1, e2] at h4 h5
    omega
  exact ⟨(fit_zero ha).2 (key a b j.bytes ha hb), (fit_zero hb).2 (key b a (fun f t => by rw [j.bytes]; omega) hb ha)⟩
end Sim
