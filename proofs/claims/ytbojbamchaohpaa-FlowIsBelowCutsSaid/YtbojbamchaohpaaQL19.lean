/- What functions of this seat compute, by values: contracts (lemmas of the statement's proof, under the conditions that each names). -/
import Derived.Test.YtbojbamchaohpaaQZ2
namespace Sim
open Go Go.Proofs
set_option maxRecDepth 10000
set_option maxHeartbeats 4000000
set_option linter.unusedVariables false
set_option linter.unusedSimpArgs false
attribute [local congr] opsIf_congr condC_congr guardC_congr grd_congr pick3_congr obind_congr omap_congr
theorem sumN_pickP {P : Nat → Prop} [DecidablePred P] {a : Nat} {v : Int} : ∀ {n}, sumN (fun x => if P x then (if a = x then v else 0) else 0) n = if a < n ∧ P a then v else 0
 | 0 => by simp [sumN]
 | n + 1 => by
  rw [sumN, sumN_pickP]
  by_cases c : a = n
  ·subst c
   rw [if_neg (fun g => by omega), if_pos rfl]
   by_cases p : P a
   ·rw [if_pos p, if_pos ⟨by omega, p⟩]; omega
   ·rw [if_neg p, if_neg (fun g => p g.2)]; rfl
  ·have e : (if P n then (if a = n then v else 0) else 0) = 0 := by rw [if_neg c]; split <;> rfl
   rw [e, Int.add_zero]
   by_cases c2 : a < n ∧ P a
   ·rw [if_pos c2, if_pos ⟨by omega, c2.2⟩]
   ·rw [if_neg c2, if_neg (fun g => c2 ⟨by omega, g.2⟩)]
def cutG (T : TN) (D : Nat) (S : Nat → Nat → Prop) [∀ t x, Decidable (S t x)] (f : Nat → Nat → Int) : Int := sumN (fun t => sumN (fun k => if S t (T.fr k) ∧ ¬ S (t + 1) (T.to k) then f k t else 0) T.L) D
theorem plan_cut {T : TN} {D a c : Nat} {b : Int} {g : Nat → Nat → Int} (ok : T.OK D) (P : T.Plan D a c b g) (ha : a < T.h) (S : Nat → Nat → Prop) [∀ t x, Decidable (S t x)] (h0 : S 0 a) (hD : ∀ x, x < T.h → S D x → x ≠ c) (hm : ∀ t x, S t x → S (t + 1) x) (hb : 0 ≤ b) : b ≤ cutG T D S T.lf := by
 have key : ∀ t, t ≤ D → b ≤ sumN (fun x => if S t x then T.stk a b g t x else 0) T.h + cutG T t S g := by
  intro t ht
  induction t with
  | zero =>
   have := sumN_at (f := fun x => if S 0 x then T.stk a b g 0 x else 0) (n := T.h) (fun i hi => by rw [TN.stk]; split <;> (try split) <;> omega) ha
   rw [if_pos h0, TN.stk, if_pos rfl] at this
   have e : cutG T 0 S g = 0 := rfl
   omega
  | succ t ih =>
   have ih := ih (by omega)
   have e1 : cutG T (t + 1) S g = cutG T t S g + sumN (fun k => if S t (T.fr k) ∧ ¬ S (t + 1) (T.to k) then g k t else 0) T.L := rfl
   have e2 : sumN (fun x => if S (t + 1) x then T.stk a b g (t + 1) x else 0) T.h = sumN (fun x => if S (t + 1) x then T.stk a b g t x - T.outF g x t else 0) T.h + sumN (fun x => if S (t + 1) x then T.inF g x t else 0) T.h := by
    rw [← sumN_add]
    exact sumN_congr fun x _ => by
     rw [TN.stk]
     split <;> omega
   have e3 : sumN (fun x => if S t x then T.stk a b g t x else 0) T.h = sumN (fun x => if S t x then T.stk a b g t x - T.outF g x t else 0) T.h + sumN (fun x => if S t x then T.outF g x t else 0) T.h := by
    rw [← sumN_add]
    exact sumN_congr fun x _ => by
     split <;> omega
   have e4 : sumN (fun x => if S t x then T.stk a b g t x - T.outF g x t else 0) T.h ≤ sumN (fun x => if S (t + 1) x then T.stk a b g t x - T.outF g x t else 0) T.h := sumN_le fun x hx => by
    have := P.st t x (by omega) hx
    by_cases c : S t x
    ·rw [if_pos c, if_pos (hm t x c)]; exact Int.le_refl _
    ·rw [if_neg c]; split <;> omega
   have e5 : sumN (fun x => if S t x then T.outF g x t else 0) T.h = sumN (fun k => if S t (T.fr k) then g k t else 0) T.L := by
    have : (fun x => if S t x then T.outF g x t else 0) = fun x => sumN (fun k => if S t x then (if T.fr k = x then g k t else 0) else 0) T.L := by
     funext x
     by_cases c : S t x
     ·simp only [if_pos c]; rfl
     ·simp only [if_neg c]; exact (sumN_zero fun _ _ => rfl).symm
    rw [this, sumN_swap]
    refine sumN_congr fun k hk => ?_
    rw [sumN_pickP (P := fun x => S t x)]
    have := (ok.e k hk).1
    by_cases c : S t (T.fr k)
    ·rw [if_pos ⟨this, c⟩, if_pos c]
    ·rw [if_neg (fun g => c g.2), if_neg c]
   have e6 : sumN (fun x => if S (t + 1) x then T.inF g x t else 0) T.h = sumN (fun k => if S (t + 1) (T.to k) then g k t else 0) T.L := by
    have : (fun x => if S (t + 1) x then T.inF g x t else 0) = fun x => sumN (fun k => if S (t + 1) x then (if T.to k = x then g k t else 0) else 0) T.L := by
     funext x
     by_cases c : S (t + 1) x
     ·simp only [if_pos c]; rfl
     ·simp only [if_neg c]; exact (sumN_zero fun _ _ => rfl).symm
    rw [this, sumN_swap]
    refine sumN_congr fun k hk => ?_
    rw [sumN_pickP (P := fun x => S (t + 1) x)]
    have := (ok.e k hk).2
    by_cases c : S (t + 1) (T.to k)
    ·rw [if_pos ⟨this, c⟩, if_pos c]
    ·rw [if_neg (fun g => c g.2), if_neg c]
   have e7 : sumN (fun k => if S t (T.fr k) then g k t else 0) T.L ≤ sumN (fun k => if S (t + 1) (T.to k) then g k t else 0) T.L + sumN (fun k => if S t (T.fr k) ∧ ¬ S (t + 1) (T.to k) then g k t else 0) T.L := by
    rw [← sumN_add]
    refine sumN_le fun k hk => ?_
    have nn := P.nn k t hk (by omega)
    by_cases c1 : S t (T.fr k)
    ·by_cases c2 : S (t + 1) (T.to k)
     ·rw [if_pos c1, if_pos c2, if_neg (fun g => g.2 c2)]; omega
     ·rw [if_pos c1, if_neg c2, if_pos ⟨c1, c2⟩]; omega
    ·have c3 : ¬ (S t (T.fr k) ∧ ¬ S (t + 1) (T.to k)) := fun g => c1 g.1
     rw [if_neg c1, if_neg c3]; split <;> omega
   omega
 have h1 := key D (Nat.le_refl _)
 rw [sumN_zero fun x hx => by
  by_cases c : S D x
  ·rw [if_pos c, P.en x hx, if_neg (fun e => hD x hx c e.symm)]
  ·rw [if_neg c]] at h1
 have h2 : cutG T D S g ≤ cutG T D S T.lf := sumN_le fun t ht => sumN_le fun k hk => by
  split
  ·exact P.le k t hk ht
  ·exact Int.le_refl _
 omega
def begF (d : Dem) (tk : List Int) (x : Nat) : Int := d.2.2.2.1 + (tk.getD x 0) % ((durM d + 2 : Nat) : Int)
def begX (d : Dem) (tk : List Int) (x : Nat) : Int := if x = d.2.1.toNat then d.2.2.2.2 + 1 else if x = d.1.toNat then d.2.2.2.1 else begF d tk x
def begK (d : Dem) (tk : List Int) (h k : Nat) : List PV := (List.range h).map fun x => if x < k then I (begF d tk x) else I 0
def begL (d : Dem) (tk : List Int) (h : Nat) : List PV := (List.range h).map fun x => I (begX d tk x)
theorem begK_0 {d : Dem} {tk : List Int} {h : Nat} : begK d tk h 0 = List.replicate h (I 0) := by
 refine List.ext_getElem (by simp [begK]) fun i h1 h2 => ?_
 simp [begK]
theorem begK_len {d : Dem} {tk : List Int} {h k : Nat} : (begK d tk h k).length = h := by simp [begK]
theorem begL_len {d : Dem} {tk : List Int} {h : Nat} : (begL d tk h).length = h := by simp [begL]
theorem begK_nth {d : Dem} {tk : List Int} {h k x : Nat} (hx : x < h) : nth (begK d tk h k) x = if x < k then I (begF d tk x) else I 0 := by simp [begK, nth, hx]
theorem begL_nth {d : Dem} {tk : List Int} {h x : Nat} (hx : x < h) : nth (begL d tk h) x = I (begX d tk x) := by simp [begL, nth, hx]
theorem begK_set {d : Dem} {tk : List Int} {h k : Nat} (hk : k < h) : (begK d tk h k).set k (I (begF d tk k)) = begK d tk h (k + 1) := by
 refine List.ext_getElem (by simp [begK]) fun i h1 h2 => ?_
 rw [List.getElem_set]
 by_cases c : k = i
 ·subst c; simp [begK]
 ·rw [if_neg c]
  by_cases c2 : i < k
  ·simp [begK, c2, show i < k + 1 by omega]
  ·simp [begK, c2, show ¬ i < k + 1 by omega]
theorem begL_set {d : Dem} {tk : List Int} {h : Nat} : ((begK d tk h h).set d.1.toNat (I d.2.2.2.1)).set d.2.1.toNat (I (d.2.2.2.2 + 1)) = begL d tk h := by
 refine List.ext_getElem (by simp [begK, begL]) fun i h1 h2 => ?_
 have hi : i < h := by simpa [begL] using h2
 rw [List.getElem_set, List.getElem_set]
 simp only [begK, begL, begX, List.getElem_map, List.getElem_range, hi, if_true]
 have q1 : (d.2.1.toNat = i) = (i = d.2.1.toNat) := propext ⟨fun g => g.symm, fun g => g.symm⟩
 have q2 : (d.1.toNat = i) = (i = d.1.toNat) := propext ⟨fun g => g.symm, fun g => g.symm⟩
 simp only [q1, q2]
 split
 ·rfl
 ·split <;> rfl
def crossM (ls : List Lnk) (d : Dem) (tk : List Int) (k t : Nat) : Prop := begX d tk (ls.getD k dL).1.toNat ≤ d.2.2.2.1 + (t : Int) ∧ d.2.2.2.1 + (t : Int) + 1 < begX d tk (ls.getD k dL).2.1.toNat
instance {ls : List Lnk} {d : Dem} {tk : List Int} {k t : Nat} : Decidable (crossM ls d tk k t) := inferInstanceAs (Decidable (_ ∧ _))
def lfM (ls : List Lnk) (us : List Snd) (d : Dem) (k t : Nat) : Int := capM ls (k : Int) (d.2.2.2.1 + (t : Int)) - sentT us (k : Int) (d.2.2.2.1 + (t : Int)) us.length
def rowM (ls : List Lnk) (us : List Snd) (d : Dem) (tk : List Int) (t : Nat) : Nat → Int := sumN fun k => if crossM ls d tk k t then lfM ls us d k t else 0
def cutM (ls : List Lnk) (us : List Snd) (d : Dem) (tk : List Int) : Nat → Int := sumN fun t => rowM ls us d tk t ls.length
theorem begX_hi {d : Dem} {tk : List Int} (hd : d.2.2.2.1 ≤ d.2.2.2.2) (hdu : d.2.2.2.2 = d.2.2.2.1 + (durM d : Nat)) (x : Nat) : d.2.2.2.1 ≤ begX d tk x ∧ begX d tk x ≤ d.2.2.2.2 + 1 := by
 unfold begX begF
 have h1 := Int.emod_nonneg (tk.getD x 0) (b := ((durM d + 2 : Nat) : Int)) (by omega)
 have h2 := Int.emod_lt_of_pos (tk.getD x 0) (b := ((durM d + 2 : Nat) : Int)) (by omega)
 repeat' split
 all_goals omega
theorem most_cut {hn : Int} {ls : List Lnk} {us : List Snd} {d : Dem} {tk : List Int} (hc : fckM hn ls us d = 0) (hne : d.1 ≠ d.2.1) : mostM hn ls us d ≤ cutM ls us d tk (durM d) := by
 obtain ⟨P, e⟩ := most_ok hc
 obtain ⟨hf, hd, hD, hdu⟩ := fck_ok hc
 obtain ⟨⟨a0, a1⟩, ⟨c0, c1⟩, hr⟩ := dem_ok hd
 rw [e]
 have ok := netT_ok (r := d.2.2.2.1) (D := durM d) hf
 have h := plan_cut ok P.plan (show d.1.toNat < hn.toNat by omega) (fun t x => begX d tk x ≤ d.2.2.2.1 + (t : Int)) (by
  show begX d tk d.1.toNat ≤ d.2.2.2.1 + ((0 : Nat) : Int)
  unfold begX
  rw [if_neg (by omega), if_pos rfl]; omega) (fun x hx hs g => by
  subst g
  have hs : begX d tk d.2.1.toNat ≤ d.2.2.2.1 + (durM d : Nat) := hs
  unfold begX at hs
  rw [if_pos rfl] at hs
  omega) (fun t x hs => by
  have hs : begX d tk x ≤ d.2.2.2.1 + (t : Int) := hs
  show begX d tk x ≤ d.2.2.2.1 + ((t + 1 : Nat) : Int)
  omega) P.n0
 refine Int.le_trans h (Int.le_of_eq ?_)
 refine sumN_congr fun t _ => sumN_congr fun k _ => ?_
 have e2 : (begX d tk ((netD hn ls us d).fr k) ≤ d.2.2.2.1 + (t : Int) ∧ ¬ begX d tk ((netD hn ls us d).to k) ≤ d.2.2.2.1 + ((t + 1 : Nat) : Int)) ↔ crossM ls d tk k t := by
  show (begX d tk (ls.getD k dL).1.toNat ≤ d.2.2.2.1 + (t : Int) ∧ ¬ begX d tk (ls.getD k dL).2.1.toNat ≤ d.2.2.2.1 + ((t + 1 : Nat) : Int)) ↔ _
  unfold crossM
  constructor
  ·rintro ⟨x, y⟩; exact ⟨x, by omega⟩
  ·rintro ⟨x, y⟩; exact ⟨x, by omega⟩
 by_cases c : crossM ls d tk k t
 ·rw [if_pos (e2.2 c), if_pos c]; rfl
 ·rw [if_neg (fun g => c (e2.1 g)), if_neg c]
theorem lfM_bnd {hn : Int} {ls : List Lnk} {us : List Snd} {d : Dem} (hf : fitM hn ls us = 0) {k t : Nat} (hk : k < ls.length) : 0 ≤ lfM ls us d k t ∧ lfM ls us d k t ≤ 1073741824 := by
 have h1 := fit_sent hf (k := (k : Int)) (t := d.2.2.2.1 + (t : Int)) ⟨by omega, by omega⟩
 have h2 := capM_le (fit_ok hf).1.net (link := (k : Int)) (tick := d.2.2.2.1 + (t : Int)) (by omega) (by omega)
 unfold lfM
 omega
theorem sum_bnd {f : Nat → Int} {B : Int} (hB : 0 ≤ B) : ∀ {n : Nat}, (∀ i, i < n → 0 ≤ f i ∧ f i ≤ B) → 0 ≤ sumN f n ∧ sumN f n ≤ (n : Int) * B
 | 0, _ => by simp [sumN]
 | n + 1, h => by
  have ih := sum_bnd (f := f) hB (n := n) fun i hi => h i (by omega)
  have := h n (by omega)
  rw [sumN, Int.natCast_add, Int.add_mul]; omega
theorem row_bnd {hn : Int} {ls : List Lnk} {us : List Snd} {d : Dem} {tk : List Int} (hf : fitM hn ls us = 0) {t n : Nat} (hn' : n ≤ ls.length) (hl : ls.length ≤ 20) : 0 ≤ rowM ls us d tk t n ∧ rowM ls us d tk t n ≤ 21474836480 := by
 have := sum_bnd (f := fun k => if crossM ls d tk k t then lfM ls us d k t else 0) (B := 1073741824) (by decide) (n := n) fun i hi => by
  have := lfM_bnd (d := d) hf (k := i) (t := t) (by omega)
  split <;> omega
 unfold rowM
 omega
theorem cut_bnd {hn : Int} {ls : List Lnk} {us : List Snd} {d : Dem} {tk : List Int} (hf : fitM hn ls us = 0) {n : Nat} (hn' : n ≤ 100) (hl : ls.length ≤ 20) : 0 ≤ cutM ls us d tk n ∧ cutM ls us d tk n ≤ 2147483648000 := by
 have := sum_bnd (f := fun t => rowM ls us d tk t ls.length) (B := 21474836480) (by decide) (n := n) fun i hi => row_bnd hf (Nat.le_refl _) hl
 unfold cutM
 omega
theorem nth_u8 {l : List Int} {k : Nat} (h : k < l.length) : nth (l.map (PV.int .u8)) k = .int .u8 (l.getD k 0) := nth_mapD (f := fun n : Int => PV.int .u8 n) 0 h
def C_law19 : Prop := ∀ (hn : Int) (ls : List Lnk) (us : List Snd) (d : Dem) (tk : List Int) (h : ∀ a ∈ tk, 0 ≤ a ∧ a ≤ 255) , VC Try.prog 6 [.agg [I hn, lnks ls], snds us, demV d, .lits 1 (tk.map (PV.int .u8))] (B true)
theorem c_law19 : C_law19 := by
 rintro hn ls us ⟨df, dt, db, dr, dd⟩ tk htk
 refine vc_ofU mixed (l := [e_fcheck, e_sanity, e_most, e_left]) ((eok_cons o_fcheck (eok_cons o_sanity (eok_cons o_most (eok_cons o_left eok_nil))))) [] [86, 87, 89, 90, 91, 92, 93, 94]  Try.func6 rfl (by decide +kernel) (N := 162) rfl (by simp) rfl (by kernel_rfl) fun hs => ?_
 simp only [smallL, PV.small, List.length_map, and_true, true_and] at hs
 have f0 := s_fcheck (hn := hn) (ls := ls) (us := us) (d := (df, dt, db, dr, dd))
 have fm := s_most (hn := hn) (ls := ls) (us := us) (d := (df, dt, db, dr, dd))
 dsimp only [demV, lnks, snds] at f0 fm
 by_cases g1 : 20 < ls.length
 ·have g1i : (20 : Int) < (ls.length : Int) := by omega
  simp +contextual (maxSteps := 4000000) only [↓ur_seq, ↓ur_ret, ↓ur_region, ↓ur_cond, ↓cont_seq, ↓done_nil, ↓done_seq, ↓ops_consN, ↓ops_guardN, nY_move, nY_assign, nY_pick, nY_box, nY_load, nY_binOp, nilO_tmp, nilO_int, nY_fieldAddr, nY_callf, nY_callb, ↓ops_nil, opsIf_some, condC_true, guardC_tf, Option.map_some, Option.bind_some, Option.getD_some, Nat.reduceLT, Bool.false_eq_true, ↓upd_same, ↓upd_ne, Nat.reduceBEq, and_true, List.getD_cons_zero, List.getD_cons_succ, List.getElem?_toArray, List.getElem?_cons_zero, List.getElem?_cons_succ, endQ, cfg_P, cfg_tab, cfg_muts, cfg_frz, List.length_map, List.contains_cons, List.contains_nil, Bool.or_false, decide_true, Option.some.injEq, exists_eq_left', tabOf_cons, tab_v, Nat.reduceEqDiff, List.append_nil, List.length_cons, List.length_nil, Nat.zero_add, Nat.reduceAdd, Nat.lt_succ_self, Bool.not_false, st0, cells_agg, DRx_bool, ↓ev_tmp, ↓ev_int, ↓ev_bool, ↓ev_func, ↓guardP_eq, grd_some, ↓iop_move, ↓iop_assign, ↓pick3_bool, ↓iop_pick, ↓iop_box, ↓iop_load, ↓iop_binOp, ↓iop_fieldAddr, ↓iop_callv, ↓iop_callb, nrmAll_nil, bi_len, lenM_none, pickP_f, loadP_vptr, fieldP_vptr, lenP_lits, b_gtr, env0_eq, ires_eq, iresL_1, iresAll_nil, iresAll_cons, iresOne_tmp, valT_eq, pursL_nil, ↓reduceIte, callP_eq, tsOf_eq, boxP_eq, ↓evs_cons, ↓evs_nil, see_eq, and_false, Bool.true_eq_false, e_fcheck, e_sanity, s_sanity, e_most, e_left, nth_its, pur_its, nth_arcs, pur_arcs, nth_snds, pur_snds, nth_lnks, pur_lnks, lkC_len, lkC_0, lkC_1, lkC_cap, lkC_pri, lkC_take, pur_lkC, Nat.mul_one, Try.f6, ty22, ty24, g1, g1i]
 have g1i : ¬ (20 : Int) < (ls.length : Int) := by omega
 by_cases g2 : 100 < us.length
 ·have g2i : (100 : Int) < (us.length : Int) := by omega
  simp +contextual (maxSteps := 4000000) only [↓ur_seq, ↓ur_ret, ↓ur_region, ↓ur_cond, ↓cont_seq, ↓done_nil, ↓done_seq, ↓ops_consN, ↓ops_guardN, nY_move, nY_assign, nY_pick, nY_box, nY_load, nY_binOp, nilO_tmp, nilO_int, nY_fieldAddr, nY_callf, nY_callb, ↓ops_nil, opsIf_some, condC_true, guardC_tf, guardC_ff, Option.map_some, Option.bind_some, Option.getD_some, Nat.reduceLT, Bool.false_eq_true, ↓upd_same, ↓upd_ne, Nat.reduceBEq, and_true, List.getD_cons_zero, List.getD_cons_succ, List.getElem?_toArray, List.getElem?_cons_zero, List.getElem?_cons_succ, endQ, cfg_P, cfg_tab, cfg_muts, cfg_frz, List.length_map, List.contains_cons, List.contains_nil, Bool.or_false, decide_true, decide_false, Option.some.injEq, exists_eq_left', tabOf_cons, tab_v, Nat.reduceEqDiff, List.append_nil, List.length_cons, List.length_nil, Nat.zero_add, Nat.reduceAdd, Nat.lt_succ_self, Bool.not_false, st0, cells_agg, DRx_bool, ↓ev_tmp, ↓ev_int, ↓ev_bool, ↓ev_func, ↓guardP_eq, grd_some, ↓iop_move, ↓iop_assign, ↓pick3_bool, ↓iop_pick, ↓iop_box, ↓iop_load, ↓iop_binOp, ↓iop_fieldAddr, ↓iop_callv, ↓iop_callb, nrmAll_nil, bi_len, lenM_none, pickP_f, loadP_vptr, fieldP_vptr, lenP_lits, b_gtr, env0_eq, ires_eq, iresL_1, iresAll_nil, iresAll_cons, iresOne_tmp, valT_eq, pursL_nil, ↓reduceIte, callP_eq, tsOf_eq, boxP_eq, ↓evs_cons, ↓evs_nil, see_eq, and_false, Bool.true_eq_false, e_fcheck, e_sanity, s_sanity, e_most, e_left, nth_its, pur_its, nth_arcs, pur_arcs, nth_snds, pur_snds, nth_lnks, pur_lnks, lkC_len, lkC_0, lkC_1, lkC_cap, lkC_pri, lkC_take, pur_lkC, Nat.mul_one, Try.f6, ty22, ty24, ty25, g1, g1i, g2, g2i]
 have g2i : ¬ (100 : Int) < (us.length : Int) := by omega
 by_cases hc : fckM hn ls us (df, dt, db, dr, dd) = 0
 case neg => simp +contextual (maxSteps := 4000000) only [↓ur_seq, ↓ur_ret, ↓ur_region, ↓ur_cond, ↓cont_seq, ↓done_nil, ↓done_seq, ↓ops_consN, ↓ops_guardN, nY_move, nY_assign, nY_pick, nY_box, nY_load, nY_binOp, nilO_tmp, nilO_int, nY_fieldAddr, nY_callf, nY_callb, ↓ops_nil, opsIf_some, condC_true, guardC_tf, guardC_ff, Option.map_some, Option.bind_some, Option.getD_some, Nat.reduceLT, Bool.false_eq_true, ↓upd_same, ↓upd_ne, Nat.reduceBEq, and_true, List.getD_cons_zero, List.getD_cons_succ, List.getElem?_toArray, List.getElem?_cons_zero, List.getElem?_cons_succ, endQ, cfg_P, cfg_tab, cfg_muts, cfg_frz, List.length_map, List.contains_cons, List.contains_nil, Bool.or_false, decide_true, decide_false, Option.some.injEq, exists_eq_left', List.lookup_cons, List.lookup_nil, tabOf_cons, tab_v, Bool.and_self, Nat.reduceEqDiff, List.nil_append, List.append_nil, List.length_cons, List.length_nil, Nat.zero_add, List.drop_zero, Nat.reduceAdd, Nat.lt_succ_self, Bool.not_false, not_false_eq_true, st0, Nat.le_refl, pur_int, pur_lits, cells_agg, pur_agg, DRx_bool, ↓ev_tmp, ↓ev_int, ↓ev_bool, ↓ev_func, ↓guardP_eq, grd_some, ↓iop_move, ↓iop_assign, ↓pick3_bool, ↓iop_pick, ↓iop_box, ↓iop_load, ↓iop_binOp, ↓iop_fieldAddr, ↓iop_callv, ↓iop_callb, nrmAll_cons, nrmAll_nil, bi_len, lenM_none, nrm_agg, nrmL_cons, nrmL_nil, nrm_lits, nrm1_int, nrm1_lits, pickP_f, pickP_t, loadP_vptr, fieldP_vptr, lenP_lits, b_neq, b_gtr, env0_eq, ires_eq, iresL_1, iresAll_nil, iresAll_cons, iresOne_tmp, valT_eq, pursL_cons, pursL_nil, ↓reduceIte, callP_eq, tsOf_eq, boxP_eq, List.take_succ_cons, List.take_nil, ↓evs_cons, ↓evs_nil, beq_self_eq_true, see_eq, and_false, Bool.true_eq_false, e_fcheck, e_sanity, s_sanity, e_most, e_left, nth_its, pur_its, nth_arcs, pur_arcs, nth_snds, pur_snds, nth_lnks, pur_lnks, lkC_len, lkC_0, lkC_1, lkC_cap, lkC_pri, lkC_take, pur_lkC, Nat.mul_one, Try.f6, ty22, ty24, ty25, ty27, f0, g1, g1i, g2, g2i, hc]
 obtain ⟨hf, hd, hD, hdu⟩ := fck_ok hc
 obtain ⟨⟨a0, a1⟩, ⟨c0, c1⟩, hr⟩ := dem_ok hd
 have hr2 : 0 ≤ dr := hr.2.2.1
 have hr3 : dd ≤ 1000000 := hr.2.2.2.2
 have hr4 : dr ≤ dd := hr.2.2.2.1
 have hdu : dd = dr + (durM (df, dt, db, dr, dd) : Nat) := hdu
 have a0 : 0 ≤ df := a0
 have a1 : df < hn := a1
 have c0 : 0 ≤ dt := c0
 have c1 : dt < hn := c1
 have hh := (fit_ok hf).1.net.houses
 have hln := (fit_ok hf).1.net.len
 have okn := (fit_ok hf).1.net
 have wD : IntKind.i64.wrap (dd - dr) = dd - dr := wrap64 (by omega) (by omega)
 by_cases g4 : 16 < dd - dr
 ·simp +contextual (maxSteps := 4000000) only [↓ur_seq, ↓ur_ret, ↓ur_region, ↓ur_cond, ↓cont_seq, ↓done_nil, ↓done_seq, ↓ops_consN, ↓ops_guardN, nY_move, nY_assign, nY_pick, nY_box, nY_load, nY_binOp, nilO_tmp, nilO_int, nY_fieldAddr, nY_callf, nY_callb, ↓ops_nil, opsIf_some, condC_true, guardC_tf, guardC_ff, Option.map_some, Option.bind_some, Option.getD_some, Nat.reduceLT, Bool.false_eq_true, ↓upd_same, ↓upd_ne, Nat.reduceBEq, and_true, List.getD_cons_zero, List.getD_cons_succ, List.getElem?_toArray, List.getElem?_cons_zero, List.getElem?_cons_succ, endQ, cfg_P, cfg_tab, cfg_muts, cfg_frz, List.length_map, List.contains_cons, List.contains_nil, Bool.or_false, decide_true, decide_false, Option.some.injEq, exists_eq_left', List.lookup_cons, List.lookup_nil, tabOf_cons, tab_v, Bool.and_self, Nat.reduceEqDiff, List.nil_append, List.append_nil, List.length_cons, List.length_nil, Nat.zero_add, List.drop_zero, Nat.reduceAdd, Nat.lt_succ_self, Bool.not_false, not_true_eq_false, st0, Nat.le_refl, pur_int, pur_lits, cells_agg, pur_agg, DRx_bool, ↓ev_tmp, ↓ev_int, ↓ev_bool, ↓ev_func, ↓guardP_eq, grd_some, ↓iop_move, ↓iop_assign, ↓pick3_bool, ↓iop_pick, ↓iop_box, ↓iop_load, ↓iop_binOp, ↓iop_fieldAddr, ↓iop_callv, ↓iop_callb, nrmAll_cons, nrmAll_nil, bi_len, lenM_none, nrm_agg, nrmL_cons, nrmL_nil, nrm_lits, nrm1_int, nrm1_lits, pickP_f, pickP_t, loadP_vptr, fieldP_vptr, lenP_lits, b_sub, b_neq, b_gtr, env0_eq, ires_eq, iresL_1, iresAll_nil, iresAll_cons, iresOne_tmp, valT_eq, pursL_cons, pursL_nil, ↓reduceIte, callP_eq, tsOf_eq, boxP_eq, List.take_succ_cons, List.take_nil, ↓evs_cons, ↓evs_nil, beq_self_eq_true, see_eq, and_false, Bool.true_eq_false, e_fcheck, e_sanity, s_sanity, e_most, e_left, nth_its, pur_its, nth_arcs, pur_arcs, nth_snds, pur_snds, nth_lnks, pur_lnks, lkC_len, lkC_0, lkC_1, lkC_cap, lkC_pri, lkC_take, pur_lkC, Nat.mul_one, Try.f6, ty3, ty22, ty24, ty25, ty27, f0, g1, g1i, g2, g2i, hc, wD, g4]
 by_cases g5 : df = dt
 ·subst g5
  simp +contextual (maxSteps := 4000000) only [↓ur_seq, ↓ur_ret, ↓ur_region, ↓ur_cond, ↓cont_seq, ↓done_nil, ↓done_seq, ↓ops_consN, ↓ops_guardN, nY_move, nY_assign, nY_pick, nY_box, nY_load, nY_binOp, nilO_tmp, nilO_int, nY_fieldAddr, nY_callf, nY_callb, ↓ops_nil, opsIf_some, condC_true, guardC_tf, guardC_ff, Option.map_some, Option.bind_some, Option.getD_some, Nat.reduceLT, Bool.false_eq_true, ↓upd_same, ↓upd_ne, Nat.reduceBEq, and_true, List.getD_cons_zero, List.getD_cons_succ, List.getElem?_toArray, List.getElem?_cons_zero, List.getElem?_cons_succ, endQ, cfg_P, cfg_tab, cfg_muts, cfg_frz, List.length_map, List.contains_cons, List.contains_nil, Bool.or_false, decide_true, decide_false, Option.some.injEq, exists_eq_left', List.lookup_cons, List.lookup_nil, tabOf_cons, tab_v, Bool.and_self, Nat.reduceEqDiff, List.nil_append, List.append_nil, List.length_cons, List.length_nil, Nat.zero_add, Nat.add_zero, List.drop_zero, Nat.reduceAdd, Nat.lt_succ_self, Bool.not_false, not_true_eq_false, st0, Nat.le_refl, pur_int, pur_lits, cells_agg, pur_agg, DRx_bool, ↓ev_tmp, ↓ev_int, ↓ev_bool, ↓ev_func, ↓guardP_eq, grd_some, ↓iop_move, ↓iop_assign, ↓pick3_bool, ↓iop_pick, ↓iop_box, ↓iop_load, ↓iop_binOp, ↓iop_fieldAddr, ↓iop_callv, ↓iop_callb, nrmAll_cons, nrmAll_nil, bi_len, lenM_none, nrm_agg, nrmL_cons, nrmL_nil, nrm_lits, nrm1_int, nrm1_lits, pickP_f, pickP_t, loadP_vptr, fieldP_vptr, lenP_lits, b_sub, b_eql, b_neq, b_gtr, env0_eq, ires_eq, iresL_1, iresAll_nil, iresAll_cons, iresOne_tmp, valT_eq, pursL_cons, pursL_nil, ↓reduceIte, callP_eq, tsOf_eq, boxP_eq, List.take_succ_cons, List.take_nil, ↓evs_cons, ↓evs_nil, beq_self_eq_true, see_eq, and_false, Bool.true_eq_false, e_fcheck, e_sanity, s_sanity, e_most, e_left, nth_its, pur_its, nth_arcs, pur_arcs, nth_snds, pur_snds, nth_lnks, pur_lnks, lkC_len, lkC_0, lkC_1, lkC_cap, lkC_pri, lkC_take, pur_lkC, Nat.mul_one, Try.f6, ty3, ty22, ty24, ty25, ty27, f0, g1, g1i, g2, g2i, hc, wD, g4]
 obtain ⟨h, hhe⟩ : ∃ h : Nat, hn = (h : Int) := ⟨hn.toNat, by omega⟩
 subst hhe
 by_cases g6 : tk.length < h
 ·have g6i : (tk.length : Int) < (h : Int) := by omega
  simp +contextual (maxSteps := 4000000) only [↓ur_seq, ↓ur_ret, ↓ur_region, ↓ur_cond, ↓cont_seq, ↓done_nil, ↓done_seq, ↓ops_consN, ↓ops_guardN, nY_move, nY_assign, nY_pick, nY_box, nY_load, nY_binOp, nilO_tmp, nilO_int, nY_fieldAddr, nY_callf, nY_callb, ↓ops_nil, opsIf_some, condC_true, guardC_ff, Option.map_some, Option.bind_some, Option.getD_some, Nat.reduceLT, Bool.false_eq_true, ↓upd_same, ↓upd_ne, Nat.reduceBEq, and_true, List.getD_cons_zero, List.getD_cons_succ, List.getElem?_toArray, List.getElem?_cons_zero, List.getElem?_cons_succ, endQ, cfg_P, cfg_tab, cfg_muts, cfg_frz, List.length_map, List.contains_cons, List.contains_nil, Bool.or_false, decide_true, decide_false, Option.some.injEq, exists_eq_left', List.lookup_cons, List.lookup_nil, tabOf_cons, tab_v, Bool.and_self, Nat.reduceEqDiff, List.nil_append, List.append_nil, List.length_cons, List.length_nil, Nat.zero_add, Nat.add_zero, List.drop_zero, Nat.reduceAdd, Nat.lt_succ_self, Bool.not_false, not_true_eq_false, st0, Nat.le_refl, pur_int, pur_lits, cells_agg, pur_agg, DRx_bool, ↓ev_tmp, ↓ev_int, ↓ev_bool, ↓ev_func, ↓guardP_eq, grd_some, ↓iop_move, ↓iop_assign, ↓pick3_bool, ↓iop_pick, ↓iop_box, ↓iop_load, ↓iop_binOp, ↓iop_fieldAddr, ↓iop_callv, ↓iop_callb, nrmAll_cons, nrmAll_nil, bi_len, lenM_none, nrm_agg, nrmL_cons, nrmL_nil, nrm_lits, nrm1_int, nrm1_lits, pickP_f, pickP_t, loadP_vptr, fieldP_vptr, lenP_lits, b_sub, b_eql, b_neq, b_lss, b_gtr, env0_eq, ires_eq, iresL_1, iresAll_nil, iresAll_cons, iresOne_tmp, valT_eq, pursL_cons, pursL_nil, ↓reduceIte, callP_eq, tsOf_eq, boxP_eq, List.take_succ_cons, List.take_nil, ↓evs_cons, ↓evs_nil, beq_self_eq_true, see_eq, and_false, Bool.true_eq_false, e_fcheck, e_sanity, s_sanity, e_most, e_left, nth_its, pur_its, nth_arcs, pur_arcs, nth_snds, pur_snds, nth_lnks, pur_lnks, lkC_len, lkC_0, lkC_1, lkC_cap, lkC_pri, lkC_take, pur_lkC, Nat.mul_one, Try.f6, ty3, ty22, ty24, ty25, ty27, ty45, f0, g1, g1i, g2, g2i, hc, wD, g4, g5, g6, g6i]
 have g6i : ¬ (tk.length : Int) < (h : Int) := by omega
 have hmc := most_cut (tk := tk) hc g5
 obtain ⟨u, hu⟩ : ∃ u : Nat, df = (u : Int) := ⟨df.toNat, by omega⟩
 obtain ⟨v, hv⟩ : ∃ v : Nat, dt = (v : Int) := ⟨dt.toNat, by omega⟩
 subst hu
 subst hv
 have hb0 := begK_0 (d := ((u : Int), (v : Int), db, dr, dd)) (tk := tk) (h := h)
 have hset := begL_set (d := ((u : Int), (v : Int), db, dr, dd)) (tk := tk) (h := h)
 dsimp only at hset
 rw [Int.toNat_natCast, Int.toNat_natCast] at hset
 have hkl := fun k => begK_len (d := ((u : Int), (v : Int), db, dr, dd)) (tk := tk) (h := h) (k := k)
 have hll := begL_len (d := ((u : Int), (v : Int), db, dr, dd)) (tk := tk) (h := h)
 have hkn := fun k x hx => begK_nth (d := ((u : Int), (v : Int), db, dr, dd)) (tk := tk) (h := h) (k := k) (x := x) hx
 have hln' := fun x hx => begL_nth (d := ((u : Int), (v : Int), db, dr, dd)) (tk := tk) (h := h) (x := x) hx
 have hks := fun k hk => begK_set (d := ((u : Int), (v : Int), db, dr, dd)) (tk := tk) (h := h) (k := k) hk
 have hbF : ∀ x, begF ((u : Int), (v : Int), db, dr, dd) tk x = dr + (tk.getD x 0) % ((durM ((u : Int), (v : Int), db, dr, dd) + 2 : Nat) : Int) := fun x => rfl
 have hbX := fun x => begX_hi (d := ((u : Int), (v : Int), db, dr, dd)) (tk := tk) hr4 hdu x
 have hlf := fun (k t : Nat) (hk : k < ls.length) => lfM_bnd (d := ((u : Int), (v : Int), db, dr, dd)) hf (k := k) (t := t) hk
 have hrb := fun (t n : Nat) (hn : n ≤ ls.length) => row_bnd (d := ((u : Int), (v : Int), db, dr, dd)) (tk := tk) hf (t := t) hn (by omega)
 have hcb := fun (n : Nat) (hn : n ≤ 100) => cut_bnd (d := ((u : Int), (v : Int), db, dr, dd)) (tk := tk) hf hn (by omega)
 have hcs : ∀ t, cutM ls us ((u : Int), (v : Int), db, dr, dd) tk (t + 1) = cutM ls us ((u : Int), (v : Int), db, dr, dd) tk t + rowM ls us ((u : Int), (v : Int), db, dr, dd) tk t ls.length := fun t => rfl
 have hrs : ∀ t k, rowM ls us ((u : Int), (v : Int), db, dr, dd) tk t (k + 1) = rowM ls us ((u : Int), (v : Int), db, dr, dd) tk t k + if crossM ls ((u : Int), (v : Int), db, dr, dd) tk k t then lfM ls us ((u : Int), (v : Int), db, dr, dd) k t else 0 := fun t k => rfl
 have hcr : ∀ k t, crossM ls ((u : Int), (v : Int), db, dr, dd) tk k t ↔ (begX ((u : Int), (v : Int), db, dr, dd) tk (ls.getD k dL).1.toNat ≤ dr + (t : Int) ∧ dr + (t : Int) + 1 < begX ((u : Int), (v : Int), db, dr, dd) tk (ls.getD k dL).2.1.toNat) := fun k t => Iff.rfl
 have hlv : ∀ k t : Nat, k < ls.length → leftM (h : Int) ls us (k : Int) (dr + (t : Int)) = if dr + (t : Int) < 1000000 then (lfM ls us ((u : Int), (v : Int), db, dr, dd) k t, 0) else (0, 1) := fun k t hk => by
  unfold leftM
  rw [if_neg (fun g => g (right_zero.2 (fit_ok hf).1))]
  by_cases c : dr + (t : Int) < 1000000
  ·rw [if_neg (by omega), if_pos c]; rfl
  ·rw [if_pos (by omega), if_neg c]
 have hc0 : cutM ls us ((u : Int), (v : Int), db, dr, dd) tk 0 = 0 := rfl
 have hr0 : ∀ t, rowM ls us ((u : Int), (v : Int), db, dr, dd) tk t 0 = 0 := fun t => rfl
 have hDe : durM ((u : Int), (v : Int), db, dr, dd) ≤ 16 := by omega
 generalize durM ((u : Int), (v : Int), db, dr, dd) = D at *
 generalize begX ((u : Int), (v : Int), db, dr, dd) tk = bX at *
 generalize begF ((u : Int), (v : Int), db, dr, dd) tk = bF at *
 generalize begK ((u : Int), (v : Int), db, dr, dd) tk h = bK at *
 generalize begL ((u : Int), (v : Int), db, dr, dd) tk h = bL at *
 generalize cutM ls us ((u : Int), (v : Int), db, dr, dd) tk = cM at *
 generalize rowM ls us ((u : Int), (v : Int), db, dr, dd) tk = rM at *
 generalize lfM ls us ((u : Int), (v : Int), db, dr, dd) = lM at *
 rw [hc] at f0 fm
 generalize hmo : mostM (h : Int) ls us ((u : Int), (v : Int), db, dr, dd) = mo at *
 have hni : (h : Int) ≤ 4294967296 := by omega
 have g5' : ¬ u = v := fun e => g5 (by omega)
 simp +contextual (maxSteps := 4000000) only [↓ur_skip, ↓ur_seq, ↓ur_block, ↓ur_region, ↓ur_cond, ↓cont_seq, ↓ops_consN, ↓ops_guardN, nY_move, nY_assign, nY_pick, nY_box, nY_load, nY_binOp, nilO_tmp, nilO_int, nY_makeSlice, nY_fieldAddr, nY_callf, nY_callb, ↓ops_nil, opsIf_some, condC_false, guardC_ff, Option.map_some, Option.bind_some, Option.getD_some, Nat.reduceLT, Bool.false_eq_true, ↓upd_same, ↓upd_ne, Nat.reduceBEq, true_and, and_true, List.getD_cons_zero, List.getD_cons_succ, List.getElem?_toArray, List.getElem?_cons_zero, List.getElem?_cons_succ, cfg_P, cfg_tab, cfg_muts, cfg_frz, cfg_num, numOf_eq, List.length_map, List.contains_cons, List.contains_nil, Bool.or_false, Int.natCast_nonneg, Int.toNat_natCast, decide_false, List.lookup_cons, List.lookup_nil, tabOf_cons, tab_v, Bool.and_self, List.nil_append, List.append_nil, updO_same, List.length_cons, List.length_nil, Nat.zero_add, Nat.add_zero, List.drop_zero, Nat.reduceAdd, Nat.lt_succ_self, Bool.not_false, not_true_eq_false, st0, Nat.le_refl, pur_int, pur_lits, cells_agg, pur_agg, ↓ev_tmp, ↓ev_int, ↓ev_bool, ↓ev_func, ↓guardP_eq, grd_some, ↓iop_move, ↓iop_assign, ↓pick3_bool, ↓iop_pick, ↓iop_box, ↓iop_load, ↓iop_binOp, ↓iop_makeSlice, mkSl_int, ↓iop_fieldAddr, ↓iop_callv, ↓iop_callb, nrmAll_cons, nrmAll_nil, bi_len, lenM_none, nrm_agg, nrmL_cons, nrmL_nil, nrm_lits, nrm1_int, nrm1_lits, pickP_f, pickP_t, loadP_vptr, fieldP_vptr, lenP_lits, lenP_ref, b_sub, b_eql, b_neq, b_lss, b_gtr, env0_eq, valT_eq, pursL_cons, pursL_nil, Store.new, ↓reduceIte, arr_eq, arrB_some, callP_eq, tsOf_eq, boxP_eq, List.take_succ_cons, List.take_nil, ↓evs_cons, ↓evs_nil, Int.le_refl, beq_self_eq_true, see_eq, and_false, Bool.true_eq_false, e_fcheck, e_sanity, e_most, e_left, nth_its, pur_its, nth_arcs, pur_arcs, nth_snds, pur_snds, nth_lnks, pur_lnks, lkC_len, lkC_0, lkC_1, lkC_cap, lkC_pri, lkC_take, pur_lkC, Nat.mul_one, Try.f6, ty3, ty22, ty24, ty25, ty27, ty45, ty46, f0, g1, g1i, g2, g2i, hc, wD, g4, g5, g5', g6, g6i, hni]
 refine loop_cnt [10, 63, 64, 65, 66, 67, 68, 69, 70, 71, 72, 73, 74, 75, 76, 77, 78, 79, 80, 81, 82, 83, 84] h (fun k ρ st' => ρ 63 = I k ∧ st' = ⟨updO (fun _ => none) 0 (some (.arr 0 1 (bK k))), 1⟩) (.refl _) ?_ ?_
 ·simp +contextual (maxSteps := 4000000) only [↓upd_same, and_true, Int.cast_ofNat_Int, nth_its, pur_its, nth_arcs, pur_arcs, nth_snds, pur_snds, nth_lnks, pur_lnks, lkC_len, lkC_0, lkC_1, lkC_cap, lkC_pri, lkC_take, pur_lkC, Nat.mul_one, Try.f6, hb0]
 rintro k ρ st' hk ⟨h63, rfl⟩
 by_cases hlt : k < h
 ·have hwk := wrapN' (k := k) (by omega)
  have hkt : k < tk.length := by omega
  have hn8 := nth_u8 hkt
  have hb8 := htk (tk.getD k 0) (by
   have e : tk.getD k 0 = tk[k] := by simp [hkt]
   rw [e]; exact List.getElem_mem _)
  have hbk := hbF k
  generalize tk.getD k 0 = y at *
  have w1 : IntKind.i64.wrap y = y := wrap64 (by omega) (by omega)
  have w2 : IntKind.i64.wrap (dd - dr + 2) = ((D + 2 : Nat) : Int) := by rw [wrap64 (by omega) (by omega)]; omega
  have t1 : Int.tmod y ((D + 2 : Nat) : Int) = y % ((D + 2 : Nat) : Int) := Int.tmod_eq_emod_of_nonneg (by omega)
  have m1 := Int.emod_nonneg y (b := ((D + 2 : Nat) : Int)) (by omega)
  have m2 := Int.emod_lt_of_pos y (b := ((D + 2 : Nat) : Int)) (by omega)
  have w3 : IntKind.i64.wrap (dr + y % ((D + 2 : Nat) : Int)) = bF k := by rw [wrap64 (by omega) (by omega), hbk]
  have nz : ¬ ((D + 2 : Nat) : Int) = 0 := by omega
  have nz' : ¬ D + 2 = 0 := by omega
  have hs := hks k hlt
  have hl := hkl k
  have hnt := hkn k k hlt
  rw [if_neg (Nat.lt_irrefl k)] at hnt
  simp +contextual (maxSteps := 4000000) only [↓ur_skip, ↓ur_seq, ↓ur_block, ↓ur_region, ↓ur_cond, ↓cont_seq, ↓cont_blk, ↓cont_lp, ↓ops_consN, nY_move, nY_assign, nY_load, nY_store, nY_binOp, nilO_tmp, nilO_int, nY_convert, nY_fieldAddr, nY_indexAddr, ↓ops_nil, opsIf_some, opsIf_none, condC_true, Option.map_some, Option.bind_some, Option.getD_some, Nat.reduceLT, Bool.false_eq_true, ↓upd_same, ↓upd_ne, Nat.reduceBEq, and_true, List.getD_cons_zero, List.getD_cons_succ, List.getElem?_cons_zero, List.getElem?_cons_succ, cfg_P, cfg_frz, cfg_num, numOf_eq, List.length_map, ↓havoc_in, ↓havoc_out, agree_upd, agree_havoc, List.contains_cons, List.contains_nil, Bool.or_false, Bool.or_true, Int.natCast_nonneg, Int.ofNat_lt, Int.toNat_natCast, decide_true, Bool.true_and, updO_same, List.length_cons, List.length_nil, Nat.zero_add, Nat.reduceAdd, Nat.reduceLeDiff, Nat.lt_succ_self, Bool.not_false, or_false, Nat.le_refl, cells_int, ↓ev_tmp, ↓ev_int, ↓iop_move, ↓iop_assign, ↓iop_load, ↓iop_store, ↓iop_binOp, ↓iop_convert, ↓iop_fieldAddr, ↓iop_indexAddr, idxA_int, tmpNo_tmp, softS_ptr, heldS_ptr, isInt1_int, pickP_f, loadP_vptr, setCells_int, storeP_ptr, fieldP_vptr, indexP_lits, indexP_ref, b_add, b_sub, b_rem, b_lss, cv_int, env0_eq, Store.set, ↓reduceIte, arr_eq, arrB_some, beq_self_eq_true, see_eq, false_and, and_false, Bool.true_eq_false, nth_its, pur_its, nth_arcs, pur_arcs, nth_snds, pur_snds, nth_lnks, pur_lnks, lkC_len, lkC_0, lkC_1, lkC_cap, lkC_pri, lkC_take, pur_lkC, Nat.mul_one, Try.f6, ty3, ty5, ty27, ty45, ty46, h63, hlt, hwk, hkt, hn8, wD, w1, w2, t1, w3, nz, nz', hs, hl, hnt, updO_updO]
 have e : k = h := by omega
 rw [e] at h63 ⊢
 have hl := hkl h
 have hul : u < h := by omega
 have hvl : v < h := by omega
 have hnt := hkn h u hul
 have wE : IntKind.i64.wrap (dd + 1) = dd + 1 := wrap64 (by omega) (by omega)
 have hnv : nth ((bK h).set u (I dr)) v = nth (bK h) v := by
  unfold nth
  rw [List.getD_eq_getElem?_getD, List.getElem?_set_ne g5', List.getD_eq_getElem?_getD]
 have hnv2 := hkn h v hvl
 rw [if_pos hul] at hnt
 rw [if_pos hvl] at hnv2
 rw [hnv2] at hnv
 simp +contextual (maxSteps := 4000000) only [↓ur_seq, ↓ur_block, ↓ur_exit, ↓ur_region, ↓ur_cond, ↓cont_seq, ↓leave_seq, ↓leave_blk, ↓leave_lp, ↓ops_consN, nY_move, nY_assign, nY_load, nY_store, nY_binOp, nilO_tmp, nilO_int, nY_fieldAddr, nY_indexAddr, ↓ops_nil, opsIf_some, opsIf_none, condC_false, Option.map_some, Option.bind_some, Option.getD_some, Nat.reduceLT, Bool.false_eq_true, ↓upd_same, ↓upd_ne, Nat.reduceBEq, true_and, and_true, List.getElem?_cons_zero, List.getElem?_cons_succ, cfg_P, cfg_frz, cfg_num, numOf_eq, ↓havoc_in, ↓havoc_out, List.contains_cons, List.contains_nil, Bool.or_false, Bool.or_true, Int.natCast_nonneg, Int.ofNat_lt, Int.toNat_natCast, decide_true, decide_false, Bool.true_and, updO_same, List.length_cons, List.length_nil, Nat.zero_add, Nat.add_zero, Nat.reduceAdd, Nat.reduceLeDiff, Nat.lt_irrefl, Nat.lt_succ_self, Bool.not_false, or_false, Nat.le_refl, cells_int, ↓ev_tmp, ↓ev_int, ↓iop_move, ↓iop_assign, ↓iop_load, ↓iop_store, ↓iop_binOp, ↓iop_fieldAddr, ↓iop_indexAddr, idxA_int, tmpNo_tmp, softS_ptr, heldS_ptr, isInt1_int, pickP_f, loadP_vptr, setCells_int, storeP_ptr, fieldP_vptr, indexP_ref, b_add, b_lss, Store.set, ↓reduceIte, arr_eq, arrB_some, beq_self_eq_true, see_eq, false_and, and_false, Bool.true_eq_false, nth_its, pur_its, nth_arcs, pur_arcs, nth_snds, pur_snds, nth_lnks, pur_lnks, lkC_len, lkC_0, lkC_1, lkC_cap, lkC_pri, lkC_take, pur_lkC, Nat.mul_one, Try.f6, ty3, ty27, ty46, h63, hl, hul, hvl, hnt, wE, hnv, hset, updO_updO, List.length_set]
 refine loop_cnt [8, 11, 12, 13, 14, 15, 16, 100, 101, 102, 103, 104, 105, 106, 107, 108, 109, 110, 111, 112, 113, 114, 115, 116, 117, 118, 119, 120, 121, 122, 123, 124, 125, 126, 127, 128, 129, 130, 131, 132, 133, 134, 135, 136, 137, 138, 139, 140, 141, 142, 143, 144] D (fun t ρ st' => ρ 12 = I (dr + (t : Int)) ∧ ρ 11 = I (cM t) ∧ st'.obj 0 = some (.arr 0 1 bL) ∧ 0 < st'.next) (.refl _) ?_ ?_
 ·simp +contextual (maxSteps := 4000000) only [↓upd_same, ↓upd_ne, Nat.reduceBEq, true_and, and_true, PV.int.injEq, updO_same, Nat.lt_succ_self, Int.cast_ofNat_Int, nth_its, pur_its, nth_arcs, pur_arcs, nth_snds, pur_snds, nth_lnks, pur_lnks, lkC_len, lkC_0, lkC_1, lkC_cap, lkC_pri, lkC_take, pur_lkC, Nat.mul_one, Try.f6, hc0]
  simp
 rintro t ρ2 ⟨ob, M⟩ ht ⟨h12, h11, hob, hM⟩
 dsimp only at hob hM
 by_cases htD : t < D
 ·have htd : dr + (t : Int) < dd := by omega
  have w1 : IntKind.i64.wrap (dr + (t : Int) + 1) = dr + ((t + 1 : Nat) : Int) := by rw [wrap64 (by omega) (by omega)]; omega
  have w2 : IntKind.i64.wrap (dr + (t : Int) + 1) = dr + (t : Int) + 1 := wrap64 (by omega) (by omega)
  have hcbt := hcb t (by omega)
  have hcst := hcs t
  have hrs := hrs t
  have hrb := fun k hk => hrb t k hk
  have hr0 := hr0 t
  have hcr := fun k => hcr k t
  have hlv := fun k hk => hlv k t hk
  have hlf := fun k hk => hlf k t hk
  generalize rM t = rT at *
  generalize hL : ls.length = L at *
  simp +contextual (maxSteps := 4000000) only [↓ur_skip, ↓ur_seq, ↓ur_block, ↓ur_region, ↓ur_cond, ↓cont_seq, ↓ops_consN, nY_move, nY_load, nY_binOp, nilO_tmp, nY_fieldAddr, nY_callb, ↓ops_nil, opsIf_some, condC_true, Option.map_some, Option.bind_some, Option.getD_some, Nat.reduceLT, Bool.false_eq_true, ↓upd_same, ↓upd_ne, Nat.reduceBEq, true_and, List.getElem?_cons_zero, List.getElem?_cons_succ, cfg_P, cfg_frz, List.length_map, ↓havoc_in, ↓havoc_out, List.contains_cons, List.contains_nil, Bool.or_false, Bool.or_true, decide_true, Nat.zero_add, Nat.reduceAdd, Nat.lt_succ_self, Bool.not_false, ↓ev_tmp, ↓ev_int, ↓iop_move, ↓iop_load, ↓iop_binOp, ↓iop_fieldAddr, ↓iop_callb, bi_len, lenM_none, pickP_f, loadP_vptr, fieldP_vptr, lenP_lits, b_lss, ↓reduceIte, ↓evs_cons, ↓evs_nil, beq_self_eq_true, see_eq, nth_its, pur_its, nth_arcs, pur_arcs, nth_snds, pur_snds, nth_lnks, pur_lnks, lkC_len, lkC_0, lkC_1, lkC_cap, lkC_pri, lkC_take, pur_lkC, Nat.mul_one, Try.f6, ty3, ty22, ty24, ty27, h12, h11, htd, hL]
  refine loop_cnt [8, 11, 13, 14, 15, 16, 109, 110, 111, 112, 113, 114, 115, 116, 117, 118, 119, 120, 121, 122, 123, 124, 125, 126, 127, 128, 129, 130, 131, 132, 133, 134, 135, 136, 137, 138, 139, 140, 141, 142, 143, 144] L (fun k ρ st' => ρ 109 = I k ∧ ρ 11 = I (cM t + rT k) ∧ st'.obj 0 = some (.arr 0 1 bL) ∧ 0 < st'.next) (.refl _) ?_ ?_
  ·simp +contextual (maxSteps := 4000000) only [↓upd_same, ↓upd_ne, Nat.reduceBEq, true_and, ↓havoc_in, List.contains_cons, List.contains_nil, Bool.or_false, Bool.or_true, PV.int.injEq, beq_self_eq_true, Int.cast_ofNat_Int, nth_its, pur_its, nth_arcs, pur_arcs, nth_snds, pur_snds, nth_lnks, pur_lnks, lkC_len, lkC_0, lkC_1, lkC_cap, lkC_pri, lkC_take, pur_lkC, Nat.mul_one, Try.f6, h11, hr0]
   exact ⟨by omega, hob, hM⟩
  rintro k ρ3 ⟨ob3, M3⟩ hkL ⟨h109, h11', hob3, hM3⟩
  dsimp only at hob3 hM3
  by_cases hk : k < L
  ·have hwk := wrapN' (k := k) (by omega)
   have hkl : k < ls.length := by omega
   have hend := okn.ends k hkl
   have hlv := hlv k hk
   rw [if_pos (by omega)] at hlv
   have hlf := hlf k hk
   have hrs := hrs k
   have hrb1 := hrb k (by omega)
   have hrb2 := hrb (k + 1) (by omega)
   have hcr := hcr k
   have hlk0 := lkC_0 (a := ls.getD k dL)
   have hlk1 := lkC_1 (a := ls.getD k dL)
   have hnl := nth_lnks hkl
   generalize hlk : ls.getD k dL = lk at *
   generalize lM k t = lf at *
   obtain ⟨fu, hfu⟩ : ∃ fu : Nat, lk.1 = (fu : Int) := ⟨lk.1.toNat, by omega⟩
   obtain ⟨fv, hfv⟩ : ∃ fv : Nat, lk.2.1 = (fv : Int) := ⟨lk.2.1.toNat, by omega⟩
   have hfl : fu < h := by omega
   have hvl' : fv < h := by omega
   rw [hfu] at hlk0
   rw [hfv] at hlk1
   rw [hfu, hfv, Int.toNat_natCast, Int.toNat_natCast] at hcr
   have n1 := hln' fu hfl
   have n2 := hln' fv hvl'
   have z1 : ¬ 0 = M3 := by omega
   have z2 : ¬ M3 = 0 := by omega
   have fl := s_left (hn := (h : Int)) (ls := ls) (l := us) (link := (k : Int)) (tick := dr + (t : Int))
   dsimp only [lnks, snds] at fl
   rw [hlv] at fl
   dsimp only at fl
   by_cases c1 : bX fu ≤ dr + (t : Int)
   ·by_cases c2 : dr + (t : Int) + 1 < bX fv
    ·rw [if_pos (hcr.2 ⟨c1, c2⟩)] at hrs
     have w3 : IntKind.i64.wrap (cM t + rT k + lf) = cM t + rT (k + 1) := by rw [wrap64 (by omega) (by omega)]; omega
     simp +contextual (maxSteps := 4000000) only [↓ur_skip, ↓ur_seq, ↓ur_block, ↓ur_region, ↓ur_cond, ↓cont_seq, ↓cont_blk, ↓cont_lp, ↓ops_consN, ↓ops_guardN, nY_move, nY_assign, nY_pick, nY_alloc, nY_load, nY_store, nY_binOp, nilO_tmp, nilO_int, nY_fieldAddr, nY_indexAddr, nY_extract, nY_callf, ↓ops_nil, opsIf_some, opsIf_none, condC_true, condC_false, guardC_tt, Option.map_some, Option.bind_some, Option.getD_some, Nat.reduceLT, Bool.false_eq_true, ↓upd_same, ↓upd_ne, Nat.reduceBEq, true_and, and_true, List.getD_cons_zero, List.getD_cons_succ, List.getElem?_toArray, List.getElem?_cons_zero, List.getElem?_cons_succ, cfg_P, cfg_tab, cfg_muts, cfg_frz, cfg_num, numOf_eq, List.length_map, ↓havoc_in, ↓havoc_out, agree_upd, agree_havoc, List.contains_cons, List.contains_nil, Bool.or_false, Bool.or_true, Int.natCast_nonneg, Int.ofNat_lt, Int.toNat_natCast, decide_true, decide_false, List.lookup_cons, List.lookup_nil, tabOf_cons, tab_v, Bool.and_true, Bool.and_self, Nat.reduceEqDiff, List.nil_append, List.append_nil, updO_same, updO_ne, List.length_cons, List.length_nil, Nat.zero_add, Nat.add_zero, List.drop_zero, List.take_zero, Nat.reduceAdd, List.set_cons_zero, Nat.reduceLeDiff, nth_zero, Nat.lt_succ_self, Bool.not_false, not_true_eq_false, not_false_eq_true, or_false, Nat.le_refl, cells_int, pur_int, pur_lits, cells_agg, pur_agg, ↓ev_tmp, ↓ev_int, ↓ev_func, ↓guardP_eq, grd_some, ↓iop_move, ↓iop_assign, ↓pick3_bool, ↓iop_pick, ↓iop_alloc, ↓iop_load, ↓iop_store, ↓iop_binOp, ↓iop_fieldAddr, ↓iop_indexAddr, idxA_int, ↓iop_extract, extr_tuple, ↓iop_callv, tmpNo_tmp, softS_ptr, heldS_ptr, isInt1_int, isInt_agg, List.all_cons, List.all_nil, nrmAll_cons, nrmAll_nil, nrm_agg, nrmL_cons, nrmL_nil, nrm_int, nrm_lits, nrm1_int, nrm1_lits, pickP_f, pickP_t, loadP_vptr, loadP_ptr, setCells_agg, storeP_ptr, fieldP_ptr, indexP_lits, indexP_ref, b_add, b_neq, b_lss, b_leq, b_gtr, splice_eq, env0_eq, valT_eq, pursL_cons, pursL_nil, Store.new, Store.set, ↓reduceIte, arr_eq, arrB_some, callP_eq, tsOf_eq, beq_eq_false_iff_ne, ne_eq, List.take_succ_cons, List.drop_succ_cons, List.drop_nil, List.take_nil, ↓evs_cons, ↓evs_nil, beq_self_eq_true, List.all_cons, List.all_nil, see_eq, false_and, and_false, Bool.true_eq_false, nth_its, pur_its, nth_arcs, pur_arcs, nth_snds, pur_snds, nth_lnks, pur_lnks, lkC_len, lkC_0, lkC_1, lkC_cap, lkC_pri, lkC_take, pur_lkC, Nat.mul_one, Try.f6, ty3, ty22, ty24, ty25, ty46, ty49, h109, h11', h12, hob3, hk, hkl, hL, hwk, hlk, hnl, hlk0, hlk1, lkC_len, lkC_take, fl, n1, n2, hll, hfl, hvl', z1, z2, w2, c1, c2, w3, updO_updO]
     exact Nat.succ_pos _
    ·have hx : ¬ crossM ls ((u : Int), (v : Int), db, dr, dd) tk k t := fun g => c2 (hcr.1 g).2
     rw [if_neg hx] at hrs
     simp +contextual (maxSteps := 4000000) only [↓ur_skip, ↓ur_seq, ↓ur_block, ↓ur_region, ↓ur_cond, ↓cont_seq, ↓cont_blk, ↓cont_lp, ↓ops_consN, ↓ops_guardN, nY_move, nY_assign, nY_pick, nY_alloc, nY_load, nY_store, nY_binOp, nilO_tmp, nilO_int, nY_fieldAddr, nY_indexAddr, nY_extract, nY_callf, ↓ops_nil, opsIf_some, opsIf_none, condC_true, condC_false, guardC_tt, Option.map_some, Option.bind_some, Option.getD_some, Nat.reduceLT, Bool.false_eq_true, ↓upd_same, ↓upd_ne, Nat.reduceBEq, true_and, and_true, List.getD_cons_zero, List.getD_cons_succ, List.getElem?_toArray, List.getElem?_cons_zero, List.getElem?_cons_succ, cfg_P, cfg_tab, cfg_muts, cfg_frz, cfg_num, numOf_eq, List.length_map, ↓havoc_in, ↓havoc_out, agree_upd, agree_havoc, List.contains_cons, List.contains_nil, Bool.or_false, Bool.or_true, Int.natCast_nonneg, Int.ofNat_lt, Int.toNat_natCast, decide_true, decide_false, PV.int.injEq, List.lookup_cons, List.lookup_nil, tabOf_cons, tab_v, Bool.and_true, Bool.and_self, Nat.reduceEqDiff, List.nil_append, List.append_nil, updO_same, updO_ne, List.length_cons, List.length_nil, Nat.zero_add, Nat.add_zero, List.drop_zero, List.take_zero, Nat.reduceAdd, List.set_cons_zero, Nat.reduceLeDiff, nth_zero, Nat.lt_succ_self, Bool.not_false, not_true_eq_false, not_false_eq_true, or_false, Nat.le_refl, cells_int, pur_int, pur_lits, cells_agg, pur_agg, ↓ev_tmp, ↓ev_int, ↓ev_func, ↓guardP_eq, grd_some, ↓iop_move, ↓iop_assign, ↓pick3_bool, ↓iop_pick, ↓iop_alloc, ↓iop_load, ↓iop_store, ↓iop_binOp, ↓iop_fieldAddr, ↓iop_indexAddr, idxA_int, ↓iop_extract, extr_tuple, ↓iop_callv, tmpNo_tmp, softS_ptr, heldS_ptr, isInt1_int, isInt_agg, List.all_cons, List.all_nil, nrmAll_cons, nrmAll_nil, nrm_agg, nrmL_cons, nrmL_nil, nrm_int, nrm_lits, nrm1_int, nrm1_lits, pickP_f, pickP_t, loadP_vptr, loadP_ptr, setCells_agg, storeP_ptr, fieldP_ptr, indexP_lits, indexP_ref, b_add, b_neq, b_lss, b_leq, b_gtr, splice_eq, env0_eq, valT_eq, pursL_cons, pursL_nil, Store.new, Store.set, ↓reduceIte, arr_eq, arrB_some, callP_eq, tsOf_eq, beq_eq_false_iff_ne, ne_eq, List.take_succ_cons, List.drop_succ_cons, List.drop_nil, List.take_nil, ↓evs_cons, ↓evs_nil, beq_self_eq_true, List.all_cons, List.all_nil, see_eq, false_and, and_false, Bool.true_eq_false, nth_its, pur_its, nth_arcs, pur_arcs, nth_snds, pur_snds, nth_lnks, pur_lnks, lkC_len, lkC_0, lkC_1, lkC_cap, lkC_pri, lkC_take, pur_lkC, Nat.mul_one, Try.f6, ty3, ty22, ty24, ty25, ty46, ty49, h109, h11', h12, hob3, hk, hkl, hL, hwk, hlk, hnl, hlk0, hlk1, lkC_len, lkC_take, fl, n1, n2, hll, hfl, hvl', z1, z2, w2, c1, c2, updO_updO]
     exact ⟨by omega, Nat.succ_pos _⟩
   ·have hx : ¬ crossM ls ((u : Int), (v : Int), db, dr, dd) tk k t := fun g => c1 (hcr.1 g).1
    rw [if_neg hx] at hrs
    simp +contextual (maxSteps := 4000000) only [↓ur_skip, ↓ur_seq, ↓ur_block, ↓ur_region, ↓ur_cond, ↓cont_seq, ↓cont_blk, ↓cont_lp, ↓ops_consN, ↓ops_guardN, nY_move, nY_assign, nY_pick, nY_alloc, nY_load, nY_store, nY_binOp, nilO_tmp, nilO_int, nY_fieldAddr, nY_indexAddr, nY_extract, nY_callf, ↓ops_nil, opsIf_some, opsIf_none, condC_true, condC_false, guardC_ft, Option.map_some, Option.bind_some, Option.getD_some, Nat.reduceLT, Bool.false_eq_true, ↓upd_same, ↓upd_ne, Nat.reduceBEq, true_and, and_true, List.getD_cons_zero, List.getD_cons_succ, List.getElem?_toArray, List.getElem?_cons_zero, List.getElem?_cons_succ, cfg_P, cfg_tab, cfg_muts, cfg_frz, cfg_num, numOf_eq, List.length_map, ↓havoc_in, ↓havoc_out, agree_upd, agree_havoc, List.contains_cons, List.contains_nil, Bool.or_false, Bool.or_true, Int.natCast_nonneg, Int.ofNat_lt, Int.toNat_natCast, decide_true, decide_false, PV.int.injEq, List.lookup_cons, List.lookup_nil, tabOf_cons, tab_v, Bool.and_true, Bool.and_self, Nat.reduceEqDiff, List.nil_append, List.append_nil, updO_same, updO_ne, List.length_cons, List.length_nil, Nat.zero_add, Nat.add_zero, List.drop_zero, List.take_zero, Nat.reduceAdd, List.set_cons_zero, Nat.reduceLeDiff, nth_zero, Nat.lt_succ_self, Bool.not_false, not_true_eq_false, not_false_eq_true, or_false, Nat.le_refl, cells_int, pur_int, pur_lits, cells_agg, pur_agg, ↓ev_tmp, ↓ev_int, ↓ev_bool, ↓ev_func, ↓guardP_eq, grd_some, ↓iop_move, ↓iop_assign, ↓pick3_bool, ↓iop_pick, ↓iop_alloc, ↓iop_load, ↓iop_store, ↓iop_binOp, ↓iop_fieldAddr, ↓iop_indexAddr, idxA_int, ↓iop_extract, extr_tuple, ↓iop_callv, tmpNo_tmp, softS_ptr, heldS_ptr, isInt1_int, isInt_agg, List.all_cons, List.all_nil, nrmAll_cons, nrmAll_nil, nrm_agg, nrmL_cons, nrmL_nil, nrm_int, nrm_lits, nrm1_int, nrm1_lits, pickP_f, pickP_t, loadP_vptr, loadP_ptr, setCells_agg, storeP_ptr, fieldP_ptr, indexP_lits, indexP_ref, b_add, b_neq, b_lss, b_leq, splice_eq, env0_eq, valT_eq, pursL_cons, pursL_nil, Store.new, Store.set, ↓reduceIte, arr_eq, arrB_some, callP_eq, tsOf_eq, beq_eq_false_iff_ne, ne_eq, List.take_succ_cons, List.drop_succ_cons, List.drop_nil, List.take_nil, ↓evs_cons, ↓evs_nil, beq_self_eq_true, List.all_cons, List.all_nil, see_eq, false_and, and_false, Bool.true_eq_false, nth_its, pur_its, nth_arcs, pur_arcs, nth_snds, pur_snds, nth_lnks, pur_lnks, lkC_len, lkC_0, lkC_1, lkC_cap, lkC_pri, lkC_take, pur_lkC, Nat.mul_one, Try.f6, ty3, ty22, ty24, ty25, ty46, ty49, h109, h11', h12, hob3, hk, hkl, hL, hwk, hlk, hnl, hlk0, hlk1, lkC_len, lkC_take, fl, n1, n2, hll, hfl, hvl', z1, z2, w2, c1, updO_updO]
    exact ⟨by omega, Nat.succ_pos _⟩
  ·have e : k = L := by omega
   rw [e] at h109 h11'
   simp +contextual (maxSteps := 4000000) only [↓ur_seq, ↓ur_exit, ↓ur_region, ↓ur_cond, ↓cont_seq, ↓cont_blk, ↓cont_lp, ↓leave_seq, ↓leave_blk, ↓leave_lp, ↓ops_consN, nY_move, nY_assign, nY_binOp, nilO_tmp, nilO_int, ↓ops_nil, opsIf_some, condC_false, Option.map_some, Nat.reduceLT, ↓upd_same, ↓upd_ne, Nat.reduceBEq, true_and, cfg_P, ↓havoc_in, ↓havoc_out, agree_upd, List.contains_cons, List.contains_nil, Bool.or_false, Bool.or_true, Int.ofNat_lt, decide_false, PV.int.injEq, Nat.lt_irrefl, Bool.not_false, ↓ev_tmp, ↓ev_int, ↓iop_move, ↓iop_assign, ↓iop_binOp, b_add, b_lss, ↓reduceIte, beq_self_eq_true, nth_its, pur_its, nth_arcs, pur_arcs, nth_snds, pur_snds, nth_lnks, pur_lnks, lkC_len, lkC_0, lkC_1, lkC_cap, lkC_pri, lkC_take, pur_lkC, Nat.mul_one, Try.f6, h109, h11', h12, w1, hL]
   refine ⟨htD, ?_, by omega, hob3, hM3⟩
   rw [agree_havoc_sub (by decide +kernel)]
   simp +contextual (maxSteps := 4000000) only [Nat.reduceBEq, agree_upd, agree_havoc, List.contains_cons, List.contains_nil, Bool.or_false, Bool.or_true, beq_self_eq_true, nth_its, pur_its, nth_arcs, pur_arcs, nth_snds, pur_snds, nth_lnks, pur_lnks, lkC_len, lkC_0, lkC_1, lkC_cap, lkC_pri, lkC_take, pur_lkC, Nat.mul_one, Try.f6]
 ·have e : t = D := by omega
  rw [e] at h12 h11
  have htd : ¬ dr + (D : Int) < dd := by omega
  simp +contextual (maxSteps := 4000000) only [↓ur_seq, ↓ur_exit, ↓ur_ret, ↓ur_region, ↓ur_cond, ↓cont_seq, ↓leave_seq, ↓leave_blk, ↓leave_lp, ↓done_nil, ↓ops_consN, ↓ops_guardN, nY_move, nY_assign, nY_pick, nY_load, nY_binOp, nilO_tmp, nilO_int, nY_fieldAddr, nY_extract, nY_callf, ↓ops_nil, opsIf_some, condC_false, guardC_tt, Option.map_some, Option.bind_some, Option.getD_some, Nat.reduceLT, Bool.false_eq_true, ↓upd_same, ↓upd_ne, Nat.reduceBEq, and_true, List.getD_cons_zero, List.getD_cons_succ, List.getElem?_toArray, List.getElem?_cons_zero, List.getElem?_cons_succ, endQ, cfg_P, cfg_tab, cfg_muts, cfg_frz, ↓havoc_in, ↓havoc_out, List.contains_cons, List.contains_nil, Bool.or_false, Bool.or_true, decide_true, decide_false, Option.some.injEq, exists_eq_left', List.lookup_cons, List.lookup_nil, tabOf_cons, tab_v, Bool.and_self, Nat.reduceEqDiff, List.nil_append, List.append_nil, List.length_cons, List.length_nil, Nat.zero_add, List.drop_zero, Nat.reduceAdd, Nat.lt_succ_self, Bool.not_false, Nat.le_refl, pur_int, pur_lits, pur_agg, DRx_bool, ↓ev_tmp, ↓ev_int, ↓ev_func, ↓guardP_eq, grd_some, ↓iop_move, ↓iop_assign, ↓pick3_bool, ↓iop_pick, ↓iop_load, ↓iop_binOp, ↓iop_fieldAddr, ↓iop_extract, extr_tuple, ↓iop_callv, nrmAll_cons, nrmAll_nil, nrm_agg, nrmL_cons, nrmL_nil, nrm_lits, nrm1_int, nrm1_lits, pickP_f, pickP_t, loadP_vptr, fieldP_vptr, b_eql, b_lss, b_leq, env0_eq, ires_eq, iresL_1, iresAll_nil, iresAll_cons, iresOne_tmp, valT_eq, pursL_cons, pursL_nil, ↓reduceIte, callP_eq, tsOf_eq, List.take_succ_cons, List.take_nil, ↓evs_cons, ↓evs_nil, beq_self_eq_true, see_eq, and_false, Bool.true_eq_false, s_sanity, nth_its, pur_its, nth_arcs, pur_arcs, nth_snds, pur_snds, nth_lnks, pur_lnks, lkC_len, lkC_0, lkC_1, lkC_cap, lkC_pri, lkC_take, pur_lkC, Nat.mul_one, Try.f6, ty3, ty24, ty25, ty27, h12, h11, htd, fm, hmc]
end Sim
