/- What functions of this seat compute, by values: contracts (lemmas of the statement's proof, under the conditions that each names). -/
import Derived.Test.YtbojbamchaohpaaQBD
import Derived.Test.YtbojbamchaohpaaQR
namespace Sim
open Go Go.Proofs
set_option maxRecDepth 10000
set_option maxHeartbeats 4000000
set_option linter.unusedVariables false
set_option linter.unusedSimpArgs false
attribute [local congr] opsIf_congr condC_congr guardC_congr grd_congr pick3_congr obind_congr omap_congr
def dW (d : Dem) (due : Int) : Dem := (d.1, d.2.1, d.2.2.1, d.2.2.2.1, due)
noncomputable def okE (hn : Int) (ls : List Lnk) (us : List Snd) (d : Dem) (due : Int) : Bool := decide (¬ (planR hn ls us (dW d due) d.2.2.1).2 < d.2.2.1)
def fstM (f : Nat → Bool) : Nat → Nat
 | 0 => 0
 | n + 1 => if fstM f n < n then fstM f n else if f n = true then n else n + 1
theorem fstM_ok {f : Nat → Bool} : ∀ {n}, fstM f n ≤ n ∧ (∀ k, k < fstM f n → f k = false) ∧ (fstM f n < n → f (fstM f n) = true)
 | 0 => ⟨Nat.le_refl _, fun k hk => absurd hk (by simp [fstM]), fun h => absurd h (by simp [fstM])⟩
 | n + 1 => by
  obtain ⟨h1, h2, h3⟩ := fstM_ok (f := f) (n := n)
  rw [fstM]
  by_cases c : fstM f n < n
  ·rw [if_pos c]; exact ⟨by omega, h2, fun _ => h3 c⟩
  ·rw [if_neg c]
   have e : fstM f n = n := by omega
   rw [e] at h2
   by_cases c2 : f n = true
   ·rw [if_pos c2]; exact ⟨by omega, h2, fun _ => c2⟩
   ·rw [if_neg c2]
    refine ⟨Nat.le_refl _, fun k hk => ?_, fun h => absurd h (by omega)⟩
    by_cases c3 : k = n
    ·subst c3; simpa using c2
    ·exact h2 k (by omega)
theorem fstM_eq {f : Nat → Bool} {n i : Nat} (hi : i ≤ n) (h1 : ∀ k, k < i → f k = false) (h2 : i < n → f i = true) : fstM f n = i := by
 obtain ⟨g1, g2, g3⟩ := fstM_ok (f := f) (n := n)
 rcases Nat.lt_trichotomy (fstM f n) i with c | c | c
 ·have := h1 _ c
  rw [g3 (by omega)] at this; cases this
 ·exact c
 ·have := g2 _ c
  rw [h2 (by omega)] at this; cases this
theorem dW_ok {hn : Int} {d : Dem} (h : demM hn d = true) {due : Int} (h1 : d.2.2.2.1 ≤ due) (h2 : due ≤ 1000000) : demM hn (dW d due) = true := by
 obtain ⟨⟨a0, a1⟩, ⟨c0, c1⟩, hr⟩ := dem_ok h
 have e1 : hOK hn d.1 = true := by simp [hOK]; omega
 have e2 : hOK hn d.2.1 = true := by simp [hOK]; omega
 unfold demM
 rw [show (dW d due).1 = d.1 from rfl, show (dW d due).2.1 = d.2.1 from rfl, e1, e2]
 exact decide_eq_true (show demR (dW d due) from ⟨hr.1, hr.2.1, hr.2.2.1, h1, h2⟩)
theorem durW {d : Dem} {due : Int} : durM (dW d due) = (due - d.2.2.2.1).toNat := rfl
theorem okE_mono {hn : Int} {ls : List Lnk} {us : List Snd} {d : Dem} {u v : Int} (hf : fitM hn ls us = 0) (hd : demM hn d = true) (h0 : d.2.2.2.1 ≤ u) (h : u ≤ v) (h1 : v ≤ 1000000) (ho : okE hn ls us d u = true) : okE hn ls us d v = true := by
 obtain ⟨⟨a0, a1⟩, ⟨c0, c1⟩, hr⟩ := dem_ok hd
 have hb := hr.1
 have hb1 := hr.2.1
 have P := planR_ok (bytes := d.2.2.1) hf (dW_ok hd h0 (by omega)) (by omega)
 have Q := planR_ok (bytes := d.2.2.1) hf (dW_ok hd (show d.2.2.2.1 ≤ v by omega) h1) (by omega)
 unfold okE at ho ⊢
 simp only [decide_eq_true_eq] at ho ⊢
 intro hlt
 have e : (planR hn ls us (dW d u) d.2.2.1).2 = d.2.2.1 := by have := P.n1; omega
 have p := P.plan
 rw [e] at p
 have ok := netT_ok (r := d.2.2.2.1) (D := durM (dW d v)) hf
 have := TN.Plan.more (T' := netD hn ls us (dW d v)) (D' := durM (dW d v)) rfl rfl rfl rfl (fun k t _ _ => Int.le_refl _) (fun k t hk ht => ok.lf k t hk ht) (by rw [durW, durW]; omega) (by omega) p
 have := Q.max hlt _ _ (by omega) this
 omega
noncomputable def A_clo : (Int) × (List Lnk) × (List Snd) × (Dem) × (Int) × (Bool) → List PV := fun (hn, ls, us, d, due, b) => [I due, .bool b, .vptr [I d.1, I d.2.1, I d.2.2.1, I d.2.2.2.1, I d.2.2.2.2] 0, .vptr [I hn, lnks ls] 0, .vptr [snds us] 0]
noncomputable def R_clo : (Int) × (List Lnk) × (List Snd) × (Dem) × (Int) × (Bool) → PV := fun (hn, ls, us, d, due, b) => I (if okE hn ls us d due = true then 0 else -1)
def H_clo : (Int) × (List Lnk) × (List Snd) × (Dem) × (Int) × (Bool) → Prop := fun (hn, ls, us, d, due, b) => fitM hn ls us = 0 ∧ demM hn (dW d due) = true ∧ durM (dW d due) ≤ 100
noncomputable def e_clo : Nat × Ent := (31, .v (specOf A_clo R_clo H_clo))
theorem j_clo : ∀ i j, A_clo i = A_clo j → i = j := by
 rintro ⟨hn₁, ls₁, us₁, d₁, due₁, b₁⟩ ⟨hn₂, ls₂, us₂, d₂, due₂, b₂⟩ h
 simp only [A_clo, List.cons.injEq, and_true, PV.lits.injEq, PV.int.injEq, PV.bool.injEq, PV.str.injEq, PV.agg.injEq, PV.func.injEq, Fn.func.injEq, PV.vptr.injEq, true_and, List.map_nil, inj_ints, inj_strs, inj_its, inj_arcs, inj_snds, inj_lnks] at h
 simp [Prod.ext_iff, h] <;> omega
theorem s_clo (hn : Int) (ls : List Lnk) (us : List Snd) (d : Dem) (due : Int) (b : Bool) : specOf A_clo R_clo H_clo [I due, .bool b, .vptr [I d.1, I d.2.1, I d.2.2.1, I d.2.2.2.1, I d.2.2.2.2] 0, .vptr [I hn, lnks ls] 0, .vptr [snds us] 0] = @ite (Option (PV)) (fitM hn ls us = 0 ∧ demM hn (dW d due) = true ∧ durM (dW d due) ≤ 100) (Classical.propDecidable _) (some (I (if okE hn ls us d due = true then 0 else -1))) none := specOf_if j_clo (hn, ls, us, d, due, b)
def C_clo : Prop := ∀ (hn : Int) (ls : List Lnk) (us : List Snd) (d : Dem) (due : Int) (b : Bool) (h : fitM hn ls us = 0 ∧ demM hn (dW d due) = true ∧ durM (dW d due) ≤ 100) , VC Try.prog 31 [I due, .bool b, .vptr [I d.1, I d.2.1, I d.2.2.1, I d.2.2.2.1, I d.2.2.2.2] 0, .vptr [I hn, lnks ls] 0, .vptr [snds us] 0] (I (if okE hn ls us d due = true then 0 else -1))
def O_clo : Prop := EntOK Try.prog e_clo.1 e_clo.2
theorem k_clo (c : C_clo) : O_clo := specOf_ok fun ⟨hn, ls, us, d, due, b⟩ h => c hn ls us d due b h
theorem c_clo : C_clo := by
 rintro hn ls us d due b ⟨h1, h2, h3⟩
 refine vc_ofU mixed (l := [e_plan]) ((eok_cons o_plan eok_nil)) [] []  Try.func31 rfl (by decide +kernel) (N := 27) rfl (by simp) rfl (by kernel_rfl) fun hs => ?_
 simp only [smallL, PV.small, List.length_map, and_true, true_and] at hs
 obtain ⟨_, _, hr⟩ := dem_ok h2
 have hr0 : 1 ≤ d.2.2.1 := hr.1
 have hr1 : d.2.2.1 ≤ 1099511627776 := hr.2.1
 have hw : ∀ i o, updO (fun _ => none) 0 (some (.arr 0 5 [demV (dW d due)])) i = some o → i = 0 ∧ o = .arr 0 5 [demV (dW d due)] := fun i o hi => by
  simp only [updO] at hi
  by_cases c : i = 0
  ·rw [if_pos c] at hi; cases hi; exact ⟨c, rfl⟩
  ·rw [if_neg c] at hi; cases hi
 have sp := s_plan ⟨hn, ls, us, dW d due, d.2.2.1⟩ (st := ⟨updO (fun _ => none) 0 (some (.arr 0 5 [demV (dW d due)])), 1⟩) ⟨fun i o hi => (by rw [(hw i o hi).1]; exact Nat.lt_succ_self 0), fun i r hi => (by have := (hw i _ hi).2; cases this), h1, h2, h3, (by dsimp only; omega), hr1⟩
 simp only [R_plan] at sp
 unfold gP at sp
 dsimp only [netV, demV, dW] at sp
 have hok : (okE hn ls us d due = true) = ¬ (planR hn ls us (d.1, d.2.1, d.2.2.1, d.2.2.2.1, due) d.2.2.1).2 < d.2.2.1 := by simp [okE, dW]
 generalize planR hn ls us (d.1, d.2.1, d.2.2.1, d.2.2.2.1, due) d.2.2.1 = q at *
 by_cases c : q.2 < d.2.2.1
 ·rw [if_neg (by rw [hok]; exact fun g => g c)]
  simp +contextual (maxSteps := 4000000) only [↓bdD, bdP, Nat.reduceLT, Nat.reduceBEq, endQ, Nat.reduceAdd, Nat.reduceLeDiff, st0, Store.new, Store.set, ↓reduceIte, e_plan, nth_its, pur_its, nth_arcs, pur_arcs, nth_snds, pur_snds, nth_lnks, pur_lnks, lkC_len, lkC_0, lkC_1, lkC_cap, lkC_pri, lkC_take, pur_lkC, Nat.mul_one, Try.f31, ty3, ty24, ty25, ty27, sp, c, updO_updO]
 ·rw [if_pos (by rw [hok]; exact c)]
  simp +contextual (maxSteps := 4000000) only [↓bdD, bdP, Nat.reduceLT, Nat.reduceBEq, endQ, Nat.reduceAdd, Nat.reduceLeDiff, st0, Store.new, Store.set, ↓reduceIte, e_plan, nth_its, pur_its, nth_arcs, pur_arcs, nth_snds, pur_snds, nth_lnks, pur_lnks, lkC_len, lkC_0, lkC_1, lkC_cap, lkC_pri, lkC_take, pur_lkC, Nat.mul_one, Try.f31, ty3, ty24, ty25, ty27, sp, c, updO_updO]
theorem o_clo : O_clo := k_clo c_clo
structure GB where
 id : Nat
 g : Nat
 hn : Int
 ls : List Lnk
 us : List Snd
 d : Dem
def tksL (d : Dem) (n : Nat) : List Int := (List.range n).map fun k => d.2.2.2.1 + ((k : Nat) : Int)
theorem tks_at {d : Dem} {n k : Nat} (h : k < n) : nth ((tksL d n).map (PV.int .i64)) k = I (d.2.2.2.1 + (k : Int)) := by
 simp [tksL, nth, h]
theorem tks_len {d : Dem} {n : Nat} : ((tksL d n).map (PV.int .i64)).length = n := by simp [tksL]
def cloV (hn : Int) (ls : List Lnk) (us : List Snd) (d : Dem) : PV := .func (.func 31) [] [.vptr [I d.1, I d.2.1, I d.2.2.1, I d.2.2.2.1, I d.2.2.2.2] 0, .vptr [I hn, lnks ls] 0, .vptr [snds us] 0]
noncomputable def fstE (hn : Int) (ls : List Lnk) (us : List Snd) (d : Dem) : Nat := fstM (fun k => okE hn ls us d (d.2.2.2.1 + (k : Int))) (durM d + 1)
def A_bs (x : GB) : List PV := [.ref x.id x.g 0 (durM x.d + 1), .bool true, cloV x.hn x.ls x.us x.d]
def H_bs (x : GB) (st : Store) : Prop := st.obj x.id = some (.arr x.g 1 ((tksL x.d (durM x.d + 1)).map (PV.int .i64))) ∧ fitM x.hn x.ls x.us = 0 ∧ demM x.hn x.d = true ∧ durM x.d ≤ 100
noncomputable def R_bs (x : GB) (st : Store) : PV × Store := (.tuple [I (fstE x.hn x.ls x.us x.d : Nat), .bool (decide (fstE x.hn x.ls x.us x.d < durM x.d + 1))], st)
noncomputable def e_bs : Nat × Ent := (30, .x (specX A_bs H_bs R_bs))
theorem j_bs (a b : GB) (st : Store) (h : A_bs a = A_bs b) (hx : H_bs a st) (hy : H_bs b st) : R_bs a st = R_bs b st := by
 obtain ⟨i1, g1, h1, ls1, us1, ⟨df1, dt1, db1, dr1, dd1⟩⟩ := a
 obtain ⟨i2, g2, h2, ls2, us2, ⟨df2, dt2, db2, dr2, dd2⟩⟩ := b
 simp only [A_bs, cloV, List.cons.injEq, and_true, PV.func.injEq, Fn.func.injEq, PV.vptr.injEq, PV.ref.injEq, PV.int.injEq, PV.lits.injEq, inj_lnks, inj_snds, true_and] at h
 obtain ⟨_, ⟨e4, e5, e6, e7, e8⟩, ⟨e1, e2⟩, e3⟩ := h
 subst e1; subst e2; subst e3; subst e4; subst e5; subst e6; subst e7; subst e8
 rfl
theorem s_bs (x : GB) {st : Store} (h : H_bs x st) : specX A_bs H_bs R_bs [.ref x.id x.g 0 (durM x.d + 1), .bool true, cloV x.hn x.ls x.us x.d] st = some (R_bs x st) := specX_app j_bs (i := x) h
theorem u64_id {n : Nat} (h : n < 4611686018427387904) : IntKind.u64.wrap (n : Int) = (n : Int) := by
 simp [IntKind.wrap, IntKind.bits, IntKind.signed]; omega
theorem o_bs : EntOK Try.prog e_bs.1 e_bs.2 := specX_ok fun x st hx => by
 obtain ⟨id, g, hn, ls, us, d⟩ := x
 obtain ⟨ob, M⟩ := st
 unfold H_bs at hx
 dsimp only at hx
 obtain ⟨ho, hf, hd, hD⟩ := hx
 obtain ⟨_, _, hr⟩ := dem_ok hd
 have hr2 := hr.2.2.1
 have hr3 := hr.2.2.2.2
 have hdu : d.2.2.2.2 = d.2.2.2.1 + (durM d : Nat) := by unfold durM; have := hr.2.2.2.1; omega
 simp only [A_bs, R_bs]
 have hpre : ∀ k : Nat, k < durM d + 1 → demM hn (dW d (d.2.2.2.1 + (k : Int))) = true ∧ durM (dW d (d.2.2.2.1 + (k : Int))) ≤ 100 := fun k hk => ⟨dW_ok hd (by omega) (by omega), by rw [durW]; omega⟩
 have hmono : ∀ i j : Nat, i ≤ j → j < durM d + 1 → okE hn ls us d (d.2.2.2.1 + (i : Int)) = true → okE hn ls us d (d.2.2.2.1 + (j : Int)) = true := fun i j hij hj h => okE_mono hf hd (by omega) (by omega) (by omega) h
 have hfe := fun (i : Nat) (hi : i ≤ durM d + 1) h1 h2 => fstM_eq (f := fun k => okE hn ls us d (d.2.2.2.1 + (k : Int))) hi h1 h2
 have hcl := fun (k : Nat) => s_clo (hn := hn) (ls := ls) (us := us) (d := d) (due := d.2.2.2.1 + (k : Int)) (b := true)
 have hfd : fstE hn ls us d = fstM (fun k => okE hn ls us d (d.2.2.2.1 + (k : Int))) (durM d + 1) := rfl
 generalize hE : fstE hn ls us d = E at *
 have hnb : durM d + 1 ≤ 101 := by omega
 clear hdu hD
 generalize durM d + 1 = n at *
 have htl := tks_len (d := d) (n := n)
 have hta := fun k hk => tks_at (d := d) (n := n) (k := k) hk
 generalize hL : (tksL d n).map (PV.int .i64) = L at *
 unfold cloV
 refine ixc_ofD mixed (l := [e_clo]) ((eok_cons o_clo eok_nil)) [] [] 0 Try.func30 rfl (by decide +kernel) (N := 49) rfl (by simp) rfl (by kernel_rfl) ?_
 simp +contextual (maxSteps := 4000000) only [↓bdD, bdP, Nat.reduceLT, Nat.reduceBEq, ↓reduceIte, e_clo, nth_its, pur_its, nth_arcs, pur_arcs, nth_snds, pur_snds, nth_lnks, pur_lnks, lkC_len, lkC_0, lkC_1, lkC_cap, lkC_pri, lkC_take, pur_lkC, Nat.mul_one, Try.f30, ty46, ho]
 refine loop_meas [9, 10, 11, 15, 16, 17, 18, 19, 20, 21, 22, 23, 24, 25, 26, 27, 28, 29, 30, 31, 32, 33, 34] n (fun m ρ st' => ∃ i j : Nat, ρ 9 = I i ∧ ρ 10 = I j ∧ st' = ⟨ob, M⟩ ∧ i ≤ j ∧ j ≤ n ∧ j - i = m ∧ (∀ k, k < i → okE hn ls us d (d.2.2.2.1 + (k : Int)) = false) ∧ (∀ k, j ≤ k → k < n → okE hn ls us d (d.2.2.2.1 + (k : Int)) = true)) (.refl _) ?_ ?_
 ·simp +contextual (maxSteps := 4000000) only [↓bdD, bdP, Nat.reduceBEq, nth_its, pur_its, nth_arcs, pur_arcs, nth_snds, pur_snds, nth_lnks, pur_lnks, lkC_len, lkC_0, lkC_1, lkC_cap, lkC_pri, lkC_take, pur_lkC, Nat.mul_one, Try.f30]
  exact ⟨0, n, rfl, rfl, by omega, by omega, rfl, fun k hk => absurd hk (by omega), fun k hk hk2 => absurd hk2 (by omega)⟩
 rintro m ρ st' ⟨i, j, h9, h10, rfl, hij, hjn, hm, hlo, hhi⟩
 by_cases hlt : i < j
 ·have hc := hpre ((i + j) / 2) (by omega)
  have hcl := hcl ((i + j) / 2)
  rw [if_pos ⟨hf, hc.1, hc.2⟩] at hcl
  have w1 : IntKind.i64.wrap ((i : Int) + (j : Int)) = ((i + j : Nat) : Int) := by rw [wrap64 (by omega) (by omega)]; omega
  have w2 := u64_id (n := i + j) (by omega)
  have w3 : ((i + j : Nat) : Int).fdiv 2 = (((i + j) / 2 : Nat) : Int) := by
   rw [Int.fdiv_eq_ediv_of_nonneg _ (by decide)]; rfl
  have w4 : IntKind.i64.wrap (((i + j) / 2 : Nat) : Int) = (((i + j) / 2 : Nat) : Int) := wrap64 (by omega) (by omega)
  have w5 := wrapN' (k := (i + j) / 2) (by omega)
  have hta := hta ((i + j) / 2) (by omega)
  have c1 : (i + j) / 2 < n := by omega
  have g1 : i ≤ (i + j) / 2 := by omega
  have g2 : (i + j) / 2 < j := by omega
  generalize (i + j) / 2 = q at *
  have c2 : (q : Int) < (n : Int) := by omega
  by_cases hk : okE hn ls us d (d.2.2.2.1 + (q : Int)) = true
  ·rw [if_pos hk] at hcl
   simp +contextual (maxSteps := 4000000) only [↓bdD, bdP, Nat.reduceLT, Nat.reduceBEq, Nat.reduceAdd, Nat.reduceLeDiff, Int.reduceLT, Int.reduceToNat, ↓reduceIte, Int.reducePow, nth_its, pur_its, nth_arcs, pur_arcs, nth_snds, pur_snds, nth_lnks, pur_lnks, lkC_len, lkC_0, lkC_1, lkC_cap, lkC_pri, lkC_take, pur_lkC, Nat.mul_one, Try.f30, ty3, ty4, ty46, ty85, ho, h9, h10, hlt, w1, w2, w3, w4, w5, hta, htl, c1, c2, hcl]
   exact ⟨q - i, by omega, i, q, rfl, rfl, g1, by omega, rfl, hlo, fun k h1 h2 => hmono q k h1 h2 hk⟩
  ·rw [if_neg hk] at hcl
   simp +contextual (maxSteps := 4000000) only [↓bdD, bdP, Nat.reduceLT, Nat.reduceBEq, Nat.reduceAdd, Nat.reduceLeDiff, Int.reduceLT, Int.reduceToNat, ↓reduceIte, Int.reducePow, nth_its, pur_its, nth_arcs, pur_arcs, nth_snds, pur_snds, nth_lnks, pur_lnks, lkC_len, lkC_0, lkC_1, lkC_cap, lkC_pri, lkC_take, pur_lkC, Nat.mul_one, Try.f30, ty3, ty4, ty46, ty85, ho, h9, h10, hlt, w1, w2, w3, w4, w5, hta, htl, c1, c2, hcl]
   exact ⟨j - (q + 1), by omega, q + 1, j, rfl, rfl, by omega, hjn, rfl, fun k h1 => by
    cases hh : okE hn ls us d (d.2.2.2.1 + (k : Int)) with
    | false => rfl
    | true => exact absurd (hmono k q (by omega) c1 hh) hk, hhi⟩
 ·have e : i = j := by omega
  subst e
  have hEi : E = i := by rw [hfd]; exact hfe i hjn hlo (fun h => hhi i (Nat.le_refl _) h)
  rw [hEi]
  by_cases hin : i < n
  ·have hc := hpre i hin
   have hcl := hcl i
   rw [if_pos ⟨hf, hc.1, hc.2⟩, if_pos (hhi i (Nat.le_refl _) hin)] at hcl
   have hta := hta i hin
   simp +contextual (maxSteps := 4000000) only [↓bdD, bdP, Nat.reduceLT, Nat.reduceBEq, endQ, Nat.reduceAdd, ↓reduceIte, nth_its, pur_its, nth_arcs, pur_arcs, nth_snds, pur_snds, nth_lnks, pur_lnks, lkC_len, lkC_0, lkC_1, lkC_cap, lkC_pri, lkC_take, pur_lkC, Nat.mul_one, Try.f30, ty3, ty4, ty46, ho, h9, h10, Int.lt_irrefl, hta, htl, hin, hcl]
   exact Left.refl
  ·simp +contextual (maxSteps := 4000000) only [↓bdD, bdP, Nat.reduceLT, Nat.reduceBEq, endQ, ↓reduceIte, nth_its, pur_its, nth_arcs, pur_arcs, nth_snds, pur_snds, nth_lnks, pur_lnks, lkC_len, lkC_0, lkC_1, lkC_cap, lkC_pri, lkC_take, pur_lkC, Nat.mul_one, Try.f30, ho, h9, h10, Int.lt_irrefl, htl, hin]
   exact Left.refl
noncomputable def earE (hn : Int) (ls : List Lnk) (us : List Snd) (d : Dem) : Int := if fckM hn ls us d ≠ 0 then fckM hn ls us d else if fstE hn ls us d < durM d + 1 then 0 else 21
noncomputable def earN (hn : Int) (ls : List Lnk) (us : List Snd) (d : Dem) : Int := if earE hn ls us d = 0 then d.2.2.2.1 + (fstE hn ls us d : Nat) else 0
def tkF (d : Dem) (n k : Nat) : List PV := (List.range n).map fun i => if i < k then I (d.2.2.2.1 + ((i : Nat) : Int)) else I 0
theorem tkF_0 {d : Dem} {n : Nat} : tkF d n 0 = List.replicate n (I 0) := by
 refine List.ext_getElem (by simp [tkF]) fun i h1 h2 => ?_
 simp [tkF]
theorem tkF_n {d : Dem} {n : Nat} : tkF d n n = (tksL d n).map (PV.int .i64) := by
 refine List.ext_getElem (by simp [tkF, tksL]) fun i h1 h2 => ?_
 have : i < n := by simpa [tkF] using h1
 simp [tkF, tksL, this]
theorem tkF_len {d : Dem} {n k : Nat} : (tkF d n k).length = n := by simp [tkF]
theorem tkF_nth {d : Dem} {n k i : Nat} (h : i < n) : nth (tkF d n k) i = if i < k then I (d.2.2.2.1 + (i : Int)) else I 0 := by simp [tkF, nth, h]
theorem tkF_set {d : Dem} {n k : Nat} (h : k < n) : (tkF d n k).set k (I (d.2.2.2.1 + (k : Int))) = tkF d n (k + 1) := by
 refine List.ext_getElem (by simp [tkF]) fun i h1 h2 => ?_
 rw [List.getElem_set]
 by_cases c : k = i
 ·subst c; simp [tkF]
 ·rw [if_neg c]
  by_cases c2 : i < k
  ·simp [tkF, c2, show i < k + 1 by omega]
  ·simp [tkF, c2, show ¬ i < k + 1 by omega]
noncomputable def A_earl : (Int) × (List Lnk) × (List Snd) × (Dem) → List PV := fun (hn, ls, us, d) => [.agg [I hn, lnks ls], snds us, demV d]
noncomputable def R_earl : (Int) × (List Lnk) × (List Snd) × (Dem) → PV := fun (hn, ls, us, d) => .tuple [I (earN hn ls us d), I (earE hn ls us d)]
def H_earl : (Int) × (List Lnk) × (List Snd) × (Dem) → Prop := fun (hn, ls, us, d) => True
noncomputable def e_earl : Nat × Ent := (12, .v (specOf A_earl R_earl H_earl))
theorem j_earl : ∀ i j, A_earl i = A_earl j → i = j := by
 rintro ⟨hn₁, ls₁, us₁, d₁⟩ ⟨hn₂, ls₂, us₂, d₂⟩ h
 simp only [A_earl, List.cons.injEq, and_true, PV.lits.injEq, PV.int.injEq, PV.bool.injEq, PV.str.injEq, PV.agg.injEq, PV.func.injEq, Fn.func.injEq, PV.vptr.injEq, true_and, List.map_nil, inj_ints, inj_strs, inj_its, inj_arcs, inj_snds, inj_lnks] at h
 simp [Prod.ext_iff, h] <;> omega
theorem s_earl (hn : Int) (ls : List Lnk) (us : List Snd) (d : Dem) : specOf A_earl R_earl H_earl [.agg [I hn, lnks ls], snds us, demV d] = some (.tuple [I (earN hn ls us d), I (earE hn ls us d)]) := specOf_app j_earl (i := (hn, ls, us, d)) trivial
def C_earl : Prop := ∀ (hn : Int) (ls : List Lnk) (us : List Snd) (d : Dem) , VC Try.prog 12 [.agg [I hn, lnks ls], snds us, demV d] (.tuple [I (earN hn ls us d), I (earE hn ls us d)])
def O_earl : Prop := EntOK Try.prog e_earl.1 e_earl.2
theorem k_earl (c : C_earl) : O_earl := specOf_ok fun ⟨hn, ls, us, d⟩ h => c hn ls us d
theorem c_earl : C_earl := by
 intro hn ls us d
 refine vc_ofU mixed (l := [e_fcheck, e_bs]) ((eok_cons o_fcheck (eok_cons o_bs eok_nil))) [] []  Try.func12 rfl (by decide +kernel) (N := 52) rfl (by simp) rfl (by kernel_rfl) fun hs => ?_
 simp only [smallL, PV.small, List.length_map, and_true, true_and] at hs
 by_cases h1 : fckM hn ls us d = 0
 case neg =>
  have e1 : earE hn ls us d = fckM hn ls us d := by unfold earE; rw [if_pos h1]
  have e2 : earN hn ls us d = 0 := by unfold earN; rw [e1, if_neg h1]
  rw [e1, e2]
  generalize hr : fckM hn ls us d = r at *
  simp +contextual (maxSteps := 4000000) only [↓bdD, bdP, Nat.reduceLT, Nat.reduceBEq, endQ, Nat.reduceAdd, st0, ↓reduceIte, e_fcheck, s_fcheck, e_bs, nth_its, pur_its, nth_arcs, pur_arcs, nth_snds, pur_snds, nth_lnks, pur_lnks, lkC_len, lkC_0, lkC_1, lkC_cap, lkC_pri, lkC_take, pur_lkC, Nat.mul_one, Try.f12, ty24, ty25, ty27, h1, hr]
 obtain ⟨hf, hd, hD, hdu⟩ := fck_ok h1
 obtain ⟨_, _, hr⟩ := dem_ok hd
 have hr2 := hr.2.2.1
 have hr3 := hr.2.2.2.2
 have hE : earE hn ls us d = if fstE hn ls us d < durM d + 1 then 0 else 21 := by unfold earE; rw [if_neg (fun g => g h1)]
 have sb := s_bs ⟨0, 0, hn, ls, us, d⟩ (st := ⟨updO (fun _ => none) 0 (some (.arr 0 1 (tkF d (durM d + 1) (durM d + 1)))), 1⟩) ⟨by simp [updO, tkF_n], hf, hd, by dsimp only; omega⟩
 simp only [R_bs, cloV] at sb
 have w1 : IntKind.i64.wrap (d.2.2.2.2 - d.2.2.2.1) = (durM d : Int) := by rw [wrap64 (by omega) (by omega)]; omega
 have w2 := wrapN' (k := durM d) (by omega)
 have hnb : durM d + 1 ≤ 101 := by omega
 unfold earN
 generalize earE hn ls us d = ee at *
 generalize fstE hn ls us d = E at *
 generalize durM d + 1 = n at *
 have hni : (n : Int) ≤ 4294967296 := by omega
 have hF0 := tkF_0 (d := d) (n := n)
 simp +contextual (maxSteps := 4000000) only [↓bdD, bdP, Nat.reduceLT, Nat.reduceBEq, Nat.reduceAdd, st0, Store.new, ↓reduceIte, e_fcheck, s_fcheck, e_bs, nth_its, pur_its, nth_arcs, pur_arcs, nth_snds, pur_snds, nth_lnks, pur_lnks, lkC_len, lkC_0, lkC_1, lkC_cap, lkC_pri, lkC_take, pur_lkC, Nat.mul_one, Try.f12, ty3, ty24, ty25, ty27, ty46, h1, w1, w2, hni]
 refine loop_cnt [10, 29, 30, 31, 32, 33, 34, 35, 36, 37, 38, 39] n (fun k ρ st' => ρ 29 = I k ∧ st' = ⟨updO (fun _ => none) 0 (some (.arr 0 1 (tkF d n k))), 1⟩) (.refl _) ?_ ?_
 ·simp +contextual (maxSteps := 4000000) only [↓bdD, bdP, nth_its, pur_its, nth_arcs, pur_arcs, nth_snds, pur_snds, nth_lnks, pur_lnks, lkC_len, lkC_0, lkC_1, lkC_cap, lkC_pri, lkC_take, pur_lkC, Nat.mul_one, Try.f12, hF0]
 rintro k ρ st' hk ⟨h29, rfl⟩
 by_cases hlt : k < n
 ·have hwk := wrapN' (k := k) (by omega)
  have w3 : IntKind.i64.wrap (d.2.2.2.1 + (k : Int)) = d.2.2.2.1 + (k : Int) := wrap64 (by omega) (by omega)
  have hs := tkF_set (d := d) hlt
  have hl := tkF_len (d := d) (n := n) (k := k)
  have hnt := tkF_nth (d := d) (k := k) hlt
  rw [if_neg (Nat.lt_irrefl k)] at hnt
  simp +contextual (maxSteps := 4000000) only [↓bdD, bdP, Nat.reduceLT, Nat.reduceBEq, Nat.reduceAdd, Nat.reduceLeDiff, Store.set, ↓reduceIte, nth_its, pur_its, nth_arcs, pur_arcs, nth_snds, pur_snds, nth_lnks, pur_lnks, lkC_len, lkC_0, lkC_1, lkC_cap, lkC_pri, lkC_take, pur_lkC, Nat.mul_one, Try.f12, ty3, ty27, ty46, h29, hlt, hwk, w3, hs, hl, hnt, updO_updO]
 ·have e : k = n := by omega
  subst e
  have hl := tkF_len (d := d) (n := k) (k := k)
  by_cases hE2 : E < k
  ·rw [if_pos hE2] at hE
   have hnt := tkF_nth (d := d) (k := k) hE2
   rw [if_pos hE2] at hnt
   simp +contextual (maxSteps := 4000000) only [↓bdD, bdP, Nat.reduceLT, Nat.reduceBEq, endQ, Nat.reduceEqDiff, Nat.reduceAdd, ↓reduceIte, nth_its, pur_its, nth_arcs, pur_arcs, nth_snds, pur_snds, nth_lnks, pur_lnks, lkC_len, lkC_0, lkC_1, lkC_cap, lkC_pri, lkC_take, pur_lkC, Nat.mul_one, Try.f12, ty3, ty4, ty46, ty64, h29, sb, hE2, hE, hl, hnt]
  ·rw [if_neg hE2] at hE
   simp +contextual (maxSteps := 4000000) only [↓bdD, bdP, Nat.reduceLT, Nat.reduceBEq, endQ, Nat.reduceEqDiff, Nat.reduceAdd, Int.reduceEq, ↓reduceIte, nth_its, pur_its, nth_arcs, pur_arcs, nth_snds, pur_snds, nth_lnks, pur_lnks, lkC_len, lkC_0, lkC_1, lkC_cap, lkC_pri, lkC_take, pur_lkC, Nat.mul_one, Try.f12, ty4, ty46, ty64, h29, sb, hE2, hE]
theorem o_earl : O_earl := k_earl c_earl
end Sim
