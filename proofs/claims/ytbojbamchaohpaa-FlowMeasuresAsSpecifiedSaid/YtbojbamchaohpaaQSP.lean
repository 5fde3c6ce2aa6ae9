/- What functions of this seat compute, by values: contracts (lemmas of the statement's proof, under the conditions that each names). -/
import Derived.Test.YtbojbamchaohpaaQBD
import Derived.Test.YtbojbamchaohpaaQP
import Derived.Test.YtbojbamchaohpaaQH
namespace Sim
open Go Go.Proofs
set_option maxRecDepth 10000
set_option maxHeartbeats 4000000
set_option linter.unusedVariables false
set_option linter.unusedSimpArgs false
attribute [local congr] opsIf_congr condC_congr guardC_congr grd_congr pick3_congr obind_congr omap_congr
noncomputable def A_point : (Int) × (List Lnk) × (Dem) × (Int) × (Int) → List PV := fun (hn, ls, d, house, tick) => [.agg [I hn, lnks ls], demV d, I house, I tick]
noncomputable def R_point : (Int) × (List Lnk) × (Dem) × (Int) × (Int) → PV := fun (hn, ls, d, house, tick) => I ((tick - d.2.2.2.1) * hn + house)
def H_point : (Int) × (List Lnk) × (Dem) × (Int) × (Int) → Prop := fun (hn, ls, d, house, tick) => 0 ≤ tick ∧ tick ≤ 1000001 ∧ 0 ≤ d.2.2.2.1 ∧ d.2.2.2.1 ≤ 1000000 ∧ 0 ≤ hn ∧ hn ≤ 1000 ∧ 0 ≤ house ∧ house ≤ 1000
noncomputable def e_point : Nat × Ent := (46, .v (specOf A_point R_point H_point))
theorem j_point : ∀ i j, A_point i = A_point j → i = j := by
 rintro ⟨hn₁, ls₁, d₁, house₁, tick₁⟩ ⟨hn₂, ls₂, d₂, house₂, tick₂⟩ h
 simp only [A_point, List.cons.injEq, and_true, PV.lits.injEq, PV.int.injEq, PV.bool.injEq, PV.str.injEq, PV.agg.injEq, PV.func.injEq, Fn.func.injEq, PV.vptr.injEq, true_and, List.map_nil, inj_ints, inj_strs, inj_its, inj_arcs, inj_snds, inj_lnks] at h
 simp [Prod.ext_iff, h] <;> omega
theorem s_point (hn : Int) (ls : List Lnk) (d : Dem) (house : Int) (tick : Int) : specOf A_point R_point H_point [.agg [I hn, lnks ls], demV d, I house, I tick] = @ite (Option (PV)) (0 ≤ tick ∧ tick ≤ 1000001 ∧ 0 ≤ d.2.2.2.1 ∧ d.2.2.2.1 ≤ 1000000 ∧ 0 ≤ hn ∧ hn ≤ 1000 ∧ 0 ≤ house ∧ house ≤ 1000) (Classical.propDecidable _) (some (I ((tick - d.2.2.2.1) * hn + house))) none := specOf_if j_point (hn, ls, d, house, tick)
def C_point : Prop := ∀ (hn : Int) (ls : List Lnk) (d : Dem) (house : Int) (tick : Int) (h : 0 ≤ tick ∧ tick ≤ 1000001 ∧ 0 ≤ d.2.2.2.1 ∧ d.2.2.2.1 ≤ 1000000 ∧ 0 ≤ hn ∧ hn ≤ 1000 ∧ 0 ≤ house ∧ house ≤ 1000) , VC Try.prog 46 [.agg [I hn, lnks ls], demV d, I house, I tick] (I ((tick - d.2.2.2.1) * hn + house))
def O_point : Prop := EntOK Try.prog e_point.1 e_point.2
theorem k_point (c : C_point) : O_point := specOf_ok fun ⟨hn, ls, d, house, tick⟩ h => c hn ls d house tick h
theorem c_point : C_point := by
 rintro hn ls d house tick ⟨h1, h2, h3, h4, h5, h6, h7, h8⟩
 refine vc_ofU mixed (l := []) (eok_nil) [] []  Try.func46 rfl (by decide +kernel) (N := 18) rfl (by simp) rfl (by kernel_rfl) fun hs => ?_
 simp only [smallL, PV.small, List.length_map, and_true, true_and] at hs
 have w1 : IntKind.i64.wrap (tick - d.2.2.2.1) = tick - d.2.2.2.1 := wrap64 (by omega) (by omega)
 have b1 : (tick - d.2.2.2.1) * hn ≤ 1000001 * 1000 := by
  rcases Int.lt_or_le (tick - d.2.2.2.1) 0 with c | c
  ·have := Int.mul_nonpos_of_nonpos_of_nonneg (show tick - d.2.2.2.1 ≤ 0 by omega) h5
   omega
  ·exact Int.mul_le_mul (by omega) h6 h5 (by omega)
 have b2 : -(1000001 * 1000) ≤ (tick - d.2.2.2.1) * hn := by
  rcases Int.lt_or_le (tick - d.2.2.2.1) 0 with c | c
  ·have := Int.mul_le_mul (show -(tick - d.2.2.2.1) ≤ 1000001 by omega) h6 h5 (by omega)
   rw [Int.neg_mul] at this
   omega
  ·have := Int.mul_nonneg c h5
   omega
 generalize hm : (tick - d.2.2.2.1) * hn = m at *
 have w2 : IntKind.i64.wrap m = m := wrap64 (by omega) (by omega)
 have w3 : IntKind.i64.wrap (m + house) = m + house := wrap64 (by omega) (by omega)
 simp +contextual (maxSteps := 4000000) only [↓bdD, bdP, Nat.reduceLT, Nat.reduceBEq, endQ, Nat.reduceAdd, st0, ↓reduceIte, nth_its, pur_its, nth_arcs, pur_arcs, nth_snds, pur_snds, nth_lnks, pur_lnks, lkC_len, lkC_0, lkC_1, lkC_cap, lkC_pri, lkC_take, pur_lkC, Nat.mul_one, Try.f46, ty3, ty24, ty27, w1, hm, w2, w3]
theorem o_point : O_point := k_point c_point
noncomputable def A_arcs : (Int) × (List Lnk) × (List Snd) × (Dem) → List PV := fun (hn, ls, us, d) => [.agg [I hn, lnks ls], snds us, demV d]
noncomputable def R_arcs : (Int) × (List Lnk) × (List Snd) × (Dem) → List PV := fun (hn, ls, us, d) => (gA (netD hn ls us d).p (pairsM hn ls d)).map arcV
def H_arcs : (Int) × (List Lnk) × (List Snd) × (Dem) → Prop := fun (hn, ls, us, d) => fitM hn ls us = 0 ∧ demM hn d = true ∧ durM d ≤ 100
noncomputable def e_arcs : Nat × Ent := (44, .a (4) (specOf A_arcs R_arcs H_arcs))
theorem j_arcs : ∀ i j, A_arcs i = A_arcs j → i = j := by
 rintro ⟨hn₁, ls₁, us₁, d₁⟩ ⟨hn₂, ls₂, us₂, d₂⟩ h
 simp only [A_arcs, List.cons.injEq, and_true, PV.lits.injEq, PV.int.injEq, PV.bool.injEq, PV.str.injEq, PV.agg.injEq, PV.func.injEq, Fn.func.injEq, PV.vptr.injEq, true_and, List.map_nil, inj_ints, inj_strs, inj_its, inj_arcs, inj_snds, inj_lnks] at h
 simp [Prod.ext_iff, h] <;> omega
theorem s_arcs (hn : Int) (ls : List Lnk) (us : List Snd) (d : Dem) : specOf A_arcs R_arcs H_arcs [.agg [I hn, lnks ls], snds us, demV d] = @ite (Option (List PV)) (fitM hn ls us = 0 ∧ demM hn d = true ∧ durM d ≤ 100) (Classical.propDecidable _) (some ((gA (netD hn ls us d).p (pairsM hn ls d)).map arcV)) none := specOf_if j_arcs (hn, ls, us, d)
def C_arcs : Prop := ∀ (hn : Int) (ls : List Lnk) (us : List Snd) (d : Dem) (h : fitM hn ls us = 0 ∧ demM hn d = true ∧ durM d ≤ 100) , VCA Try.prog 44 [.agg [I hn, lnks ls], snds us, demV d] (4) ((gA (netD hn ls us d).p (pairsM hn ls d)).map arcV)
def O_arcs : Prop := EntOK Try.prog e_arcs.1 e_arcs.2
theorem k_arcs (c : C_arcs) : O_arcs := specOf_okA fun ⟨hn, ls, us, d⟩ h => c hn ls us d h
theorem take_arcs {A : List Arc} {x y : PV} : List.take (A.length + 2) (A.map arcV ++ [x, y]) = A.map arcV ++ [x, y] := List.take_of_length_le (by simp)
theorem c_arcs : C_arcs := by
 rintro hn ls us d ⟨hf, hd, hD⟩
 refine vca_ofD mixed (l := [e_point, e_rleft]) ((eok_cons o_point (eok_cons o_rleft eok_nil))) [] [] 0 0 Try.func44 rfl (by decide +kernel) (N := 108) rfl (by simp) rfl (by kernel_rfl) ?_ ?_
 ·intro e he
  obtain ⟨a, _, rfl⟩ := List.mem_map.1 he
  rfl
 obtain ⟨ok, _⟩ := fit_ok hf
 obtain ⟨_, _, hr⟩ := dem_ok hd
 have hr2 := hr.2.2.1
 have hr3 := hr.2.2.2.2
 have hdu : d.2.2.2.2 = d.2.2.2.1 + (durM d : Nat) := by unfold durM; have := hr.2.2.2.1; omega
 have hh := ok.net.houses
 have hln := ok.net.len
 obtain ⟨h, hhe⟩ : ∃ h : Nat, hn = (h : Int) := ⟨hn.toNat, by omega⟩
 subst hhe
 obtain ⟨D, hDe⟩ : ∃ D, durM d = D := ⟨_, rfl⟩
 obtain ⟨L, hL⟩ : ∃ L, ls.length = L := ⟨_, rfl⟩
 have hpn : pairsM (h : Int) ls d = D * (h + L) := by unfold pairsM; rw [Int.toNat_natCast, hDe, hL]
 rw [hpn]
 have ph : ∀ t x, x < h → (netD h ls us d).p (t * (h + L) + x) = (t * h + x, (t + 1) * h + x, 1099511627776, 0) := fun t x hx => by
  rw [← hL]; exact TN.p_house (T := netD h ls us d) hx
 have pl : ∀ t k, k < L → (netD h ls us d).p (t * (h + L) + (h + k)) = (t * h + (ls.getD k dL).1.toNat, (t + 1) * h + (ls.getD k dL).2.1.toNat, capM ls (k : Int) (d.2.2.2.1 + (t : Int)) - sentT us (k : Int) (d.2.2.2.1 + (t : Int)) us.length, priM ls (k : Int) (d.2.2.2.1 + (t : Int))) := fun t k hk => by
  rw [← hL] at hk ⊢; exact TN.p_link (T := netD h ls us d) hk
 generalize (netD h ls us d).p = p at *
 rw [hDe] at hD hdu
 have hDW : D * (h + L) ≤ 7200 := Nat.le_trans (Nat.mul_le_mul hD (show h + L ≤ 72 by omega)) (by decide)
 have hpt : ∀ (t x : Nat), t ≤ D + 1 → x ≤ 1000 → specOf A_point R_point H_point [.agg [I (h : Int), lnks ls], demV d, I (x : Nat), I (d.2.2.2.1 + (t : Int))] = some (I ((t * h + x : Nat) : Int)) := fun t x ht hx => by
  have := s_point (hn := (h : Int)) (ls := ls) (d := d) (house := (x : Nat)) (tick := d.2.2.2.1 + (t : Int))
  rw [if_pos ⟨by omega, by omega, by omega, by omega, by omega, by omega, by omega, by omega⟩] at this
  rw [this, show d.2.2.2.1 + (t : Int) - d.2.2.2.1 = (t : Int) by omega]
  congr 2
 have hgl := fun j => gA_len (p := p) (n := j)
 have hgs : ∀ j, gA p (j + 1) = addA (gA p j) (p j).1 (p j).2.1 (p j).2.2.1 (p j).2.2.2 := fun j => rfl
 simp +contextual (maxSteps := 4000000) only [↓bdD, bdP, Nat.reduceLT, Nat.reduceBEq, Nat.reduceAdd, ↓reduceIte, e_point, e_rleft, nth_its, pur_its, nth_arcs, pur_arcs, nth_snds, pur_snds, nth_lnks, pur_lnks, lkC_len, lkC_0, lkC_1, lkC_cap, lkC_pri, lkC_take, pur_lkC, Nat.mul_one, Try.f44, ty3, ty27]
 refine loop_cnt [7, 8, 9, 10, 11, 12, 13, 14, 15, 16, 19, 20, 21, 22, 23, 24, 25, 26, 27, 28, 29, 30, 31, 32, 33, 34, 35, 36, 37, 38, 39, 40, 41, 42, 43, 44, 45, 46, 47, 48, 49, 50, 51, 52, 53, 54, 55, 56, 57, 58, 59, 60, 61, 62, 63, 64, 65, 66, 67, 68, 69, 70, 71, 72, 73, 74, 75, 76, 77, 78, 79, 80, 81, 82, 83, 84, 85, 86, 87, 88, 89, 90, 91, 92, 93, 94, 95, 96, 97, 98, 99, 100, 101, 102, 103, 104, 105, 106] D (fun t ρ st' => ρ 8 = I (d.2.2.2.1 + (t : Int)) ∧ GS st' (ρ 7) 0 4 ((gA p (t * (h + L))).map arcV)) (.slot _ 7 4 ?_ ?_) ?_ ?_
 ·simp +contextual (maxSteps := 4000000) only [↓bdD, bdP, Nat.reduceBEq, nth_its, pur_its, nth_arcs, pur_arcs, nth_snds, pur_snds, nth_lnks, pur_lnks, lkC_len, lkC_0, lkC_1, lkC_cap, lkC_pri, lkC_take, pur_lkC, Nat.mul_one, Try.f44]
 ·decide
 ·simp +contextual (maxSteps := 4000000) only [↓bdD, bdP, Nat.reduceBEq, Store.new, nth_its, pur_its, nth_arcs, pur_arcs, nth_snds, pur_snds, nth_lnks, pur_lnks, lkC_len, lkC_0, lkC_1, lkC_cap, lkC_pri, lkC_take, pur_lkC, Nat.mul_one, Try.f44]
  rw [Nat.zero_mul]
  simp [gA]
 rintro t ρ ⟨ob, M⟩ ht ⟨h8, g, h7, ho⟩
 dsimp only at ho
 rw [List.length_map] at h7
 by_cases htD : t < D
 ·have htd : d.2.2.2.1 + (t : Int) < d.2.2.2.2 := by omega
  have hle : (t + 1) * (h + L) ≤ D * (h + L) := Nat.mul_le_mul_right _ (by omega)
  have hs1 : (t + 1) * (h + L) = t * (h + L) + (h + L) := Nat.succ_mul _ _
  have w1 : IntKind.i64.wrap (d.2.2.2.1 + (t : Int) + 1) = d.2.2.2.1 + ((t + 1 : Nat) : Int) := by rw [wrap64 (by omega) (by omega)]; omega
  simp +contextual (maxSteps := 4000000) only [↓bdD, bdP, Nat.reduceLT, Nat.reduceBEq, Nat.reduceAdd, ↓reduceIte, nth_its, pur_its, nth_arcs, pur_arcs, nth_snds, pur_snds, nth_lnks, pur_lnks, lkC_len, lkC_0, lkC_1, lkC_cap, lkC_pri, lkC_take, pur_lkC, Nat.mul_one, Try.f44, ty3, ty27, h8, htd]
  refine loop_cnt [7, 9, 10, 11, 25, 26, 27, 28, 29, 30, 31, 32, 33, 34, 35, 36, 37, 38, 39, 40, 41, 42, 43, 44, 45, 46, 47, 48, 49, 50] h (fun x ρ st' => ρ 9 = I x ∧ GS st' (ρ 7) 0 4 ((gA p (t * (h + L) + x)).map arcV)) (.refl _) ?_ ?_
  ·simp +contextual (maxSteps := 4000000) only [↓bdD, bdP, Nat.reduceBEq, nth_its, pur_its, nth_arcs, pur_arcs, nth_snds, pur_snds, nth_lnks, pur_lnks, lkC_len, lkC_0, lkC_1, lkC_cap, lkC_pri, lkC_take, pur_lkC, Nat.mul_one, Try.f44, h7, ho]
  clear h7 ho
  rintro x ρ2 ⟨ob2, M2⟩ hx ⟨h9, g2, h7, ho⟩
  dsimp only at ho
  rw [List.length_map] at h7
  by_cases hxh : x < h
  ·have wx := wrapN' (k := x) (by omega)
   have p1 := hpt t x (by omega) (by omega)
   have p2 := hpt (t + 1) x (by omega) (by omega)
   dsimp only [demV, lnks] at p1 p2
   have hst := hgs (t * (h + L) + x)
   rw [ph t x hxh] at hst
   dsimp only at hst
   have hgl := hgl (t * (h + L) + x)
   rw [show t * (h + L) + x + 1 = t * (h + L) + (x + 1) by omega] at hst
   generalize gA p (t * (h + L) + (x + 1)) = A2 at *
   generalize gA p (t * (h + L) + x) = A1 at *
   have e1 : ¬ A1.length + 2 ≤ A1.length := by omega
   have e2 : A1.length + 2 ≤ 2147483648 := by omega
   have htk := fun a b => take_arcs (A := A1) (x := a) (y := b)
   simp +contextual (maxSteps := 4000000) only [↓bdD, bdP, Nat.reduceLT, Nat.reduceBEq, Nat.reduceAdd, Nat.reduceMul, Nat.reduceLeDiff, reduceCtorEq, Store.set, ↓reduceIte, nth_its, pur_its, nth_arcs, pur_arcs, nth_snds, pur_snds, nth_lnks, pur_lnks, lkC_len, lkC_0, lkC_1, lkC_cap, lkC_pri, lkC_take, pur_lkC, Nat.mul_one, Try.f44, ty3, ty24, ty27, ty71, ty76, h8, h9, h7, ho, hxh, wx, w1, p1, p2, e1, e2, htk]
   rw [hst, addA, List.length_append, List.map_append]
   exact ⟨rfl, rfl⟩
  have e : x = h := by omega
  rw [e] at h9 h7 ho
  simp +contextual (maxSteps := 4000000) only [↓bdD, bdP, Nat.reduceLT, Nat.reduceBEq, Nat.reduceAdd, ↓reduceIte, nth_its, pur_its, nth_arcs, pur_arcs, nth_snds, pur_snds, nth_lnks, pur_lnks, lkC_len, lkC_0, lkC_1, lkC_cap, lkC_pri, lkC_take, pur_lkC, Nat.mul_one, Try.f44, ty3, ty24, h9]
  refine loop_cnt [7, 12, 13, 14, 15, 16, 51, 52, 53, 54, 55, 56, 57, 58, 59, 60, 61, 62, 63, 64, 65, 66, 67, 68, 69, 70, 71, 72, 73, 74, 75, 76, 77, 78, 79, 80, 81, 82, 83, 84, 85, 86, 87, 88, 89, 90, 91, 92, 93, 94, 95, 96, 97, 98, 99, 100, 101, 102, 103, 104, 105, 106] L (fun k ρ st' => ρ 12 = I k ∧ GS st' (ρ 7) 0 4 ((gA p (t * (h + L) + (h + k))).map arcV)) (.refl _) ?_ ?_
  ·simp +contextual (maxSteps := 4000000) only [↓bdD, bdP, Nat.reduceBEq, nth_its, pur_its, nth_arcs, pur_arcs, nth_snds, pur_snds, nth_lnks, pur_lnks, lkC_len, lkC_0, lkC_1, lkC_cap, lkC_pri, lkC_take, pur_lkC, Nat.mul_one, Try.f44, h7, ho]
  clear h7 ho
  rintro k ρ3 ⟨ob3, M3⟩ hk ⟨h12, g3, h7, ho⟩
  dsimp only at ho
  rw [List.length_map] at h7
  by_cases hkL : k < L
  ·have wk := wrapN' (k := k) (by omega)
   have hkl : k < ls.length := by omega
   have hend := ok.net.ends k hkl
   have hfs := fit_sent hf (k := (k : Int)) (t := d.2.2.2.1 + (t : Int)) ⟨by omega, by omega⟩
   have hcb := capM_le ok.net (link := (k : Int)) (tick := d.2.2.2.1 + (t : Int)) (by omega) (by omega)
   have hpb := priM_le ok.net (link := (k : Int)) (tick := d.2.2.2.1 + (t : Int)) (by omega) (by omega)
   have hlf := s_rleft (hn := (h : Int)) (ls := ls) (l := us) (link := (k : Int)) (tick := d.2.2.2.1 + (t : Int))
   have hlm : leftM (h : Int) ls us (k : Int) (d.2.2.2.1 + (t : Int)) = (capM ls (k : Int) (d.2.2.2.1 + (t : Int)) - sentT us (k : Int) (d.2.2.2.1 + (t : Int)) us.length, 0) := by
    unfold leftM
    rw [if_neg (fun g => g (right_zero.2 ok)), if_neg (by omega)]
   rw [hlm] at hlf
   have hst := hgs (t * (h + L) + (h + k))
   rw [pl t k hkL] at hst
   dsimp only at hst
   dsimp only [lnks, snds] at hlf
   have hpr : priM ls (k : Int) (d.2.2.2.1 + (t : Int)) = priA (ls.getD k dL) ((d.2.2.2.1 + (t : Int)).toNat % 24) := by unfold priM; rw [Int.toNat_natCast]
   rw [hpr] at hst hpb
   have h24 := tmod24 (t := d.2.2.2.1 + (t : Int)) (by omega)
   have hlt24 : (d.2.2.2.1 + (t : Int)).toNat % 24 < 24 := Nat.mod_lt _ (by omega)
   generalize (d.2.2.2.1 + (t : Int)).toNat % 24 = hr24 at *
   have hli24 : ((hr24 : Nat) : Int) < 24 := by omega
   have hc2 := lkC_pri (a := ls.getD k dL) hlt24
   have hnl := nth_lnks hkl
   have hlk0 := lkC_0 (a := ls.getD k dL)
   have hlk1 := lkC_1 (a := ls.getD k dL)
   have hgl := hgl (t * (h + L) + (h + k))
   rw [show t * (h + L) + (h + k) + 1 = t * (h + L) + (h + (k + 1)) by omega] at hst
   generalize gA p (t * (h + L) + (h + (k + 1))) = A2 at *
   generalize gA p (t * (h + L) + (h + k)) = A1 at *
   generalize ls.getD k dL = lk at *
   generalize capM ls (k : Int) (d.2.2.2.1 + (t : Int)) - sentT us (k : Int) (d.2.2.2.1 + (t : Int)) us.length = lf at *
   generalize priA lk hr24 = pc at *
   obtain ⟨fu, hfu⟩ : ∃ fu : Nat, lk.1 = (fu : Int) := ⟨lk.1.toNat, by omega⟩
   obtain ⟨fv, hfv⟩ : ∃ fv : Nat, lk.2.1 = (fv : Int) := ⟨lk.2.1.toNat, by omega⟩
   rw [hfu] at hlk0
   rw [hfv] at hlk1
   rw [hfu, hfv, Int.toNat_natCast, Int.toNat_natCast] at hst
   have p1 := hpt t fu (by omega) (by omega)
   have p2 := hpt (t + 1) fv (by omega) (by omega)
   dsimp only [demV, lnks] at p1 p2
   have e1 : ¬ A1.length + 2 ≤ A1.length := by omega
   have e2 : A1.length + 2 ≤ 2147483648 := by omega
   have wp : IntKind.i64.wrap (0 - pc) = -pc := by rw [wrap64 (by omega) (by omega)]; omega
   have htk := fun a b => take_arcs (A := A1) (x := a) (y := b)
   simp +contextual (maxSteps := 4000000) only [↓bdD, bdP, Nat.reduceLT, Nat.reduceBEq, Nat.reduceEqDiff, Nat.reduceAdd, Nat.reduceMul, Nat.reduceLeDiff, reduceCtorEq, Int.reduceEq, Store.set, ↓reduceIte, nth_its, pur_its, nth_arcs, pur_arcs, nth_snds, pur_snds, nth_lnks, pur_lnks, lkC_len, lkC_0, lkC_1, lkC_cap, lkC_pri, lkC_take, pur_lkC, Nat.mul_one, Try.f44, ty3, ty22, ty24, ty25, ty27, ty47, ty49, ty71, ty76, ty98, h8, h12, h7, ho, hkL, hkl, hL, wk, w1, p1, p2, e1, e2, hlf, h24, hlt24, hli24, hc2, hnl, hlk0, hlk1, wp, htk]
   rw [hst, addA, List.length_append, List.map_append]
   exact ⟨rfl, rfl⟩
  have e : k = L := by omega
  rw [e] at h12 h7 ho
  simp +contextual (maxSteps := 4000000) only [↓bdD, bdP, Nat.reduceLT, Nat.reduceBEq, Nat.reduceAdd, ↓reduceIte, nth_its, pur_its, nth_arcs, pur_arcs, nth_snds, pur_snds, nth_lnks, pur_lnks, lkC_len, lkC_0, lkC_1, lkC_cap, lkC_pri, lkC_take, pur_lkC, Nat.mul_one, Try.f44, ty22, ty24, h8, h12, h7, ho, hL, w1]
  refine ⟨htD, ?_, by rw [hs1], by rw [hs1]⟩
  rw [agree_havoc_sub (by decide +kernel)]
  simp +contextual (maxSteps := 4000000) only [↓bdD, bdP, Nat.reduceBEq, nth_its, pur_its, nth_arcs, pur_arcs, nth_snds, pur_snds, nth_lnks, pur_lnks, lkC_len, lkC_0, lkC_1, lkC_cap, lkC_pri, lkC_take, pur_lkC, Nat.mul_one, Try.f44]
  rw [agree_havoc_sub (by decide +kernel)]
  simp +contextual (maxSteps := 4000000) only [↓bdD, bdP, Nat.reduceBEq, nth_its, pur_its, nth_arcs, pur_arcs, nth_snds, pur_snds, nth_lnks, pur_lnks, lkC_len, lkC_0, lkC_1, lkC_cap, lkC_pri, lkC_take, pur_lkC, Nat.mul_one, Try.f44]
 ·have e : t = D := by omega
  rw [e] at h8 h7 ho
  have htd : ¬ d.2.2.2.1 + (D : Int) < d.2.2.2.2 := by omega
  simp +contextual (maxSteps := 4000000) only [↓bdD, bdP, Nat.reduceLT, Nat.reduceBEq, endQ, Nat.reduceAdd, reduceCtorEq, ↓reduceIte, nth_its, pur_its, nth_arcs, pur_arcs, nth_snds, pur_snds, nth_lnks, pur_lnks, lkC_len, lkC_0, lkC_1, lkC_cap, lkC_pri, lkC_take, pur_lkC, Nat.mul_one, Try.f44, ty3, ty27, h8, h7, ho, htd]
  exact ⟨_, _, rfl, ho⟩
theorem o_arcs : EntOK Try.prog e_arcs.1 e_arcs.2 := k_arcs c_arcs
end Sim
