/- What functions of this seat compute, by values: contracts (lemmas of the statement's proof, under the conditions that each names). -/
import Derived.Test.YtbojbamchaohpaaQBD
import Derived.Test.YtbojbamchaohpaaQSC
namespace Sim
open Go Go.Proofs
set_option maxRecDepth 10000
set_option maxHeartbeats 4000000
set_option linter.unusedVariables false
set_option linter.unusedSimpArgs false
attribute [local congr] opsIf_congr condC_congr guardC_congr grd_congr pick3_congr obind_congr omap_congr
noncomputable def flowR (hn : Int) (ls : List Lnk) (us : List Snd) (d : Dem) (bytes : Int) : List Arc × Int :=
 if d.1 = d.2.1 then (gA (netD hn ls us d).p (pairsM hn ls d), bytes)
 else specM (gA (netD hn ls us d).p (pairsM hn ls d)) (nodesM hn d) d.1.toNat (durM d * hn.toNat + d.2.1.toNat) bytes
theorem rv_int {k : Nat} : ((k : Int) + 1 - 2 * ((k % 2 : Nat) : Int)) = ((rv k : Nat) : Int) := by unfold rv; split <;> omega
noncomputable def A_flow : (Int) × (List Lnk) × (List Snd) × (Dem) × (Int) → List PV := fun (hn, ls, us, d, b) => [.agg [I hn, lnks ls], snds us, demV d, I b]
noncomputable def R_flow : (Int) × (List Lnk) × (List Snd) × (Dem) × (Int) → PV := fun (hn, ls, us, d, b) => .agg [.lits 4 ((flowR hn ls us d b).1.map arcV), I (flowR hn ls us d b).2]
def H_flow : (Int) × (List Lnk) × (List Snd) × (Dem) × (Int) → Prop := fun (hn, ls, us, d, b) => fitM hn ls us = 0 ∧ demM hn d = true ∧ durM d ≤ 100 ∧ 0 ≤ b ∧ b ≤ 1099511627776
noncomputable def e_flow : Nat × Ent := (32, .v (specOf A_flow R_flow H_flow))
theorem j_flow : ∀ i j, A_flow i = A_flow j → i = j := by
 rintro ⟨hn₁, ls₁, us₁, d₁, b₁⟩ ⟨hn₂, ls₂, us₂, d₂, b₂⟩ h
 simp only [A_flow, List.cons.injEq, and_true, PV.lits.injEq, PV.int.injEq, PV.bool.injEq, PV.str.injEq, PV.agg.injEq, PV.func.injEq, Fn.func.injEq, PV.vptr.injEq, true_and, List.map_nil, inj_ints, inj_strs, inj_its, inj_arcs, inj_snds, inj_lnks] at h
 simp [Prod.ext_iff, h] <;> omega
theorem s_flow (hn : Int) (ls : List Lnk) (us : List Snd) (d : Dem) (b : Int) : specOf A_flow R_flow H_flow [.agg [I hn, lnks ls], snds us, demV d, I b] = @ite (Option (PV)) (fitM hn ls us = 0 ∧ demM hn d = true ∧ durM d ≤ 100 ∧ 0 ≤ b ∧ b ≤ 1099511627776) (Classical.propDecidable _) (some (.agg [.lits 4 ((flowR hn ls us d b).1.map arcV), I (flowR hn ls us d b).2])) none := specOf_if j_flow (hn, ls, us, d, b)
def C_flow : Prop := ∀ (hn : Int) (ls : List Lnk) (us : List Snd) (d : Dem) (b : Int) (h : fitM hn ls us = 0 ∧ demM hn d = true ∧ durM d ≤ 100 ∧ 0 ≤ b ∧ b ≤ 1099511627776) , VC Try.prog 32 [.agg [I hn, lnks ls], snds us, demV d, I b] (.agg [.lits 4 ((flowR hn ls us d b).1.map arcV), I (flowR hn ls us d b).2])
def O_flow : Prop := EntOK Try.prog e_flow.1 e_flow.2
theorem k_flow (c : C_flow) : O_flow := specOf_ok fun ⟨hn, ls, us, d, b⟩ h => c hn ls us d b h
theorem c_flow : C_flow := by
 rintro hn ls us d b ⟨hf, hd, hD, hb0, hb1⟩
 refine vc_ofU mixed (l := [e_arcs, e_point, e_chp]) ((eok_cons o_arcs (eok_cons o_point (eok_cons o_chp eok_nil)))) [50, 57] []  Try.func32 rfl (by decide +kernel) (N := 132) rfl (by simp) rfl (by kernel_rfl) fun hs => ?_
 simp only [smallL, PV.small, List.length_map, and_true, true_and] at hs
 have sa := s_arcs hn ls us d
 rw [if_pos ⟨hf, hd, hD⟩] at sa
 obtain ⟨⟨a0, a1⟩, ⟨c0, c1⟩, hr⟩ := dem_ok hd
 obtain ⟨okr, _⟩ := fit_ok hf
 have hh := okr.net.houses
 have hln := okr.net.len
 have hr2 := hr.2.2.1
 have hr3 := hr.2.2.2.2
 have hdu : d.2.2.2.2 = d.2.2.2.1 + (durM d : Nat) := by unfold durM; have := hr.2.2.2.1; omega
 have hnn : ((hn.toNat : Nat) : Int) = hn := by omega
 have ok := netT_ok (r := d.2.2.2.1) (D := durM d) hf
 have hpo : PrOK (netD hn ls us d).p (nodesM hn d) (pairsM hn ls d) := TN.p_ok ok
 have hNb : nodesM hn d ≤ 1212 := Nat.le_trans (Nat.mul_le_mul (show durM d + 1 ≤ 101 by omega) (show hn.toNat ≤ 12 by omega)) (by decide)
 have hnb : pairsM hn ls d ≤ 7200 := Nat.le_trans (Nat.mul_le_mul hD (show hn.toNat + ls.length ≤ 72 by omega)) (by decide)
 have hAl := gA_len (p := (netD hn ls us d).p) (n := pairsM hn ls d)
 have hNe : ((durM d : Int) + 1) * hn = (nodesM hn d : Nat) := by
  show _ = (((durM d + 1) * hn.toNat : Nat) : Int)
  rw [Int.natCast_mul, hnn]; rfl
 have w1 : IntKind.i64.wrap (d.2.2.2.2 - d.2.2.2.1) = (durM d : Int) := by rw [wrap64 (by omega) (by omega)]; omega
 have w2 : IntKind.i64.wrap ((durM d : Int) + 1) = (durM d : Int) + 1 := wrap64 (by omega) (by omega)
 have w3 : IntKind.i64.wrap ((nodesM hn d : Nat) : Int) = ((nodesM hn d : Nat) : Int) := wrap64 (by omega) (by omega)
 by_cases e : d.1 = d.2.1
 ·have hF : flowR hn ls us d b = (gA (netD hn ls us d).p (pairsM hn ls d), b) := by unfold flowR; rw [if_pos e]
  rw [hF]
  dsimp only [demV, lnks, snds] at sa
  rw [e] at sa
  generalize gA (netD hn ls us d).p (pairsM hn ls d) = A at *
  have htk : List.take A.length (A.map arcV) = A.map arcV := List.take_of_length_le (by rw [List.length_map]; exact Nat.le_refl _)
  simp +contextual (maxSteps := 4000000) only [↓bdD, bdP, Nat.reduceLT, Nat.reduceBEq, endQ, Nat.reduceAdd, Nat.reduceLeDiff, st0, Store.new, Store.set, ↓reduceIte, e_arcs, e_point, e_chp, nth_its, pur_its, nth_arcs, pur_arcs, nth_snds, pur_snds, nth_lnks, pur_lnks, lkC_len, lkC_0, lkC_1, lkC_cap, lkC_pri, lkC_take, pur_lkC, Nat.mul_one, Try.f32, ty3, ty24, ty25, ty27, ty73, sa, w1, w2, hNe, w3, e, htk]
 obtain ⟨u, hu⟩ : ∃ u : Nat, d.1 = (u : Int) := ⟨d.1.toNat, by omega⟩
 obtain ⟨v, hv⟩ : ∃ v : Nat, d.2.1 = (v : Int) := ⟨d.2.1.toNat, by omega⟩
 have hs : d.1.toNat < nodesM hn d := by
  have := TN.node_lt (T := netD hn ls us d) (D := durM d) (t := 0) (by omega) (show d.1.toNat < hn.toNat by omega)
  rw [Nat.zero_mul, Nat.zero_add] at this
  exact this
 have ht : durM d * hn.toNat + d.2.1.toNat < nodesM hn d := TN.node_lt (T := netD hn ls us d) (Nat.le_refl _) (show d.2.1.toNat < hn.toNat by omega)
 have hst : d.1.toNat ≠ durM d * hn.toNat + d.2.1.toNat := fun g => by
  have := (TN.src_eq (T := netD hn ls us d) (t := durM d) (show d.1.toNat < hn.toNat by omega) (show d.2.1.toNat < hn.toNat by omega)).1 g
  omega
 have hsi := (gA_si hpo hs ht hst).sb
 have hF : flowR hn ls us d b = specM (gA (netD hn ls us d).p (pairsM hn ls d)) (nodesM hn d) d.1.toNat (durM d * hn.toNat + d.2.1.toNat) b := by unfold flowR; rw [if_neg e]
 have hR := specM_R (bytes := b) hsi
 rw [← hF] at hR
 have hcap0 : ∀ i, (fnA (gA (netD hn ls us d).p (pairsM hn ls d)) (nodesM hn d) d.1.toNat (durM d * hn.toNat + d.2.1.toNat)).cap i ≤ 1099511627776 := fun i => by
  show aL _ (2 * i) + aL _ (2 * i + 1) ≤ _
  by_cases c : i < pairsM hn ls d
  ·rw [gA_L c, gA_L1 c]
   obtain ⟨t, ht', ⟨x, hx, rfl⟩ | ⟨k, hk, rfl⟩⟩ := TN.house_of (T := netD hn ls us d) (D := durM d) ok.h1 c
   ·rw [TN.p_house hx]; show (1099511627776 : Int) + 0 ≤ 1099511627776; decide
   ·rw [TN.p_link hk]
    have hk' : k < ls.length := hk
    have q1 := fit_sent hf (k := (k : Int)) (t := d.2.2.2.1 + (t : Int)) ⟨by omega, by omega⟩
    have q2 := capM_le okr.net (link := (k : Int)) (tick := d.2.2.2.1 + (t : Int)) (by omega) (by omega)
    show capM ls (k : Int) (d.2.2.2.1 + (t : Int)) - sentT us (k : Int) (d.2.2.2.1 + (t : Int)) us.length + 0 ≤ _
    omega
  ·unfold aL
   rw [List.getD_eq_getElem?_getD, List.getElem?_eq_none (by omega), List.getD_eq_getElem?_getD, List.getElem?_eq_none (by omega)]; decide
 have p1 : specOf A_point R_point H_point [.agg [I hn, lnks ls], demV d, I d.1, I d.2.2.2.1] = some (I ((d.1.toNat : Nat) : Int)) := by
  have := s_point (hn := hn) (ls := ls) (d := d) (house := d.1) (tick := d.2.2.2.1)
  rw [if_pos ⟨by omega, by omega, by omega, by omega, by omega, by omega, by omega, by omega⟩] at this
  rw [this, Int.sub_self, Int.zero_mul, Int.zero_add]
  congr 2
  omega
 have p2 : specOf A_point R_point H_point [.agg [I hn, lnks ls], demV d, I d.2.1, I d.2.2.2.2] = some (I ((durM d * hn.toNat + d.2.1.toNat : Nat) : Int)) := by
  have := s_point (hn := hn) (ls := ls) (d := d) (house := d.2.1) (tick := d.2.2.2.2)
  rw [if_pos ⟨by omega, by omega, by omega, by omega, by omega, by omega, by omega, by omega⟩] at this
  rw [this, show d.2.2.2.2 - d.2.2.2.1 = (durM d : Int) by omega]
  congr 2
  rw [Int.natCast_add, Int.natCast_mul, hnn]
  omega
 dsimp only [demV, lnks, snds] at sa p1 p2
 clear hF
 obtain ⟨AE, hAE⟩ : ∃ x, (flowR hn ls us d b).1 = x := ⟨_, rfl⟩
 obtain ⟨rE, hrE⟩ : ∃ x, (flowR hn ls us d b).2 = x := ⟨_, rfl⟩
 rw [hAE, hrE] at hR ⊢
 clear hAE hrE
 obtain ⟨m, hm⟩ : ∃ m, pairsM hn ls d = m := ⟨_, rfl⟩
 rw [hm] at hsi hR hcap0 hAl hnb sa
 generalize gA (netD hn ls us d).p m = A at *
 generalize nodesM hn d = N at *
 generalize durM d * hn.toNat + d.2.1.toNat = t at *
 generalize hs' : d.1.toNat = s at *
 have e' : ¬ (u : Int) = (v : Int) := by rw [← hu, ← hv]; exact e
 rw [hu] at p1 sa p2
 rw [hv] at p2 sa p1
 simp +contextual (maxSteps := 4000000) only [↓bdD, bdP, Nat.reduceLT, Nat.reduceBEq, Nat.reduceAdd, st0, Store.new, ↓reduceIte, e_arcs, e_point, e_chp, nth_its, pur_its, nth_arcs, pur_arcs, nth_snds, pur_snds, nth_lnks, pur_lnks, lkC_len, lkC_0, lkC_1, lkC_cap, lkC_pri, lkC_take, pur_lkC, Nat.mul_one, Try.f32, ty3, ty24, ty25, ty27, ty73, sa, w1, w2, hNe, w3, hu, hv, e']
 refine loop_meas [11, 12, 13, 14, 15, 16, 17, 39, 40, 41, 42, 43, 44, 45, 46, 47, 48, 49, 50, 51, 52, 53, 54, 55, 56, 57, 58, 59, 60, 61, 62, 63, 64, 65, 66, 67, 68, 69, 70, 71, 72, 73, 74, 75, 76, 77, 78, 79, 80, 81, 82, 83, 84, 85, 86, 87, 88, 89, 90, 91, 92, 93, 94, 95, 96, 97, 98, 99, 100, 101, 102, 103, 104, 105, 106, 107, 108, 109, 110, 111, 112, 113, 114, 115, 116, 117, 118, 119, 120, 121, 122, 123, 124, 125, 126, 127, 128] b.toNat (fun μ ρ st' => ∃ A' sent O nx, ρ 11 = I sent ∧ st' = ⟨O, nx⟩ ∧ 2 ≤ nx ∧ O 0 = some (.arr 0 2 [.agg [.nils, I 0]]) ∧ O 1 = some (.arr 0 4 (A'.map arcV)) ∧ SB A' N m s t sent ∧ A'.length = 2 * m ∧ sent ≤ b ∧ (b - sent).toNat = μ ∧ fnA A' N s t = fnA A N s t ∧ 0 ≤ sent ∧ SpecR N s t b A' sent AE rE) (.refl _) ?_ ?_
 ·simp +contextual (maxSteps := 4000000) only [↓bdD, bdP, Nat.reduceBEq, nth_its, pur_its, nth_arcs, pur_arcs, nth_snds, pur_snds, nth_lnks, pur_lnks, lkC_len, lkC_0, lkC_1, lkC_cap, lkC_pri, lkC_take, pur_lkC, Nat.mul_one, Try.f32]
  exact ⟨A, 0, _, _, rfl, rfl, by omega, by simp [updO], by simp [updO], hsi, hAl, hb0, by rw [Int.sub_zero], rfl, Int.le_refl _, hR⟩
 rintro μ ρ st' ⟨A', sent, O, nx, r11, rfl, hnx, hO0, hO1, hS, hl, hsb, hμ, hfn, hs0, hR⟩
 have x0 : ¬ 0 = nx := by omega
 have x1 : ¬ 1 = nx := by omega
 have x2 : ¬ nx = 0 := by omega
 have x3 : ¬ nx = 1 := by omega
 have htk : List.take (2 * m) (A'.map arcV) = A'.map arcV := List.take_of_length_le (by rw [List.length_map]; omega)
 by_cases hlt : sent < b
 ·have sp := s_chp ⟨1, 0, A', N, s, t⟩ (ob := O) ⟨hO1, ⟨m, sent, hS⟩, by dsimp only; omega, by dsimp only; omega⟩
  have hRp : R_chp ⟨1, 0, A', N, s, t⟩ = if (finB A' N s).known.getD t false = true then .agg [.lits 1 (natsV (pathB A' N s t)), .bool true] else .agg [.nils, .bool false] := rfl
  rw [hRp] at sp
  clear hRp
  dsimp only at sp
  rw [hl] at sp
  cases hd : (finB A' N s).known.getD t false with
  | false =>
   have hh : A' = AE ∧ sent = rE := by
    cases hR with
    | full _ _ g => exact absurd hlt g
    | stop => exact ⟨rfl, rfl⟩
    | step _ _ _ _ _ g => rw [hd] at g; cases g
   rw [hd, if_neg (by simp)] at sp
   simp +contextual (maxSteps := 4000000) only [↓bdD, bdP, Nat.reduceLT, Nat.reduceBEq, endQ, Nat.reduceEqDiff, Nat.reduceAdd, Nat.reduceLeDiff, Store.new, Store.set, ↓reduceIte, nth_its, pur_its, nth_arcs, pur_arcs, nth_snds, pur_snds, nth_lnks, pur_lnks, lkC_len, lkC_0, lkC_1, lkC_cap, lkC_pri, lkC_take, pur_lkC, Nat.mul_one, Try.f32, ty3, ty4, ty24, ty27, ty71, ty73, ty88, r11, hlt, sp, p1, p2, hu, hv, hAl, hO0, hO1, x0, x1, x2, x3, htk]
   exact ⟨⟨by omega, by rw [hh.1]⟩, hh.2⟩
  | true =>
   rw [hd, if_pos rfl] at sp
   obtain ⟨hS2, hp0, hp1⟩ := spec_one hS hlt hd
   have hR2 : SpecR N s t b (aug A' (pushM A' (b - sent) (pathB A' N s t)) (pathB A' N s t)) (sent + pushM A' (b - sent) (pathB A' N s t)) AE rE := by
    cases hR with
    | full _ _ g => exact absurd hlt g
    | stop _ _ _ g => rw [hd] at g; cases g
    | step _ _ _ _ _ _ g => exact g
   have hpo := (pathB_ok hS ((known_iff hS).1 hd)).1
   have hfn2 := fn_aug_eq (N := N) (s := s) (t := t) (p := pushM A' (b - sent) (pathB A' N s t)) hS.wp (P := pathB A' N s t) (fun k hk => by have := (hpo.arc k hk).1; rw [← hS.wp.len]; exact this)
   obtain ⟨P, hP⟩ : ∃ P, pathB A' N s t = P := ⟨_, rfl⟩
   rw [hP] at sp hS2 hp0 hp1 hR2 hpo hfn2
   have hw0 : IntKind.i64.wrap (b - sent) = b - sent := wrap64 (by omega) (by omega)
   have hcap : ∀ j, j < A'.length → 0 ≤ aL A' j ∧ aL A' j ≤ 1099511627776 := fun j hj => by
    rw [hS.wp.len] at hj
    have n0 := hS.wp.nn j hj
    have n1 := hS.wp.nn (2 * (j / 2)) (by omega)
    have n2 := hS.wp.nn (2 * (j / 2) + 1) (by omega)
    have := hcap0 (j / 2)
    rw [← hfn] at this
    have this : aL A' (2 * (j / 2)) + aL A' (2 * (j / 2) + 1) ≤ 1099511627776 := this
    refine ⟨n0, ?_⟩
    rcases Nat.mod_two_eq_zero_or_one j with h | h
    ·rw [show 2 * (j / 2) = j by omega] at this n1 n2
     omega
    ·rw [show 2 * (j / 2) + 1 = j by omega] at this n2
     omega
   have hPN : P.length ≤ 100000 := by
    have := nodup_le' N (P.map (aT A')) hpo.nd (fun x hx => by
     obtain ⟨k, hk, rfl⟩ := List.mem_map.1 hx
     exact (hS.ar k (hpo.arc k hk).1).2)
    rw [List.length_map] at this
    omega
   have hnPl : (natsV P).length = P.length := nats_len
   have hmemP : ∀ k, k < P.length → P.getD k 0 ∈ P := fun k hk => by
    have e : P.getD k 0 = P[k] := by simp [hk]
    rw [e]; exact List.getElem_mem _
   obtain ⟨X, hX⟩ : ∃ X, IObj.arr 0 2 [.agg [.lits 1 (natsV P), .bool true]] = X := ⟨_, rfl⟩
   simp +contextual (maxSteps := 4000000) only [↓bdD, bdP, Nat.reduceLT, Nat.reduceBEq, Nat.reduceEqDiff, Nat.reduceAdd, Store.new, Store.set, ↓reduceIte, nth_its, pur_its, nth_arcs, pur_arcs, nth_snds, pur_snds, nth_lnks, pur_lnks, lkC_len, lkC_0, lkC_1, lkC_cap, lkC_pri, lkC_take, pur_lkC, Nat.mul_one, Try.f32, ty3, ty4, ty24, ty27, ty71, ty88, r11, hlt, sp, p1, p2, hu, hv, hAl, hO0, hO1, x0, x1, x2, x3, hw0]
   refine loop_cnt [13, 14, 68, 69, 70, 71, 72, 73, 74, 75, 76, 77, 78, 79, 80, 81, 82, 83, 84, 85] P.length (fun k ρ st' => ρ 14 = I k ∧ ρ 13 = I (pushM A' (b - sent) (P.take k)) ∧ st' = ⟨updO O nx (some X), nx + 1⟩) (.refl _) ?_ ?_
   ·simp +contextual (maxSteps := 4000000) only [↓bdD, bdP, Nat.reduceBEq, nth_its, pur_its, nth_arcs, pur_arcs, nth_snds, pur_snds, nth_lnks, pur_lnks, lkC_len, lkC_0, lkC_1, lkC_cap, lkC_pri, lkC_take, pur_lkC, Nat.mul_one, Try.f32, hX, updO_updO]
    rfl
   rintro k ρ5 st' hk ⟨h14, h13, rfl⟩
   by_cases hkl : k < P.length
   ·have hwk := wrapN' (k := k) (by omega)
    have hnk := nth_nats hkl
    have hj := (hpo.arc _ (hmemP k hkl)).1
    have hps := push_succ (A := A') (b := b - sent) hkl
    have haL : (A'.getD (P.getD k 0) dA).2.2.1 = aL A' (P.getD k 0) := rfl
    generalize P.getD k 0 = j at *
    have hnA := nth_arcs hj
    rw [haL] at hnA
    rw [hl] at hj
    subst hX
    simp +contextual (maxSteps := 4000000) only [↓bdD, bdP, Nat.reduceLT, Nat.reduceBEq, Nat.reduceAdd, ↓reduceIte, nth_its, pur_its, nth_arcs, pur_arcs, nth_snds, pur_snds, nth_lnks, pur_lnks, lkC_len, lkC_0, lkC_1, lkC_cap, lkC_pri, lkC_take, pur_lkC, Nat.mul_one, Try.f32, ty3, ty46, ty71, ty76, ty88, h14, h13, hkl, hwk, hnk, hnPl, hnA, hj, hl, hAl, hO0, hO1, x0, x1, x2, x3]
    exact hps.symm
   have e2 : P.length = k := by omega
   subst e2
   rw [List.take_length] at h13
   obtain ⟨p, hpp⟩ : ∃ p, pushM A' (b - sent) P = p := ⟨_, rfl⟩
   rw [hpp] at h13 hS2 hp0 hp1 hR2 hfn2
   subst hX
   simp +contextual (maxSteps := 4000000) only [↓bdD, bdP, Nat.reduceLT, Nat.reduceBEq, Nat.reduceAdd, ↓reduceIte, nth_its, pur_its, nth_arcs, pur_arcs, nth_snds, pur_snds, nth_lnks, pur_lnks, lkC_len, lkC_0, lkC_1, lkC_cap, lkC_pri, lkC_take, pur_lkC, Nat.mul_one, Try.f32, ty46, ty88, h14, h13, hnPl, x0, x1, x2, x3]
   refine loop_cnt [15, 16, 17, 86, 87, 88, 89, 90, 91, 92, 93, 94, 95, 96, 97, 98, 99, 100, 101, 102, 103, 104, 105, 106, 107, 108, 109, 110, 111, 112, 113, 114, 115, 116, 117, 118, 119, 120, 121, 122, 123, 124, 125] P.length (fun k ρ st' => ρ 15 = I k ∧ ∃ O2, st' = ⟨O2, nx + 1⟩ ∧ O2 0 = some (.arr 0 2 [.agg [.nils, I 0]]) ∧ O2 1 = some (.arr 0 4 ((aug A' p (P.take k)).map arcV)) ∧ O2 nx = some (.arr 0 2 [.agg [.lits 1 (natsV P), .bool true]])) (.refl _) ?_ ?_
   ·simp +contextual (maxSteps := 4000000) only [↓bdD, bdP, nth_its, pur_its, nth_arcs, pur_arcs, nth_snds, pur_snds, nth_lnks, pur_lnks, lkC_len, lkC_0, lkC_1, lkC_cap, lkC_pri, lkC_take, pur_lkC, Nat.mul_one, Try.f32, hO0, hO1, x0, x1, x2, x3]
    exact ⟨_, rfl, by simp [updO, x0, hO0], by simp [updO, x1, hO1]; rfl, by simp [updO]⟩
   clear hO0 hO1
   rintro k ρ6 st' hk2 ⟨h15, O2, rfl, hO0, hO1, hOn⟩
   have hal : ∀ k, (aug A' p (P.take k)).length = 2 * m := fun k => by rw [aug_len, hl]
   by_cases hkl2 : k < P.length
   ·have hwk := wrapN' (k := k) (by omega)
    have hnk := nth_nats hkl2
    have hj := (hpo.arc _ (hmemP k hkl2)).1
    have has := aug_succ (A := A') (p := p) hkl2
    have hbd : ∀ x, x < A'.length → -300000000000000000 ≤ aL (aug A' p (P.take k)) x ∧ aL (aug A' p (P.take k)) x ≤ 300000000000000000 := fun x hx => by
     rw [aug_L hS.wp.len (fun y hy => by have := (hpo.arc y (List.mem_of_mem_take hy)).1; rw [← hS.wp.len]; exact this)]
     have q1 := hcap x hx
     have q2 := mul_bnd (p := p) (n := (P.take k).count x) (by omega) (by omega) (Nat.le_trans List.count_le_length (by rw [List.length_take]; omega))
     have q3 := mul_bnd (p := p) (n := (P.take k).count (rv x)) (by omega) (by omega) (Nat.le_trans List.count_le_length (by rw [List.length_take]; omega))
     omega
    have hAkl := hal k
    generalize aug A' p (P.take k) = Ak at *
    clear hal
    generalize P.getD k 0 = j at *
    have hrj : rv j < A'.length := by rw [hS.wp.len] at hj ⊢; exact rv_lt hj
    have hb1 := hbd _ hj
    have hb2 := hbd _ hrj
    rw [hl] at hj hrj
    have hne := rv_ne (k := j)
    have w5 : IntKind.i64.wrap ((j : Int) + 1) = (j : Int) + 1 := wrap64 (by omega) (by omega)
    have w6 : (j : Int).tmod 2 = ((j % 2 : Nat) : Int) := by rw [Int.tmod_eq_emod_of_nonneg (by omega)]; omega
    have w7 : IntKind.i64.wrap (2 * ((j % 2 : Nat) : Int)) = 2 * ((j % 2 : Nat) : Int) := wrap64 (by omega) (by omega)
    have w8 : IntKind.i64.wrap ((j : Int) + 1 - 2 * ((j % 2 : Nat) : Int)) = ((rv j : Nat) : Int) := by rw [wrap64 (by omega) (by omega)]; exact rv_int
    have hnA := nth_arcs (l := Ak) (k := j) (by omega)
    have hA1l : (addL Ak j (-p)).length = 2 * m := by rw [addL_len, hAkl]
    have hnA1 := nth_arcs (l := addL Ak j (-p)) (k := rv j) (by omega)
    have hLr : aL (addL Ak j (-p)) (rv j) = aL Ak (rv j) := by rw [addL_L (by omega), if_neg hne]
    have w1 : IntKind.i64.wrap ((Ak.getD j dA).2.2.1 - p) = (Ak.getD j dA).2.2.1 + -p := by
     have : (Ak.getD j dA).2.2.1 = aL Ak j := rfl
     rw [this, wrap64 (by omega) (by omega)]; omega
    have w2 : IntKind.i64.wrap (((addL Ak j (-p)).getD (rv j) dA).2.2.1 + p) = ((addL Ak j (-p)).getD (rv j) dA).2.2.1 + p := by
     have : ((addL Ak j (-p)).getD (rv j) dA).2.2.1 = aL (addL Ak j (-p)) (rv j) := rfl
     rw [this, hLr, wrap64 (by omega) (by omega)]
    have hs1 := set_add (A := Ak) (k := j) (x := -p)
    have hs2 := set_add (A := addL Ak j (-p)) (k := rv j) (x := p)
    have hau : addL (addL Ak j (-p)) (rv j) p = aug1 Ak p j := rfl
    generalize rv j = rj at *
    generalize addL Ak j (-p) = A1 at *
    simp +contextual (maxSteps := 4000000) only [↓bdD, bdP, Nat.reduceLT, Nat.reduceBEq, Nat.reduceAdd, Nat.reduceLeDiff, reduceCtorEq, Int.reduceEq, Store.set, ↓reduceIte, nth_its, pur_its, nth_arcs, pur_arcs, nth_snds, pur_snds, nth_lnks, pur_lnks, lkC_len, lkC_0, lkC_1, lkC_cap, lkC_pri, lkC_take, pur_lkC, Nat.mul_one, Try.f32, ty3, ty46, ty71, ty76, ty88, h15, hkl2, hwk, hnk, hnPl, hnA, hnA1, hj, hrj, hAkl, hAl, hA1l, w1, w2, w5, w6, w7, w8, hs1, hs2, hO0, hO1, hOn, x0, x1, x2, x3, h13, updO_updO]
    rw [has, ← hau]
    exact ⟨_, rfl, by simp [updO, hO0], by simp [updO], by simp [updO, x3, hOn]⟩
   ·have e3 : k = P.length := by omega
    subst e3
    rw [List.take_length] at hO1
    have hw9 : IntKind.i64.wrap (sent + p) = sent + p := wrap64 (by omega) (by omega)
    simp +contextual (maxSteps := 4000000) only [↓bdD, bdP, Nat.reduceLT, Nat.reduceBEq, Nat.reduceAdd, ↓reduceIte, nth_its, pur_its, nth_arcs, pur_arcs, nth_snds, pur_snds, nth_lnks, pur_lnks, lkC_len, lkC_0, lkC_1, lkC_cap, lkC_pri, lkC_take, pur_lkC, Nat.mul_one, Try.f32, ty46, ty88, h15, h13, hw9, r11, hnPl, hO0, hO1, hOn, x0, x1, x2, x3]
    refine ⟨(b - (sent + p)).toNat, by omega, ?_, aug A' p P, sent + p, O2, nx + 1, rfl, rfl, by omega, hO0, hO1, hS2, by rw [aug_len, hl], by omega, rfl, by rw [hfn2, hfn], by omega, hR2⟩
    rw [agree_havoc_sub (by decide +kernel)]
    simp +contextual (maxSteps := 4000000) only [↓bdD, bdP, Nat.reduceBEq, nth_its, pur_its, nth_arcs, pur_arcs, nth_snds, pur_snds, nth_lnks, pur_lnks, lkC_len, lkC_0, lkC_1, lkC_cap, lkC_pri, lkC_take, pur_lkC, Nat.mul_one, Try.f32]
    rw [agree_havoc_sub (by decide +kernel)]
    simp +contextual (maxSteps := 4000000) only [↓bdD, bdP, Nat.reduceBEq, nth_its, pur_its, nth_arcs, pur_arcs, nth_snds, pur_snds, nth_lnks, pur_lnks, lkC_len, lkC_0, lkC_1, lkC_cap, lkC_pri, lkC_take, pur_lkC, Nat.mul_one, Try.f32]
 ·have hh : A' = AE ∧ sent = rE := by
   cases hR with
   | full => exact ⟨rfl, rfl⟩
   | stop _ _ g => exact absurd g hlt
   | step _ _ _ _ g => exact absurd g hlt
  simp +contextual (maxSteps := 4000000) only [↓bdD, bdP, Nat.reduceLT, Nat.reduceBEq, endQ, Nat.reduceAdd, Nat.reduceLeDiff, Store.set, ↓reduceIte, nth_its, pur_its, nth_arcs, pur_arcs, nth_snds, pur_snds, nth_lnks, pur_lnks, lkC_len, lkC_0, lkC_1, lkC_cap, lkC_pri, lkC_take, pur_lkC, Nat.mul_one, Try.f32, ty73, r11, hlt, hAl, hO0, hO1, x0, x1, x2, x3, htk]
  exact ⟨⟨by omega, by rw [hh.1]⟩, hh.2⟩
theorem o_flow : O_flow := k_flow c_flow
end Sim
