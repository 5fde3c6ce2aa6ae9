/- What functions of this seat compute, by values: contracts (lemmas of the statement's proof, under the conditions that each names). -/
import Derived.Test.YtmgklnbhbomlnaaQM7
namespace Sim
open Go Go.Proofs
set_option maxRecDepth 10000
set_option maxHeartbeats 4000000
set_option linter.unusedVariables false
set_option linter.unusedSimpArgs false
attribute [local congr] opsIf_congr condC_congr guardC_congr grd_congr pick3_congr obind_congr omap_congr nilC_congr opsV_congr
theorem keyIs_k3 {a b c : Int} : keyIs (.ints 3) (.agg [.int .i64 a, .int .i64 b, .int .i64 c]) = decide ((-9223372036854775808 ≤ a ∧ a ≤ 9223372036854775807) ∧ (-9223372036854775808 ≤ b ∧ b ≤ 9223372036854775807) ∧ (-9223372036854775808 ≤ c ∧ c ≤ 9223372036854775807)) := by
  simp [keyIs, intsL]
theorem emR_keys {rs : List Rst} : ∀ {k}, ∀ q ∈ keysE (emR rs k), ∃ j, j < k ∧ q = rkey (rs.getD j dR)
  | 0, q, h => by simp [emR, keysE] at h
  | k + 1, q, h => by
    simp only [emR] at h
    rw [keys_add] at h
    split at h
    · obtain ⟨j, hj, e⟩ := emR_keys q h; exact ⟨j, by omega, e⟩
    · rcases List.mem_append.1 h with h | h
      · obtain ⟨j, hj, e⟩ := emR_keys q h; exact ⟨j, by omega, e⟩
      · simp only [List.mem_singleton] at h; exact ⟨k, by omega, h⟩
theorem ltK_trans {x y z : Key} (h : ltK x y) (g : ltK y z) : ltK x z := by unfold ltK at *; omega
theorem ltK_irr {x : Key} : ¬ ltK x x := by unfold ltK; omega
theorem ltK_tri {x y : Key} (h : ¬ ltK x y) (g : ¬ ltK y x) : x = y := by
  unfold ltK at *
  exact Prod.ext (by omega) (Prod.ext (by omega) (by omega))
theorem rst_lt {n : Nat} {rs : List Rst} {m : Nat} (h : ∀ j, j ≤ m → rstO n rs j) : ∀ i, i < m → ltK (rkey (rs.getD i dR)) (rkey (rs.getD m dR)) := by
  induction m with
  | zero => intro i hi; omega
  | succ m ih =>
    intro i hi
    have h1 := (h (m + 1) (by omega)).2.2 (by omega)
    rw [show m + 1 - 1 = m by omega] at h1
    by_cases e : i = m
    · subst e; exact h1
    · exact ltK_trans (ih (fun j hj => h j (by omega)) i (by omega)) h1
theorem rst_new {n : Nat} {rs : List Rst} {k : Nat} (h : ∀ j, j ≤ k → rstO n rs j) : sumO (emR rs k) (rkey (rs.getD k dR)) = 0 := sum_not fun hm => by
  obtain ⟨j, hj, e⟩ := emR_keys _ hm
  have := rst_lt h j hj
  rw [e] at this; exact ltK_irr this
/-- What has been seen of the entries. -/
def SeenE (em : List Em) (seen : List Nat) (out : List Key) : Prop := seen.Nodup ∧ (∀ i ∈ seen, i < em.length) ∧ out = seen.map fun i => (em.getD i dE).1
theorem nodup_le : ∀ (L : Nat) (l : List Nat), l.Nodup → (∀ x ∈ l, x < L) → l.length ≤ L
  | 0, l, _, h => by
    cases l with
    | nil => exact Nat.le_refl _
    | cons a l => exact absurd (h a (by simp)) (by omega)
  | L + 1, l, hn, h => by
    by_cases hm : L ∈ l
    · have h1 := nodup_le L (l.erase L) (hn.erase L) (fun x hx => by
        have h2 := (hn.mem_erase_iff).1 hx
        have := h x h2.2
        omega)
      rw [List.length_erase_of_mem hm] at h1
      omega
    · have := nodup_le L l hn (fun x hx => by
        have h1 := h x hx
        have : x ≠ L := fun e => hm (e ▸ hx)
        omega)
      omega
theorem nodup_rng : ∀ (L : Nat) (l : List Nat), l.Nodup → (∀ x ∈ l, x < L) → l.length = L → l.Perm (List.range L)
  | 0, l, _, h, hl => by
    cases l with
    | nil => exact .refl _
    | cons a l => simp at hl
  | L + 1, l, hn, h, hl => by
    have hm : L ∈ l := by
      apply Classical.byContradiction
      intro hm
      have := nodup_le L l hn (fun x hx => by
        have h1 := h x hx
        have : x ≠ L := fun e => hm (e ▸ hx)
        omega)
      omega
    have ih := nodup_rng L (l.erase L) (hn.erase L) (fun x hx => by
        have h2 := (hn.mem_erase_iff).1 hx
        have := h x h2.2
        omega) (by rw [List.length_erase_of_mem hm]; omega)
    rw [List.range_succ]
    exact (List.perm_cons_erase hm).trans ((ih.cons L).trans (List.perm_append_comm (l₁ := [L])))
theorem seenE_all {em : List Em} {seen : List Nat} {out : List Key} (h : SeenE em seen out) (hl : seen.length = em.length) : out.Perm (keysE em) ∧ ∀ i, i < em.length → i ∈ seen := by
  obtain ⟨h1, h2, rfl⟩ := h
  have hp := nodup_rng _ seen h1 h2 hl
  refine ⟨(hp.map fun i => (em.getD i dE).1).trans (.of_eq ?_), fun i hi => hp.mem_iff.2 (List.mem_range.2 hi)⟩
  apply List.ext_getElem
  · simp [keysE]
  · intro i g1 g2
    have : i < em.length := by simpa using g1
    simp [keysE, this]
theorem seenE_next {em : List Em} {seen : List Nat} {out : List Key} (h : SeenE em seen out) {j : Nat} (hj : j < em.length) (hn : j ∉ seen) : SeenE em (seen ++ [j]) (out ++ [(em.getD j dE).1]) := by
  obtain ⟨h1, h2, rfl⟩ := h
  refine ⟨?_, ?_, by simp⟩
  · rw [List.nodup_append]
    exact ⟨h1, by simp, fun a ha b hb e => by simp at hb; subst hb; subst e; exact hn ha⟩
  · intro i hi
    rcases List.mem_append.1 hi with hi | hi
    · exact h2 i hi
    · simp at hi; subst hi; exact hj
theorem sorted_uniq : ∀ {l m : List Key}, l.Pairwise (fun x y => ¬ ltK y x) → m.Pairwise (fun x y => ¬ ltK y x) → l.Perm m → l = m
  | [], m, _, _, h => by rw [h.symm.eq_nil]
  | x :: l, [], _, _, h => by have := h.eq_nil; simp at this
  | x :: l, y :: m, h1, h2, h => by
    rw [List.pairwise_cons] at h1 h2
    have e : x = y := by
      rcases List.mem_cons.1 (h.mem_iff.1 (by simp : x ∈ x :: l)) with e | hx
      · exact e
      · rcases List.mem_cons.1 (h.mem_iff.2 (by simp : y ∈ y :: m)) with e | hy
        · exact e.symm
        · exact ltK_tri (h2.1 x hx) (h1.1 y hy)
    subst e
    rw [sorted_uniq h1.2 h2.2 h.cons_inv]
theorem sort_pair (l : List Key) : (l.mergeSort leK).Pairwise fun x y => ¬ ltK y x := by
  have h := List.pairwise_mergeSort (le := leK) (fun a b c h1 h2 => by
    rw [leK_iff] at h1 h2 ⊢
    intro h3
    unfold ltK at *; omega) (fun a b => by
    rw [Bool.or_eq_true, leK_iff, leK_iff]
    by_cases h : ltK b a
    · right; unfold ltK at *; omega
    · exact .inl h) l
  exact h.imp fun h => leK_iff.1 h
theorem sort_perm {l m : List Key} (h : l.Perm m) : l.mergeSort leK = m.mergeSort leK :=
  sorted_uniq (sort_pair l) (sort_pair m) ((List.mergeSort_perm l leK).trans (h.trans (List.mergeSort_perm m leK).symm))
theorem out_step {em : List Em} {tick : Int} {ks : List Key} {k : Nat} (h : k < ks.length) : outL em tick (ks.take (k + 1)) = outL em tick (ks.take k) ++ if 0 < (sumO em (ks.getD k dK)).tdiv 1000 then [pstK tick (ks.getD k dK) (sumO em (ks.getD k dK))] else [] := by
  unfold outL
  rw [List.take_succ_eq_append_getElem h, List.filter_append, List.map_append, List.getD_eq_getElem?_getD, List.getElem?_eq_getElem h]
  congr 1
  by_cases c : 0 < (sumO em ks[k]).tdiv 1000 <;> simp [List.filter_cons, c]
theorem rst_step {em : List Em} {ks : List Key} {k : Nat} (h : k < ks.length) : outR em (ks.take (k + 1)) = outR em (ks.take k) ++ if 0 < (sumO em (ks.getD k dK)).tmod 1000 then [rstK (ks.getD k dK) (sumO em (ks.getD k dK))] else [] := by
  unfold outR
  rw [List.take_succ_eq_append_getElem h, List.filter_append, List.map_append, List.getD_eq_getElem?_getD, List.getElem?_eq_getElem h]
  congr 1
  by_cases c : 0 < (sumO em ks[k]).tmod 1000 <;> simp [List.filter_cons, c]
theorem out_len {em : List Em} {tick : Int} {ks : List Key} {k : Nat} : (outL em tick (ks.take k)).length ≤ k ∧ (outR em (ks.take k)).length ≤ k := by
  unfold outL outR
  rw [List.length_map, List.length_map]
  have h1 := List.length_filter_le (fun k => decide (0 < (sumO em k).tdiv 1000)) (ks.take k)
  have h2 := List.length_filter_le (fun k => decide (0 < (sumO em k).tmod 1000)) (ks.take k)
  rw [List.length_take] at h1 h2
  omega
theorem mchk_len {t : List Tar} {l : List Use} (h : mchkE t l = 0) : l.length ≤ 200 := by
  unfold mchkE at h
  split at h
  · cases h
  · split at h
    · cases h
    · split at h
      · cases h
      · omega
def kin (q : Key) : Prop := (0 ≤ q.1 ∧ q.1 ≤ 27) ∧ (0 ≤ q.2.1 ∧ q.2.1 ≤ 12) ∧ (1 ≤ q.2.2 ∧ q.2.2 ≤ 5)
theorem mchk_tars {t : List Tar} {l : List Use} (h : mchkE t l = 0) : t.length ≤ 12 := by
  unfold mchkE at h
  split at h
  · cases h
  · omega
theorem par_kin {n : Nat} {a b c : Int} (h : parO n a b c) (hn : n ≤ 12) : kin (c, b, a) := by
  unfold parO inM at h
  unfold kin
  dsimp only; omega
theorem emR_kin {n : Nat} {rs : List Rst} {k : Nat} (h : ∀ j, j < k → rstO n rs j) (hn : n ≤ 12) : ∀ q ∈ keysE (emR rs k), kin q := fun q hq => by
  obtain ⟨j, hj, rfl⟩ := emR_keys q hq
  exact par_kin (h j hj).1 hn
theorem emU_keys {t : List Tar} {hn : Int} {ls : List Lnk} {l : List Use} {em : List Em} (h0 : ∀ q ∈ keysE em, kin q) (ht : t.length ≤ 12) : ∀ k, k ≤ l.length → chK t hn ls l k = 0 → ∀ q ∈ keysE (emU t hn ls l em k), kin q
  | 0, _, _, q, hq => h0 q hq
  | k + 1, hk, h, q, hq => by
    have hc : chK t hn ls l k = 0 := by
      apply Classical.byContradiction
      intro hc
      simp only [chK] at h
      rw [if_pos hc] at h; exact hc h
    have he : chgE t hn ls (l.getD k dU) = 0 := by
      simp only [chK] at h
      rwa [if_neg (fun g => g hc)] at h
    have ih := emU_keys h0 ht k (by omega) hc
    simp only [emU] at hq
    rw [keys_add] at hq
    split at hq
    · exact ih q hq
    · rcases List.mem_append.1 hq with hq | hq
      · exact ih q hq
      · simp only [List.mem_singleton] at hq
        subst hq
        exact par_kin (chg_par he) ht
noncomputable def A_period : (List Rst) × (List Tar) × (Int) × (List Lnk) × (List Use) × (Int) → List PV := fun (rs, t, hn, ls, l, tick) => [rsts rs, tars t, .agg [I hn, lnks ls], uses l, I tick]
noncomputable def R_period : (List Rst) × (List Tar) × (Int) × (List Lnk) × (List Use) × (Int) → PV := fun (rs, t, hn, ls, l, tick) => .tuple [psts (perL rs t hn ls l tick), rsts (perR rs t hn ls l tick), I (perE rs t hn ls l tick)]
def H_period : (List Rst) × (List Tar) × (Int) × (List Lnk) × (List Use) × (Int) → Prop := fun (rs, t, hn, ls, l, tick) => rs.length ≤ 1000 ∧ ∀ u ∈ l, useP hn ls u
noncomputable def e_period : Nat × Ent := (13, .v (specOf A_period R_period H_period))
theorem j_period : ∀ i j, A_period i = A_period j → i = j := by
  rintro ⟨rs₁, t₁, hn₁, ls₁, l₁, tick₁⟩ ⟨rs₂, t₂, hn₂, ls₂, l₂, tick₂⟩ h
  simp only [A_period, List.cons.injEq, and_true, PV.lits.injEq, PV.int.injEq, PV.bool.injEq, PV.str.injEq, PV.agg.injEq, PV.func.injEq, Fn.func.injEq, PV.vptr.injEq, true_and, List.map_nil, inj_ints, inj_strs, inj_psts, inj_tars, inj_snds, inj_uses, inj_rsts, inj_lnks, inj_tars, inj_snds, inj_uses, inj_rsts, inj_lnks] at h
  simp [Prod.ext_iff, h] <;> omega
theorem s_period (rs : List Rst) (t : List Tar) (hn : Int) (ls : List Lnk) (l : List Use) (tick : Int) : specOf A_period R_period H_period [rsts rs, tars t, .agg [I hn, lnks ls], uses l, I tick] = @ite (Option (PV)) (rs.length ≤ 1000 ∧ ∀ u ∈ l, useP hn ls u) (Classical.propDecidable _) (some (.tuple [psts (perL rs t hn ls l tick), rsts (perR rs t hn ls l tick), I (perE rs t hn ls l tick)])) none := specOf_if j_period (rs, t, hn, ls, l, tick)
def C_period : Prop := ∀ (rs : List Rst) (t : List Tar) (hn : Int) (ls : List Lnk) (l : List Use) (tick : Int) (h : rs.length ≤ 1000 ∧ ∀ u ∈ l, useP hn ls u) , VC Try.prog 13 [rsts rs, tars t, .agg [I hn, lnks ls], uses l, I tick] (.tuple [psts (perL rs t hn ls l tick), rsts (perR rs t hn ls l tick), I (perE rs t hn ls l tick)])
def O_period : Prop := EntOK Try.prog e_period.1 e_period.2
theorem k_period (c : C_period) : O_period := specOf_ok fun ⟨rs, t, hn, ls, l, tick⟩ h => c rs t hn ls l tick h
theorem c_period : C_period := by
  rintro rs t hn ls l tick ⟨hrl, huse⟩
  refine vc_ofU mixed (l := [e_mwin, e_party, e_mkey, e_mord, e_mchk, e_charge, e_sortK]) ((eok_cons o_mwin (eok_cons o_party (eok_cons o_mkey (eok_cons o_mord (eok_cons o_mchk (eok_cons o_charge (eok_cons o_sortK eok_nil)))))))) [] []  Try.func13 rfl (by decide +kernel) (N := 189) rfl (by simp) rfl (by kernel_rfl) fun hs => ?_
  simp only [smallL, PV.small, List.length_map, and_true, true_and] at hs
  obtain ⟨L, hL⟩ : ∃ L, perL rs t hn ls l tick = L := ⟨_, rfl⟩
  obtain ⟨Rs, hRs⟩ : ∃ Rs, perR rs t hn ls l tick = Rs := ⟨_, rfl⟩
  obtain ⟨E, hE⟩ : ∃ E, perE rs t hn ls l tick = E := ⟨_, rfl⟩
  rw [hL, hRs, hE]
  have bad : ¬ E = 0 → L = [] ∧ Rs = [] := fun h => by
    rw [← hL, ← hRs]; unfold perL perR
    rw [if_neg (by rw [hE]; exact h), if_neg (by rw [hE]; exact h)]; exact ⟨rfl, rfl⟩
  by_cases c1 : mchkE t l = 0
  case neg =>
    have e1 : E = mchkE t l := by rw [← hE]; unfold perE; rw [if_pos c1]
    rw [← e1] at c1
    obtain ⟨e2, e3⟩ := bad c1
    have e1' := e1.symm
    subst e2 e3
    simp +contextual (maxSteps := 4000000) only [↓ur_seq, ↓ur_ret, ↓ur_region, ↓ur_cond, ↓cont_seq, ↓done_nil, ↓done_seq, ↓ops_consN, nY_move, nY_assign, nY_box, nY_binOp, nilO_int, nY_callf, ↓ops_nil, opsIf_some, condC_true, Option.map_some, Option.bind_some, Option.getD_some, Nat.reduceLT, Bool.false_eq_true, ↓upd_same, ↓upd_ne, Nat.reduceBEq, and_true, List.getD_cons_zero, List.getD_cons_succ, endQ, cfg_P, cfg_tab, cfg_muts, cfg_frz, List.map_nil, List.contains_nil, decide_true, Option.some.injEq, exists_eq_left', tabOf_cons, tab_v, Bool.and_self, Nat.reduceEqDiff, List.nil_append, List.append_nil, List.length_cons, List.length_nil, Nat.zero_add, Nat.reduceAdd, Bool.not_false, not_false_eq_true, st0, pur_lits, cells_agg, DRx_int, DRx_nils_lits, DRx_tuple, DRxL_cons, DRxL_nil, ↓ev_tmp, ↓ev_int, ↓ev_nils, ↓ev_func, ↓iop_move, ↓iop_assign, ↓iop_box, ↓iop_binOp, ↓iop_callv, nrmAll_cons, nrmAll_nil, nrm_lits, b_neq, env0_eq, ires_eq, iresL_2, iresAll_nil, iresAll_cons, iresOne_tmp, valT_eq, pursL_cons, pursL_nil, ↓reduceIte, callP_eq, tsOf_eq, boxP_eq, ↓evs_cons, ↓evs_nil, and_false, Bool.true_eq_false, e_mwin, e_party, e_mkey, e_mord, e_mchk, s_mchk, e_charge, e_sortK, nth_psts, pur_psts, nth_tars, pur_tars, nth_snds, pur_snds, nth_uses, pur_uses, nth_rsts, pur_rsts, nth_lnks, pur_lnks, nth_tars, pur_tars, nth_snds, pur_snds, nth_uses, pur_uses, nth_rsts, pur_rsts, nth_keys, pur_keys, nth_lnks, pur_lnks, Try.f13, ty23, ty27, e1', c1]
  by_cases c2 : inM tick 1000000
  case neg =>
    have e1 : E = 3 := by rw [← hE]; unfold perE; rw [if_neg (fun g => g c1), if_pos c2]
    obtain ⟨e2, e3⟩ := bad (by omega)
    subst e2 e3
    simp +contextual (maxSteps := 4000000) only [↓ur_skip, ↓ur_seq, ↓ur_ret, ↓ur_region, ↓ur_cond, ↓cont_seq, ↓done_nil, ↓done_seq, ↓ops_consN, nY_move, nY_assign, nY_box, nY_binOp, nilO_int, nY_unOp, nY_callf, ↓ops_nil, opsIf_some, condC_true, condC_false, Option.map_some, Option.bind_some, Option.getD_some, Nat.reduceLT, Bool.false_eq_true, ↓upd_same, ↓upd_ne, Nat.reduceBEq, and_true, List.getD_cons_zero, List.getD_cons_succ, endQ, cfg_P, cfg_tab, cfg_muts, cfg_frz, List.map_nil, List.contains_nil, decide_false, Option.some.injEq, exists_eq_left', tabOf_cons, tab_v, Bool.and_self, Nat.reduceEqDiff, List.nil_append, List.append_nil, List.length_cons, List.length_nil, Nat.zero_add, Nat.reduceAdd, Bool.not_false, not_true_eq_false, st0, pur_int, pur_lits, cells_agg, DRx_int, DRx_nils_lits, DRx_tuple, DRxL_cons, DRxL_nil, ↓ev_tmp, ↓ev_int, ↓ev_nils, ↓ev_func, ↓iop_move, ↓iop_assign, ↓iop_box, ↓iop_binOp, ↓iop_unOp, ↓iop_callv, nrmAll_cons, nrmAll_nil, nrm_int, nrm_lits, b_neq, u_not, env0_eq, ires_eq, iresL_2, iresAll_nil, iresAll_cons, iresOne_tmp, valT_eq, pursL_cons, pursL_nil, ↓reduceIte, callP_eq, tsOf_eq, boxP_eq, ↓evs_cons, ↓evs_nil, and_false, Bool.true_eq_false, e_mwin, s_mwin, e_party, e_mkey, e_mord, e_mchk, s_mchk, e_charge, e_sortK, nth_psts, pur_psts, nth_tars, pur_tars, nth_snds, pur_snds, nth_uses, pur_uses, nth_rsts, pur_rsts, nth_lnks, pur_lnks, nth_tars, pur_tars, nth_snds, pur_snds, nth_uses, pur_uses, nth_rsts, pur_rsts, nth_keys, pur_keys, nth_lnks, pur_lnks, Try.f13, ty3, ty23, ty27, c1, c2, e1]
  have hll := mchk_len c1
  have hE1 : E = @ite _ (¬ ∀ k, k < rs.length → rstO t.length rs k) (Classical.propDecidable _) 1 (if ¬ chK t hn ls l l.length = 0 then chK t hn ls l l.length else @ite _ (bigE (emA rs t hn ls l)) (Classical.propDecidable _) 2 0) := by
    rw [← hE]; unfold perE; rw [if_neg (fun g => g c1), if_neg (fun g => g c2)]
  simp +contextual (maxSteps := 4000000) only [↓ur_skip, ↓ur_seq, ↓ur_block, ↓ur_region, ↓ur_cond, ↓cont_seq, ↓ops_consN, nY_move, nY_assign, nY_box, nY_binOp, nilO_int, nY_unOp, nY_makeMap, nY_callf, nY_callb, ↓ops_nil, opsIf_some, condC_false, Option.map_some, Option.bind_some, Option.getD_some, Nat.reduceLT, Bool.false_eq_true, ↓upd_same, ↓upd_ne, Nat.reduceBEq, true_and, List.getD_cons_zero, List.getD_cons_succ, cfg_P, cfg_tab, cfg_muts, cfg_frz, List.length_map, List.contains_nil, decide_true, decide_false, tabOf_cons, tab_v, Bool.and_self, Nat.reduceEqDiff, List.nil_append, List.append_nil, List.length_cons, List.length_nil, Nat.zero_add, Nat.reduceAdd, Bool.not_true, Bool.not_false, not_true_eq_false, st0, pur_int, pur_lits, cells_agg, ↓ev_tmp, ↓ev_int, ↓ev_nils, ↓ev_func, ↓iop_move, ↓iop_assign, ↓iop_box, ↓iop_binOp, ↓iop_unOp, ↓iop_callv, ↓iop_callb, nrmAll_cons, nrmAll_nil, bi_len, lenM_none, ↓iop_makeMap, nrm_int, nrm_lits, lenP_lits, b_neq, u_not, env0_eq, valT_eq, pursL_cons, pursL_nil, Store.new, ↓reduceIte, callP_eq, tsOf_eq, boxP_eq, ↓evs_cons, ↓evs_nil, and_false, Bool.true_eq_false, e_mwin, s_mwin, e_party, e_mkey, e_mord, e_mchk, s_mchk, e_charge, e_sortK, nth_psts, pur_psts, nth_tars, pur_tars, nth_snds, pur_snds, nth_uses, pur_uses, nth_rsts, pur_rsts, nth_lnks, pur_lnks, nth_tars, pur_tars, nth_snds, pur_snds, nth_uses, pur_uses, nth_rsts, pur_rsts, nth_keys, pur_keys, nth_lnks, pur_lnks, Try.f13, ty3, ty22, ty23, ty27, ty98, c1, c2]
  refine loop_cnt [10, 11, 12, 15, 16, 42, 43, 44, 45, 46, 47, 48, 49, 50, 51, 52, 53, 54, 55, 56, 57, 58, 59, 60, 61, 62, 63, 64, 65, 66, 67, 68, 69, 70, 71, 72, 73, 74, 75, 76, 77, 78, 79, 80, 81, 82, 83, 84, 85, 86, 87] rs.length (fun k ρ st' => ρ 42 = I k ∧ (∀ j, j < k → rstO t.length rs j) ∧ st'.obj 0 = some (.map 0 (.ints 3) ((emR rs k).map encE3)) ∧ 0 < st'.next) (.refl _) ?_ ?_
  · simp +contextual (maxSteps := 4000000) only [↓upd_same, true_and, and_true, List.map_nil, updO_same, Nat.lt_succ_self, Int.cast_ofNat_Int, nth_psts, pur_psts, nth_tars, pur_tars, nth_snds, pur_snds, nth_uses, pur_uses, nth_rsts, pur_rsts, nth_lnks, pur_lnks, nth_tars, pur_tars, nth_snds, pur_snds, nth_uses, pur_uses, nth_rsts, pur_rsts, nth_keys, pur_keys, nth_lnks, pur_lnks, Try.f13, emR]
    exact fun j h => absurd h (by omega)
  rintro k ρ ⟨ob, M⟩ hk ⟨h42, hall, o0, hM⟩
  dsimp only at o0 hM
  have m0 : ¬ 0 = M := by omega
  have m1 : ¬ M = 0 := by omega
  by_cases hlt : k < rs.length
  · have hwk := wrapM (k := k) (by omega)
    have hbad : ¬ rstO t.length rs k → E = 1 ∧ L = [] ∧ Rs = [] := fun h => by
      have e1 : E = 1 := by rw [hE1, if_pos (fun g => h (g k hlt))]
      exact ⟨e1, bad (by omega)⟩
    have hpk : 0 < k → IntKind.i64.wrap ((k : Int) - 1) = ((k - 1 : Nat) : Int) := fun h => by rw [wrap64 (by omega) (by omega)]; omega
    have hpl : k - 1 < rs.length := by omega
    by_cases hr : rstO t.length rs k
    case neg =>
      obtain ⟨e1, e2, e3⟩ := hbad hr
      subst e2 e3
      unfold rstO at hr
      generalize hx : rs.getD k dR = x at *
      by_cases d1 : parO t.length x.2.2.1 x.2.1 x.1
      case neg => simp +contextual (maxSteps := 4000000) only [↓ur_skip, ↓ur_seq, ↓ur_block, ↓ur_ret, ↓ur_region, ↓ur_cond, ↓cont_seq, ↓done_nil, ↓done_seq, ↓done_blk, ↓done_lp, ↓ops_consN, ↓ops_guardN, nY_move, nY_assign, nY_pick, nY_alloc, nY_load, nY_store, nY_binOp, nilO_tmp, nilO_int, nY_unOp, nY_fieldAddr, nY_indexAddr, nY_callf, ↓ops_nil, opsIf_some, opsIf_none, condC_true, guardC_u, guardC_tf, Option.map_some, Option.bind_some, Option.getD_some, Nat.reduceLT, Bool.false_eq_true, ↓upd_same, ↓upd_ne, Nat.reduceBEq, true_and, and_true, List.getD_cons_zero, List.getD_cons_succ, List.getElem?_toArray, List.getElem?_cons_zero, List.getElem?_cons_succ, endQ, cfg_P, cfg_tab, cfg_muts, cfg_frz, cfg_num, numOf_eq, List.map_nil, List.length_map, ↓havoc_in, ↓havoc_out, List.contains_cons, List.contains_nil, Bool.or_false, Bool.or_true, Int.natCast_nonneg, Int.ofNat_lt, Int.toNat_natCast, decide_true, decide_false, Option.some.injEq, exists_eq_left', tabOf_cons, tab_v, Bool.and_self, Nat.reduceEqDiff, List.nil_append, List.append_nil, updO_same, List.length_cons, List.length_nil, Nat.zero_add, Nat.add_zero, List.drop_zero, List.take_zero, Nat.reduceAdd, List.set_cons_zero, nth_zero, Nat.lt_succ_self, Bool.not_false, Nat.le_refl, pur_int, pur_lits, cells_agg, DRx_int, DRx_nils_lits, DRx_tuple, DRxL_cons, DRxL_nil, ↓ev_tmp, ↓ev_int, ↓ev_bool, ↓ev_nils, ↓ev_func, ↓guardP_eq, grd_some, ↓iop_move, ↓iop_assign, ↓pick3_bool, ↓iop_pick, ↓iop_alloc, ↓iop_load, ↓iop_store, ↓iop_binOp, ↓iop_unOp, ↓iop_fieldAddr, ↓iop_indexAddr, idxA_int, ↓iop_callv, nrmAll_cons, nrmAll_nil, nrm_int, nrm_lits, pickP_f, pickP_t, loadP_vptr, loadP_ptr, setCells_agg, storeP_ptr, fieldP_ptr, indexP_lits, b_lss, u_not, splice_eq, env0_eq, ires_eq, iresL_2, iresAll_nil, iresAll_cons, iresOne_tmp, valT_eq, pursL_cons, pursL_nil, Store.new, Store.set, ↓reduceIte, arr_eq, arrB_some, callP_eq, tsOf_eq, List.take_succ_cons, List.drop_succ_cons, List.drop_nil, List.take_nil, ↓evs_cons, ↓evs_nil, beq_self_eq_true, see_eq, and_false, Bool.true_eq_false, s_party, nth_psts, pur_psts, nth_tars, pur_tars, nth_snds, pur_snds, nth_uses, pur_uses, nth_rsts, pur_rsts, nth_lnks, pur_lnks, nth_tars, pur_tars, nth_snds, pur_snds, nth_uses, pur_uses, nth_rsts, pur_rsts, nth_keys, pur_keys, nth_lnks, pur_lnks, Try.f13, ty3, ty22, ty23, ty56, h42, hlt, hx, d1, e1]
      by_cases d2 : x.2.2.2 < 1
      · simp +contextual (maxSteps := 4000000) only [↓ur_skip, ↓ur_seq, ↓ur_block, ↓ur_ret, ↓ur_region, ↓ur_cond, ↓cont_seq, ↓done_nil, ↓done_seq, ↓done_blk, ↓done_lp, ↓ops_consN, ↓ops_guardN, nY_move, nY_assign, nY_pick, nY_alloc, nY_load, nY_store, nY_binOp, nilO_tmp, nilO_int, nY_unOp, nY_fieldAddr, nY_indexAddr, nY_callf, ↓ops_nil, opsIf_some, opsIf_none, condC_true, guardC_u, guardC_tf, guardC_ff, Option.map_some, Option.bind_some, Option.getD_some, Nat.reduceLT, Bool.false_eq_true, ↓upd_same, ↓upd_ne, Nat.reduceBEq, true_and, and_true, List.getD_cons_zero, List.getD_cons_succ, List.getElem?_toArray, List.getElem?_cons_zero, List.getElem?_cons_succ, endQ, cfg_P, cfg_tab, cfg_muts, cfg_frz, cfg_num, numOf_eq, List.map_nil, List.length_map, ↓havoc_in, ↓havoc_out, List.contains_cons, List.contains_nil, Bool.or_false, Bool.or_true, Int.natCast_nonneg, Int.ofNat_lt, Int.toNat_natCast, decide_true, Option.some.injEq, exists_eq_left', tabOf_cons, tab_v, Bool.and_self, Nat.reduceEqDiff, List.nil_append, List.append_nil, updO_same, List.length_cons, List.length_nil, Nat.zero_add, Nat.add_zero, List.drop_zero, List.take_zero, Nat.reduceAdd, List.set_cons_zero, nth_zero, Nat.lt_succ_self, Bool.not_true, Bool.not_false, Nat.le_refl, pur_int, pur_lits, cells_agg, DRx_int, DRx_nils_lits, DRx_tuple, DRxL_cons, DRxL_nil, ↓ev_tmp, ↓ev_int, ↓ev_bool, ↓ev_nils, ↓ev_func, ↓guardP_eq, grd_some, ↓iop_move, ↓iop_assign, ↓pick3_bool, ↓iop_pick, ↓iop_alloc, ↓iop_load, ↓iop_store, ↓iop_binOp, ↓iop_unOp, ↓iop_fieldAddr, ↓iop_indexAddr, idxA_int, ↓iop_callv, nrmAll_cons, nrmAll_nil, nrm_int, nrm_lits, pickP_f, pickP_t, loadP_vptr, loadP_ptr, setCells_agg, storeP_ptr, fieldP_ptr, indexP_lits, b_lss, u_not, splice_eq, env0_eq, ires_eq, iresL_2, iresAll_nil, iresAll_cons, iresOne_tmp, valT_eq, pursL_cons, pursL_nil, Store.new, Store.set, ↓reduceIte, arr_eq, arrB_some, callP_eq, tsOf_eq, List.take_succ_cons, List.drop_succ_cons, List.drop_nil, List.take_nil, ↓evs_cons, ↓evs_nil, beq_self_eq_true, see_eq, and_false, Bool.true_eq_false, s_party, nth_psts, pur_psts, nth_tars, pur_tars, nth_snds, pur_snds, nth_uses, pur_uses, nth_rsts, pur_rsts, nth_lnks, pur_lnks, nth_tars, pur_tars, nth_snds, pur_snds, nth_uses, pur_uses, nth_rsts, pur_rsts, nth_keys, pur_keys, nth_lnks, pur_lnks, Try.f13, ty3, ty22, ty23, ty56, h42, hlt, hx, d1, d2, e1]
      by_cases d3 : 999 < x.2.2.2
      · simp +contextual (maxSteps := 4000000) only [↓ur_skip, ↓ur_seq, ↓ur_block, ↓ur_ret, ↓ur_region, ↓ur_cond, ↓cont_seq, ↓done_nil, ↓done_seq, ↓done_blk, ↓done_lp, ↓ops_consN, ↓ops_guardN, nY_move, nY_assign, nY_pick, nY_alloc, nY_load, nY_store, nY_binOp, nilO_tmp, nilO_int, nY_unOp, nY_fieldAddr, nY_indexAddr, nY_callf, ↓ops_nil, opsIf_some, opsIf_none, condC_true, guardC_u, guardC_tf, guardC_ff, Option.map_some, Option.bind_some, Option.getD_some, Nat.reduceLT, Bool.false_eq_true, ↓upd_same, ↓upd_ne, Nat.reduceBEq, true_and, and_true, List.getD_cons_zero, List.getD_cons_succ, List.getElem?_toArray, List.getElem?_cons_zero, List.getElem?_cons_succ, endQ, cfg_P, cfg_tab, cfg_muts, cfg_frz, cfg_num, numOf_eq, List.map_nil, List.length_map, ↓havoc_in, ↓havoc_out, List.contains_cons, List.contains_nil, Bool.or_false, Bool.or_true, Int.natCast_nonneg, Int.ofNat_lt, Int.toNat_natCast, decide_true, decide_false, Option.some.injEq, exists_eq_left', tabOf_cons, tab_v, Bool.and_self, Nat.reduceEqDiff, List.nil_append, List.append_nil, updO_same, List.length_cons, List.length_nil, Nat.zero_add, Nat.add_zero, List.drop_zero, List.take_zero, Nat.reduceAdd, List.set_cons_zero, nth_zero, Nat.lt_succ_self, Bool.not_true, Bool.not_false, Nat.le_refl, pur_int, pur_lits, cells_agg, DRx_int, DRx_nils_lits, DRx_tuple, DRxL_cons, DRxL_nil, ↓ev_tmp, ↓ev_int, ↓ev_bool, ↓ev_nils, ↓ev_func, ↓guardP_eq, grd_some, ↓iop_move, ↓iop_assign, ↓pick3_bool, ↓iop_pick, ↓iop_alloc, ↓iop_load, ↓iop_store, ↓iop_binOp, ↓iop_unOp, ↓iop_fieldAddr, ↓iop_indexAddr, idxA_int, ↓iop_callv, nrmAll_cons, nrmAll_nil, nrm_int, nrm_lits, pickP_f, pickP_t, loadP_vptr, loadP_ptr, setCells_agg, storeP_ptr, fieldP_ptr, indexP_lits, b_lss, b_gtr, u_not, splice_eq, env0_eq, ires_eq, iresL_2, iresAll_nil, iresAll_cons, iresOne_tmp, valT_eq, pursL_cons, pursL_nil, Store.new, Store.set, ↓reduceIte, arr_eq, arrB_some, callP_eq, tsOf_eq, List.take_succ_cons, List.drop_succ_cons, List.drop_nil, List.take_nil, ↓evs_cons, ↓evs_nil, beq_self_eq_true, see_eq, and_false, Bool.true_eq_false, s_party, nth_psts, pur_psts, nth_tars, pur_tars, nth_snds, pur_snds, nth_uses, pur_uses, nth_rsts, pur_rsts, nth_lnks, pur_lnks, nth_tars, pur_tars, nth_snds, pur_snds, nth_uses, pur_uses, nth_rsts, pur_rsts, nth_keys, pur_keys, nth_lnks, pur_lnks, Try.f13, ty3, ty22, ty23, ty56, h42, hlt, hx, d1, d2, d3, e1]
      by_cases d4 : 0 < k
      · have d5 : ¬ ltK (rkey (rs.getD (k - 1) dR)) (rkey x) := fun h => hr ⟨d1, by omega, fun _ => h⟩
        have d6 : 0 ≤ cfK (rkey (rs.getD (k - 1) dR)) (rkey x) := by
          have : ¬ cfK (rkey (rs.getD (k - 1) dR)) (rkey x) < 0 := fun h => d5 (cfK_lt.1 h)
          omega
        have d4i : (0 : Int) < (k : Int) := by omega
        simp +contextual (maxSteps := 4000000) only [↓ur_skip, ↓ur_seq, ↓ur_block, ↓ur_ret, ↓ur_region, ↓ur_cond, ↓cont_seq, ↓done_nil, ↓done_seq, ↓done_blk, ↓done_lp, ↓ops_consN, ↓ops_guardN, nY_move, nY_assign, nY_pick, nY_alloc, nY_load, nY_store, nY_binOp, nilO_tmp, nilO_int, nY_unOp, nY_fieldAddr, nY_indexAddr, nY_callf, ↓ops_nil, opsIf_some, opsIf_none, condC_true, guardC_tt, guardC_ff, Option.map_some, Option.bind_some, Option.getD_some, Nat.reduceLT, Bool.false_eq_true, ↓upd_same, ↓upd_ne, Nat.reduceBEq, and_true, List.getD_cons_zero, List.getD_cons_succ, List.getElem?_toArray, List.getElem?_cons_zero, List.getElem?_cons_succ, endQ, cfg_P, cfg_tab, cfg_muts, cfg_frz, cfg_num, numOf_eq, List.map_nil, List.length_map, ↓havoc_in, ↓havoc_out, List.contains_cons, List.contains_nil, Bool.or_false, Bool.or_true, Int.natCast_nonneg, Int.ofNat_lt, Int.toNat_natCast, decide_true, decide_false, Option.some.injEq, exists_eq_left', List.lookup_nil, tabOf_cons, tab_v, Bool.and_self, Nat.reduceEqDiff, List.nil_append, List.append_nil, updO_same, List.length_cons, List.length_nil, Nat.zero_add, Nat.add_zero, List.drop_zero, List.take_zero, Nat.reduceAdd, List.set_cons_zero, nth_zero, Nat.lt_succ_self, Bool.not_true, Bool.not_false, Nat.le_refl, pur_int, pur_lits, cells_agg, pur_agg, DRx_int, DRx_nils_lits, DRx_tuple, DRxL_cons, DRxL_nil, ↓ev_tmp, ↓ev_int, ↓ev_nils, ↓ev_func, ↓guardP_eq, grd_some, ↓iop_move, ↓iop_assign, ↓pick3_bool, ↓iop_pick, ↓iop_alloc, ↓iop_load, ↓iop_store, ↓iop_binOp, ↓iop_unOp, ↓iop_fieldAddr, ↓iop_indexAddr, idxA_int, ↓iop_callv, nrmAll_cons, nrmAll_nil, nrm_agg, nrmL_cons, nrmL_nil, nrm_int, nrm_lits, nrm1_int, pickP_f, pickP_t, loadP_vptr, loadP_ptr, setCells_agg, storeP_ptr, fieldP_ptr, indexP_lits, b_sub, b_lss, b_gtr, b_geq, u_not, splice_eq, env0_eq, ires_eq, iresL_2, iresAll_nil, iresAll_cons, iresOne_tmp, valT_eq, pursL_cons, pursL_nil, Store.new, Store.set, ↓reduceIte, arr_eq, arrB_some, callP_eq, tsOf_eq, List.take_succ_cons, List.drop_succ_cons, List.drop_nil, List.take_nil, ↓evs_cons, ↓evs_nil, beq_self_eq_true, see_eq, and_false, Bool.true_eq_false, s_party, s_mkey, s_mord, nth_psts, pur_psts, nth_tars, pur_tars, nth_snds, pur_snds, nth_uses, pur_uses, nth_rsts, pur_rsts, nth_lnks, pur_lnks, nth_tars, pur_tars, nth_snds, pur_snds, nth_uses, pur_uses, nth_rsts, pur_rsts, nth_keys, pur_keys, nth_lnks, pur_lnks, Try.f13, ty3, ty22, ty23, ty56, ty100, h42, hlt, hx, d1, d2, d3, d4i, d6, hpk d4, hpl, e1]
      · exact absurd ⟨d1, by omega, fun h => absurd h d4⟩ hr
    have hnew := rst_new (n := t.length) (rs := rs) (k := k) fun j hj => by
      by_cases e : j = k
      · subst e; exact hr
      · exact hall j (by omega)
    have hput := mput_E (k := rkey (rs.getD k dR)) (c := (rs.getD k dR).2.2.2) (em := emR rs k)
    rw [hnew, Int.zero_add] at hput
    have hst : emR rs (k + 1) = addE (emR rs k) (rkey (rs.getD k dR)) (rs.getD k dR).2.2.2 := rfl
    have hall2 : ∀ j, j < k + 1 → rstO t.length rs j := fun j hj => by
      by_cases e : j = k
      · subst e; exact hr
      · exact hall j (by omega)
    rw [← hst] at hput
    generalize emR rs (k + 1) = em2 at *
    obtain ⟨d1, d2, d5⟩ := hr
    generalize hx : rs.getD k dR = x at *
    have d2a : ¬ x.2.2.2 < 1 := by omega
    have d3a : ¬ 999 < x.2.2.2 := by omega
    have r1 : (-9223372036854775808 ≤ (rkey x).1 ∧ (rkey x).1 ≤ 9223372036854775807) := by have := d1.2.2; unfold inM at this; unfold rkey; dsimp only; omega
    have r2 : (-9223372036854775808 ≤ (rkey x).2.1 ∧ (rkey x).2.1 ≤ 9223372036854775807) := by have := d1.2.1; unfold inM at this; unfold rkey; dsimp only; omega
    have r3 : (-9223372036854775808 ≤ (rkey x).2.2 ∧ (rkey x).2.2 ≤ 9223372036854775807) := by have := d1.1; unfold rkey; dsimp only; omega
    have q2 : ¬ 0 = M + 1 := by omega
    have q3 : ¬ M + 1 = 0 := by omega
    by_cases d4 : 0 < k
    · have d6 : ¬ 0 ≤ cfK (rkey (rs.getD (k - 1) dR)) (rkey x) := by
        have := cfK_lt.2 (d5 d4)
        omega
      have d4i : (0 : Int) < (k : Int) := by omega
      simp +contextual (maxSteps := 4000000) only [↓ur_skip, ↓ur_seq, ↓ur_block, ↓ur_region, ↓ur_cond, ↓cont_seq, ↓cont_blk, ↓cont_lp, ↓ops_consN, ↓ops_guardN, nY_move, nY_assign, nY_pick, nY_alloc, nY_load, nY_store, nY_binOp, nilO_tmp, nilO_int, nY_unOp, nY_fieldAddr, nY_indexAddr, nY_mapUpdate, nY_callf, ↓ops_nil, opsIf_some, opsIf_none, condC_true, condC_false, guardC_tt, guardC_ff, Option.map_some, Option.bind_some, Option.getD_some, Nat.reduceLT, Bool.false_eq_true, ↓upd_same, ↓upd_ne, Nat.reduceBEq, true_and, and_true, List.getD_cons_zero, List.getD_cons_succ, List.getElem?_toArray, List.getElem?_cons_zero, List.getElem?_cons_succ, cfg_P, cfg_tab, cfg_muts, cfg_frz, cfg_num, numOf_eq, List.length_map, ↓havoc_in, ↓havoc_out, agree_upd, agree_havoc, List.contains_cons, List.contains_nil, Bool.or_false, Bool.or_true, Int.natCast_nonneg, Int.ofNat_lt, Int.toNat_natCast, decide_true, decide_false, List.lookup_nil, tabOf_cons, tab_v, Bool.and_self, Nat.reduceEqDiff, List.nil_append, List.append_nil, updO_same, updO_ne, List.length_cons, List.length_nil, Nat.zero_add, Nat.add_zero, List.drop_zero, List.take_zero, Nat.reduceAdd, List.set_cons_zero, nth_zero, Nat.lt_succ_self, Bool.not_true, Bool.not_false, not_false_eq_true, Nat.le_refl, pur_int, pur_lits, cells_agg, pur_agg, ↓ev_tmp, ↓ev_int, ↓ev_func, ↓guardP_eq, grd_some, ↓iop_move, ↓iop_assign, ↓pick3_bool, ↓iop_pick, ↓iop_alloc, ↓iop_load, ↓iop_store, ↓iop_binOp, ↓iop_unOp, ↓iop_fieldAddr, ↓iop_indexAddr, idxA_int, ↓iop_callv, nrmAll_cons, nrmAll_nil, ↓iop_mapUpdate, mapPut_mref, mapB_some, nrm_agg, nrmL_cons, nrmL_nil, nrm_int, nrm_lits, nrm1_int, pickP_f, pickP_t, loadP_vptr, loadP_ptr, setCells_agg, storeP_ptr, fieldP_ptr, indexP_lits, b_add, b_sub, b_lss, b_gtr, b_geq, u_not, splice_eq, env0_eq, valT_eq, pursL_cons, pursL_nil, Store.new, Store.set, ↓reduceIte, arr_eq, arrB_some, callP_eq, tsOf_eq, beq_eq_false_iff_ne, ne_eq, List.take_succ_cons, List.drop_succ_cons, List.drop_nil, List.take_nil, ↓evs_cons, ↓evs_nil, beq_self_eq_true, see_eq, and_false, Bool.true_eq_false, s_party, s_mkey, s_mord, nth_psts, pur_psts, nth_tars, pur_tars, nth_snds, pur_snds, nth_uses, pur_uses, nth_rsts, pur_rsts, nth_lnks, pur_lnks, nth_tars, pur_tars, nth_snds, pur_snds, nth_uses, pur_uses, nth_rsts, pur_rsts, nth_keys, pur_keys, nth_lnks, pur_lnks, Try.f13, ty3, ty22, ty23, ty56, ty98, ty100, h42, hlt, hx, d1, d2a, d3a, d4i, d6, hpk d4, hpl, o0, m0, m1, q2, q3, keyIs_k3, r1, r2, r3, hput, hwk]
      exact ⟨hall2, by omega⟩
    · have d4i : ¬ (0 : Int) < (k : Int) := by omega
      simp +contextual (maxSteps := 4000000) only [↓ur_skip, ↓ur_seq, ↓ur_block, ↓ur_region, ↓ur_cond, ↓cont_seq, ↓cont_blk, ↓cont_lp, ↓ops_consN, ↓ops_guardN, nY_move, nY_assign, nY_pick, nY_alloc, nY_load, nY_store, nY_binOp, nilO_tmp, nilO_int, nY_unOp, nY_fieldAddr, nY_indexAddr, nY_mapUpdate, nY_callf, ↓ops_nil, opsIf_some, opsIf_none, condC_true, condC_false, guardC_ft, guardC_ff, Option.map_some, Option.bind_some, Option.getD_some, Nat.reduceLT, Bool.false_eq_true, ↓upd_same, ↓upd_ne, Nat.reduceBEq, true_and, and_true, List.getD_cons_zero, List.getD_cons_succ, List.getElem?_toArray, List.getElem?_cons_zero, List.getElem?_cons_succ, cfg_P, cfg_tab, cfg_muts, cfg_frz, cfg_num, numOf_eq, List.length_map, ↓havoc_in, ↓havoc_out, agree_upd, agree_havoc, List.contains_cons, List.contains_nil, Bool.or_false, Bool.or_true, Int.natCast_nonneg, Int.ofNat_lt, Int.toNat_natCast, decide_true, decide_false, List.lookup_nil, tabOf_cons, tab_v, Bool.and_self, Nat.reduceEqDiff, List.nil_append, List.append_nil, updO_same, updO_ne, List.length_cons, List.length_nil, Nat.zero_add, Nat.add_zero, List.drop_zero, List.take_zero, Nat.reduceAdd, List.set_cons_zero, nth_zero, Nat.lt_succ_self, Bool.not_true, Bool.not_false, not_false_eq_true, Nat.le_refl, pur_int, pur_lits, cells_agg, pur_agg, ↓ev_tmp, ↓ev_int, ↓ev_bool, ↓ev_func, ↓guardP_eq, grd_some, ↓iop_move, ↓iop_assign, ↓pick3_bool, ↓iop_pick, ↓iop_alloc, ↓iop_load, ↓iop_store, ↓iop_binOp, ↓iop_unOp, ↓iop_fieldAddr, ↓iop_indexAddr, idxA_int, ↓iop_callv, nrmAll_cons, nrmAll_nil, ↓iop_mapUpdate, mapPut_mref, mapB_some, nrm_agg, nrmL_cons, nrmL_nil, nrm_int, nrm_lits, nrm1_int, pickP_f, pickP_t, loadP_vptr, loadP_ptr, setCells_agg, storeP_ptr, fieldP_ptr, indexP_lits, b_add, b_lss, b_gtr, u_not, splice_eq, env0_eq, valT_eq, pursL_cons, pursL_nil, Store.new, Store.set, ↓reduceIte, arr_eq, arrB_some, callP_eq, tsOf_eq, beq_eq_false_iff_ne, ne_eq, List.take_succ_cons, List.drop_succ_cons, List.drop_nil, List.take_nil, ↓evs_cons, ↓evs_nil, beq_self_eq_true, see_eq, and_false, Bool.true_eq_false, s_party, s_mkey, nth_psts, pur_psts, nth_tars, pur_tars, nth_snds, pur_snds, nth_uses, pur_uses, nth_rsts, pur_rsts, nth_lnks, pur_lnks, nth_tars, pur_tars, nth_snds, pur_snds, nth_uses, pur_uses, nth_rsts, pur_rsts, nth_keys, pur_keys, nth_lnks, pur_lnks, Try.f13, ty3, ty22, ty23, ty56, ty98, h42, hlt, hx, d1, d2a, d3a, d4i, o0, m0, m1, q2, q3, keyIs_k3, r1, r2, r3, hput, hwk]
      exact ⟨hall2, by omega⟩
  have e : k = rs.length := by omega
  subst e
  have hem0 := emR_in (n := t.length) (rs := rs) rs.length hall
  have hE2 : E = if ¬ chK t hn ls l l.length = 0 then chK t hn ls l l.length else @ite _ (bigE (emA rs t hn ls l)) (Classical.propDecidable _) 2 0 := by rw [hE1, if_neg (fun g => g hall)]
  have hA : emA rs t hn ls l = emU t hn ls l (emR rs rs.length) l.length := rfl
  have hein := fun k hk h0 => emU_in (t := t) (hn := hn) (ls := ls) (l := l) huse hem0.1 k hk h0
  generalize hR0 : emR rs rs.length = em0 at *
  simp +contextual (maxSteps := 4000000) only [↓ur_seq, ↓ur_block, ↓ur_exit, ↓ur_region, ↓ur_cond, ↓cont_seq, ↓leave_seq, ↓leave_blk, ↓leave_lp, ↓ops_consN, nY_move, nY_binOp, nilO_tmp, nY_callb, ↓ops_nil, opsIf_some, condC_false, Option.map_some, Option.getD_some, Nat.reduceLT, ↓upd_same, ↓upd_ne, Nat.reduceBEq, true_and, List.getD_cons_zero, List.getD_cons_succ, cfg_P, List.length_map, ↓havoc_in, ↓havoc_out, List.contains_cons, List.contains_nil, Bool.or_false, Bool.or_true, Int.ofNat_lt, decide_false, Nat.lt_irrefl, Bool.not_false, ↓ev_tmp, ↓ev_int, ↓iop_move, ↓iop_binOp, ↓iop_callb, bi_len, lenM_none, lenP_lits, b_lss, env0_eq, ↓reduceIte, ↓evs_cons, ↓evs_nil, beq_self_eq_true, nth_psts, pur_psts, nth_tars, pur_tars, nth_snds, pur_snds, nth_uses, pur_uses, nth_rsts, pur_rsts, nth_lnks, pur_lnks, nth_tars, pur_tars, nth_snds, pur_snds, nth_uses, pur_uses, nth_rsts, pur_rsts, nth_keys, pur_keys, nth_lnks, pur_lnks, Try.f13, ty27, h42]
  refine loop_cnt [10, 11, 12, 18, 19, 20, 90, 91, 92, 93, 94, 95, 96, 97, 98, 99, 100, 101, 102, 103, 104, 105, 106, 107, 108, 109, 110, 111, 112, 113, 114, 115, 116, 117] l.length (fun k ρ st' => ρ 90 = I k ∧ chK t hn ls l k = 0 ∧ st'.obj 0 = some (.map 0 (.ints 3) ((emU t hn ls l em0 k).map encE3)) ∧ 0 < st'.next) (.refl _) ?_ ?_
  · simp +contextual (maxSteps := 4000000) only [↓upd_same, true_and, Int.cast_ofNat_Int, nth_psts, pur_psts, nth_tars, pur_tars, nth_snds, pur_snds, nth_uses, pur_uses, nth_rsts, pur_rsts, nth_lnks, pur_lnks, nth_tars, pur_tars, nth_snds, pur_snds, nth_uses, pur_uses, nth_rsts, pur_rsts, nth_keys, pur_keys, nth_lnks, pur_lnks, Try.f13, emU]
    exact ⟨rfl, o0, hM⟩
  rintro k2 ρ2 ⟨ob2, M2⟩ hk2 ⟨h90, hc0, p0, hM2⟩
  dsimp only at p0 hM2
  have m0 : ¬ 0 = M2 := by omega
  have m1 : ¬ M2 = 0 := by omega
  by_cases hlt2 : k2 < l.length
  · have hwk := wrapM (k := k2) (by omega)
    have hup := huse _ (at_mem' (d := dU) hlt2)
    obtain ⟨⟨_, hb⟩, _⟩ := hein k2 hk2 hc0
    have hcat := ch_at (t := t) (hn := hn) (ls := ls) hlt2 hc0
    have hst : emU t hn ls l em0 (k2 + 1) = addE (emU t hn ls l em0 k2) (ukey (l.getD k2 dU)) (chgM t hn ls (l.getD k2 dU)) := rfl
    have hc1 : chgE t hn ls (l.getD k2 dU) = 0 → chK t hn ls l (k2 + 1) = 0 := fun h => by simp only [chK]; rw [if_neg (fun g => g hc0)]; exact h
    have hle := fun h => chg_le (t := t) hup h
    have hok := fun h => chg_par (t := t) (hn := hn) (ls := ls) (u := l.getD k2 dU) h
    have hput := mput_E (k := ukey (l.getD k2 dU)) (c := chgM t hn ls (l.getD k2 dU)) (em := emU t hn ls l em0 k2)
    have hget := mget_E (k := ukey (l.getD k2 dU)) (em := emU t hn ls l em0 k2)
    have hbu := hb (ukey (l.getD k2 dU))
    generalize hx : l.getD k2 dU = u at *
    by_cases he : chgE t hn ls u = 0
    case neg =>
      have e1 : E = chgE t hn ls u := by
        have := hcat he
        rw [hE2, if_pos (by rw [this]; exact he), this]
      obtain ⟨e2, e3⟩ := bad (by rw [e1]; exact he)
      subst e2 e3
      have e1' := e1.symm
      rw [← e1] at he
      simp +contextual (maxSteps := 4000000) only [↓ur_skip, ↓ur_seq, ↓ur_block, ↓ur_ret, ↓ur_region, ↓ur_cond, ↓cont_seq, ↓done_nil, ↓done_seq, ↓done_blk, ↓done_lp, ↓ops_consN, nY_move, nY_assign, nY_alloc, nY_load, nY_store, nY_binOp, nilO_tmp, nilO_int, nY_indexAddr, nY_extract, nY_callf, ↓ops_nil, opsIf_some, opsIf_none, condC_true, Option.map_some, Option.bind_some, Option.getD_some, Nat.reduceLT, Bool.false_eq_true, ↓upd_same, ↓upd_ne, Nat.reduceBEq, and_true, List.getD_cons_zero, List.getD_cons_succ, List.getElem?_cons_zero, List.getElem?_cons_succ, endQ, cfg_P, cfg_tab, cfg_muts, cfg_frz, cfg_num, numOf_eq, List.map_nil, List.length_map, ↓havoc_in, ↓havoc_out, List.contains_cons, List.contains_nil, Bool.or_false, Bool.or_true, Int.natCast_nonneg, Int.ofNat_lt, Int.toNat_natCast, decide_true, Option.some.injEq, exists_eq_left', List.lookup_cons, List.lookup_nil, tabOf_cons, tab_v, Bool.and_self, Nat.reduceEqDiff, List.nil_append, List.append_nil, updO_same, List.length_cons, List.length_nil, Nat.zero_add, List.drop_zero, List.take_zero, Nat.reduceAdd, List.set_cons_zero, nth_zero, Nat.lt_succ_self, Bool.not_false, not_false_eq_true, Nat.le_refl, pur_int, pur_lits, cells_agg, pur_agg, DRx_int, DRx_nils_lits, DRx_tuple, DRxL_cons, DRxL_nil, ↓ev_tmp, ↓ev_int, ↓ev_nils, ↓ev_func, ↓iop_move, ↓iop_assign, ↓iop_alloc, ↓iop_load, ↓iop_store, ↓iop_binOp, ↓iop_indexAddr, idxA_int, ↓iop_extract, extr_tuple, ↓iop_callv, nrmAll_cons, nrmAll_nil, nrm_agg, nrmL_cons, nrmL_nil, nrm_lits, nrm1_int, nrm1_lits, pickP_t, loadP_vptr, loadP_ptr, setCells_agg, storeP_ptr, indexP_lits, b_neq, b_lss, splice_eq, env0_eq, ires_eq, iresL_2, iresAll_nil, iresAll_cons, iresOne_tmp, valT_eq, pursL_cons, pursL_nil, Store.new, Store.set, ↓reduceIte, arr_eq, arrB_some, callP_eq, tsOf_eq, List.take_succ_cons, List.drop_succ_cons, List.drop_nil, List.take_nil, ↓evs_cons, ↓evs_nil, beq_self_eq_true, see_eq, and_false, Bool.true_eq_false, s_charge, nth_psts, pur_psts, nth_tars, pur_tars, nth_snds, pur_snds, nth_uses, pur_uses, nth_rsts, pur_rsts, nth_lnks, pur_lnks, nth_tars, pur_tars, nth_snds, pur_snds, nth_uses, pur_uses, nth_rsts, pur_rsts, nth_keys, pur_keys, nth_lnks, pur_lnks, Try.f13, ty23, ty26, ty27, ty34, h90, hlt2, hx, hup, e1', he]
    have hc2 := hc1 he
    obtain ⟨g1, g2⟩ := hle he
    have hpar := hok he
    rw [← hst] at hput
    have w1 : IntKind.i64.wrap (sumO (emU t hn ls l em0 k2) (ukey u) + chgM t hn ls u) = sumO (emU t hn ls l em0 k2) (ukey u) + chgM t hn ls u := wrap64 (by omega) (by omega)
    generalize emU t hn ls l em0 (k2 + 1) = em2 at *
    generalize emU t hn ls l em0 k2 = em1 at *
    have hmp : mput (em1.map encE3) (.agg [I (ukey u).1, I (ukey u).2.1, I (ukey u).2.2]) (I (sumO em1 (ukey u) + chgM t hn ls u)) = em2.map encE3 := hput
    have r1 : (-9223372036854775808 ≤ u.2.2.1 ∧ u.2.2.1 ≤ 9223372036854775807) := by have := hpar.2.2; unfold inM at this; omega
    have r2 : (-9223372036854775808 ≤ u.2.1 ∧ u.2.1 ≤ 9223372036854775807) := by have := hpar.2.1; unfold inM at this; omega
    have r3 : (-9223372036854775808 ≤ u.1 ∧ u.1 ≤ 9223372036854775807) := by have := hpar.1; omega
    have hget' : (mget (em1.map encE3) (.agg [I u.2.2.1, I u.2.1, I u.1])).getD (I 0) = I (sumO em1 (ukey u)) := hget
    have hmp' : mput (em1.map encE3) (.agg [I u.2.2.1, I u.2.1, I u.1]) (I (sumO em1 (ukey u) + chgM t hn ls u)) = em2.map encE3 := hmp
    have q2 : ¬ 0 = M2 + 1 := by omega
    have q3 : ¬ M2 + 1 = 0 := by omega
    simp +contextual (maxSteps := 4000000) only [↓ur_skip, ↓ur_seq, ↓ur_block, ↓ur_region, ↓ur_cond, ↓cont_seq, ↓cont_blk, ↓cont_lp, ↓ops_consN, nY_move, nY_assign, nY_alloc, nY_build, nY_load, nY_store, nY_binOp, nilO_tmp, nilO_int, nY_fieldAddr, nY_indexAddr, nY_lookup, nY_mapEntry, nY_entryStore, nY_extract, nY_callf, ↓ops_nil, opsIf_some, opsIf_none, condC_true, condC_false, Option.map_some, Option.bind_some, Option.getD_some, Nat.reduceLT, Bool.false_eq_true, ↓upd_same, ↓upd_ne, Nat.reduceBEq, true_and, and_true, List.getD_cons_zero, List.getD_cons_succ, List.getElem?_cons_zero, List.getElem?_cons_succ, cfg_P, cfg_tab, cfg_muts, cfg_frz, cfg_num, numOf_eq, List.length_map, ↓havoc_in, ↓havoc_out, agree_upd, agree_havoc, List.contains_cons, List.contains_nil, Bool.or_false, Bool.or_true, Int.natCast_nonneg, Int.ofNat_lt, Int.toNat_natCast, decide_true, decide_false, List.lookup_cons, List.lookup_nil, tabOf_cons, tab_v, Bool.and_self, Nat.reduceEqDiff, List.cons_append, List.nil_append, List.append_nil, updO_same, updO_ne, List.length_cons, List.length_nil, Nat.zero_add, Nat.add_zero, List.drop_zero, List.take_zero, Nat.reduceAdd, List.set_cons_zero, Nat.reduceMul, Nat.reduceLeDiff, nth_zero, Nat.lt_succ_self, Bool.not_false, not_true_eq_false, not_false_eq_true, Nat.le_refl, cells_int, pur_int, pur_lits, cells_agg, pur_agg, ↓ev_tmp, ↓ev_int, ↓ev_func, ↓iop_move, ↓iop_assign, ↓iop_alloc, ↓iop_build, ↓iop_load, ↓iop_store, ↓iop_binOp, ↓iop_fieldAddr, ↓iop_indexAddr, idxA_int, ↓iop_extract, extr_tuple, ↓iop_callv, nrmAll_cons, nrmAll_nil, ↓iop_mapEntry, ↓iop_entryStore, ↓iop_lookup, mapSlot_mref, mapStore_mref, mset_eq, mapGet_mref, mapLk_ff, mapB_some, nrm_agg, nrmL_cons, nrmL_nil, nrm_lits, nrm1_int, nrm1_lits, pickP_f, pickP_t, loadP_vptr, loadP_ptr, setCells_agg, storeP_ptr, fieldP_ptr, indexP_lits, b_add, b_neq, b_lss, fill_nil, fill_cons, fill1_some, buildP_eq, bldA_some, splice_eq, env0_eq, valT_eq, pursL_cons, pursL_nil, Store.new, Store.set, ↓reduceIte, arr_eq, arrB_some, callP_eq, tsOf_eq, beq_eq_false_iff_ne, ne_eq, List.take_succ_cons, List.drop_succ_cons, List.drop_nil, List.take_nil, ↓evs_cons, ↓evs_nil, ↓evp_cons, ↓evp_nil, beq_self_eq_true, see_eq, and_false, Bool.true_eq_false, s_charge, nth_psts, pur_psts, nth_tars, pur_tars, nth_snds, pur_snds, nth_uses, pur_uses, nth_rsts, pur_rsts, nth_lnks, pur_lnks, nth_tars, pur_tars, nth_snds, pur_snds, nth_uses, pur_uses, nth_rsts, pur_rsts, nth_keys, pur_keys, nth_lnks, pur_lnks, Try.f13, ty3, ty23, ty26, ty27, ty34, ty98, ty100, h90, hlt2, hx, hup, he, p0, m0, m1, q2, q3, keyIs_k3, r1, r2, r3, hget', hmp', w1, hwk, mset_eq]
    exact ⟨hc2, by omega⟩
  have e : k2 = l.length := by omega
  subst e
  obtain ⟨⟨hnd, hbn⟩, hel⟩ := hein _ (Nat.le_refl _) hc0
  have hemr := hem0.2
  rw [if_neg (fun g => g hc0), hA] at hE2
  have hLE : E = 0 → L = outL (emU t hn ls l em0 l.length) tick (ordK (emU t hn ls l em0 l.length)) ∧ Rs = outR (emU t hn ls l em0 l.length) (ordK (emU t hn ls l em0 l.length)) := fun h => by
    rw [← hL, ← hRs]; unfold perL perR
    rw [if_pos (by rw [hE]; exact h), if_pos (by rw [hE]; exact h), hA]; exact ⟨rfl, rfl⟩
  have hkall := emU_keys (t := t) (hn := hn) (ls := ls) (l := l) (em := em0) (by rw [← hR0]; exact emR_kin hall (mchk_tars c1)) (mchk_tars c1) l.length (Nat.le_refl _) hc0
  generalize emU t hn ls l em0 l.length = em at *
  have hel2 : em.length ≤ 1200 := by omega
  have hkey : ∀ q ∈ keysE em, (0 ≤ q.1 ∧ q.1 ≤ 27) ∧ (0 ≤ q.2.1 ∧ q.2.1 ≤ 12) ∧ (1 ≤ q.2.2 ∧ q.2.2 ≤ 5) := hkall
  have n1 : ¬ 0 = M2 + 1 := by omega
  have n2 : ¬ M2 = M2 + 1 := by omega
  have n3 : ¬ M2 + 1 = M2 := by omega
  simp +contextual (maxSteps := 4000000) only [↓ur_seq, ↓ur_block, ↓ur_exit, ↓ur_region, ↓ur_cond, ↓cont_seq, ↓leave_seq, ↓leave_blk, ↓leave_lp, ↓ops_consN, nY_move, nY_assign, nY_binOp, nilO_tmp, nY_range, ↓ops_nil, opsIf_some, condC_false, Option.map_some, Option.bind_some, Nat.reduceLT, ↓upd_same, ↓upd_ne, Nat.reduceBEq, true_and, cfg_P, List.length_map, ↓havoc_in, ↓havoc_out, List.contains_cons, List.contains_nil, Bool.or_false, Bool.or_true, Int.ofNat_lt, decide_false, Nat.lt_irrefl, Bool.not_false, ↓ev_tmp, ↓ev_nils, ↓iop_move, ↓iop_assign, ↓iop_binOp, ↓iop_range, mapRange_mref, mapB_some, b_lss, Store.new, ↓reduceIte, beq_self_eq_true, nth_psts, pur_psts, nth_tars, pur_tars, nth_snds, pur_snds, nth_uses, pur_uses, nth_rsts, pur_rsts, nth_lnks, pur_lnks, nth_tars, pur_tars, nth_snds, pur_snds, nth_uses, pur_uses, nth_rsts, pur_rsts, nth_keys, pur_keys, nth_lnks, pur_lnks, Try.f13, ty98, h90, p0, m0, m1]
  refine loop_cnt [10, 11, 12, 21, 22, 23, 120, 121, 122, 123, 124, 125, 126, 127, 128, 129, 130, 131] em.length (fun i ρ st' => ∃ seen w, seen.length = i ∧ SeenE em seen w ∧ (∀ j ∈ seen, ¬ 1099511627776 < (em.getD j dE).2.tdiv 1000) ∧ GS st' (ρ 21) (M2 + 1) 3 (w.map keyV) ∧ st'.obj 0 = some (.map 0 (.ints 3) (em.map encE3)) ∧ st'.obj M2 = some (.it (some (0, 0)) em.length seen) ∧ M2 + 1 < st'.next) (.slot _ 21 3 ?_ ?_) ?_ ?_
  · simp +contextual (maxSteps := 4000000) only [↓upd_same, ↓upd_ne, Nat.reduceBEq, nth_psts, pur_psts, nth_tars, pur_tars, nth_snds, pur_snds, nth_uses, pur_uses, nth_rsts, pur_rsts, nth_lnks, pur_lnks, nth_tars, pur_tars, nth_snds, pur_snds, nth_uses, pur_uses, nth_rsts, pur_rsts, nth_keys, pur_keys, nth_lnks, pur_lnks, Try.f13]
  · decide
  · refine ⟨[], [], rfl, ⟨List.nodup_nil, by simp, rfl⟩, by simp, ?_⟩
    simp +contextual (maxSteps := 4000000) only [↓upd_same, and_true, List.map_nil, GS_ref, updO_same, updO_ne, List.length_nil, Nat.lt_succ_self, not_false_eq_true, Store.new, beq_eq_false_iff_ne, ne_eq, Nat.reduceBeqDiff, nth_psts, pur_psts, nth_tars, pur_tars, nth_snds, pur_snds, nth_uses, pur_uses, nth_rsts, pur_rsts, nth_lnks, pur_lnks, nth_tars, pur_tars, nth_snds, pur_snds, nth_uses, pur_uses, nth_rsts, pur_rsts, nth_keys, pur_keys, nth_lnks, pur_lnks, Try.f13, p0, m0, n1, n2]
  rintro i ρ3 ⟨ob3, M3⟩ hi ⟨seen, w, hseen, hsa, hsm, ⟨g, h21, hv⟩, h03, hM3, hMM⟩
  dsimp only at hv h03 hM3 hMM
  rw [List.length_map] at h21
  simp only [ur_block, ur_seq, ur_region, ops_consI]
  conv => arg 2; simp +contextual (maxSteps := 4000000) only [↓ur_skip, ↓ur_seq, ↓ur_block, ↓ur_exit, ↓ur_ret, ↓ur_region, ↓ur_cond, ur_range, Nat.one_ne_zero, ↓run_skip, ↓run_exit, ↓run_ret, ↓run_cond, ↓cont_nil, ↓cont_seq, ↓cont_blk, ↓cont_lp, ↓leave_seq, ↓leave_blk, ↓leave_lp, ↓done_nil, ↓done_seq, ↓done_blk, ↓done_lp, ↓run_seq, ↓run_region, ↓run_block, ↓ops_consL, ↓ops_consN, ↓ops_guardN, ↓leave_nil, ↓setps_cons, ↓setps_nil, rndX_cfg, ↓ops_consVc, ↓ops_guardVc, ↓opsV_func, ↓opsV_yield, nY_move, nY_assign, nY_pick, nY_alloc, nY_box, nY_build, nY_buildSlice, nY_insert, nY_load, nY_store, nY_nilCheck, nY_binOp, nilO_tmp, nilO_int, nilO_bool, nilO_str, nilO_ptr, nilO_iface, nilC_nils, nilC_cons, nilC_nil, nilC_nil', bn_eql, bn_neq, bnn_eql, bnn_neq, Nat.reduceBNe, nY_unOp, nY_convert, nY_makeInterface, nY_makeFunc, nY_makeMap, nY_makeSlice, nY_slice, nY_fieldAddr, nY_field, nY_indexAddr, nY_index, nY_lookup, nY_mapUpdate, nY_mapEntry, nY_entryStore, nY_range, nY_entry, nY_typeAssert, nY_extract, nY_panic, nY_callf, nY_callb, nY_callt, isNone_none, cfg_yl, ↓ops_nil, opsIf_some, opsIf_none, opsIf_if, opsIf_if', map_if, bind_if, condC_true, condC_false, guardC_u, guardC_tt, guardC_tf, guardC_ft, guardC_ff, Option.map_some, Option.map_none, Option.bind_some, Option.bind_none, Option.getD_some, Option.getD_none, Nat.reduceLT, Bool.false_eq_true, ↓upd_same, ↓upd_ne, Nat.reduceBEq, true_and, and_true, List.getD_cons_zero, List.getD_cons_succ, List.getElem?_toArray, List.getElem?_cons_zero, List.getElem?_cons_succ, endQ, decide_eq_true_eq, decide_eq_false_iff_not, true_implies, forall_const, not_dec, cfg_P, cfg_tab, cfg_muts, cfg_frz, cfg_num, numOf_nil, numOf_eq, List.map_cons, List.map_nil, List.length_map, ↓havoc_in, ↓havoc_out, agree_upd, agree_havoc, agree_self, List.contains_cons, List.contains_nil, Bool.or_false, Bool.or_true, Bool.false_or, Bool.true_or, Int.natCast_nonneg, Int.ofNat_lt, Int.toNat_natCast, nth_int, nth_str, decide_true, decide_false, Option.some.injEq, exists_eq_left', PV.int.injEq, PV.bool.injEq, PV.str.injEq, PV.lits.injEq, PV.tuple.injEq, PV.agg.injEq, List.cons.injEq, List.lookup_cons, List.lookup_nil, tabOf_cons, tab_v, tab_m, tab_a, tab_s, tab_x, sortT_ref, sortT_nils, pur_ints, pur_strs, Bool.and_true, Bool.and_self, Bool.true_and, Nat.reduceEqDiff, List.cons_append, List.nil_append, List.append_nil, GS_ref, updO_same, updO_ne, List.length_append, List.length_cons, List.length_nil, Nat.zero_add, Nat.add_zero, List.drop_zero, List.take_length, List.take_zero, Nat.not_succ_le_self, Nat.reduceAdd, List.replicate_succ, List.replicate_zero, List.length_replicate, List.set_cons_zero, List.set_cons_succ, Nat.reduceMul, Nat.reduceLeDiff, nth_zero, nth_succ, Prod.mk.injEq, IObj.arr.injEq, Nat.lt_irrefl, Nat.lt_succ_self, Bool.not_true, Bool.not_false, reduceCtorEq, not_true_eq_false, not_false_eq_true, false_implies, Int.reduceEq, Int.reduceLT, Int.reduceLE, Int.reduceToNat, take_map_len, or_false, or_true, st0, Nat.le_refl, Classical.not_not, cells_bool, scal1_bool, scal_bool, pur_bool, rdC_bool, rdP_bool, isCell_bool, cells_int, scal1_int, scal_int, pur_int, rdC_int, rdP_int, isCell_int, cells_str, scal1_str, scal_str, pur_str, rdC_str, rdP_str, isCell_str, cells_nilp, scal1_nilp, scal_nilp, pur_nilp, rdC_nilp, rdP_nilp, cells_ptr, cells_vptr, pur_vptr, rdC_vptr, rdP_vptr, cells_nils, scal1_nils, scal_nils, pur_nils, rdC_nils, rdP_nils, isCell_nils, cells_lits, scal1_lits, scal_lits, pur_lits, rdC_lits, rdP_lits, isCell_lits, cells_ref, pur_ref, scal1_ref, rdC_ref, rdP_ref, cells_func, pur_func, rdC_func, rdP_func, cells_nilf, scal1_nilf, scal_nilf, pur_nilf, rdC_nilf, rdP_nilf, isCell_nilf, cells_iface, cells_nili, scal1_nili, scal_nili, pur_nili, rdC_nili, rdP_nili, isCell_nili, cells_agg, scal_agg, pur_agg, rdP_agg, scal_tuple, pur_tuple, cells_nilm, cells_mref, cells_iter, isCell_mref, isCell_iter, setCells_nilm, setCells_mref, scal1_nilm, scal_nilm, pur_nilm, rdC_nilm, rdP_nilm, DRx_int, DRx_bool, DRx_str, DRx_nils_lits, DRx_nils_nils, DRx_lits, DRx_ref, DRx_agg, DRx_tuple, DRxL_cons, DRxL_nil, ↓ev_tmp, ↓ev_int, ↓ev_bool, ↓ev_str, ↓ev_nils, ↓ev_nilp, ↓ev_nilf, ↓ev_nili, ↓ev_agg, ↓ev_func, c0_int, c0_bool, c0_nils, c0_str, ↓guardP_eq, grd_some, ↓iop_move, ↓iop_assign, ↓pick3_bool, ↓pick3_true, ↓pick3_false, ↓iop_pick, ↓iop_alloc, ↓iop_box, ↓iop_build, ↓iop_buildSlice, ↓iop_load, ↓iop_store, ↓iop_nilCheck, nilCk_vptr, nilCk_ptr, ↓iop_binOp, ↓iop_unOp, ↓iop_convert, ↓iop_makeFunc, ↓iop_makeSlice, mkSl_int, mkSl_frz, mkSl_re, ↓iop_slice, intOfP_int, slcP_ff, slcP_tf, slcP_ft, slcP_tt, ↓iop_fieldAddr, ↓iop_field, fldV_agg, ↓iop_indexAddr, idxA_int, ↓iop_index, idxV_int, ↓iop_extract, extr_tuple, ↓iop_callv, ↓iop_callb, nrmAll_cons, nrmAll_nil, bi_len, lenM_none, lenM_mref, lenM_nilm, bi_copy, copyP_ref, isStr_ref, isStr_lits, isStr_nils, ↓iop_makeMap, ↓iop_makeMap', ↓iop_insert, ↓iop_mapUpdate, ↓iop_mapEntry, ↓iop_entryStore, ↓iop_lookup, ↓iop_range, ↓iop_entry, mapPut_mref, mapSlot_mref, mapStore_mref, mset_eq, keyIs_ints2, mapGet_mref, mapGet_nilm, mapRange_mref, mapRange_nilm, mapLk_tt, mapLk_ff, mapB_some, keyIs_int, keyIs_str, keyIs_bool, bi_append, bi_append_re, appGuard_lits, appGuard_nils, re_arr, bi_min, bi_max, nrm_agg, nrmL_cons, nrmL_nil, nrm_nils, nrm1_some, nrm1_none, nrm_no, nrm_int, nrm_str, nrm_bool, nrm_lits, nrm_ref, nrm_func, nrm_vptr, nrm_ptr, nrm1_int, nrm1_str, nrm1_bool, nrm1_lits, nrm1_ref, pickP_f, pickP_t, loadP_vptr, loadP_ptr, setCells_agg, setCells_int, setCells_bool, setCells_nils, setCells_ref, storeP_ptr, fieldP_vptr, fieldP_ptr, indexP_lits, indexP_ref, indexP_vptr, indexP_ptr, indexV_str, indexV_agg, lenP_nils, lenP_lits, lenP_ref, lenP_str, elemsP_nils, elemsP_lits, elemsP_ref, elemsP_str, sliceP_nils, sliceP_lits, sliceP_ref, sliceP_str, sliceP_vptr, fixP_ptr, appendP_nils, appendP_ref, b_add, b_sub, b_mul, b_quo, b_rem, b_and, b_or, b_xor, b_andNot, b_eql, b_neq, b_lss, b_leq, b_gtr, b_geq, b_shl, b_shr, bs_add, bs_eql, bs_neq, bs_lss, bs_leq, bs_gtr, bs_geq, u_neg, u_not, cv_int, cv_str, fill_nil, fill_cons, fill1_some, buildP_eq, bldA_none, bldA_some, bel_nil, bel_cons, splice_eq, env0_eq, ires_eq, iresL_1, iresL_2, iresAll_nil, iresAll_cons, iresOne_tmp, iresOne_cell, frzP_eq, frzQ_eq, frzL_eq, again_eq, seal_obj, seal_next, againO_arr, sealO_arr, sealE_agg, sealE_int, sealC_int, sealC_bool, sealC_lits, sealC_nils, sealC_ref, rdAll_cons, rdAll_nil, rdL_cons, rdL_nil, valT_eq, pursL_cons, pursL_nil, Store.new, Store.set, ↓reduceIte, Int.natCast_eq_zero, arr_eq, arrB_some, callP_eq, tsOf_eq, boxP_eq, bslP_eq, beq_eq_false_iff_ne, ne_eq, Nat.reduceBeqDiff, set_int, opsIf_ite, Int.natCast_inj, List.take_succ_cons, List.drop_succ_cons, List.drop_nil, List.take_nil, guardC_td, guardC_fd, condC_d, bb_eql', bb_neq', ↓evs_cons, ↓evs_nil, ↓evp_cons, ↓evp_nil, implies_true, Int.natCast_zero, only_obj, only_next, without_obj, without_next, idsOf_cons, idsOf_nil, idC_ref, idC_int, idC_bool, idC_str, idC_nils, idC_lits, idC_agg, idL_cons, idL_nil, idE_ref, idE_int, idE_bool, idE_str, idE_nils, idE_lits, Int.le_refl, Int.natCast_pos, beq_self_eq_true, beq_iff_eq, List.all_cons, List.all_nil, see_eq, past_eq, false_and, and_false, Bool.true_eq_false, Int.reduceAdd, bits_i64, bits_u64, bits_u32, bits_u8, or_i64, Nat.min_def, Int.reducePow, Int.cast_ofNat_Int, e_mwin, s_mwin, e_party, s_party, e_mkey, s_mkey, e_mord, s_mord, e_mchk, s_mchk, e_charge, s_charge, e_sortK, s_sortK, nth_psts, pur_psts, nth_tars, pur_tars, nth_snds, pur_snds, nth_uses, pur_uses, nth_rsts, pur_rsts, nth_lnks, pur_lnks, nth_tars, pur_tars, nth_snds, pur_snds, nth_uses, pur_uses, nth_rsts, pur_rsts, nth_keys, pur_keys, nth_lnks, pur_lnks, Try.f13, ty3, ty22, ty23, ty24, ty26, ty27, ty30, ty32, ty34, ty40, ty54, ty56, ty80, ty81, ty84, ty86, ty98, ty99, ty100, ty102]
  rw [mapNext_eq hM3 h03]
  refine ⟨by simp, fun hsl => ?_, fun j k v' hjk hns => ?_⟩
  · obtain ⟨hper, hsall⟩ := seenE_all hsa (by omega)
    have hnb : ¬ bigE em := fun ⟨x, hx, hxb⟩ => by
      obtain ⟨i, hi, rfl⟩ := List.getElem_of_mem hx
      have := hsm i (hsall i hi)
      rw [List.getD_eq_getElem?_getD, List.getElem?_eq_getElem hi] at this
      exact this hxb
    rw [if_neg hnb] at hE2
    obtain ⟨e2, e3⟩ := hLE hE2
    have hso : specOf A_sortK R_sortK H_sortK (w.map keyV) = some ((ordK em).map keyV) := by
      rw [s_sortK, if_pos]
      · unfold ordK; rw [sort_perm hper]
      · have := hper.length_eq
        unfold keysE at this
        rw [List.length_map] at this
        omega
    have hwl : w.length = (ordK em).length := by unfold ordK; rw [List.length_mergeSort]; exact hper.length_eq
    have hol : (ordK em).length ≤ 1200 := by rw [← hwl, hper.length_eq]; unfold keysE; rw [List.length_map]; exact hel2
    generalize hks : ordK em = ks at *
    have htk : List.take ks.length (ks.map keyV) = ks.map keyV := List.take_of_length_le (by rw [List.length_map]; exact Nat.le_refl _)
    simp +contextual (maxSteps := 4000000) only [↓ur_seq, ↓ur_block, ↓ur_exit, ↓ur_region, ↓ur_cond, ↓cont_seq, ↓leave_seq, ↓leave_blk, ↓leave_lp, ↓ops_consN, nY_move, nY_assign, nY_extract, nY_callf, nY_callb, ↓ops_nil, opsIf_some, condC_false, Option.map_some, Option.bind_some, Option.getD_some, Nat.reduceLT, Bool.false_eq_true, ↓upd_same, ↓upd_ne, Nat.reduceBEq, true_and, and_true, List.getElem?_cons_zero, cfg_P, cfg_tab, cfg_muts, cfg_frz, List.length_map, ↓havoc_in, List.contains_cons, List.contains_nil, Bool.or_false, Bool.or_true, tabOf_cons, tab_s, sortT_ref, Bool.and_true, Bool.and_self, Nat.reduceEqDiff, List.nil_append, List.append_nil, updO_same, Nat.reduceAdd, pur_ref, pur_func, ↓ev_tmp, ↓ev_int, ↓ev_nils, ↓ev_func, ↓iop_move, ↓iop_assign, ↓iop_extract, extr_tuple, ↓iop_callv, ↓iop_callb, nrmAll_cons, nrmAll_nil, bi_len, lenM_none, nrm_ref, nrm_func, lenP_ref, pursL_cons, pursL_nil, Store.set, ↓reduceIte, arr_eq, arrB_some, callP_eq, tsOf_eq, ↓evs_cons, ↓evs_nil, beq_self_eq_true, nth_psts, pur_psts, nth_tars, pur_tars, nth_snds, pur_snds, nth_uses, pur_uses, nth_rsts, pur_rsts, nth_lnks, pur_lnks, nth_tars, pur_tars, nth_snds, pur_snds, nth_uses, pur_uses, nth_rsts, pur_rsts, nth_keys, pur_keys, nth_lnks, pur_lnks, Try.f13, ty99, ty102, h03, hM3, h21, hv, hso, hwl, htk]
    have x1 : ¬ 0 = M3 := by omega
    have x2 : ¬ M2 + 1 = M3 := by omega
    have x3 : ¬ 0 = M3 + 1 := by omega
    have x4 : ¬ M2 + 1 = M3 + 1 := by omega
    have x5 : ¬ M3 = M3 + 1 := by omega
    have x6 : ¬ M3 + 1 = M3 := by omega
    refine loop_cnt [24, 25, 27, 28, 29, 136, 137, 138, 139, 140, 141, 142, 143, 144, 145, 146, 147, 148, 149, 150, 151, 152, 153, 154, 155, 156, 157, 158, 159, 160, 161, 162, 163, 164, 165, 166, 167, 168, 169, 170, 171, 172, 173, 174, 175, 176, 177, 178, 179, 180, 181, 182, 183, 184, 185, 186] ks.length (fun k ρ st' => ρ 136 = I k ∧ GS st' (ρ 24) M3 6 ((outL em tick (ks.take k)).map pstV) ∧ GS st' (ρ 25) (M3 + 1) 4 ((outR em (ks.take k)).map rstV) ∧ st'.obj 0 = some (.map 0 (.ints 3) (em.map encE3)) ∧ st'.obj (M2 + 1) = some (.arr g 3 (ks.map keyV)) ∧ M3 + 1 < st'.next) (.trans (.slot _ 24 6 ?_ ?_) (.slot _ 25 4 ?_ ?_)) ?_ ?_
    · simp +contextual (maxSteps := 4000000) only [↓upd_same, ↓upd_ne, Nat.reduceBEq, nth_psts, pur_psts, nth_tars, pur_tars, nth_snds, pur_snds, nth_uses, pur_uses, nth_rsts, pur_rsts, nth_lnks, pur_lnks, nth_tars, pur_tars, nth_snds, pur_snds, nth_uses, pur_uses, nth_rsts, pur_rsts, nth_keys, pur_keys, nth_lnks, pur_lnks, Try.f13]
    · decide
    · simp +contextual (maxSteps := 4000000) only [↓upd_same, ↓upd_ne, Nat.reduceBEq, nth_psts, pur_psts, nth_tars, pur_tars, nth_snds, pur_snds, nth_uses, pur_uses, nth_rsts, pur_rsts, nth_lnks, pur_lnks, nth_tars, pur_tars, nth_snds, pur_snds, nth_uses, pur_uses, nth_rsts, pur_rsts, nth_keys, pur_keys, nth_lnks, pur_lnks, Try.f13]
    · decide
    · simp +contextual (maxSteps := 4000000) only [↓upd_same, ↓upd_ne, Nat.reduceBEq, and_true, List.map_nil, GS_ref, updO_same, updO_ne, List.length_nil, List.take_zero, Nat.lt_succ_self, not_false_eq_true, Store.new, beq_eq_false_iff_ne, ne_eq, Nat.reduceBeqDiff, Int.cast_ofNat_Int, nth_psts, pur_psts, nth_tars, pur_tars, nth_snds, pur_snds, nth_uses, pur_uses, nth_rsts, pur_rsts, nth_lnks, pur_lnks, nth_tars, pur_tars, nth_snds, pur_snds, nth_uses, pur_uses, nth_rsts, pur_rsts, nth_keys, pur_keys, nth_lnks, pur_lnks, Try.f13, h03, n1, x1, x2, x3, x4, x5, x6, outL, outR, List.filter_nil, show ¬ M2 = M3 by omega]
    rintro k ρ4 ⟨ob4, M4⟩ hk ⟨h136, ⟨ga, h24, hva⟩, ⟨gb, h25, hvb⟩, h04, hK, hM4⟩
    dsimp only at hva hvb h04 hK hM4
    rw [List.length_map] at h24 h25
    obtain ⟨ol1, ol2⟩ := out_len (em := em) (tick := tick) (ks := ks) (k := k)
    by_cases hlk : k < ks.length
    case neg =>
      have e : k = ks.length := by omega
      subst e
      rw [List.take_length, ← e2] at hva h24
      rw [List.take_length, ← e3] at hvb h25
      have t1 : List.take L.length (L.map pstV) = L.map pstV := List.take_of_length_le (by rw [List.length_map]; exact Nat.le_refl _)
      have t2 : List.take Rs.length (Rs.map rstV) = Rs.map rstV := List.take_of_length_le (by rw [List.length_map]; exact Nat.le_refl _)
      simp +contextual (maxSteps := 4000000) only [↓ur_seq, ↓ur_exit, ↓ur_ret, ↓ur_region, ↓ur_cond, ↓cont_seq, ↓leave_seq, ↓leave_blk, ↓leave_lp, ↓done_nil, ↓ops_consN, nY_move, nY_assign, nY_binOp, nilO_tmp, ↓ops_nil, opsIf_some, condC_false, Option.map_some, Option.bind_some, Nat.reduceLT, ↓upd_same, ↓upd_ne, Nat.reduceBEq, true_and, and_true, endQ, cfg_P, List.length_map, ↓havoc_in, ↓havoc_out, List.contains_cons, List.contains_nil, Bool.or_false, Bool.or_true, Int.ofNat_lt, decide_false, Option.some.injEq, exists_eq_left', Nat.zero_add, List.drop_zero, Prod.mk.injEq, Nat.lt_irrefl, Nat.lt_succ_self, Bool.not_false, Nat.le_refl, DRx_int, DRx_ref, DRx_tuple, DRxL_cons, DRxL_nil, ↓ev_tmp, ↓ev_int, ↓iop_move, ↓iop_assign, ↓iop_binOp, b_lss, ires_eq, iresL_2, iresAll_nil, iresAll_cons, iresOne_tmp, Store.new, ↓reduceIte, arr_eq, arrB_some, beq_self_eq_true, nth_psts, pur_psts, nth_tars, pur_tars, nth_snds, pur_snds, nth_uses, pur_uses, nth_rsts, pur_rsts, nth_lnks, pur_lnks, nth_tars, pur_tars, nth_snds, pur_snds, nth_uses, pur_uses, nth_rsts, pur_rsts, nth_keys, pur_keys, nth_lnks, pur_lnks, Try.f13, h136, h24, h25, hva, hvb, t1, t2, hE2]
    have hwk := wrapM (k := k) (by omega)
    have hos := out_step (em := em) (tick := tick) hlk
    have hrs2 := rst_step (em := em) hlk
    have hnx1 : ks[k]? = some (ks.getD k dK) := by rw [List.getElem?_eq_getElem hlk, List.getD_eq_getElem?_getD, List.getElem?_eq_getElem hlk]; rfl
    generalize hx : ks.getD k dK = x at *
    have hxk : x ∈ keysE em := by
      have : x ∈ ks := by rw [← hx]; exact at_mem' hlk
      rw [← hks] at this
      exact (List.mergeSort_perm _ _).mem_iff.1 this
    have hget := mget_E (k := x) (em := em)
    have hbx := hbn x
    generalize sumO em x = sm at *
    have hkin := hkey x hxk
    have u1 := Int.tdiv_nonneg (a := sm) (b := 1000) (by omega) (by omega)
    have u2 : sm.tdiv 1000 ≤ sm := Int.tdiv_le_self 1000 (by omega)
    have wq : IntKind.i64.wrap (sm.tdiv 1000) = sm.tdiv 1000 := wrap64 (by omega) (by omega)
    have wc : IntKind.i64.wrap (12 + x.1) = 12 + x.1 := wrap64 (by omega) (by omega)
    generalize hO1 : outL em tick (ks.take k) = O1 at *
    generalize outL em tick (ks.take (k + 1)) = O2 at *
    generalize hR1 : outR em (ks.take k) = R1 at *
    generalize outR em (ks.take (k + 1)) = R2 at *
    have hgl : (O1.map pstV).length = O1.length := List.length_map _
    have t1 : List.take O1.length (O1.map pstV) = O1.map pstV := List.take_of_length_le (by rw [List.length_map]; exact Nat.le_refl _)
    have t2 : List.take R1.length (R1.map rstV) = R1.map rstV := List.take_of_length_le (by rw [List.length_map]; exact Nat.le_refl _)
    have hO2 : O1.length + 1 ≤ 2147483648 := by omega
    have hR2 : R1.length + 1 ≤ 2147483648 := by omega
    obtain ⟨kc, kh, kk⟩ := hkin
    have r1 : (-9223372036854775808 ≤ x.1 ∧ x.1 ≤ 9223372036854775807) := by omega
    have r2 : (-9223372036854775808 ≤ x.2.1 ∧ x.2.1 ≤ 9223372036854775807) := by omega
    have r3 : (-9223372036854775808 ≤ x.2.2 ∧ x.2.2 ≤ 9223372036854775807) := by omega
    have y1 : ¬ 0 = M4 := by omega
    have y2 : ¬ M4 = 0 := by omega
    have y3 : ¬ M3 = M4 := by omega
    have y4 : ¬ M4 = M3 := by omega
    have y5 : ¬ M3 + 1 = M4 := by omega
    have y6 : ¬ M4 = M3 + 1 := by omega
    have y7 : ¬ M2 + 1 = M4 := by omega
    have y8 : ¬ M4 = M2 + 1 := by omega
    have z1 : ¬ 0 = M4 + 1 := by omega
    have z2 : ¬ M4 + 1 = 0 := by omega
    have z3 : ¬ M3 = M4 + 1 := by omega
    have z4 : ¬ M4 + 1 = M3 := by omega
    have z5 : ¬ M3 + 1 = M4 + 1 := by omega
    have z6 : ¬ M4 + 1 = M3 + 1 := by omega
    have z7 : ¬ M2 + 1 = M4 + 1 := by omega
    have z8 : ¬ M4 + 1 = M2 + 1 := by omega
    have z9 : ¬ M4 = M4 + 1 := by omega
    have z10 : ¬ M4 + 1 = M4 := by omega
    have v1 : ¬ M3 = M2 + 1 := by omega
    have v2 : ¬ M3 + 1 = M2 + 1 := by omega
    have v3 : ¬ M3 = 0 := by omega
    have v4 : ¬ M3 + 1 = 0 := by omega
    have v5 : ¬ M2 = M3 := by omega
    have v6 : ¬ M3 = M2 := by omega
    have v7 : ¬ M2 = M4 := by omega
    have v8 : ¬ M4 = M2 := by omega
    have lt1 : M3 + 1 < M4 + 1 + 1 := by omega
    have lt2 : M3 + 1 < M4 + 2 := by omega
    have lt3 : M3 < M4 + 1 := by omega
    by_cases c5 : x.2.2 = 5
    · rw [c5] at hget r3
      by_cases ca : 0 < sm.tdiv 1000
      · by_cases cb : 0 < sm.tmod 1000
        · rw [if_pos ca] at hos
          rw [if_pos cb] at hrs2
          rw [hos, hrs2]
          unfold pstK
          rw [if_pos c5]
          simp +contextual (maxSteps := 4000000) only [↓ur_skip, ↓ur_seq, ↓ur_block, ↓ur_region, ↓ur_cond, ↓cont_seq, ↓cont_blk, ↓cont_lp, ↓ops_consN, nY_move, nY_assign, nY_alloc, nY_build, nY_buildSlice, nY_load, nY_store, nY_binOp, nilO_tmp, nilO_int, nY_fieldAddr, nY_indexAddr, nY_lookup, nY_callb, ↓ops_nil, opsIf_some, opsIf_none, condC_true, Option.map_some, Option.bind_some, Option.getD_some, Nat.reduceLT, Bool.false_eq_true, ↓upd_same, ↓upd_ne, Nat.reduceBEq, true_and, and_true, List.getD_cons_zero, List.getD_cons_succ, List.getElem?_cons_zero, List.getElem?_cons_succ, cfg_P, cfg_muts, cfg_frz, cfg_num, numOf_eq, List.length_map, ↓havoc_in, ↓havoc_out, agree_upd, agree_havoc, List.contains_cons, List.contains_nil, Bool.or_false, Bool.or_true, Int.natCast_nonneg, Int.ofNat_lt, Int.toNat_natCast, decide_true, Option.some.injEq, List.cons_append, List.nil_append, List.append_nil, GS_ref, updO_same, updO_ne, List.length_append, List.length_cons, List.length_nil, Nat.zero_add, Nat.add_zero, List.drop_zero, List.take_zero, Nat.not_succ_le_self, Nat.reduceAdd, List.replicate_succ, List.replicate_zero, List.set_cons_zero, Nat.reduceMul, Nat.reduceLeDiff, nth_zero, IObj.arr.injEq, Nat.lt_succ_self, Bool.not_false, reduceCtorEq, not_false_eq_true, Int.reduceEq, Int.reduceLT, Int.reduceLE, Int.reduceToNat, or_false, Nat.le_refl, cells_int, cells_agg, ↓ev_tmp, ↓ev_int, ↓iop_move, ↓iop_assign, ↓iop_alloc, ↓iop_build, ↓iop_buildSlice, ↓iop_load, ↓iop_store, ↓iop_binOp, ↓iop_fieldAddr, ↓iop_indexAddr, idxA_int, ↓iop_callb, ↓iop_lookup, mapGet_mref, mapLk_ff, mapB_some, bi_append, pickP_f, pickP_t, loadP_ptr, setCells_agg, storeP_ptr, fieldP_ptr, indexP_ref, indexP_ptr, elemsP_lits, appendP_ref, b_add, b_quo, b_rem, b_eql, b_lss, b_gtr, fill_nil, fill_cons, fill1_some, buildP_eq, bldA_none, bel_nil, bel_cons, splice_eq, env0_eq, Store.new, Store.set, ↓reduceIte, arr_eq, arrB_some, bslP_eq, beq_eq_false_iff_ne, ne_eq, Nat.reduceBeqDiff, List.take_succ_cons, List.drop_succ_cons, List.drop_nil, List.take_nil, ↓evs_cons, ↓evs_nil, ↓evp_cons, ↓evp_nil, Int.le_refl, beq_self_eq_true, see_eq, Int.cast_ofNat_Int, nth_psts, pur_psts, nth_tars, pur_tars, nth_snds, pur_snds, nth_uses, pur_uses, nth_rsts, pur_rsts, nth_lnks, pur_lnks, nth_tars, pur_tars, nth_snds, pur_snds, nth_uses, pur_uses, nth_rsts, pur_rsts, nth_keys, pur_keys, nth_lnks, pur_lnks, Try.f13, ty3, ty22, ty40, ty54, ty56, ty98, ty100, ty102, h136, h24, h25, hva, hvb, h04, hK, hlk, hx, hwk, hget, keyIs_k3, r1, r2, r3, wq, wc, t1, t2, hO2, hR2, n1, x1, x2, x3, x4, x5, x6, y1, y2, y3, y4, y5, y6, y7, y8, z1, z2, z3, z4, z5, z6, z7, z8, z9, z10, v1, v2, v3, v4, v5, v6, v7, v8, lt1, lt2, lt3, c5, ca, cb, rstK]
          try simp only [List.map_append, List.map_cons, List.map_nil, and_self, true_and, and_true]
          try omega
        · rw [if_pos ca] at hos
          rw [if_neg cb, List.append_nil] at hrs2
          rw [hos, hrs2]
          unfold pstK
          rw [if_pos c5]
          simp +contextual (maxSteps := 4000000) only [↓ur_skip, ↓ur_seq, ↓ur_block, ↓ur_region, ↓ur_cond, ↓cont_seq, ↓cont_blk, ↓cont_lp, ↓ops_consN, nY_move, nY_assign, nY_alloc, nY_build, nY_buildSlice, nY_load, nY_store, nY_binOp, nilO_tmp, nilO_int, nY_fieldAddr, nY_indexAddr, nY_lookup, nY_callb, ↓ops_nil, opsIf_some, opsIf_none, condC_true, condC_false, Option.map_some, Option.bind_some, Option.getD_some, Nat.reduceLT, Bool.false_eq_true, ↓upd_same, ↓upd_ne, Nat.reduceBEq, true_and, and_true, List.getD_cons_zero, List.getD_cons_succ, List.getElem?_cons_zero, List.getElem?_cons_succ, cfg_P, cfg_muts, cfg_frz, cfg_num, numOf_eq, List.length_map, ↓havoc_in, ↓havoc_out, agree_upd, agree_havoc, List.contains_cons, List.contains_nil, Bool.or_false, Bool.or_true, Int.natCast_nonneg, Int.ofNat_lt, Int.toNat_natCast, decide_true, decide_false, Option.some.injEq, List.cons_append, List.nil_append, List.append_nil, GS_ref, updO_same, updO_ne, List.length_append, List.length_cons, List.length_nil, Nat.zero_add, Nat.add_zero, List.drop_zero, List.take_zero, Nat.not_succ_le_self, Nat.reduceAdd, List.replicate_succ, List.replicate_zero, List.set_cons_zero, Nat.reduceMul, Nat.reduceLeDiff, nth_zero, IObj.arr.injEq, Nat.lt_succ_self, Bool.not_false, reduceCtorEq, not_false_eq_true, Int.reduceEq, Int.reduceLT, Int.reduceLE, Int.reduceToNat, or_false, Nat.le_refl, cells_int, cells_agg, ↓ev_tmp, ↓ev_int, ↓iop_move, ↓iop_assign, ↓iop_alloc, ↓iop_build, ↓iop_buildSlice, ↓iop_load, ↓iop_store, ↓iop_binOp, ↓iop_fieldAddr, ↓iop_indexAddr, idxA_int, ↓iop_callb, ↓iop_lookup, mapGet_mref, mapLk_ff, mapB_some, bi_append, pickP_f, pickP_t, loadP_ptr, setCells_agg, storeP_ptr, fieldP_ptr, indexP_ref, indexP_ptr, elemsP_lits, appendP_ref, b_add, b_quo, b_rem, b_eql, b_lss, b_gtr, fill_nil, fill_cons, fill1_some, buildP_eq, bldA_none, bel_nil, bel_cons, splice_eq, env0_eq, Store.new, Store.set, ↓reduceIte, arr_eq, arrB_some, bslP_eq, beq_eq_false_iff_ne, ne_eq, Nat.reduceBeqDiff, List.take_succ_cons, List.drop_succ_cons, List.drop_nil, List.take_nil, ↓evs_cons, ↓evs_nil, ↓evp_cons, ↓evp_nil, Int.le_refl, beq_self_eq_true, see_eq, Int.cast_ofNat_Int, nth_psts, pur_psts, nth_tars, pur_tars, nth_snds, pur_snds, nth_uses, pur_uses, nth_rsts, pur_rsts, nth_lnks, pur_lnks, nth_tars, pur_tars, nth_snds, pur_snds, nth_uses, pur_uses, nth_rsts, pur_rsts, nth_keys, pur_keys, nth_lnks, pur_lnks, Try.f13, ty3, ty40, ty54, ty98, ty100, ty102, h136, h24, h25, hva, hvb, h04, hK, hlk, hx, hwk, hget, keyIs_k3, r1, r2, r3, wq, wc, t1, t2, hO2, hR2, n1, x1, x2, x3, x4, x5, x6, y1, y2, y3, y4, y5, y6, y7, y8, z1, z2, z3, z4, z5, z6, z7, z8, z9, z10, v1, v2, v3, v4, v5, v6, v7, v8, lt1, lt2, lt3, c5, ca, cb, rstK]
          try simp only [List.map_append, List.map_cons, List.map_nil, and_self, true_and, and_true]
          try omega
      · by_cases cb : 0 < sm.tmod 1000
        · rw [if_neg ca, List.append_nil] at hos
          rw [if_pos cb] at hrs2
          rw [hos, hrs2]
          simp +contextual (maxSteps := 4000000) only [↓ur_skip, ↓ur_seq, ↓ur_block, ↓ur_region, ↓ur_cond, ↓cont_seq, ↓cont_blk, ↓cont_lp, ↓ops_consN, nY_move, nY_assign, nY_alloc, nY_build, nY_buildSlice, nY_load, nY_store, nY_binOp, nilO_tmp, nilO_int, nY_fieldAddr, nY_indexAddr, nY_lookup, nY_callb, ↓ops_nil, opsIf_some, opsIf_none, condC_true, condC_false, Option.map_some, Option.bind_some, Option.getD_some, Nat.reduceLT, Bool.false_eq_true, ↓upd_same, ↓upd_ne, Nat.reduceBEq, true_and, and_true, List.getD_cons_zero, List.getD_cons_succ, List.getElem?_cons_zero, List.getElem?_cons_succ, cfg_P, cfg_muts, cfg_frz, cfg_num, numOf_eq, List.length_map, ↓havoc_in, ↓havoc_out, agree_upd, agree_havoc, List.contains_cons, List.contains_nil, Bool.or_false, Bool.or_true, Int.natCast_nonneg, Int.ofNat_lt, Int.toNat_natCast, decide_true, decide_false, Option.some.injEq, List.cons_append, List.nil_append, List.append_nil, GS_ref, updO_same, updO_ne, List.length_append, List.length_cons, List.length_nil, Nat.zero_add, Nat.add_zero, List.drop_zero, List.take_zero, Nat.not_succ_le_self, Nat.reduceAdd, List.replicate_succ, List.replicate_zero, List.set_cons_zero, Nat.reduceMul, Nat.reduceLeDiff, nth_zero, IObj.arr.injEq, Nat.lt_succ_self, Bool.not_false, reduceCtorEq, not_false_eq_true, Int.reduceEq, Int.reduceLT, Int.reduceLE, Int.reduceToNat, or_false, Nat.le_refl, cells_int, cells_agg, ↓ev_tmp, ↓ev_int, ↓iop_move, ↓iop_assign, ↓iop_alloc, ↓iop_build, ↓iop_buildSlice, ↓iop_load, ↓iop_store, ↓iop_binOp, ↓iop_fieldAddr, ↓iop_indexAddr, idxA_int, ↓iop_callb, ↓iop_lookup, mapGet_mref, mapLk_ff, mapB_some, bi_append, pickP_f, pickP_t, loadP_ptr, setCells_agg, storeP_ptr, fieldP_ptr, indexP_ref, indexP_ptr, elemsP_lits, appendP_ref, b_add, b_quo, b_rem, b_eql, b_lss, b_gtr, fill_nil, fill_cons, fill1_some, buildP_eq, bldA_none, bel_nil, bel_cons, splice_eq, env0_eq, Store.new, Store.set, ↓reduceIte, arr_eq, arrB_some, bslP_eq, beq_eq_false_iff_ne, ne_eq, Nat.reduceBeqDiff, List.take_succ_cons, List.drop_succ_cons, List.drop_nil, List.take_nil, ↓evs_cons, ↓evs_nil, ↓evp_cons, ↓evp_nil, Int.le_refl, beq_self_eq_true, see_eq, Int.cast_ofNat_Int, nth_psts, pur_psts, nth_tars, pur_tars, nth_snds, pur_snds, nth_uses, pur_uses, nth_rsts, pur_rsts, nth_lnks, pur_lnks, nth_tars, pur_tars, nth_snds, pur_snds, nth_uses, pur_uses, nth_rsts, pur_rsts, nth_keys, pur_keys, nth_lnks, pur_lnks, Try.f13, ty3, ty22, ty54, ty56, ty98, ty100, ty102, h136, h24, h25, hva, hvb, h04, hK, hlk, hx, hwk, hget, keyIs_k3, r1, r2, r3, wq, wc, t1, t2, hO2, hR2, n1, x1, x2, x3, x4, x5, x6, y1, y2, y3, y4, y5, y6, y7, y8, z1, z2, z3, z4, z5, z6, z7, z8, z9, z10, v1, v2, v3, v4, v5, v6, v7, v8, lt1, lt2, lt3, c5, ca, cb, rstK]
          try simp only [List.map_append, List.map_cons, List.map_nil, and_self, true_and, and_true]
          try omega
        · rw [if_neg ca, List.append_nil] at hos
          rw [if_neg cb, List.append_nil] at hrs2
          rw [hos, hrs2]
          simp +contextual (maxSteps := 4000000) only [↓ur_skip, ↓ur_seq, ↓ur_block, ↓ur_region, ↓ur_cond, ↓cont_seq, ↓cont_blk, ↓cont_lp, ↓ops_consN, nY_move, nY_assign, nY_alloc, nY_build, nY_load, nY_store, nY_binOp, nilO_tmp, nilO_int, nY_fieldAddr, nY_indexAddr, nY_lookup, ↓ops_nil, opsIf_some, opsIf_none, condC_true, condC_false, Option.map_some, Option.bind_some, Option.getD_some, Nat.reduceLT, Bool.false_eq_true, ↓upd_same, ↓upd_ne, Nat.reduceBEq, and_true, List.getD_cons_zero, List.getD_cons_succ, List.getElem?_cons_zero, List.getElem?_cons_succ, cfg_P, cfg_frz, cfg_num, numOf_eq, List.length_map, ↓havoc_in, ↓havoc_out, agree_upd, agree_havoc, List.contains_cons, List.contains_nil, Bool.or_false, Bool.or_true, Int.natCast_nonneg, Int.ofNat_lt, Int.toNat_natCast, decide_true, decide_false, List.cons_append, List.nil_append, List.append_nil, GS_ref, updO_same, updO_ne, List.length_cons, List.length_nil, Nat.zero_add, Nat.add_zero, List.drop_zero, List.take_zero, Nat.reduceAdd, List.set_cons_zero, Nat.reduceMul, Nat.reduceLeDiff, nth_zero, Nat.lt_succ_self, Bool.not_false, not_false_eq_true, Int.reduceEq, Int.reduceLT, Int.reduceLE, Int.reduceToNat, Nat.le_refl, cells_int, cells_agg, ↓ev_tmp, ↓ev_int, ↓iop_move, ↓iop_assign, ↓iop_alloc, ↓iop_build, ↓iop_load, ↓iop_store, ↓iop_binOp, ↓iop_fieldAddr, ↓iop_indexAddr, idxA_int, ↓iop_lookup, mapGet_mref, mapLk_ff, mapB_some, pickP_f, pickP_t, loadP_ptr, setCells_agg, storeP_ptr, fieldP_ptr, indexP_ref, indexP_ptr, b_add, b_quo, b_rem, b_eql, b_lss, b_gtr, fill_nil, fill_cons, fill1_some, buildP_eq, bldA_none, splice_eq, env0_eq, Store.new, Store.set, ↓reduceIte, arr_eq, arrB_some, beq_eq_false_iff_ne, ne_eq, Nat.reduceBeqDiff, List.take_succ_cons, List.drop_succ_cons, List.drop_nil, List.take_nil, ↓evp_cons, ↓evp_nil, Int.le_refl, beq_self_eq_true, see_eq, Int.cast_ofNat_Int, nth_psts, pur_psts, nth_tars, pur_tars, nth_snds, pur_snds, nth_uses, pur_uses, nth_rsts, pur_rsts, nth_lnks, pur_lnks, nth_tars, pur_tars, nth_snds, pur_snds, nth_uses, pur_uses, nth_rsts, pur_rsts, nth_keys, pur_keys, nth_lnks, pur_lnks, Try.f13, ty3, ty54, ty98, ty100, ty102, h136, h24, h25, hva, hvb, h04, hK, hlk, hx, hwk, hget, keyIs_k3, r1, r2, r3, wq, wc, t1, t2, hO2, hR2, n1, x1, x2, x3, x4, x5, x6, y1, y2, y3, y4, y5, y6, y7, y8, z1, z2, z3, z4, z5, z6, z7, z8, z9, z10, v1, v2, v3, v4, v5, v6, v7, v8, lt1, lt2, lt3, c5, ca, cb, rstK]
          try simp only [List.map_append, List.map_cons, List.map_nil, and_self, true_and, and_true]
          try omega
    · by_cases ca : 0 < sm.tdiv 1000
      · by_cases cb : 0 < sm.tmod 1000
        · rw [if_pos ca] at hos
          rw [if_pos cb] at hrs2
          rw [hos, hrs2]
          unfold pstK
          rw [if_neg c5]
          simp +contextual (maxSteps := 4000000) only [↓ur_skip, ↓ur_seq, ↓ur_block, ↓ur_region, ↓ur_cond, ↓cont_seq, ↓cont_blk, ↓cont_lp, ↓ops_consN, nY_move, nY_assign, nY_alloc, nY_build, nY_buildSlice, nY_load, nY_store, nY_binOp, nilO_tmp, nilO_int, nY_fieldAddr, nY_indexAddr, nY_lookup, nY_callb, ↓ops_nil, opsIf_some, opsIf_none, condC_true, condC_false, Option.map_some, Option.bind_some, Option.getD_some, Nat.reduceLT, Bool.false_eq_true, ↓upd_same, ↓upd_ne, Nat.reduceBEq, true_and, and_true, List.getD_cons_zero, List.getD_cons_succ, List.getElem?_cons_zero, List.getElem?_cons_succ, cfg_P, cfg_muts, cfg_frz, cfg_num, numOf_eq, List.length_map, ↓havoc_in, ↓havoc_out, agree_upd, agree_havoc, List.contains_cons, List.contains_nil, Bool.or_false, Bool.or_true, Int.natCast_nonneg, Int.ofNat_lt, Int.toNat_natCast, decide_true, decide_false, Option.some.injEq, List.cons_append, List.nil_append, List.append_nil, GS_ref, updO_same, updO_ne, List.length_append, List.length_cons, List.length_nil, Nat.zero_add, Nat.add_zero, List.drop_zero, List.take_zero, Nat.not_succ_le_self, Nat.reduceAdd, List.replicate_succ, List.replicate_zero, List.set_cons_zero, Nat.reduceMul, Nat.reduceLeDiff, nth_zero, IObj.arr.injEq, Nat.lt_succ_self, Bool.not_false, reduceCtorEq, not_false_eq_true, Int.reduceEq, Int.reduceLT, Int.reduceLE, Int.reduceToNat, or_false, Nat.le_refl, cells_int, cells_agg, ↓ev_tmp, ↓ev_int, ↓iop_move, ↓iop_assign, ↓iop_alloc, ↓iop_build, ↓iop_buildSlice, ↓iop_load, ↓iop_store, ↓iop_binOp, ↓iop_fieldAddr, ↓iop_indexAddr, idxA_int, ↓iop_callb, ↓iop_lookup, mapGet_mref, mapLk_ff, mapB_some, bi_append, pickP_f, pickP_t, loadP_ptr, setCells_agg, storeP_ptr, fieldP_ptr, indexP_ref, indexP_ptr, elemsP_lits, appendP_ref, b_add, b_quo, b_rem, b_eql, b_lss, b_gtr, fill_nil, fill_cons, fill1_some, buildP_eq, bldA_none, bel_nil, bel_cons, splice_eq, env0_eq, Store.new, Store.set, ↓reduceIte, arr_eq, arrB_some, bslP_eq, beq_eq_false_iff_ne, ne_eq, Nat.reduceBeqDiff, List.take_succ_cons, List.drop_succ_cons, List.drop_nil, List.take_nil, ↓evs_cons, ↓evs_nil, ↓evp_cons, ↓evp_nil, Int.le_refl, beq_self_eq_true, see_eq, Int.cast_ofNat_Int, nth_psts, pur_psts, nth_tars, pur_tars, nth_snds, pur_snds, nth_uses, pur_uses, nth_rsts, pur_rsts, nth_lnks, pur_lnks, nth_tars, pur_tars, nth_snds, pur_snds, nth_uses, pur_uses, nth_rsts, pur_rsts, nth_keys, pur_keys, nth_lnks, pur_lnks, Try.f13, ty3, ty22, ty40, ty54, ty56, ty98, ty100, ty102, h136, h24, h25, hva, hvb, h04, hK, hlk, hx, hwk, hget, keyIs_k3, r1, r2, r3, wq, wc, t1, t2, hO2, hR2, n1, x1, x2, x3, x4, x5, x6, y1, y2, y3, y4, y5, y6, y7, y8, z1, z2, z3, z4, z5, z6, z7, z8, z9, z10, v1, v2, v3, v4, v5, v6, v7, v8, lt1, lt2, lt3, c5, ca, cb, rstK]
          try simp only [List.map_append, List.map_cons, List.map_nil, and_self, true_and, and_true]
          try omega
        · rw [if_pos ca] at hos
          rw [if_neg cb, List.append_nil] at hrs2
          rw [hos, hrs2]
          unfold pstK
          rw [if_neg c5]
          simp +contextual (maxSteps := 4000000) only [↓ur_skip, ↓ur_seq, ↓ur_block, ↓ur_region, ↓ur_cond, ↓cont_seq, ↓cont_blk, ↓cont_lp, ↓ops_consN, nY_move, nY_assign, nY_alloc, nY_build, nY_buildSlice, nY_load, nY_store, nY_binOp, nilO_tmp, nilO_int, nY_fieldAddr, nY_indexAddr, nY_lookup, nY_callb, ↓ops_nil, opsIf_some, opsIf_none, condC_true, condC_false, Option.map_some, Option.bind_some, Option.getD_some, Nat.reduceLT, Bool.false_eq_true, ↓upd_same, ↓upd_ne, Nat.reduceBEq, true_and, and_true, List.getD_cons_zero, List.getD_cons_succ, List.getElem?_cons_zero, List.getElem?_cons_succ, cfg_P, cfg_muts, cfg_frz, cfg_num, numOf_eq, List.length_map, ↓havoc_in, ↓havoc_out, agree_upd, agree_havoc, List.contains_cons, List.contains_nil, Bool.or_false, Bool.or_true, Int.natCast_nonneg, Int.ofNat_lt, Int.toNat_natCast, decide_true, decide_false, Option.some.injEq, List.cons_append, List.nil_append, List.append_nil, GS_ref, updO_same, updO_ne, List.length_append, List.length_cons, List.length_nil, Nat.zero_add, Nat.add_zero, List.drop_zero, List.take_zero, Nat.not_succ_le_self, Nat.reduceAdd, List.replicate_succ, List.replicate_zero, List.set_cons_zero, Nat.reduceMul, Nat.reduceLeDiff, nth_zero, IObj.arr.injEq, Nat.lt_succ_self, Bool.not_false, reduceCtorEq, not_false_eq_true, Int.reduceEq, Int.reduceLT, Int.reduceLE, Int.reduceToNat, or_false, Nat.le_refl, cells_int, cells_agg, ↓ev_tmp, ↓ev_int, ↓iop_move, ↓iop_assign, ↓iop_alloc, ↓iop_build, ↓iop_buildSlice, ↓iop_load, ↓iop_store, ↓iop_binOp, ↓iop_fieldAddr, ↓iop_indexAddr, idxA_int, ↓iop_callb, ↓iop_lookup, mapGet_mref, mapLk_ff, mapB_some, bi_append, pickP_f, pickP_t, loadP_ptr, setCells_agg, storeP_ptr, fieldP_ptr, indexP_ref, indexP_ptr, elemsP_lits, appendP_ref, b_add, b_quo, b_rem, b_eql, b_lss, b_gtr, fill_nil, fill_cons, fill1_some, buildP_eq, bldA_none, bel_nil, bel_cons, splice_eq, env0_eq, Store.new, Store.set, ↓reduceIte, arr_eq, arrB_some, bslP_eq, beq_eq_false_iff_ne, ne_eq, Nat.reduceBeqDiff, List.take_succ_cons, List.drop_succ_cons, List.drop_nil, List.take_nil, ↓evs_cons, ↓evs_nil, ↓evp_cons, ↓evp_nil, Int.le_refl, beq_self_eq_true, see_eq, Int.cast_ofNat_Int, nth_psts, pur_psts, nth_tars, pur_tars, nth_snds, pur_snds, nth_uses, pur_uses, nth_rsts, pur_rsts, nth_lnks, pur_lnks, nth_tars, pur_tars, nth_snds, pur_snds, nth_uses, pur_uses, nth_rsts, pur_rsts, nth_keys, pur_keys, nth_lnks, pur_lnks, Try.f13, ty3, ty40, ty54, ty98, ty100, ty102, h136, h24, h25, hva, hvb, h04, hK, hlk, hx, hwk, hget, keyIs_k3, r1, r2, r3, wq, wc, t1, t2, hO2, hR2, n1, x1, x2, x3, x4, x5, x6, y1, y2, y3, y4, y5, y6, y7, y8, z1, z2, z3, z4, z5, z6, z7, z8, z9, z10, v1, v2, v3, v4, v5, v6, v7, v8, lt1, lt2, lt3, c5, ca, cb, rstK]
          try simp only [List.map_append, List.map_cons, List.map_nil, and_self, true_and, and_true]
          try omega
      · by_cases cb : 0 < sm.tmod 1000
        · rw [if_neg ca, List.append_nil] at hos
          rw [if_pos cb] at hrs2
          rw [hos, hrs2]
          simp +contextual (maxSteps := 4000000) only [↓ur_skip, ↓ur_seq, ↓ur_block, ↓ur_region, ↓ur_cond, ↓cont_seq, ↓cont_blk, ↓cont_lp, ↓ops_consN, nY_move, nY_assign, nY_alloc, nY_build, nY_buildSlice, nY_load, nY_store, nY_binOp, nilO_tmp, nilO_int, nY_fieldAddr, nY_indexAddr, nY_lookup, nY_callb, ↓ops_nil, opsIf_some, opsIf_none, condC_true, condC_false, Option.map_some, Option.bind_some, Option.getD_some, Nat.reduceLT, Bool.false_eq_true, ↓upd_same, ↓upd_ne, Nat.reduceBEq, true_and, and_true, List.getD_cons_zero, List.getD_cons_succ, List.getElem?_cons_zero, List.getElem?_cons_succ, cfg_P, cfg_muts, cfg_frz, cfg_num, numOf_eq, List.length_map, ↓havoc_in, ↓havoc_out, agree_upd, agree_havoc, List.contains_cons, List.contains_nil, Bool.or_false, Bool.or_true, Int.natCast_nonneg, Int.ofNat_lt, Int.toNat_natCast, decide_true, decide_false, Option.some.injEq, List.cons_append, List.nil_append, List.append_nil, GS_ref, updO_same, updO_ne, List.length_append, List.length_cons, List.length_nil, Nat.zero_add, Nat.add_zero, List.drop_zero, List.take_zero, Nat.not_succ_le_self, Nat.reduceAdd, List.replicate_succ, List.replicate_zero, List.set_cons_zero, Nat.reduceMul, Nat.reduceLeDiff, nth_zero, IObj.arr.injEq, Nat.lt_succ_self, Bool.not_false, reduceCtorEq, not_false_eq_true, Int.reduceEq, Int.reduceLT, Int.reduceLE, Int.reduceToNat, or_false, Nat.le_refl, cells_int, cells_agg, ↓ev_tmp, ↓ev_int, ↓iop_move, ↓iop_assign, ↓iop_alloc, ↓iop_build, ↓iop_buildSlice, ↓iop_load, ↓iop_store, ↓iop_binOp, ↓iop_fieldAddr, ↓iop_indexAddr, idxA_int, ↓iop_callb, ↓iop_lookup, mapGet_mref, mapLk_ff, mapB_some, bi_append, pickP_f, pickP_t, loadP_ptr, setCells_agg, storeP_ptr, fieldP_ptr, indexP_ref, indexP_ptr, elemsP_lits, appendP_ref, b_add, b_quo, b_rem, b_eql, b_lss, b_gtr, fill_nil, fill_cons, fill1_some, buildP_eq, bldA_none, bel_nil, bel_cons, splice_eq, env0_eq, Store.new, Store.set, ↓reduceIte, arr_eq, arrB_some, bslP_eq, beq_eq_false_iff_ne, ne_eq, Nat.reduceBeqDiff, List.take_succ_cons, List.drop_succ_cons, List.drop_nil, List.take_nil, ↓evs_cons, ↓evs_nil, ↓evp_cons, ↓evp_nil, Int.le_refl, beq_self_eq_true, see_eq, Int.cast_ofNat_Int, nth_psts, pur_psts, nth_tars, pur_tars, nth_snds, pur_snds, nth_uses, pur_uses, nth_rsts, pur_rsts, nth_lnks, pur_lnks, nth_tars, pur_tars, nth_snds, pur_snds, nth_uses, pur_uses, nth_rsts, pur_rsts, nth_keys, pur_keys, nth_lnks, pur_lnks, Try.f13, ty3, ty22, ty54, ty56, ty98, ty100, ty102, h136, h24, h25, hva, hvb, h04, hK, hlk, hx, hwk, hget, keyIs_k3, r1, r2, r3, wq, wc, t1, t2, hO2, hR2, n1, x1, x2, x3, x4, x5, x6, y1, y2, y3, y4, y5, y6, y7, y8, z1, z2, z3, z4, z5, z6, z7, z8, z9, z10, v1, v2, v3, v4, v5, v6, v7, v8, lt1, lt2, lt3, c5, ca, cb, rstK]
          try simp only [List.map_append, List.map_cons, List.map_nil, and_self, true_and, and_true]
          try omega
        · rw [if_neg ca, List.append_nil] at hos
          rw [if_neg cb, List.append_nil] at hrs2
          rw [hos, hrs2]
          simp +contextual (maxSteps := 4000000) only [↓ur_skip, ↓ur_seq, ↓ur_block, ↓ur_region, ↓ur_cond, ↓cont_seq, ↓cont_blk, ↓cont_lp, ↓ops_consN, nY_move, nY_assign, nY_alloc, nY_build, nY_load, nY_store, nY_binOp, nilO_tmp, nilO_int, nY_fieldAddr, nY_indexAddr, nY_lookup, ↓ops_nil, opsIf_some, opsIf_none, condC_true, condC_false, Option.map_some, Option.bind_some, Option.getD_some, Nat.reduceLT, Bool.false_eq_true, ↓upd_same, ↓upd_ne, Nat.reduceBEq, and_true, List.getD_cons_zero, List.getD_cons_succ, List.getElem?_cons_zero, List.getElem?_cons_succ, cfg_P, cfg_frz, cfg_num, numOf_eq, List.length_map, ↓havoc_in, ↓havoc_out, agree_upd, agree_havoc, List.contains_cons, List.contains_nil, Bool.or_false, Bool.or_true, Int.natCast_nonneg, Int.ofNat_lt, Int.toNat_natCast, decide_true, decide_false, List.cons_append, List.nil_append, List.append_nil, GS_ref, updO_same, updO_ne, List.length_cons, List.length_nil, Nat.zero_add, Nat.add_zero, List.drop_zero, List.take_zero, Nat.reduceAdd, List.set_cons_zero, Nat.reduceMul, Nat.reduceLeDiff, nth_zero, Nat.lt_succ_self, Bool.not_false, not_false_eq_true, Int.reduceEq, Int.reduceLT, Int.reduceLE, Int.reduceToNat, Nat.le_refl, cells_int, cells_agg, ↓ev_tmp, ↓ev_int, ↓iop_move, ↓iop_assign, ↓iop_alloc, ↓iop_build, ↓iop_load, ↓iop_store, ↓iop_binOp, ↓iop_fieldAddr, ↓iop_indexAddr, idxA_int, ↓iop_lookup, mapGet_mref, mapLk_ff, mapB_some, pickP_f, pickP_t, loadP_ptr, setCells_agg, storeP_ptr, fieldP_ptr, indexP_ref, indexP_ptr, b_add, b_quo, b_rem, b_eql, b_lss, b_gtr, fill_nil, fill_cons, fill1_some, buildP_eq, bldA_none, splice_eq, env0_eq, Store.new, Store.set, ↓reduceIte, arr_eq, arrB_some, beq_eq_false_iff_ne, ne_eq, Nat.reduceBeqDiff, List.take_succ_cons, List.drop_succ_cons, List.drop_nil, List.take_nil, ↓evp_cons, ↓evp_nil, Int.le_refl, beq_self_eq_true, see_eq, Int.cast_ofNat_Int, nth_psts, pur_psts, nth_tars, pur_tars, nth_snds, pur_snds, nth_uses, pur_uses, nth_rsts, pur_rsts, nth_lnks, pur_lnks, nth_tars, pur_tars, nth_snds, pur_snds, nth_uses, pur_uses, nth_rsts, pur_rsts, nth_keys, pur_keys, nth_lnks, pur_lnks, Try.f13, ty3, ty54, ty98, ty100, ty102, h136, h24, h25, hva, hvb, h04, hK, hlk, hx, hwk, hget, keyIs_k3, r1, r2, r3, wq, wc, t1, t2, hO2, hR2, n1, x1, x2, x3, x4, x5, x6, y1, y2, y3, y4, y5, y6, y7, y8, z1, z2, z3, z4, z5, z6, z7, z8, z9, z10, v1, v2, v3, v4, v5, v6, v7, v8, lt1, lt2, lt3, c5, ca, cb, rstK]
          try simp only [List.map_append, List.map_cons, List.map_nil, and_self, true_and, and_true]
          try omega
  · rw [List.getElem?_map, Option.map_eq_some_iff] at hjk
    obtain ⟨y, hjy, hkv⟩ := hjk
    simp only [encE3, Prod.mk.injEq] at hkv
    obtain ⟨rfl, rfl⟩ := hkv
    obtain ⟨hjl, hjy⟩ := List.getElem?_eq_some_iff.1 hjy
    have hyd : em.getD j dE = y := by simp [hjl, hjy]
    have hnx := seenE_next hsa hjl hns
    rw [hyd] at hnx
    have hys : y.2 = sumO em y.1 := sum_mem hnd y (by rw [← hjy]; exact List.getElem_mem _)
    have hyb := hbn y.1
    have hilt : i < em.length := by
      have := nodup_le em.length (seen ++ [j]) hnx.1 hnx.2.1
      simp at this; omega
    have hent := mapEntry_eq (st := ⟨updO ob3 M2 (some (.it (some (0, 0)) em.length (seen ++ [j]))), M3⟩) (id := M2) (m := 0) (g := 0) (n := em.length) (seen := seen) (i := j) (mk := .ints 3) (es := em.map encE3) (k := keyV y.1) (v := I y.2) (by simp [updO]) (by simp [updO, m0, h03]) (by simp) (by simp [encE3, hjl, hjy])
    have q0 : ¬ 0 = M3 := by omega
    have q1 : ¬ M2 = M3 := by omega
    have q2 : ¬ M2 + 1 = M3 := by omega
    have q3 : ¬ M3 = M2 := by omega
    have q4 : ¬ M3 = 0 := by omega
    have q5 : ¬ M3 = M2 + 1 := by omega
    have hv1 : w.length + 1 ≤ 2147483648 := by
      have h2 : w.length = seen.length := by rw [hsa.2.2, List.length_map]
      omega
    have htk : List.take w.length (w.map keyV) = w.map keyV := List.take_of_length_le (by rw [List.length_map]; exact Nat.le_refl _)
    have hwq : IntKind.i64.wrap (y.2.tdiv 1000) = y.2.tdiv 1000 := by
      have h1 := Int.tdiv_nonneg (a := y.2) (b := 1000) (by omega) (by omega)
      have h2 : y.2.tdiv 1000 ≤ y.2 := Int.tdiv_le_self 1000 (by omega)
      exact wrap64 (by omega) (by omega)
    by_cases hbg : 1099511627776 < y.2.tdiv 1000
    · have hbb : bigE em := ⟨y, by rw [← hjy]; exact List.getElem_mem _, hbg⟩
      rw [if_pos hbb] at hE2
      obtain ⟨e2, e3⟩ := bad (by omega)
      subst e2 e3
      simp +contextual (maxSteps := 4000000) only [↓ur_skip, ↓ur_seq, ↓ur_block, ↓ur_ret, ↓ur_region, ↓ur_cond, ↓cont_seq, ↓done_nil, ↓done_seq, ↓done_blk, ↓done_lp, ↓ops_consN, nY_move, nY_assign, nY_alloc, nY_store, nY_binOp, nilO_int, nY_entry, nY_extract, ↓ops_nil, opsIf_some, opsIf_none, condC_true, Option.map_some, Option.bind_some, Option.getD_some, Nat.reduceLT, Bool.false_eq_true, ↓upd_same, ↓upd_ne, Nat.reduceBEq, and_true, List.getElem?_cons_zero, List.getElem?_cons_succ, endQ, cfg_P, cfg_num, numOf_eq, List.map_nil, ↓havoc_out, List.contains_cons, List.contains_nil, Bool.or_false, decide_true, Option.some.injEq, exists_eq_left', List.nil_append, List.append_nil, updO_same, List.length_cons, List.length_nil, Nat.zero_add, List.take_zero, Nat.reduceAdd, List.set_cons_zero, nth_zero, Nat.lt_succ_self, Bool.not_false, Int.reduceEq, Nat.le_refl, cells_agg, DRx_int, DRx_nils_lits, DRx_tuple, DRxL_cons, DRxL_nil, ↓ev_tmp, ↓ev_int, ↓ev_nils, ↓iop_move, ↓iop_assign, ↓iop_alloc, ↓iop_store, ↓iop_binOp, ↓iop_extract, extr_tuple, ↓iop_entry, setCells_agg, storeP_ptr, b_quo, b_gtr, splice_eq, ires_eq, iresL_2, iresAll_nil, iresAll_cons, iresOne_tmp, Store.new, Store.set, ↓reduceIte, arr_eq, arrB_some, List.drop_succ_cons, List.drop_nil, nth_psts, pur_psts, nth_tars, pur_tars, nth_snds, pur_snds, nth_uses, pur_uses, nth_rsts, pur_rsts, nth_lnks, pur_lnks, nth_tars, pur_tars, nth_snds, pur_snds, nth_uses, pur_uses, nth_rsts, pur_rsts, nth_keys, pur_keys, nth_lnks, pur_lnks, Try.f13, ty100, h03, hM3, h21, hv, m0, m1, n1, n2, n3, q0, q1, q2, q3, q4, q5, hent, hwq, hbg, hE2]
    · simp +contextual (maxSteps := 4000000) only [↓ur_skip, ↓ur_seq, ↓ur_block, ↓ur_region, ↓ur_cond, ↓cont_seq, ↓cont_blk, ↓cont_lp, ↓ops_consN, nY_move, nY_assign, nY_alloc, nY_buildSlice, nY_load, nY_store, nY_binOp, nilO_int, nY_entry, nY_extract, nY_callb, ↓ops_nil, opsIf_some, opsIf_none, condC_true, condC_false, Option.map_some, Option.bind_some, Option.getD_some, Nat.reduceLT, Bool.false_eq_true, ↓upd_same, ↓upd_ne, Nat.reduceBEq, true_and, and_true, List.getElem?_cons_zero, List.getElem?_cons_succ, cfg_P, cfg_muts, cfg_frz, cfg_num, numOf_eq, List.length_map, ↓havoc_in, ↓havoc_out, agree_upd, agree_havoc, List.contains_cons, List.contains_nil, Bool.or_false, Bool.or_true, decide_false, Option.some.injEq, List.nil_append, List.append_nil, GS_ref, updO_same, updO_ne, List.length_cons, List.length_nil, Nat.zero_add, List.drop_zero, List.take_zero, Nat.not_succ_le_self, Nat.reduceAdd, List.replicate_succ, List.replicate_zero, List.set_cons_zero, Nat.reduceMul, Nat.reduceLeDiff, nth_zero, IObj.arr.injEq, Nat.lt_succ_self, Bool.not_false, reduceCtorEq, not_false_eq_true, Int.reduceEq, or_false, Nat.le_refl, cells_agg, ↓ev_tmp, ↓ev_int, ↓iop_move, ↓iop_assign, ↓iop_alloc, ↓iop_buildSlice, ↓iop_load, ↓iop_store, ↓iop_binOp, ↓iop_extract, extr_tuple, ↓iop_callb, ↓iop_entry, bi_append, pickP_t, loadP_ptr, setCells_agg, storeP_ptr, elemsP_lits, appendP_ref, b_quo, b_gtr, bel_nil, bel_cons, splice_eq, Store.new, Store.set, ↓reduceIte, arr_eq, arrB_some, bslP_eq, beq_eq_false_iff_ne, ne_eq, Nat.reduceBeqDiff, List.take_succ_cons, List.drop_succ_cons, List.drop_nil, List.take_nil, ↓evs_cons, ↓evs_nil, ↓evp_cons, ↓evp_nil, beq_self_eq_true, see_eq, nth_psts, pur_psts, nth_tars, pur_tars, nth_snds, pur_snds, nth_uses, pur_uses, nth_rsts, pur_rsts, nth_lnks, pur_lnks, nth_tars, pur_tars, nth_snds, pur_snds, nth_uses, pur_uses, nth_rsts, pur_rsts, nth_keys, pur_keys, nth_lnks, pur_lnks, Try.f13, ty100, ty102, h03, hM3, h21, hv, m0, m1, n1, n2, n3, q0, q1, q2, q3, q4, q5, hent, hwq, hbg, hv1, htk]
      refine ⟨hilt, seen ++ [j], w ++ [y.1], by simp [hseen], hnx, fun j' hj' => ?_, ⟨by simp, by rw [List.map_append]; rfl⟩, rfl, by omega⟩
      rcases List.mem_append.1 hj' with h | h
      · exact hsm j' h
      · simp only [List.mem_singleton] at h
        rw [h, hyd]; exact hbg
theorem o_period : O_period := k_period c_period
end Sim
