/- What functions of this seat compute, by values: contracts (lemmas of the statement's proof, under the conditions that each names). -/
import Derived.Test.YtpdaiflnibekaaaQQ
namespace Sim
open Go Go.Proofs
set_option maxRecDepth 10000
set_option maxHeartbeats 2000000
set_option linter.unusedVariables false
set_option linter.unusedSimpArgs false
attribute [local congr] opsIf_congr condC_congr guardC_congr grd_congr pick3_congr obind_congr omap_congr opsV_congr

/-! Numbers without repetition. -/
theorem nodup_le : ∀ (L : Nat) (l : List Nat), l.Nodup → (∀ x ∈ l, x < L) → l.length ≤ L
  | 0, l, _, h => by
    cases l with
    | nil => exact Nat.le_refl _
    | cons a l => exact absurd (h a (by simp)) (by omega)
  | L + 1, l, hn, h => by
    by_cases hm : L ∈ l
    · have h1 := nodup_le L (l.erase L) (hn.erase L) (fun x hx => by
        have h2 := (hn.mem_erase_iff).1 hx
        have := h x h2.2
        omega)
      rw [List.length_erase_of_mem hm] at h1
      omega
    · have := nodup_le L l hn (fun x hx => by
        have h1 := h x hx
        have : x ≠ L := fun e => hm (e ▸ hx)
        omega)
      omega
theorem nodup_full : ∀ (L : Nat) (l : List Nat), l.Nodup → (∀ x ∈ l, x < L) → l.length = L → ∀ i, i < L → i ∈ l
  | 0, l, _, _, _, i, hi => by omega
  | L + 1, l, hn, h, hl, i, hi => by
    have hm : L ∈ l := by
      apply Classical.byContradiction
      intro hm
      have := nodup_le L l hn (fun x hx => by
        have h1 := h x hx
        have : x ≠ L := fun e => hm (e ▸ hx)
        omega)
      omega
    by_cases e : i = L
    · subst e; exact hm
    · have := nodup_full L (l.erase L) (hn.erase L) (fun x hx => by
        have h2 := (hn.mem_erase_iff).1 hx
        have := h x h2.2
        omega) (by rw [List.length_erase_of_mem hm]; omega) i (by omega)
      exact List.mem_of_mem_erase this
def keysOK (es : List (Nat × Int)) : Prop := (es.map (·.1)).Nodup
theorem put_keys {k : Nat} {v : Int} : ∀ {es : List (Nat × Int)} {t : Nat}, t ∈ (aput es k v).map (·.1) ↔ t = k ∨ t ∈ es.map (·.1)
  | [], t => by simp [aput]
  | e :: es, t => by
    have ih := put_keys (k := k) (v := v) (es := es) (t := t)
    by_cases h : k = e.1
    · simp only [aput, h, if_true, List.map_cons, List.mem_cons]
      constructor
      · rintro (h | h)
        · exact .inl h
        · exact .inr (.inr h)
      · rintro (h | h | h)
        · exact .inl h
        · exact .inl h
        · exact .inr h
    · simp only [aput, h, if_false, List.map_cons, List.mem_cons, ih]
      constructor
      · rintro (h | h | h)
        · exact .inr (.inl h)
        · exact .inl h
        · exact .inr (.inr h)
      · rintro (h | h | h)
        · exact .inr (.inl h)
        · exact .inl h
        · exact .inr (.inr h)
theorem put_ok {k : Nat} {v : Int} : ∀ {es : List (Nat × Int)}, keysOK es → keysOK (aput es k v)
  | [], _ => by simp [keysOK, aput]
  | e :: es, h => by
    simp only [keysOK, List.map_cons, List.nodup_cons] at h
    by_cases hk : k = e.1
    · simp only [aput, hk, if_true, keysOK, List.map_cons, List.nodup_cons]; exact h
    · simp only [aput, hk, if_false, keysOK, List.map_cons, List.nodup_cons]
      refine ⟨fun hm => ?_, put_ok h.2⟩
      rcases put_keys.1 hm with h1 | h1
      · exact hk h1.symm
      · exact h.1 h1
theorem upd_ok {s : Nat} {es : List (Nat × Int)} {x : Nat × Int} (h : keysOK es) : keysOK (updV s es x) := by
  unfold updV
  split
  · exact h
  · split
    · exact put_ok h
    · split
      · exact put_ok h
      · exact h
theorem fold_ok {s : Nat} : ∀ (l : List (Nat × Int)) {es : List (Nat × Int)}, keysOK es → keysOK (l.foldl (updV s) es)
  | [], es, h => h
  | x :: l, es, h => fold_ok l (upd_ok h)
theorem vals_ok {st : Int} {rs : List Rep} : ∀ j, keysOK (valsT st rs j)
  | 0 => by simp [keysOK, valsT]
  | j + 1 => fold_ok _ (vals_ok j)
theorem aget_of {es : List (Nat × Int)} (h : keysOK es) {i : Nat} {e : Nat × Int} (he : es[i]? = some e) : aget es e.1 = some e.2 := by
  induction es generalizing i with
  | nil => simp at he
  | cons a es ih =>
    simp only [keysOK, List.map_cons, List.nodup_cons] at h
    cases i with
    | zero => simp at he; subst he; simp [aget]
    | succ i =>
      simp only [List.getElem?_cons_succ] at he
      have hm : e.1 ∈ es.map (·.1) := List.mem_map.2 ⟨e, List.mem_of_getElem? he, rfl⟩
      have hne : ¬ e.1 = a.1 := fun x => h.1 (x ▸ hm)
      simp only [aget, hne, if_false]
      exact ih h.2 he
theorem aget_mem {es : List (Nat × Int)} {k : Nat} {v : Int} (h : aget es k = some v) : ∃ i : Nat, es[i]? = some (k, v) := by
  induction es with
  | nil => simp [aget] at h
  | cons a es ih =>
    simp only [aget] at h
    split at h
    · rename_i e
      cases h
      exact ⟨0, by rw [e]; rfl⟩
    · obtain ⟨i, hi⟩ := ih h
      exact ⟨i + 1, by simpa using hi⟩

def most : Int := 1125899906842624
def outV (st : Int) (rs : List Rep) : List Int := (List.range (2 ^ rs.length)).map fun s => (V st rs s).getD most
def proveM (st : Int) (rs : List Rep) : List Int × Int := if (bestM st rs).2 ≠ 0 then ([], (bestM st rs).2) else (outV st rs, 0)
theorem outV_len {st : Int} {rs : List Rep} : (outV st rs).length = 2 ^ rs.length := by simp [outV]
theorem outV_get {st : Int} {rs : List Rep} {s : Nat} (h : s < 2 ^ rs.length) : (outV st rs).getD s 0 = (V st rs s).getD most := by simp [outV, h]
theorem outV_b {st : Int} {rs : List Rep} (hc : OKc st rs) {s : Nat} (h : s < 2 ^ rs.length) : inV ((outV st rs).getD s 0) := by
  rw [outV_get h]
  cases hv : V st rs s with
  | none => exact ⟨by simp [most], by simp [most]⟩
  | some v => have := V_bound hc hv; exact ⟨this.2.1, by simp; omega⟩
/-- The values are a proof. -/
theorem outV_le {st : Int} {rs : List Rep} (hc : OKc st rs) {s : Nat} (hs : s < 2 ^ rs.length) {x : Nat × Int} (hx : x ∈ nextM st rs s) : s ||| 2 ^ x.1 < 2 ^ rs.length ∧ (outV st rs).getD s 0 ≤ x.2 + (outV st rs).getD (s ||| 2 ^ x.1) 0 := by
  have hb := next_b hc hx
  have hle := next_le (rs := rs) (s := s) (by unfold allS; omega) hx
  have hgt := next_or hx
  have hp := one_le_pow rs.length
  have hlt : s ||| 2 ^ x.1 < 2 ^ rs.length := by unfold allS at hle; omega
  refine ⟨hlt, ?_⟩
  have h1 := (outV_b (st := st) hc hs).2
  rw [outV_get hs] at h1 ⊢
  rw [outV_get hlt]
  have hsl : s < allS rs := by omega
  cases hv : V st rs (s ||| 2 ^ x.1) with
  | none => simp only [Option.getD_none]; unfold most at *; omega
  | some r =>
    simp only [Option.getD_some]
    cases hw : V st rs s with
    | none => have := (V_none hsl).1 hw x hx; rw [hv] at this; cases this
    | some w => exact (V_some hsl hw).2 x hx r hv

theorem ext_get {a b : List Int} (h : a.length = b.length) (he : ∀ i, i < a.length → a.getD i 0 = b.getD i 0) : a = b := ext_upto h he
/-- What lies in the array while the map is ranged over. -/
def FillAt (st : Int) (rs : List Rep) (seen : List Nat) (o : List Int) : Prop :=
  o.length = 2 ^ rs.length ∧ seen.Nodup ∧ (∀ i ∈ seen, i < (valsM st rs).length) ∧
    ∀ s, s < 2 ^ rs.length → (o.getD s 0 = most ∧ ∀ i ∈ seen, ∀ v, (valsM st rs)[i]? ≠ some (s, v)) ∨ ∃ i ∈ seen, (valsM st rs)[i]? = some (s, o.getD s 0)
theorem fill_zero {st : Int} {rs : List Rep} : FillAt st rs [] (List.replicate (2 ^ rs.length) most) :=
  ⟨by simp, List.nodup_nil, by simp, fun s hs => .inl ⟨by simp [hs], by simp⟩⟩
theorem key_lt {st : Int} {rs : List Rep} (hc : OKc st rs) {i k : Nat} {v : Int} (h : (valsM st rs)[i]? = some (k, v)) : k < 2 ^ rs.length := by
  have := aget_of (vals_ok _) h
  have := (V_bound hc (s := k) (v := v) this).1
  have hp := one_le_pow rs.length
  unfold allS at this
  omega
theorem fill_succ {st : Int} {rs : List Rep} {seen : List Nat} {o : List Int} (hf : FillAt st rs seen o) {i k : Nat} {v : Int} (hi : (valsM st rs)[i]? = some (k, v)) (hn : i ∉ seen) (hk : k < 2 ^ rs.length) : FillAt st rs (seen ++ [i]) (o.set k v) := by
  obtain ⟨h1, h2, h3, h4⟩ := hf
  refine ⟨by simp [h1], ?_, ?_, fun s hs => ?_⟩
  · rw [List.nodup_append]
    exact ⟨h2, by simp, fun a ha b hb e => by simp at hb; subst hb; subst e; exact hn ha⟩
  · intro j hj
    rcases List.mem_append.1 hj with hj | hj
    · exact h3 j hj
    · simp at hj; subst hj; exact (List.getElem?_eq_some_iff.1 hi).1
  · rw [getD_set]
    by_cases e : k = s
    · subst e
      refine .inr ⟨i, by simp, ?_⟩
      rw [if_pos ⟨rfl, by omega⟩]; exact hi
    · rw [if_neg (by simp [e])]
      rcases h4 s hs with ⟨g1, g2⟩ | ⟨j, g1, g2⟩
      · refine .inl ⟨g1, fun j hj w => ?_⟩
        rcases List.mem_append.1 hj with hj | hj
        · exact g2 j hj w
        · simp at hj; subst hj
          rw [hi]; simp [e]
      · exact .inr ⟨j, by simp [g1], g2⟩
theorem fill_end {st : Int} {rs : List Rep} {seen : List Nat} {o : List Int} (hf : FillAt st rs seen o) (hl : seen.length = (valsM st rs).length) : o = outV st rs := by
  obtain ⟨h1, h2, h3, h4⟩ := hf
  have hall := nodup_full _ seen h2 h3 hl
  refine ext_get (by rw [h1, outV_len]) fun s hs => ?_
  rw [h1] at hs
  rw [outV_get hs]
  rcases h4 s hs with ⟨g1, g2⟩ | ⟨j, _, g2⟩
  · rw [g1]
    cases hv : V st rs s with
    | none => rfl
    | some v =>
      obtain ⟨i, hi⟩ := aget_mem hv
      exact absurd hi (g2 i (hall i (List.getElem?_eq_some_iff.1 hi).1) v)
  · have := aget_of (vals_ok _) g2
    have hv : V st rs s = some (o.getD s 0) := this
    rw [hv]; rfl
theorem best_ok {st : Int} {rs : List Rep} (h : (bestM st rs).2 = 0) : OKc st rs ∧ ∃ v, V st rs 0 = some v := by
  unfold bestM at h
  split at h
  · contradiction
  · rename_i h1
    split at h
    · cases h
    · rename_i v hv
      exact ⟨check_zero.1 (Classical.not_not.1 h1), v, hv⟩
theorem set_self {l : List Int} {s : Nat} (h : s < l.length) : l.set s (l.getD s 0) = l := by
  apply List.ext_getElem?
  intro i
  rw [List.getElem?_set]
  by_cases e : s = i
  · subst e; simp [h]
  · simp [e]
noncomputable def A_Prove : (Int) × (List Rep) → List PV := fun (st, rs) => [.agg [I st, reps rs]]
noncomputable def R_Prove : (Int) × (List Rep) → PV := fun (st, rs) => .tuple [ints (proveM st rs).1, I (proveM st rs).2]
def H_Prove : (Int) × (List Rep) → Prop := fun (st, rs) => True
noncomputable def e_Prove : Nat × Ent := (33, .v (specOf A_Prove R_Prove H_Prove))
theorem j_Prove : ∀ i j, A_Prove i = A_Prove j → i = j := by
  rintro ⟨st₁, rs₁⟩ ⟨st₂, rs₂⟩ h
  simp only [A_Prove, List.cons.injEq, and_true, PV.lits.injEq, PV.int.injEq, PV.bool.injEq, PV.str.injEq, PV.agg.injEq, PV.func.injEq, PV.vptr.injEq, true_and, List.map_nil, inj_ints, inj_strs, inj_reps] at h
  simp [Prod.ext_iff, h] <;> omega
theorem s_Prove (st : Int) (rs : List Rep) : specOf A_Prove R_Prove H_Prove [.agg [I st, reps rs]] = some (.tuple [ints (proveM st rs).1, I (proveM st rs).2]) := specOf_app j_Prove (i := (st, rs)) trivial
def C_Prove : Prop := ∀ (st : Int) (rs : List Rep) , VC Try.prog 33 [.agg [I st, reps rs]] (.tuple [ints (proveM st rs).1, I (proveM st rs).2])
def O_Prove : Prop := EntOK Try.prog e_Prove.1 e_Prove.2
theorem k_Prove (c : C_Prove) : O_Prove := specOf_ok fun ⟨st, rs⟩ h => c st rs
theorem c_Prove : C_Prove := by
  intro st rs
  refine vc_ofD mixed (l := [e_Best, e_repeat, e_values, e_next]) ((eok_cons o_Best (eok_cons o_repeat (eok_cons o_values (eok_cons o_next eok_nil))))) [] [] 0 1 Try.func33 rfl (by decide +kernel) (N := 69) rfl (by simp) rfl (by kernel_rfl) fun hs => ?_
  simp only [smallL, PV.small, List.length_map, and_true, true_and] at hs
  by_cases h : (bestM st rs).2 = 0
  case neg =>
    rw [show proveM st rs = ([], (bestM st rs).2) by simp [proveM, h]]
    simp +contextual (maxSteps := 4000000) only [↓ur_seq, ↓ur_ret, ↓ur_region, ↓ur_cond, ↓cont_seq, ↓done_nil, ↓done_seq, ↓ops_consN, nY_move, nY_assign, nY_box, nY_load, nY_binOp, nY_extract, nY_callf, ↓ops_nil, opsIf_some, condC_true, Option.map_some, Option.bind_some, Option.getD_some, Nat.reduceLT, Bool.false_eq_true, ↓upd_same, ↓upd_ne, Nat.reduceBEq, and_true, List.getD_cons_zero, List.getElem?_cons_zero, List.getElem?_cons_succ, endQ, cfg_P, cfg_tab, cfg_muts, cfg_frz, List.map_nil, List.contains_nil, decide_true, Option.some.injEq, exists_eq_left', List.lookup_cons, List.lookup_nil, tabOf_cons, tab_v, Bool.and_self, List.nil_append, List.append_nil, List.length_cons, List.length_nil, Nat.zero_add, List.drop_zero, Nat.reduceAdd, not_false_eq_true, Nat.le_refl, pur_int, pur_lits, cells_agg, pur_agg, DRx_int, DRx_nils_lits, DRx_tuple, DRxL_cons, DRxL_nil, ↓ev_tmp, ↓ev_int, ↓ev_nils, ↓ev_func, ↓iop_move, ↓iop_assign, ↓iop_box, ↓iop_load, ↓iop_binOp, ↓iop_extract, extr_tuple, ↓iop_callv, nrmAll_cons, nrmAll_nil, nrm_agg, nrmL_cons, nrmL_nil, nrm1_int, nrm1_lits, pickP_t, loadP_vptr, b_neq, env0_eq, ires_eq, iresL_2, iresAll_nil, iresAll_cons, iresOne_tmp, valT_eq, pursL_cons, pursL_nil, ↓reduceIte, callP_eq, boxP_eq, List.take_succ_cons, List.take_nil, ↓evs_cons, ↓evs_nil, beq_self_eq_true, see_eq, and_false, Bool.true_eq_false, e_Best, s_Best, e_repeat, e_values, e_next, nth_reps, pur_reps, Try.f33, ty24, h]
  obtain ⟨hc, v0, hv0⟩ := best_ok h
  rw [show proveM st rs = (outV st rs, 0) by simp [proveM, h]]
  have h10 := hc.len
  have hp := pow1024 (k := rs.length) h10
  have hp1 := one_le_pow rs.length
  have hsh := shl1 (k := rs.length) (by omega)
  have h64 : rs.length ≤ 64 := by omega
  have hmost : (1125899906842624 : Int) = most := rfl
  have hrep : (List.replicate (2 ^ rs.length) (I 1125899906842624)) = (List.replicate (2 ^ rs.length) most).map (PV.int .i64) := by simp [most]
  have hle1 : ∀ s, s < 2 ^ rs.length → ∀ x ∈ nextM st rs s, s ||| 2 ^ x.1 < 2 ^ rs.length ∧ (outV st rs).getD s 0 ≤ x.2 + (outV st rs).getD (s ||| 2 ^ x.1) 0 := fun s hs x hx => outV_le hc hs hx
  have hvb : ∀ s, s < 2 ^ rs.length → inV ((outV st rs).getD s 0) := fun s hs => outV_b hc hs
  have hlen := outV_len (st := st) (rs := rs)
  generalize hr : outV st rs = r at *
  have hsr : specOf A_repeat R_repeat H_repeat [.lits 1 [I 1125899906842624], I ((2 ^ rs.length : Nat) : Int)] = some ((List.replicate (2 ^ rs.length) most).map (PV.int .i64)) := by
    have := s_repeat 1125899906842624 (2 ^ rs.length)
    rw [if_pos ⟨hp1, hp⟩, hrep] at this
    exact this
  simp +contextual (maxSteps := 4000000) only [↓ur_skip, ↓ur_seq, ↓ur_block, ↓ur_region, ↓ur_cond, ↓cont_seq, ↓ops_consN, nY_move, nY_assign, nY_alloc, nY_box, nY_buildSlice, nY_load, nY_store, nY_binOp, nY_fieldAddr, nY_range, nY_extract, nY_callf, nY_callb, ↓ops_nil, opsIf_some, opsIf_none, opsIf_if', map_if, condC_false, Option.map_some, Option.map_none, Option.bind_some, Option.getD_some, Nat.reduceLT, Bool.false_eq_true, ↓upd_same, ↓upd_ne, Nat.reduceBEq, true_and, and_true, List.getD_cons_zero, List.getElem?_cons_zero, List.getElem?_cons_succ, cfg_P, cfg_tab, cfg_muts, cfg_frz, cfg_num, numOf_eq, List.length_map, List.contains_nil, Int.toNat_natCast, decide_false, List.lookup_cons, List.lookup_nil, tabOf_cons, tab_v, tab_m, tab_a, Bool.and_self, Nat.reduceEqDiff, List.nil_append, List.append_nil, updO_same, List.length_cons, List.length_nil, Nat.zero_add, List.drop_zero, Nat.reduceAdd, List.replicate_succ, List.replicate_zero, List.length_replicate, List.set_cons_zero, Nat.reduceMul, Nat.reduceLeDiff, nth_zero, Nat.lt_succ_self, not_true_eq_false, Nat.le_refl, cells_int, pur_int, cells_nils, pur_lits, cells_ref, cells_agg, pur_agg, ↓ev_tmp, ↓ev_int, ↓ev_nils, ↓ev_func, ↓iop_move, ↓iop_assign, ↓iop_alloc, ↓iop_box, ↓iop_buildSlice, ↓iop_load, ↓iop_store, ↓iop_binOp, ↓iop_fieldAddr, ↓iop_extract, extr_tuple, ↓iop_callv, ↓iop_callb, nrmAll_cons, nrmAll_nil, bi_len, lenM_none, ↓iop_range, mapRange_mref, mapB_some, nrm_agg, nrmL_cons, nrmL_nil, nrm_int, nrm_lits, nrm1_int, nrm1_lits, pickP_f, pickP_t, loadP_vptr, setCells_nils, storeP_ptr, fieldP_vptr, lenP_lits, b_neq, b_shl, bel_nil, bel_cons, env0_eq, valT_eq, pursL_cons, pursL_nil, Store.new, Store.set, ↓reduceIte, arr_eq, arrB_some, callP_eq, boxP_eq, bslP_eq, List.take_succ_cons, List.take_nil, ↓evs_cons, ↓evs_nil, ↓evp_cons, ↓evp_nil, beq_self_eq_true, see_eq, and_false, Bool.true_eq_false, bits_i64, Nat.min_def, e_Best, s_Best, e_repeat, e_values, s_values, e_next, nth_reps, pur_reps, Try.f33, ty3, ty22, ty24, ty25, ty71, h, h64, hsh, hc, hsr]
  refine ⟨by omega, ?_⟩
  refine loop_cnt [7, 8, 28, 29, 30, 31, 32, 33, 34, 35, 36] (valsM st rs).length (fun i ρ st' => ∃ seen o, seen.length = i ∧ FillAt st rs seen o ∧ st'.obj 0 = some (.arr 0 1 (o.map (PV.int .i64))) ∧ st'.obj 1 = some (.arr 0 1 [.ref 0 0 0 (2 ^ rs.length)]) ∧ st'.obj 2 = some (.map 0 (.int .i64) (encE (valsM st rs))) ∧ st'.obj 3 = some (.it (some (2, 0)) (valsM st rs).length seen) ∧ st'.next = 4) (.refl _) ?_ ?_
  · refine ⟨[], List.replicate (2 ^ rs.length) most, rfl, fill_zero, ?_⟩
    simp +contextual (maxSteps := 4000000) only [Nat.reduceBEq, and_true, updO_same, updO_ne, nth_reps, pur_reps, Try.f33]
  · rintro i ρ ⟨ob, M⟩ hi ⟨seen, o, hseen, hfill, h0, h1, h2, h3, hM⟩
    dsimp only at h0 h1 h2 h3 hM
    subst hM
    simp only [ur_block, ur_seq, ur_region, ops_consI]
    conv => arg 2; simp +contextual (maxSteps := 4000000) only [↓ur_skip, ↓ur_seq, ↓ur_block, ↓ur_exit, ↓ur_ret, ↓ur_region, ↓ur_cond, ur_range, Nat.one_ne_zero, ↓run_skip, ↓run_exit, ↓run_ret, ↓run_cond, ↓cont_nil, ↓cont_seq, ↓cont_blk, ↓cont_lp, ↓leave_seq, ↓leave_blk, ↓leave_lp, ↓done_nil, ↓done_seq, ↓done_blk, ↓done_lp, ↓run_seq, ↓run_region, ↓run_block, ↓ops_consN, ↓ops_guardN, ↓leave_nil, ↓setps_cons, ↓setps_nil, rndX_cfg, ↓ops_consVc, ↓opsV_func, ↓opsV_yield, nY_move, nY_assign, nY_pick, nY_alloc, nY_box, nY_build, nY_buildSlice, nY_insert, nY_load, nY_store, nY_nilCheck, nY_binOp, nY_unOp, nY_convert, nY_makeInterface, nY_makeFunc, nY_makeMap, nY_makeSlice, nY_slice, nY_fieldAddr, nY_field, nY_indexAddr, nY_index, nY_lookup, nY_mapUpdate, nY_range, nY_entry, nY_typeAssert, nY_extract, nY_panic, nY_callf, nY_callb, nY_callt, isNone_none, cfg_yl, ↓ops_nil, opsIf_some, opsIf_none, opsIf_if, opsIf_if', map_if, bind_if, condC_true, condC_false, guardC_u, guardC_tt, guardC_tf, guardC_ft, guardC_ff, Option.map_some, Option.map_none, Option.bind_some, Option.bind_none, Option.getD_some, Option.getD_none, Nat.reduceLT, Bool.false_eq_true, ↓upd_same, ↓upd_ne, Nat.reduceBEq, true_and, and_true, List.getD_cons_zero, List.getD_cons_succ, List.getElem?_toArray, List.getElem?_cons_zero, List.getElem?_cons_succ, endQ, decide_eq_true_eq, decide_eq_false_iff_not, true_implies, forall_const, not_dec, cfg_P, cfg_tab, cfg_muts, cfg_frz, cfg_num, numOf_nil, numOf_eq, List.map_cons, List.map_nil, List.length_map, ↓havoc_in, ↓havoc_out, agree_upd, agree_havoc, agree_self, List.contains_cons, List.contains_nil, Bool.or_false, Bool.or_true, Bool.false_or, Bool.true_or, Int.natCast_nonneg, Int.ofNat_lt, Int.toNat_natCast, nth_int, nth_str, decide_true, decide_false, Option.some.injEq, exists_eq_left', PV.int.injEq, PV.bool.injEq, PV.str.injEq, PV.lits.injEq, PV.tuple.injEq, PV.agg.injEq, List.cons.injEq, List.lookup_cons, List.lookup_nil, tabOf_cons, tab_v, tab_m, tab_a, pur_ints, pur_strs, Bool.and_true, Bool.and_self, Bool.true_and, Nat.reduceEqDiff, List.cons_append, List.nil_append, List.append_nil, GS_ref, updO_same, updO_ne, List.length_append, List.length_cons, List.length_nil, Nat.zero_add, Nat.add_zero, List.drop_zero, List.take_length, List.take_zero, Nat.not_succ_le_self, Nat.reduceAdd, List.replicate_succ, List.replicate_zero, List.length_replicate, List.set_cons_zero, List.set_cons_succ, Nat.reduceMul, Nat.reduceLeDiff, nth_zero, nth_succ, Prod.mk.injEq, IObj.arr.injEq, Nat.lt_irrefl, Nat.lt_succ_self, Bool.not_true, Bool.not_false, reduceCtorEq, not_true_eq_false, not_false_eq_true, false_implies, Int.reduceEq, Int.reduceLT, Int.reduceLE, Int.reduceToNat, take_map_len, or_false, or_true, st0, Nat.le_refl, Classical.not_not, cells_bool, scal1_bool, scal_bool, pur_bool, rdC_bool, rdP_bool, isCell_bool, cells_int, scal1_int, scal_int, pur_int, rdC_int, rdP_int, isCell_int, cells_str, scal1_str, scal_str, pur_str, rdC_str, rdP_str, isCell_str, cells_nilp, scal1_nilp, scal_nilp, pur_nilp, rdC_nilp, rdP_nilp, cells_ptr, cells_vptr, pur_vptr, rdC_vptr, rdP_vptr, cells_nils, scal1_nils, scal_nils, pur_nils, rdC_nils, rdP_nils, isCell_nils, cells_lits, scal1_lits, scal_lits, pur_lits, rdC_lits, rdP_lits, isCell_lits, cells_ref, pur_ref, scal1_ref, rdC_ref, rdP_ref, cells_func, pur_func, rdC_func, rdP_func, cells_nilf, scal1_nilf, scal_nilf, pur_nilf, rdC_nilf, rdP_nilf, isCell_nilf, cells_iface, cells_nili, scal1_nili, scal_nili, pur_nili, rdC_nili, rdP_nili, isCell_nili, cells_agg, scal_agg, pur_agg, rdP_agg, scal_tuple, pur_tuple, cells_nilm, cells_mref, cells_iter, isCell_mref, isCell_iter, setCells_nilm, setCells_mref, scal1_nilm, scal_nilm, pur_nilm, rdC_nilm, rdP_nilm, DRx_int, DRx_bool, DRx_str, DRx_nils_lits, DRx_nils_nils, DRx_lits, DRx_ref, DRx_agg, DRx_tuple, DRxL_cons, DRxL_nil, ↓ev_tmp, ↓ev_int, ↓ev_bool, ↓ev_str, ↓ev_nils, ↓ev_nilp, ↓ev_nilf, ↓ev_nili, ↓ev_agg, ↓ev_func, c0_int, c0_bool, c0_nils, c0_str, ↓guardP_eq, grd_some, ↓iop_move, ↓iop_assign, ↓pick3_bool, ↓pick3_true, ↓pick3_false, ↓iop_pick, ↓iop_alloc, ↓iop_box, ↓iop_build, ↓iop_buildSlice, ↓iop_load, ↓iop_store, ↓iop_nilCheck, nilCk_vptr, nilCk_ptr, ↓iop_binOp, ↓iop_unOp, ↓iop_convert, ↓iop_makeFunc, ↓iop_makeSlice, mkSl_int, mkSl_frz, mkSl_re, ↓iop_slice, intOfP_int, slcP_ff, slcP_tf, slcP_ft, slcP_tt, ↓iop_fieldAddr, ↓iop_field, fldV_agg, ↓iop_indexAddr, idxA_int, ↓iop_index, idxV_int, ↓iop_extract, extr_tuple, ↓iop_callv, ↓iop_callb, nrmAll_cons, nrmAll_nil, bi_len, lenM_none, lenM_mref, lenM_nilm, bi_copy, copyP_ref, isStr_ref, isStr_lits, isStr_nils, ↓iop_makeMap, ↓iop_makeMap', ↓iop_insert, ↓iop_mapUpdate, ↓iop_lookup, ↓iop_range, ↓iop_entry, mapPut_mref, mapGet_mref, mapGet_nilm, mapRange_mref, mapRange_nilm, mapLk_tt, mapLk_ff, mapB_some, keyIs_int, keyIs_str, keyIs_bool, bi_append, bi_append_re, appGuard_lits, appGuard_nils, re_arr, bi_min, bi_max, nrm_agg, nrmL_cons, nrmL_nil, nrm_nils, nrm1_some, nrm1_none, nrm_no, nrm_int, nrm_str, nrm_bool, nrm_lits, nrm_ref, nrm_func, nrm_vptr, nrm_ptr, nrm1_int, nrm1_str, nrm1_bool, nrm1_lits, nrm1_ref, pickP_f, pickP_t, loadP_vptr, loadP_ptr, setCells_agg, setCells_int, setCells_bool, setCells_nils, setCells_ref, storeP_ptr, fieldP_vptr, fieldP_ptr, indexP_lits, indexP_ref, indexP_vptr, indexP_ptr, indexV_str, indexV_agg, lenP_nils, lenP_lits, lenP_ref, lenP_str, elemsP_nils, elemsP_lits, elemsP_ref, elemsP_str, sliceP_nils, sliceP_lits, sliceP_ref, sliceP_str, appendP_nils, appendP_ref, b_add, b_sub, b_mul, b_quo, b_rem, b_and, b_or, b_xor, b_andNot, b_eql, b_neq, b_lss, b_leq, b_gtr, b_geq, b_shl, b_shr, bs_add, bs_eql, bs_neq, bs_lss, bs_leq, bs_gtr, bs_geq, u_neg, u_not, cv_int, cv_str, fill_nil, fill_cons, fill1_some, buildP_eq, bldA_none, bldA_some, bel_nil, bel_cons, splice_eq, env0_eq, ires_eq, iresL_1, iresL_2, iresAll_nil, iresAll_cons, iresOne_tmp, iresOne_cell, frzP_eq, frzQ_eq, frzL_eq, again_eq, seal_obj, seal_next, againO_arr, sealO_arr, sealE_agg, sealE_int, sealC_int, sealC_bool, sealC_lits, sealC_nils, sealC_ref, rdAll_cons, rdAll_nil, rdL_cons, rdL_nil, valT_eq, pursL_cons, pursL_nil, Store.new, Store.set, ↓reduceIte, Int.natCast_eq_zero, arr_eq, arrB_some, callP_eq, boxP_eq, bslP_eq, beq_eq_false_iff_ne, ne_eq, Nat.reduceBeqDiff, set_int, opsIf_ite, Int.natCast_inj, List.take_succ_cons, List.drop_succ_cons, List.drop_nil, List.take_nil, guardC_td, guardC_fd, condC_d, bb_eql', bb_neq', ↓evs_cons, ↓evs_nil, ↓evp_cons, ↓evp_nil, implies_true, Int.natCast_zero, only_obj, only_next, without_obj, without_next, idsOf_cons, idsOf_nil, idC_ref, idC_int, idC_bool, idC_str, idC_nils, idC_lits, idC_agg, idL_cons, idL_nil, idE_ref, idE_int, idE_bool, idE_str, idE_nils, idE_lits, Int.le_refl, Int.natCast_pos, beq_self_eq_true, beq_iff_eq, List.all_cons, List.all_nil, see_eq, false_and, and_false, Bool.true_eq_false, Int.reduceAdd, bits_i64, bits_u64, bits_u32, bits_u8, or_i64, Nat.min_def, Int.reducePow, Int.cast_ofNat_Int, e_Best, s_Best, e_repeat, s_repeat, e_values, s_values, e_next, s_next, nth_reps, pur_reps, Try.f33, ty3, ty22, ty24, ty25, ty28, ty56, ty64, ty71, ty78]
    rw [mapNext_eq h3 h2]
    refine ⟨by simp, fun hsl => ?_, fun j k v hjk hns => ?_⟩
    · have ho := fill_end hfill hsl
      subst ho
      rw [hr] at hfill h0
      have hw1 : IntKind.i64.wrap (((2 ^ rs.length : Nat) : Int) - 1) = ((2 ^ rs.length : Nat) : Int) - 1 := by
        generalize 2 ^ rs.length = q at *
        exact wrap64 (by omega) (by omega)
      simp +contextual (maxSteps := 4000000) only [↓ur_seq, ↓ur_block, ↓ur_exit, ↓ur_region, ↓ur_cond, ↓cont_seq, ↓leave_seq, ↓leave_blk, ↓leave_lp, ↓ops_consN, nY_alloc, nY_load, nY_store, nY_binOp, nY_extract, nY_callb, ↓ops_nil, opsIf_some, opsIf_none, condC_false, Option.map_some, Option.bind_some, Option.getD_some, Nat.reduceLT, Bool.false_eq_true, ↓upd_same, ↓upd_ne, Nat.reduceBEq, true_and, and_true, List.getElem?_cons_zero, cfg_P, cfg_frz, cfg_num, numOf_eq, ↓havoc_out, List.contains_cons, List.contains_nil, Bool.or_false, updO_same, List.length_cons, List.length_nil, Nat.zero_add, Nat.reduceAdd, List.set_cons_zero, nth_zero, Nat.lt_succ_self, Nat.le_refl, cells_int, cells_ref, ↓ev_tmp, ↓ev_int, ↓iop_alloc, ↓iop_load, ↓iop_store, ↓iop_binOp, ↓iop_extract, extr_tuple, ↓iop_callb, bi_len, lenM_none, pickP_f, loadP_ptr, setCells_int, storeP_ptr, lenP_ref, b_sub, Store.new, Store.set, ↓reduceIte, arr_eq, arrB_some, ↓evs_cons, ↓evs_nil, see_eq, nth_reps, pur_reps, Try.f33, ty3, ty25, h0, h1, h2, h3, hlen, hw1]
      refine loop_cnt [9, 10, 40, 41, 42, 43, 44, 45, 46, 48, 49, 50, 51, 52, 53, 54, 55, 56, 57, 58, 59, 60, 61, 62, 63, 64, 65, 66, 67] (2 ^ rs.length) (fun j ρ st' => ∃ A, ρ 9 = .ptr A 0 0 0 ∧ st'.obj A = some (.arr 0 1 [I (((2 ^ rs.length : Nat) : Int) - 1 - j)]) ∧ A < st'.next ∧ 1 < A ∧ st'.obj 0 = some (.arr 0 1 (r.map (PV.int .i64))) ∧ st'.obj 1 = some (.arr 0 1 [.ref 0 0 0 (2 ^ rs.length)])) (.refl _) ?_ ?_
      · refine ⟨4, ?_⟩
        simp +contextual (maxSteps := 4000000) only [Nat.reduceLT, ↓upd_same, Nat.reduceBEq, true_and, and_true, Option.some.injEq, PV.int.injEq, List.cons.injEq, updO_same, updO_ne, IObj.arr.injEq, Nat.lt_succ_self, Int.cast_ofNat_Int, nth_reps, pur_reps, Try.f33, h0, h1, h2, h3]
        omega
      · rintro j ρ ⟨ob, M⟩ hj ⟨A, h5, hA, hAM, hA1, h0, h1⟩
        dsimp only at hA hAM h0 h1
        have q0 : ¬ 0 = M := by omega
        have q1 : ¬ 1 = M := by omega
        have qA : ¬ A = M := by omega
        have p0 : ¬ 0 = A := by omega
        have p1 : ¬ 1 = A := by omega
        have p2 : ¬ A = 0 := by omega
        have p3 : ¬ A = 1 := by omega
        by_cases hlt : j < 2 ^ rs.length
        · obtain ⟨s, hs⟩ : ∃ s, s = 2 ^ rs.length - 1 - j := ⟨_, rfl⟩
          have hsI : ((2 ^ rs.length : Nat) : Int) - 1 - (j : Int) = (s : Int) := by
            generalize 2 ^ rs.length = q at *
            omega
          have hs0 : (0 : Int) ≤ (s : Int) := by omega
          have hslt : s < 2 ^ rs.length := by omega
          have hs1 : s < 1024 := by omega
          rw [hsI] at hA
          simp +contextual (maxSteps := 4000000) only [↓ur_skip, ↓ur_seq, ↓ur_block, ↓ur_region, ↓ur_cond, ur_range, ↓cont_seq, ↓ops_consN, nY_load, nY_binOp, nY_callf, ↓ops_nil, opsIf_some, condC_true, Option.map_some, Option.bind_some, Option.getD_some, Nat.reduceLT, Bool.false_eq_true, ↓upd_same, ↓upd_ne, Nat.reduceBEq, true_and, List.getElem?_cons_zero, cfg_P, cfg_tab, cfg_muts, cfg_frz, ↓havoc_in, ↓havoc_out, List.contains_cons, List.contains_nil, Bool.or_false, decide_true, List.lookup_cons, List.lookup_nil, tabOf_cons, tab_v, Bool.and_self, Nat.reduceEqDiff, List.nil_append, List.append_nil, List.length_cons, List.length_nil, Nat.zero_add, List.drop_zero, Nat.reduceAdd, nth_zero, Nat.le_refl, cells_int, pur_int, pur_lits, pur_agg, ↓ev_tmp, ↓ev_int, ↓ev_func, ↓iop_load, ↓iop_binOp, ↓iop_callv, nrmAll_cons, nrmAll_nil, nrm_agg, nrmL_cons, nrmL_nil, nrm_int, nrm1_int, nrm1_lits, pickP_f, pickP_t, loadP_vptr, loadP_ptr, b_geq, valT_eq, pursL_cons, pursL_nil, ↓reduceIte, arr_eq, arrB_some, callP_eq, List.take_succ_cons, List.take_nil, ↓evs_cons, ↓evs_nil, beq_self_eq_true, see_eq, and_false, Bool.true_eq_false, s_next, nth_reps, pur_reps, Try.f33, ty3, ty24, ty64, h5, hA, h0, h1, hs0]
          refine run_range (ys := (nextM st rs s).map fun x => [stepV x]) (f := 57) (first := []) (captured := [.vptr [I st, reps rs] 0, .vptr [I s] 0]) rfl rfl (hookMono_none rfl) ?_ (y_next hc hs1) rfl ?_ (by kernel_rfl) (by kernel_rfl)
            (fun i st' => (st'.obj 0 = some (.arr 0 1 (r.map (PV.int .i64))) ∧ 0 < st'.next) ∧ (st'.obj 1 = some (.arr 0 1 [.ref 0 0 0 (2 ^ rs.length)]) ∧ 1 < st'.next) ∧ (st'.obj A = some (.arr 0 1 [I s]) ∧ A < st'.next))
            (fun e st' => False) ?_ ?_ ?_ ?_ ?_ ?_ ?_
          · simp +contextual (maxSteps := 4000000) only [↓upd_same, ↓ev_tmp, nth_reps, pur_reps, Try.f33]
          · intro y hy
            obtain ⟨x, _, rfl⟩ := List.mem_map.1 hy
            rfl
          · intro i
            exact (Stays.obj (fun _ => by simp)).and ((Stays.obj (fun _ => by simp)).and (Stays.obj (fun _ => by simp)))
          · intro e
            exact Stays.const
          · exact ⟨⟨h0, by simp; omega⟩, ⟨h1, by simp; omega⟩, hA, by simp; omega⟩
          · rintro i y ⟨ob2, M2⟩ id lr hy hid hlp ⟨⟨a0, a1⟩, ⟨b0, b1⟩, ⟨c0, c1⟩⟩
            obtain ⟨x, hx, hxi, rfl⟩ := next_at hy
            dsimp only at hid hlp a0 a1 b0 b1 c0 c1
            have d0 : ¬ id = 0 := fun e => by rw [e, a0] at hlp; cases hlp
            have d1 : ¬ id = 1 := fun e => by rw [e, b0] at hlp; cases hlp
            have d2 : ¬ id = A := fun e => by rw [e, c0] at hlp; cases hlp
            have d3 : ¬ id = M2 := by omega
            have e0 : ¬ 0 = M2 := by omega
            have e1 : ¬ 1 = M2 := by omega
            have e2 : ¬ A = M2 := by omega
            have f0 : ¬ 0 = id := fun e => d0 e.symm
            have f1 : ¬ 1 = id := fun e => d1 e.symm
            have f2 : ¬ A = id := fun e => d2 e.symm
            have f3 : ¬ M2 = id := fun e => d3 e.symm
            obtain ⟨g1, g2, g3⟩ := next_b hc hx
            obtain ⟨hsx1, hsx2⟩ := hle1 s hslt x hx
            have hb1 := hvb _ hsx1
            unfold inV at hb1
            have hx64 : x.1 ≤ 64 := by omega
            have hpx : 2 ^ x.1 < 2 ^ rs.length := Nat.pow_lt_pow_right (by omega) g1
            have hsx := shl1 (k := x.1) (by omega)
            have hor := orI_nat (a := s) (b := 2 ^ x.1) (by omega) (by omega)
            have hwr : IntKind.i64.wrap (x.2 + r.getD (s ||| 2 ^ x.1) 0) = x.2 + r.getD (s ||| 2 ^ x.1) 0 := wrap64 (by omega) (by omega)
            have hmin : ¬ x.2 + r.getD (s ||| 2 ^ x.1) 0 < r.getD s 0 := by omega
            have hset : r.set s (r.getD s 0) = r := set_self (by omega)
            simp +contextual (maxSteps := 4000000) only [↓ur_block, ↓ur_region, ↓cont_nil, ↓cont_blk, ↓ops_consN, ↓setps_cons, ↓setps_nil, rndX_cfg, nY_alloc, nY_load, nY_store, nY_binOp, nY_fieldAddr, nY_indexAddr, nY_callb, ↓ops_nil, opsIf_some, opsIf_none, opsIf_if', map_if, Option.map_some, Option.map_none, Option.bind_some, Option.getD_some, Nat.reduceLT, Bool.false_eq_true, ↓upd_same, ↓upd_ne, Nat.reduceBEq, true_and, and_true, List.getElem?_cons_zero, List.getElem?_cons_succ, cfg_P, cfg_frz, cfg_num, numOf_eq, List.length_map, ↓havoc_in, ↓havoc_out, List.contains_cons, List.contains_nil, Bool.or_false, Int.natCast_nonneg, Int.ofNat_lt, Int.toNat_natCast, nth_int, List.nil_append, List.append_nil, updO_same, updO_ne, List.length_cons, List.length_nil, Nat.zero_add, Nat.add_zero, List.take_zero, Nat.reduceAdd, List.set_cons_zero, nth_zero, Nat.lt_succ_self, not_false_eq_true, Nat.le_refl, cells_int, cells_ref, cells_agg, ↓ev_tmp, ↓ev_int, ↓iop_alloc, ↓iop_load, ↓iop_store, ↓iop_binOp, ↓iop_fieldAddr, ↓iop_indexAddr, idxA_int, ↓iop_callb, bi_min, pickP_f, loadP_ptr, setCells_agg, setCells_int, storeP_ptr, fieldP_ptr, indexP_ref, b_add, b_or, b_shl, splice_eq, Store.new, Store.set, ↓reduceIte, arr_eq, arrB_some, beq_eq_false_iff_ne, ne_eq, set_int, List.drop_succ_cons, List.drop_nil, ↓evs_cons, ↓evs_nil, beq_self_eq_true, see_eq, bits_i64, or_i64, Nat.min_def, nth_reps, pur_reps, Try.f33, ty3, ty25, ty78, hlp, h5, a0, b0, c0, d0, d1, d2, d3, e0, e1, e2, f0, f1, f2, f3, roundA, roundB, hx64, hsx, hor, hlen, hslt, hsx1, hwr, hmin, hset]
            refine fun rb => ⟨by omega, by omega, by omega, by omega, ?_, by omega⟩
            rw [updO_ne (by simpa using p2), updO_ne (by simpa using f2), updO_ne (by simpa using e2), updO_ne (by simpa using e2)]; exact c0
          · rintro ⟨ob2, M2⟩ ⟨⟨a0, a1⟩, ⟨b0, b1⟩, ⟨c0, c1⟩⟩
            dsimp only at a0 a1 b0 b1 c0 c1
            have e0 : ¬ 0 = M2 := by omega
            have e1 : ¬ 1 = M2 := by omega
            have e2 : ¬ A = M2 := by omega
            have hws : IntKind.i64.wrap ((s : Int) - 1) = (s : Int) - 1 := wrap64 (by omega) (by omega)
            simp +contextual (maxSteps := 4000000) only [↓ur_seq, ↓ur_region, ↓cont_seq, ↓cont_blk, ↓cont_lp, ↓ops_consN, nY_alloc, nY_load, nY_store, nY_binOp, ↓ops_nil, opsIf_some, opsIf_none, Option.map_some, Option.bind_some, Option.getD_some, Nat.reduceLT, Bool.false_eq_true, ↓upd_same, ↓upd_ne, Nat.reduceBEq, true_and, and_true, List.getElem?_cons_zero, cfg_P, cfg_frz, cfg_num, numOf_eq, ↓havoc_in, agree_upd, agree_havoc, List.contains_cons, List.contains_nil, Bool.or_false, Bool.or_true, updO_same, updO_ne, List.length_cons, List.length_nil, Nat.zero_add, Nat.reduceAdd, List.set_cons_zero, nth_zero, Nat.lt_succ_self, not_false_eq_true, Nat.le_refl, cells_int, ↓ev_tmp, ↓ev_int, ↓iop_alloc, ↓iop_load, ↓iop_store, ↓iop_binOp, pickP_f, loadP_ptr, setCells_int, storeP_ptr, b_sub, Store.new, Store.set, ↓reduceIte, arr_eq, arrB_some, beq_eq_false_iff_ne, ne_eq, beq_self_eq_true, see_eq, nth_reps, pur_reps, Try.f33, ty3, h5, a0, b0, c0, e0, e1, e2, hws]
            refine ⟨hlt, M2, rfl, ?_, by omega, by omega⟩
            rw [updO_same]
            have : ((s : Int) - 1) = ((2 ^ rs.length : Nat) : Int) - 1 - ((j + 1 : Nat) : Int) := by
              generalize 2 ^ rs.length = q at *
              omega
            rw [this]
          · rintro i ⟨ob2, M2⟩ h
            exact h.elim
          · rintro ⟨ob2, M2⟩ h
            exact h.elim
        · have e : j = 2 ^ rs.length := by omega
          subst e
          have hm1 : ((2 ^ rs.length : Nat) : Int) - 1 - ((2 ^ rs.length : Nat) : Int) = -1 := by omega
          rw [hm1] at hA
          simp +contextual (maxSteps := 4000000) only [↓ur_seq, ↓ur_exit, ↓ur_ret, ↓ur_region, ↓ur_cond, ↓cont_seq, ↓leave_seq, ↓leave_blk, ↓leave_lp, ↓done_nil, ↓ops_consN, nY_assign, nY_load, nY_binOp, ↓ops_nil, opsIf_some, condC_false, Option.map_some, Option.bind_some, Option.getD_some, Nat.reduceLT, Bool.false_eq_true, ↓upd_same, ↓upd_ne, Nat.reduceBEq, true_and, and_true, List.getElem?_cons_zero, endQ, cfg_P, cfg_frz, List.length_map, ↓havoc_in, ↓havoc_out, List.contains_cons, List.contains_nil, Bool.or_false, decide_false, Option.some.injEq, exists_eq_left', pur_ints, Nat.zero_add, List.drop_zero, nth_zero, Prod.mk.injEq, Nat.lt_succ_self, Int.reduceLE, cells_int, cells_ref, DRx_int, DRx_ref, DRx_tuple, DRxL_cons, DRxL_nil, ↓ev_tmp, ↓ev_int, ↓iop_assign, ↓iop_load, ↓iop_binOp, pickP_f, loadP_ptr, b_geq, ires_eq, iresL_2, iresAll_nil, iresAll_cons, iresOne_tmp, ↓reduceIte, arr_eq, arrB_some, beq_self_eq_true, see_eq, nth_reps, pur_reps, Try.f33, ty3, ty25, h5, hA, h0, h1]
          rw [hlen, List.take_of_length_le (by simp [hlen])]
          exact ⟨Nat.le_refl _, rfl⟩
    · rw [List.getElem?_map, Option.map_eq_some_iff] at hjk
      obtain ⟨⟨k', v'⟩, hjk, hkv⟩ := hjk
      simp only [Prod.mk.injEq] at hkv
      obtain ⟨rfl, rfl⟩ := hkv
      have hk := key_lt hc hjk
      have hfs := fill_succ hfill hjk hns hk
      have hol := hfill.1
      have hilt : i < (valsM st rs).length := by
        have := (List.getElem?_eq_some_iff.1 hjk).1
        have h5 := nodup_le (valsM st rs).length (seen ++ [j]) hfs.2.1 hfs.2.2.1
        simp at h5; omega
      have hent := mapEntry_eq (st := ⟨updO ob 3 (some (.it (some (2, 0)) (valsM st rs).length (seen ++ [j]))), 4⟩) (id := 3) (m := 2) (g := 0) (n := (valsM st rs).length) (seen := seen) (i := j) (es := encE (valsM st rs)) (k := I k') (v := I v') rfl (by simpa [updO] using h2) (by simp) (by simp [hjk])
      simp +contextual (maxSteps := 4000000) only [↓ur_skip, ↓ur_seq, ↓ur_block, ↓ur_region, ↓ur_cond, ↓cont_seq, ↓cont_blk, ↓cont_lp, ↓ops_consN, nY_move, nY_assign, nY_load, nY_store, nY_indexAddr, nY_entry, nY_extract, ↓ops_nil, opsIf_some, opsIf_none, condC_true, Option.map_some, Option.bind_some, Option.getD_some, Nat.reduceLT, Bool.false_eq_true, ↓upd_same, ↓upd_ne, Nat.reduceBEq, true_and, and_true, List.getElem?_cons_zero, List.getElem?_cons_succ, cfg_P, cfg_frz, List.length_map, ↓havoc_out, agree_upd, agree_havoc, List.contains_cons, List.contains_nil, Bool.or_false, Bool.or_true, Int.natCast_nonneg, Int.ofNat_lt, Int.toNat_natCast, nth_int, Option.some.injEq, updO_same, updO_ne, List.length_cons, List.length_nil, Nat.zero_add, nth_zero, IObj.arr.injEq, Nat.lt_succ_self, Nat.le_refl, cells_int, cells_ref, ↓ev_tmp, ↓iop_move, ↓iop_assign, ↓iop_load, ↓iop_store, ↓iop_indexAddr, idxA_int, ↓iop_extract, extr_tuple, ↓iop_entry, pickP_f, loadP_ptr, setCells_int, storeP_ptr, indexP_ref, Store.set, ↓reduceIte, arr_eq, arrB_some, set_int, beq_self_eq_true, see_eq, nth_reps, pur_reps, Try.f33, ty3, ty25, h0, h1, h2, h3, hent, hol, hk]
      exact ⟨hilt, seen ++ [j], o.set k' v', by simp [hseen], hfs, rfl, rfl⟩
theorem o_Prove : O_Prove := k_Prove c_Prove
end Sim
