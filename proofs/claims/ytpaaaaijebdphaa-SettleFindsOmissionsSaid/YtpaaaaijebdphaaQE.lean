/- What functions of this seat compute, by values: contracts (lemmas of the statement's proof, under the conditions that each names). -/
import Derived.Test.YtpaaaaijebdphaaQD
namespace Sim
open Go Go.Proofs
set_option maxRecDepth 10000
set_option maxHeartbeats 2000000
set_option linter.unusedVariables false
set_option linter.unusedSimpArgs false
attribute [local congr] opsIf_congr condC_congr guardC_congr grd_congr pick3_congr obind_congr omap_congr nilC_congr
def tbl {α : Type} (n : Nat) (f : Nat → α) : List α := (List.range n).map f
theorem tbl_len {α : Type} {n : Nat} {f : Nat → α} : (tbl n f).length = n := by simp [tbl]
theorem tbl_at {n i : Nat} {f : Nat → Int} (h : i < n) : (tbl n f).getD i 0 = f i := by simp [tbl, h]
theorem tbl_set {α : Type} {n i : Nat} {f : Nat → α} {v : α} : (tbl n f).set i v = tbl n (fun j => if j = i then v else f j) := by
  apply List.ext_getElem
  · simp [tbl]
  · intro j h1 h2
    rw [List.getElem_set]
    simp only [tbl, List.getElem_map, List.getElem_range]
    by_cases e : i = j
    · subst e; simp
    · rw [if_neg e, if_neg (fun g => e g.symm)]
theorem tbl_ext {α : Type} {n : Nat} {f g : Nat → α} (h : ∀ i, i < n → f i = g i) : tbl n f = tbl n g := by
  apply List.map_congr_left
  intro i hi
  exact h i (List.mem_range.1 hi)
theorem tbl_of {l : List Int} : tbl l.length (fun i => l.getD i 0) = l := by
  apply List.ext_getElem
  · simp [tbl]
  · intro i h1 h2
    simp [tbl, h2]
theorem tbl_zero {n : Nat} : List.replicate n (I 0) = (tbl n (fun _ => (0 : Int))).map (PV.int .i64) := by
  apply List.ext_getElem
  · simp [tbl]
  · intro i h1 h2
    simp [tbl]
theorem tbl_rev {l : List Int} : tbl l.length (fun i => l.getD (l.length - 1 - i) 0) = l.reverse := by
  apply List.ext_getElem
  · simp [tbl]
  · intro i h1 h2
    have h : i < l.length := by simpa [tbl] using h1
    simp [tbl, h, show l.length - 1 - i < l.length by omega]
noncomputable def revA (o : Option (Nat × List PV)) (st : Store) (id gen n : Nat) : Option (PV × Store) :=
  match o with
  | some (z, es) => @ite _ (z = 1 ∧ (n = es.length ∧ n ≤ 2147483648) ∧ ∃ l : List Int, es = l.map (PV.int .i64)) (Classical.propDecidable _) (some (.tuple [], st.set id (.arr gen 1 es.reverse))) none
  | none => none
noncomputable def revT (args : List PV) (st : Store) : Option (PV × Store) :=
  match args with
  | [.ref id gen 0 n] => revA (st.arr? id gen) st id gen n
  | _ => none
theorem revA_some {st : Store} {id gen n : Nat} {l : List Int} : revA (some (1, l.map (PV.int .i64))) st id gen n = if n = l.length ∧ n ≤ 2147483648 then some (.tuple [], st.set id (.arr gen 1 (l.reverse.map (PV.int .i64)))) else none := by
  simp only [revA]
  by_cases h : n = l.length ∧ n ≤ 2147483648
  · rw [if_pos ⟨rfl, by rw [List.length_map]; exact h, l, rfl⟩, if_pos h, List.map_reverse]
  · rw [if_neg (fun g => h (by have := g.2.1; rwa [List.length_map] at this)), if_neg h]
theorem s_rev (id gen n : Nat) (st : Store) : revT [.ref id gen 0 n] st = revA (st.arr? id gen) st id gen n := rfl
noncomputable def e_rev : Nat × Ent := (70, .x revT)
theorem updO_updO {ob : Nat → Option IObj} {i : Nat} {a b : Option IObj} : updO (updO ob i a) i b = updO ob i b := by
  funext j; simp only [updO]; split <;> rfl
def revK (l : List Int) (k : Nat) : List Int := tbl l.length fun i => if i < k ∨ l.length - k ≤ i then l.getD (l.length - 1 - i) 0 else l.getD i 0
theorem revK_0 {l : List Int} : revK l 0 = l := by
  unfold revK
  rw [tbl_ext (g := fun i => l.getD i 0) (fun i hi => if_neg (by omega)), tbl_of]
theorem revK_end {l : List Int} {k : Nat} (h : l.length ≤ 2 * k + 1) : revK l k = l.reverse := by
  unfold revK
  rw [← tbl_rev]
  refine tbl_ext fun i hi => ?_
  by_cases c : i < k ∨ l.length - k ≤ i
  · rw [if_pos c]
  · rw [if_neg c, show l.length - 1 - i = i by omega]
theorem revK_len {l : List Int} {k : Nat} : (revK l k).length = l.length := tbl_len
theorem revK_at {l : List Int} {k i : Nat} (hi : i < l.length) (h : ¬ (i < k ∨ l.length - k ≤ i)) : (revK l k).getD i 0 = l.getD i 0 := by
  unfold revK; rw [tbl_at hi, if_neg h]
theorem revK_step {l : List Int} {k j : Nat} (hj : j = l.length - 1 - k) (h : 2 * k + 1 < l.length) : ((revK l k).set k (l.getD j 0)).set j (l.getD k 0) = revK l (k + 1) := by
  subst hj
  unfold revK
  rw [tbl_set, tbl_set]
  refine tbl_ext fun i hi => ?_
  by_cases c1 : i = l.length - 1 - k
  · subst c1
    rw [if_pos rfl, if_pos (by omega), show l.length - 1 - (l.length - 1 - k) = k by omega]
  · rw [if_neg c1]
    by_cases c2 : i = k
    · subst c2
      rw [if_pos rfl, if_pos (by omega)]
    · rw [if_neg c2]
      by_cases c3 : i < k ∨ l.length - k ≤ i
      · rw [if_pos c3, if_pos (by omega)]
      · rw [if_neg c3, if_neg (by omega)]
theorem c_rev {l : List Int} {id gen : Nat} {st : Store} (ha : st.obj id = some (.arr gen 1 (l.map (PV.int .i64)))) (hll : l.length ≤ 2147483648) : IXC Try.prog 70 [.ref id gen 0 l.length] st fun r' st'' => r' = .tuple [] ∧ st'' = st.set id (.arr gen 1 (l.reverse.map (PV.int .i64))) := by
  obtain ⟨ob, M⟩ := st
  dsimp only at ha
  refine ixc_ofD mixed (l := []) (eok_nil) [] [] 0 Try.func70 rfl (by decide +kernel) (N := 28) rfl (by simp) rfl (by kernel_rfl) ?_
  have hw : IntKind.i64.wrap ((l.length : Int) - 1) = (l.length : Int) - 1 := wrap64 (by omega) (by omega)
  simp +contextual (maxSteps := 4000000) only [↓ur_seq, ↓ur_block, ↓ur_region, ↓cont_seq, ↓ops_consN, nY_move, nY_assign, nY_binOp, nilO_int, nY_callb, ↓ops_nil, opsIf_some, Option.map_some, Option.bind_some, Option.getD_some, Nat.reduceLT, ↓upd_same, ↓upd_ne, Nat.reduceBEq, true_and, List.getD_cons_zero, cfg_P, Nat.lt_succ_self, Bool.not_false, ↓ev_tmp, ↓ev_int, ↓iop_move, ↓iop_assign, ↓iop_binOp, ↓iop_callb, bi_len, lenM_none, lenP_ref, b_sub, env0_eq, Store.set, ↓reduceIte, arr_eq, arrB_some, ↓evs_cons, ↓evs_nil, nth_psts, pur_psts, nth_gaps, pur_gaps, nth_pays, pur_pays, Try.f70, ty34, ha, hw]
  refine loop_cnt [2, 3, 7, 8, 9, 10, 11, 12, 13, 14, 15, 16, 17, 18, 19, 20, 21, 22, 23, 24, 25, 26, 27] l.length (fun k ρ st' => ρ 2 = I k ∧ ρ 3 = I ((l.length : Int) - 1 - k) ∧ 2 * k ≤ l.length ∧ st' = ⟨updO ob id (some (.arr gen 1 ((revK l k).map (PV.int .i64)))), M⟩) (.refl _) ?_ ?_
  · simp +contextual (maxSteps := 4000000) only [↓upd_same, ↓upd_ne, Nat.reduceBEq, true_and, PV.int.injEq, Nat.reduceMul, Int.cast_ofNat_Int, nth_psts, pur_psts, nth_gaps, pur_gaps, nth_pays, pur_pays, Try.f70, revK_0]
    refine ⟨by omega, by omega, ?_⟩
    congr 1
    funext i
    simp only [updO]
    split
    · rename_i e; rw [e, ha]
    · rfl
  rintro k ρ st' hk ⟨h2, h3, hk2, rfl⟩
  by_cases hlt : 2 * k + 1 < l.length
  · have hj : ((l.length - 1 - k : Nat) : Int) = (l.length : Int) - 1 - k := by omega
    obtain ⟨j, hjj⟩ : ∃ j, j = l.length - 1 - k := ⟨_, rfl⟩
    rw [← hjj] at hj
    rw [← hj] at h3
    have hkj : (k : Int) < (j : Int) := by omega
    have hkl : k < l.length := by omega
    have hjl : j < l.length := by omega
    have hne : ¬ k = j := by omega
    have hne2 : ¬ j = k := by omega
    have a1 := revK_at (l := l) (k := k) hkl (by omega)
    have a2 := revK_at (l := l) (k := k) hjl (by omega)
    have hst := revK_step hjj hlt
    have w1 := wrapN' (k := k)
    have w2 : IntKind.i64.wrap ((k : Int) + 1) = ((k + 1 : Nat) : Int) := by rw [wrap64 (by omega) (by omega)]; omega
    have w3 : IntKind.i64.wrap ((j : Int) - 1) = (l.length : Int) - 1 - ((k + 1 : Nat) : Int) := by rw [wrap64 (by omega) (by omega)]; omega
    have hrl := revK_len (l := l) (k := k)
    simp +contextual (maxSteps := 4000000) only [↓ur_skip, ↓ur_seq, ↓ur_block, ↓ur_region, ↓ur_cond, ↓cont_seq, ↓cont_blk, ↓cont_lp, ↓ops_consN, nY_move, nY_assign, nY_load, nY_store, nY_binOp, nilO_tmp, nilO_int, nY_indexAddr, ↓ops_nil, opsIf_some, opsIf_none, condC_true, Option.map_some, Option.bind_some, Option.getD_some, Nat.reduceLT, Bool.false_eq_true, ↓upd_same, ↓upd_ne, Nat.reduceBEq, true_and, and_true, List.getD_cons_zero, List.getElem?_cons_zero, cfg_P, cfg_frz, List.length_map, ↓havoc_in, ↓havoc_out, agree_upd, agree_havoc, List.contains_cons, List.contains_nil, Bool.or_false, Bool.or_true, Int.natCast_nonneg, Int.ofNat_lt, Int.toNat_natCast, nth_int, decide_true, updO_same, List.length_cons, List.length_nil, Nat.zero_add, Nat.lt_succ_self, Bool.not_false, Nat.le_refl, cells_int, ↓ev_tmp, ↓ev_int, ↓iop_move, ↓iop_assign, ↓iop_load, ↓iop_store, ↓iop_binOp, ↓iop_indexAddr, idxA_int, pickP_f, loadP_ptr, setCells_int, storeP_ptr, indexP_ref, b_add, b_sub, b_lss, env0_eq, Store.set, ↓reduceIte, arr_eq, arrB_some, set_int, beq_self_eq_true, see_eq, nth_psts, pur_psts, nth_gaps, pur_gaps, nth_pays, pur_pays, Try.f70, ty3, ty34, h2, h3, hkj, hkl, hjl, hne, hne2, a1, a2, hrl, w2, w3, hst, List.length_set, updO_updO]
    omega
  · have hkj : ¬ (k : Int) < (l.length : Int) - 1 - k := by omega
    have e := revK_end (l := l) (k := k) (by omega)
    simp +contextual (maxSteps := 4000000) only [↓ur_seq, ↓ur_exit, ↓ur_region, ↓ur_cond, ↓cont_nil, ↓cont_seq, ↓leave_seq, ↓leave_blk, ↓leave_lp, ↓ops_consN, nY_move, nY_binOp, nilO_tmp, ↓ops_nil, opsIf_some, condC_false, Option.map_some, Nat.reduceLT, ↓upd_same, ↓upd_ne, Nat.reduceBEq, true_and, and_true, endQ, cfg_P, ↓havoc_in, List.contains_cons, List.contains_nil, Bool.or_false, Bool.or_true, decide_false, Bool.not_false, ↓ev_tmp, ↓iop_move, ↓iop_binOp, b_lss, ires_eq, iresAll_nil, ↓reduceIte, beq_self_eq_true, nth_psts, pur_psts, nth_gaps, pur_gaps, nth_pays, pur_pays, Try.f70, h2, h3, hkj, e]
    exact ⟨_, rfl, rfl⟩
theorem o_rev : EntOK Try.prog e_rev.1 e_rev.2 := by
  intro args st r st' h
  unfold revT at h
  split at h
  · rename_i id gen n
    cases ha : st.arr? id gen with
    | none => rw [ha] at h; cases h
    | some q =>
      obtain ⟨z, es⟩ := q
      rw [ha] at h
      simp only [revA] at h
      split at h
      · rename_i hc
        obtain ⟨rfl, ⟨h2, h3⟩, l, rfl⟩ := hc
        simp only [Option.some.injEq, Prod.mk.injEq] at h
        obtain ⟨rfl, rfl⟩ := h
        rw [List.length_map] at h2
        subst h2
        rw [← List.map_reverse]
        exact c_rev (arr?_parts ha) h3
      · cases h
  · cases h
end Sim
