/- What functions of this seat compute, by values: contracts (lemmas of the statement's proof, under the conditions that each names). -/
import Derived.Test.YtpaaaaijebdphaaQO3
import Derived.Test.YtpaaaaijebdphaaSimZ
namespace Sim
open Go Go.Proofs
set_option maxRecDepth 10000
set_option maxHeartbeats 2000000
set_option linter.unusedVariables false
set_option linter.unusedSectionVars false
set_option linter.unusedSimpArgs false
attribute [local congr] opsIf_congr condC_congr guardC_congr grd_congr pick3_congr obind_congr omap_congr nilC_congr
/-! Groups as the specification counts them. -/
def grp (o s : Int) (l r : List Int) : Int :=
  match l with
  | [] => if ¬ s = 0 then -100 else match r with | [] => o | x :: r' => o + grp 1 x r' []
  | x :: l' => max (grp o (s + x) l' r) (grp o s l' (r ++ [x]))
termination_by (l.length + r.length, l.length)
decreasing_by
  · simp_wf; exact .left _ _ (by simp)
  · simp_wf; exact .left _ _ (by omega)
  · simp_wf; refine Prod.lex_def.2 (.inr ⟨by simp only []; omega, by simp⟩)
theorem grp_00 {o s : Int} {r : List Int} (h : ¬ s = 0) : grp o s [] r = -100 := by rw [grp.eq_def]; exact if_pos h
theorem grp_nil {o : Int} : grp o 0 [] [] = o := by rw [grp.eq_def]; rfl
theorem grp_rest {o x : Int} {r : List Int} : grp o 0 [] (x :: r) = o + grp 1 x r [] := by rw [grp.eq_def]; rfl
theorem grp_cons {o s x : Int} {l r : List Int} : grp o s (x :: l) r = max (grp o (s + x) l r) (grp o s l (r ++ [x])) := by conv => lhs; rw [grp.eq_def]
def meas (l r : List Int) : Nat := 10 * (l.length + r.length) + l.length
theorem grp_ind {P : Int → Int → List Int → List Int → Prop} (h0 : ∀ o s r, ¬ s = 0 → P o s [] r) (h1 : ∀ o, P o 0 [] []) (h2 : ∀ o x r, P 1 x r [] → P o 0 [] (x :: r))
    (h3 : ∀ o s x l r, P o (s + x) l r → P o s l (r ++ [x]) → P o s (x :: l) r) : ∀ (n : Nat) (o s : Int) (l r : List Int), l.length + r.length = n → P o s l r := by
  intro n
  induction n with
  | zero =>
    intro o s l r h
    have hl : l = [] := List.eq_nil_of_length_eq_zero (by omega)
    have hr : r = [] := List.eq_nil_of_length_eq_zero (by omega)
    subst hl hr
    by_cases c : s = 0
    · subst c; exact h1 o
    · exact h0 o s [] c
  | succ n ih =>
    intro o s l
    induction l generalizing o s with
    | nil =>
      intro r h
      by_cases c : s = 0
      · subst c
        rcases r with _ | ⟨x, r⟩
        · exact h1 o
        · exact h2 o x r (ih 1 x r [] (by simpa using h))
      · exact h0 o s r c
    | cons x l ihl =>
      intro r h
      exact h3 o s x l r (ih _ _ _ _ (by simp at h ⊢; omega)) (ihl o s (r ++ [x]) (by simp at h ⊢; omega))
theorem grp_le (o s : Int) (l r : List Int) : 0 ≤ o → -100 ≤ grp o s l r ∧ grp o s l r ≤ o + (l.length : Int) + (r.length : Int) := by
  refine grp_ind (P := fun o s l r => 0 ≤ o → -100 ≤ grp o s l r ∧ grp o s l r ≤ o + (l.length : Int) + (r.length : Int)) ?_ ?_ ?_ ?_ _ o s l r rfl
  · intro o s r c ho; rw [grp_00 c]; simp; omega
  · intro o ho; rw [grp_nil]; simp; omega
  · intro o x r ih ho; have := ih (by omega); rw [grp_rest]; simp at this ⊢; omega
  · intro o s x l r i1 i2 ho
    have a := i1 ho
    have b := i2 ho
    rw [grp_cons]
    rw [List.length_append, List.length_singleton] at b
    rw [List.length_cons]
    omega
theorem perm_in {x : Int} {l A : List Int} (h : (x :: l).Perm A) : ∃ A', A.Perm (x :: A') ∧ l.Perm A' := by
  obtain ⟨a, b, rfl⟩ := List.append_of_mem (h.mem_iff.1 (by simp : x ∈ x :: l))
  exact ⟨a ++ b, List.perm_middle, (h.trans List.perm_middle).cons_inv⟩
theorem grp_dom (o s : Int) (l r : List Int) : 0 ≤ o → ∀ (A B : List Int) (L : List (List Int)), l.Perm (A ++ B) → s + A.sum = 0 → GPart (B ++ r) L → o + (L.length : Int) ≤ grp o s l r := by
  refine grp_ind (P := fun o s l r => 0 ≤ o → ∀ (A B : List Int) (L : List (List Int)), l.Perm (A ++ B) → s + A.sum = 0 → GPart (B ++ r) L → o + (L.length : Int) ≤ grp o s l r) ?_ ?_ ?_ ?_ _ o s l r rfl
  · intro o s r c ho A B L h1 h2 h3
    have := h1.symm.eq_nil
    simp at this
    rw [this.1] at h2
    simp at h2; exact absurd h2 c
  · intro o ho A B L h1 h2 h3
    have := h1.symm.eq_nil
    simp at this
    rw [this.2] at h3
    have h4 := h3.perm.eq_nil
    rcases L with _ | ⟨g, L⟩
    · rw [grp_nil]; simp
    · have := (h3.good g (by simp)).1
      simp at h4; exact absurd h4.1 this
  · intro o x r ih ho A B L h1 h2 h3
    have := h1.symm.eq_nil
    simp at this
    rw [this.2, List.nil_append] at h3
    obtain ⟨g, hg, hx⟩ := List.mem_flatten.1 (h3.perm.mem_iff.2 (by simp : x ∈ x :: r))
    obtain ⟨s1, t1, rfl⟩ := List.append_of_mem hg
    obtain ⟨a, b, rfl⟩ := List.append_of_mem hx
    have hP : (s1 ++ (a ++ x :: b) :: t1).Perm ((a ++ x :: b) :: (s1 ++ t1)) := List.perm_middle
    have hF := hP.flatten
    rw [List.flatten_cons] at hF
    have hX : (a ++ x :: b).Perm (x :: (a ++ b)) := List.perm_middle
    have hR : (x :: r).Perm (x :: ((a ++ b) ++ (s1 ++ t1).flatten)) := h3.perm.symm.trans (hF.trans (hX.append_right _))
    have hs := (h3.good _ hg).2
    rw [lsum_perm hX, List.sum_cons] at hs
    have := ih (by omega) (a ++ b) (s1 ++ t1).flatten (s1 ++ t1) hR.cons_inv hs ⟨by simp, fun g hg => h3.good g (hP.mem_iff.2 (List.mem_cons_of_mem _ hg))⟩
    rw [grp_rest, hP.length_eq, List.length_cons]; omega
  · intro o s x l r i1 i2 ho A B L h1 h2 h3
    rw [grp_cons]
    rcases List.mem_append.1 (h1.mem_iff.1 (by simp : x ∈ x :: l)) with hm | hm
    · obtain ⟨a, b, rfl⟩ := List.append_of_mem hm
      have hX : (a ++ x :: b).Perm (x :: (a ++ b)) := List.perm_middle
      rw [lsum_perm hX, List.sum_cons] at h2
      have := i1 ho (a ++ b) B L ((h1.trans (hX.append_right B)).cons_inv) (by omega) h3
      omega
    · obtain ⟨a, b, rfl⟩ := List.append_of_mem hm
      have h4 : (x :: l).Perm (x :: (A ++ (a ++ b))) := by
        refine h1.trans ?_
        rw [← List.append_assoc, ← List.append_assoc]
        exact List.perm_middle
      have := i2 ho A (a ++ b) L h4.cons_inv h2 ⟨h3.perm.trans ?_, h3.good⟩
      · omega
      · have : (a ++ b ++ (r ++ [x])).Perm (x :: (a ++ b ++ r)) := by
          rw [← List.append_assoc]
          exact List.perm_append_comm
        refine List.Perm.trans ?_ this.symm
        rw [List.append_assoc, List.cons_append, List.append_assoc]
        exact List.perm_middle
theorem grp_one {x : Int} {r : List Int} (h : x + r.sum = 0) : 1 ≤ grp 1 x r [] := by
  have := grp_dom 1 x r [] (by omega) r [] [] (by simp) h ⟨by simp, by simp⟩
  simpa using this
theorem grp_get (o s : Int) (l r : List Int) : 0 ≤ o → s + l.sum + r.sum = 0 → grp o s l r = -100 ∨ ∃ (A B : List Int) (L : List (List Int)), l.Perm (A ++ B) ∧ s + A.sum = 0 ∧ GPart (B ++ r) L ∧ grp o s l r = o + (L.length : Int) := by
  refine grp_ind (P := fun o s l r => 0 ≤ o → s + l.sum + r.sum = 0 → grp o s l r = -100 ∨ ∃ (A B : List Int) (L : List (List Int)), l.Perm (A ++ B) ∧ s + A.sum = 0 ∧ GPart (B ++ r) L ∧ grp o s l r = o + (L.length : Int)) ?_ ?_ ?_ ?_ _ o s l r rfl
  · intro o s r c _ _; exact .inl (grp_00 c)
  · intro o _ _; exact .inr ⟨[], [], [], by simp, by simp, ⟨by simp, by simp⟩, by rw [grp_nil]; simp⟩
  · intro o x r ih ho hs
    have hx : x + r.sum = 0 := by simpa using hs
    have h1 := grp_one hx
    rcases ih (by omega) (by simpa using hx) with e | ⟨A, B, L, a1, a2, a3, a4⟩
    · omega
    · refine .inr ⟨[], [], (x :: A) :: L, by simp, by simp, ⟨?_, ?_⟩, by rw [grp_rest, a4, List.length_cons]; omega⟩
      · rw [List.flatten_cons, List.nil_append, List.cons_append]
        refine List.Perm.cons x ?_
        have := a3.perm
        rw [List.append_nil] at this
        exact (this.append_left A).trans a1.symm
      · intro g hg
        rcases List.mem_cons.1 hg with e | hg
        · subst e; exact ⟨by simp, by rw [List.sum_cons]; exact a2⟩
        · exact a3.good g hg
  · intro o s x l r i1 i2 ho hs
    rw [List.sum_cons] at hs
    have j1 := i1 ho (by omega)
    have j2 := i2 ho (by rw [List.sum_append]; simp; omega)
    rw [grp_cons]
    by_cases c : grp o s l (r ++ [x]) ≤ grp o (s + x) l r
    · rw [show max (grp o (s + x) l r) (grp o s l (r ++ [x])) = grp o (s + x) l r by omega]
      rcases j1 with e | ⟨A, B, L, a1, a2, a3, a4⟩
      · exact .inl e
      · exact .inr ⟨x :: A, B, L, a1.cons x, by rw [List.sum_cons]; omega, a3, a4⟩
    · rw [show max (grp o (s + x) l r) (grp o s l (r ++ [x])) = grp o s l (r ++ [x]) by omega]
      rcases j2 with e | ⟨A, B, L, a1, a2, a3, a4⟩
      · exact .inl e
      · refine .inr ⟨A, x :: B, L, (a1.cons x).trans List.perm_middle.symm, a2, ⟨a3.perm.trans ?_, a3.good⟩, a4⟩
        rw [← List.append_assoc]
        exact List.perm_append_comm
theorem grp_max {x : Int} {l : List Int} (h : x + l.sum = 0) : MaxG (x :: l) (grp 1 x l []) := by
  have h1 := grp_one h
  have e : grp 0 0 [] (x :: l) = grp 1 x l [] := by rw [grp_rest]; omega
  constructor
  · rcases grp_get 0 0 [] (x :: l) (by omega) (by simpa using h) with e1 | ⟨A, B, L, a1, a2, a3, a4⟩
    · omega
    · have := a1.symm.eq_nil
      simp at this
      rw [this.2, List.nil_append] at a3
      exact ⟨L, a3, by omega⟩
  · intro L hL
    have := grp_dom 0 0 [] (x :: l) (by omega) [] [] L (by simp) (by simp) hL
    omega
/-! The specification's functions. -/
class Fuel where
  m : Nat
section
variable [Fuel]
def grpOK (s : Int) (l r : List Int) : Prop := (∀ x ∈ l ++ r, fitB x) ∧ l.length + r.length ≤ 9 ∧ -(1125899906842624 * 20) ≤ s - 1125899906842624 * ((l.length + r.length : Nat) : Int) ∧ s + 1125899906842624 * ((l.length + r.length : Nat) : Int) ≤ 1125899906842624 * 20
noncomputable def A_groups : (Int) × (Int) × (List Int) × (List Int) → List PV := fun (o, s, l, r) => [I o, I s, ints l, ints r]
noncomputable def R_groups : (Int) × (Int) × (List Int) × (List Int) → PV := fun (o, s, l, r) => I (grp o s l r)
def H_groups : (Int) × (Int) × (List Int) × (List Int) → Prop := fun (o, s, l, r) => (0 ≤ o ∧ o ≤ 1) ∧ grpOK s l r ∧ meas l r < Fuel.m
noncomputable def e_groups : Nat × Ent := (40, .v (specOf A_groups R_groups H_groups))
theorem j_groups : ∀ i j, A_groups i = A_groups j → i = j := by
  rintro ⟨o₁, s₁, l₁, r₁⟩ ⟨o₂, s₂, l₂, r₂⟩ h
  simp only [A_groups, List.cons.injEq, and_true, PV.lits.injEq, PV.int.injEq, PV.bool.injEq, PV.str.injEq, PV.agg.injEq, PV.func.injEq, Fn.func.injEq, PV.vptr.injEq, true_and, List.map_nil, inj_ints, inj_strs, inj_psts, inj_gaps, inj_pays] at h
  simp [Prod.ext_iff, h] <;> omega
theorem s_groups (o : Int) (s : Int) (l : List Int) (r : List Int) : specOf A_groups R_groups H_groups [I o, I s, ints l, ints r] = @ite (Option (PV)) ((0 ≤ o ∧ o ≤ 1) ∧ grpOK s l r ∧ meas l r < Fuel.m) (Classical.propDecidable _) (some (I (grp o s l r))) none := specOf_if j_groups (o, s, l, r)
def C_groups : Prop := ∀ (o : Int) (s : Int) (l : List Int) (r : List Int) (h : (0 ≤ o ∧ o ≤ 1) ∧ grpOK s l r ∧ meas l r < Fuel.m) , VC Try.prog 40 [I o, I s, ints l, ints r] (I (grp o s l r))
def O_groups : Prop := EntOK Try.prog e_groups.1 e_groups.2
theorem k_groups (c : C_groups) : O_groups := specOf_ok fun ⟨o, s, l, r⟩ h => c o s l r h
theorem x_groups (o_groups : O_groups) (o s : Int) (l r : List Int) (h : (0 ≤ o ∧ o ≤ 1) ∧ grpOK s l r ∧ meas l r < Fuel.m + 1) :
    VC Try.prog 40 [I o, I s, ints l, ints r] (I (grp o s l r)) := by
  obtain ⟨ho, ⟨hf, h9, hs1, hs2⟩, hm⟩ := h
  refine vc_ofR mixed (l := [e_groups]) ((eok_cons o_groups eok_nil)) [26, 39, 44, 52] [22, 23, 25, 33, 34, 37, 43, 48, 49, 52, 100044, 100046, 100051, 100052] 1 Try.func40 rfl (by decide +kernel) (N := 56) rfl (by simp) rfl (by kernel_rfl) fun hs => ?_
  simp only [smallL, PV.small, List.length_map, and_true, true_and] at hs
  rcases l with _ | ⟨x, l⟩
  · by_cases c : s = 0
    · subst c
      rcases r with _ | ⟨x, r⟩
      · rw [grp_nil]
        simp +contextual (maxSteps := 4000000) only [↓ur_skip, ↓ur_seq, ↓ur_ret, ↓ur_region, ↓ur_cond, ↓cont_seq, ↓done_nil, ↓done_seq, ↓ops_consN, nY_move, nY_assign, nY_binOp, nilO_int, nY_callb, ↓ops_nil, opsIf_some, condC_true, condC_false, Option.map_some, Option.bind_some, Option.getD_some, Nat.reduceLT, ↓upd_same, ↓upd_ne, Nat.reduceBEq, and_true, List.getD_cons_zero, List.getD_cons_succ, endQ, cfg_P, List.map_nil, decide_true, decide_false, Option.some.injEq, exists_eq_left', List.length_nil, Nat.lt_succ_self, Bool.not_false, not_true_eq_false, DRx_int, ↓ev_tmp, ↓ev_int, ↓iop_move, ↓iop_assign, ↓iop_binOp, ↓iop_callb, bi_len, lenM_none, lenP_lits, b_eql, b_neq, env0_eq, ires_eq, iresL_1, iresAll_nil, iresAll_cons, iresOne_tmp, ↓reduceIte, ↓evs_cons, ↓evs_nil, Int.cast_ofNat_Int, e_groups, nth_psts, pur_psts, nth_gaps, pur_gaps, nth_pays, pur_pays, Try.f40, ty34]
      · have hb := grp_le 1 x r [] (by omega)
        have hx : fitB x := hf x (by simp)
        have hpre : grpOK x r [] := by
          unfold fitB at hx
          unfold grpOK
          refine ⟨fun y hy => hf y (by simp at hy ⊢; exact .inr hy), ?_, ?_, ?_⟩ <;> simp at h9 ⊢ <;> omega
        have hme : meas r [] < Fuel.m := by unfold meas at hm ⊢; simp at hm h9 ⊢; omega
        have hw : IntKind.i64.wrap (o + grp 1 x r []) = o + grp 1 x r [] := by
          simp only [List.length_cons, List.length_nil] at hb h9
          exact wrap64 (by omega) (by omega)
        rw [grp_rest]
        have htl : List.take (r.length + 1 - 1) (r.map (PV.int .i64)) = r.map (PV.int .i64) := List.take_of_length_le (by simp)
        have hp1 : 0 < r.length + 1 := by omega
        have hp2 : (1 : Int) ≤ ((r.length + 1 : Nat) : Int) := by omega
        have hsp := s_groups 1 x r []
        rw [if_pos ⟨by omega, hpre, hme⟩, show ints [] = PV.lits 1 [] from rfl] at hsp
        generalize grp 1 x r [] = G at *
        simp +contextual (maxSteps := 4000000) only [↓ur_skip, ↓ur_seq, ↓ur_ret, ↓ur_region, ↓ur_cond, ↓cont_seq, ↓done_nil, ↓done_seq, ↓ops_consN, nY_move, nY_assign, nY_load, nY_binOp, nilO_tmp, nilO_int, nY_slice, nY_indexAddr, nY_callf, nY_callb, ↓ops_nil, opsIf_some, condC_true, condC_false, Option.map_some, Option.map_none, Option.bind_some, Option.getD_some, Option.getD_none, Nat.reduceLT, Bool.false_eq_true, ↓upd_same, ↓upd_ne, Nat.reduceBEq, and_true, List.getD_cons_zero, List.getD_cons_succ, List.getElem?_cons_zero, endQ, cfg_P, cfg_tab, cfg_muts, cfg_frz, List.map_cons, List.map_nil, List.length_map, List.contains_cons, List.contains_nil, Bool.or_false, Bool.or_true, Int.toNat_natCast, decide_true, decide_false, Option.some.injEq, exists_eq_left', List.lookup_cons, tabOf_cons, tab_v, pur_ints, Bool.and_self, List.nil_append, List.append_nil, List.length_cons, List.length_nil, List.drop_zero, Nat.reduceAdd, nth_zero, Nat.lt_succ_self, Bool.not_false, reduceCtorEq, not_true_eq_false, Int.reduceLE, Int.reduceToNat, cells_int, pur_int, pur_lits, DRx_int, ↓ev_tmp, ↓ev_int, ↓ev_nils, ↓ev_func, ↓iop_move, ↓iop_assign, ↓iop_load, ↓iop_binOp, ↓iop_slice, intOfP_int, slcP_tf, ↓iop_indexAddr, idxA_int, ↓iop_callv, ↓iop_callb, nrmAll_cons, nrmAll_nil, bi_len, lenM_none, nrm_nils, nrm1_some, nrm_int, nrm_lits, pickP_f, loadP_vptr, indexP_lits, lenP_lits, sliceP_lits, b_add, b_eql, b_neq, env0_eq, ires_eq, iresL_1, iresAll_nil, iresAll_cons, iresOne_tmp, valT_eq, pursL_cons, pursL_nil, ↓reduceIte, Int.natCast_eq_zero, callP_eq, tsOf_eq, List.drop_succ_cons, ↓evs_cons, ↓evs_nil, Int.le_refl, Int.natCast_pos, beq_self_eq_true, see_eq, and_false, Bool.true_eq_false, Int.cast_ofNat_Int, e_groups, nth_psts, pur_psts, nth_gaps, pur_gaps, nth_pays, pur_pays, Try.f40, ty3, ty34, hpre, hme, hw, htl, hp1, hp2, hsp]
    · rw [grp_00 c]
      simp +contextual (maxSteps := 4000000) only [↓ur_seq, ↓ur_ret, ↓ur_region, ↓ur_cond, ↓cont_seq, ↓done_nil, ↓done_seq, ↓ops_consN, nY_move, nY_assign, nY_binOp, nilO_int, nY_callb, ↓ops_nil, opsIf_some, condC_true, Option.map_some, Option.bind_some, Option.getD_some, Nat.reduceLT, ↓upd_same, ↓upd_ne, Nat.reduceBEq, and_true, List.getD_cons_zero, List.getD_cons_succ, endQ, cfg_P, List.map_nil, decide_true, Option.some.injEq, exists_eq_left', List.length_nil, Nat.lt_succ_self, Bool.not_false, not_false_eq_true, DRx_int, ↓ev_tmp, ↓ev_int, ↓iop_move, ↓iop_assign, ↓iop_binOp, ↓iop_callb, bi_len, lenM_none, lenP_lits, b_eql, b_neq, env0_eq, ires_eq, iresL_1, iresAll_nil, iresAll_cons, iresOne_tmp, ↓reduceIte, ↓evs_cons, ↓evs_nil, Int.cast_ofNat_Int, e_groups, nth_psts, pur_psts, nth_gaps, pur_gaps, nth_pays, pur_pays, Try.f40, ty34, c]
  · have hb := grp_le o (s + x) l r ho.1
    have hb2 := grp_le o s l (r ++ [x]) ho.1
    have hx : fitB x := hf x (by simp)
    have hpre : grpOK (s + x) l r := by
      unfold fitB at hx
      unfold grpOK
      refine ⟨fun y hy => hf y (by simp at hy ⊢; exact .inr hy), ?_, ?_, ?_⟩ <;> simp at h9 hs1 hs2 ⊢ <;> omega
    have hpre2 : grpOK s l (r ++ [x]) := by
      unfold fitB at hx
      unfold grpOK
      refine ⟨fun y hy => hf y (by
        simp only [List.mem_append, List.mem_cons, List.not_mem_nil, or_false] at hy ⊢
        rcases hy with h | h | h
        · exact .inl (.inr h)
        · exact .inr h
        · exact .inl (.inl h)), ?_, ?_, ?_⟩ <;> simp at h9 hs1 hs2 ⊢ <;> omega
    have hme : meas l r < Fuel.m := by unfold meas at hm ⊢; simp at hm ⊢; omega
    have hme2 : meas l (r ++ [x]) < Fuel.m := by unfold meas at hm ⊢; simp at hm ⊢; omega
    have hw : IntKind.i64.wrap (s + x) = s + x := by
      unfold fitB at hx
      simp at hs1 hs2
      exact wrap64 (by omega) (by omega)
    rw [grp_cons]
    have hl1 : l.length + 1 ≤ 9 := by simp at h9; omega
    have hmap : List.map (PV.int .i64) r ++ [I x] = List.map (PV.int .i64) (r ++ [x]) := by simp
    have htk : List.take (r.length + 1) (List.map (PV.int .i64) (r ++ [x])) = List.map (PV.int .i64) (r ++ [x]) := List.take_of_length_le (by simp)
    have htl : List.take (l.length + 1 - 1) (l.map (PV.int .i64)) = l.map (PV.int .i64) := List.take_of_length_le (by simp)
    have hp1 : 0 < l.length + 1 := by omega
    have hp2 : (1 : Int) ≤ ((l.length + 1 : Nat) : Int) := by omega
    simp +contextual (maxSteps := 4000000) only [↓ur_skip, ↓ur_seq, ↓ur_ret, ↓ur_region, ↓ur_cond, Nat.one_ne_zero, ↓cont_seq, ↓done_nil, ↓ops_consN, nY_move, nY_assign, nY_buildSlice, nY_load, nY_binOp, nilO_tmp, nilO_int, nY_slice, nY_indexAddr, nY_callf, nY_callb, ↓ops_nil, opsIf_some, opsIf_if, condC_false, Option.map_some, Option.map_none, Option.bind_some, Option.getD_some, Option.getD_none, Nat.reduceLT, Bool.false_eq_true, ↓upd_same, ↓upd_ne, Nat.reduceBEq, true_and, and_true, List.getD_cons_zero, List.getD_cons_succ, List.getElem?_cons_zero, endQ, cfg_P, cfg_tab, cfg_muts, cfg_frz, cfg_num, numOf_eq, List.map_cons, List.length_map, List.contains_cons, List.contains_nil, Bool.or_false, Bool.or_true, Int.toNat_natCast, decide_false, Option.some.injEq, exists_eq_left', tabOf_cons, tab_v, pur_ints, Bool.and_self, Nat.reduceEqDiff, List.nil_append, List.append_nil, updO_same, List.length_append, List.length_cons, List.length_nil, Nat.zero_add, Nat.add_zero, List.drop_zero, Nat.not_succ_le_self, Nat.reduceAdd, List.replicate_succ, List.replicate_zero, List.set_cons_zero, Nat.reduceMul, Nat.reduceLeDiff, nth_zero, Nat.lt_succ_self, Bool.not_false, reduceCtorEq, not_false_eq_true, Int.reduceLE, Int.reduceToNat, take_map_len, or_false, Nat.le_refl, cells_int, pur_int, rdP_int, pur_lits, rdP_lits, rdP_ref, DRx_int, ↓ev_tmp, ↓ev_int, ↓ev_func, ↓iop_move, ↓iop_assign, ↓iop_buildSlice, ↓iop_load, ↓iop_binOp, ↓iop_slice, intOfP_int, slcP_tf, ↓iop_indexAddr, idxA_int, ↓iop_callv, ↓iop_callb, nrmAll_cons, nrmAll_nil, bi_len, lenM_none, bi_append_re, appGuard_lits, bi_max, nrm_int, nrm_lits, nrm_ref, pickP_f, loadP_vptr, indexP_lits, lenP_lits, elemsP_lits, sliceP_lits, appendP_ref, b_add, b_eql, bel_nil, bel_cons, env0_eq, ires_eq, iresL_1, iresAll_nil, iresAll_cons, iresOne_tmp, frzL_eq, again_eq, againO_arr, rdAll_cons, rdAll_nil, valT_eq, pursL_cons, pursL_nil, Store.set, ↓reduceIte, Int.natCast_eq_zero, arr_eq, arrB_some, callP_eq, tsOf_eq, bslP_eq, ne_eq, opsIf_ite, List.drop_succ_cons, List.drop_nil, List.take_nil, ↓evs_cons, ↓evs_nil, ↓evp_cons, ↓evp_nil, only_obj, idsOf_cons, idsOf_nil, idC_ref, idC_int, idC_lits, Int.le_refl, Int.natCast_pos, beq_self_eq_true, List.all_cons, List.all_nil, see_eq, and_false, Bool.true_eq_false, e_groups, s_groups, nth_psts, pur_psts, nth_gaps, pur_gaps, nth_pays, pur_pays, Try.f40, ty3, ty34, htl, hp1, hp2, hpre, hpre2, hme, hme2, hw, hl1, hmap, htk, ho.1, ho.2, re_arr', reP_arr', reM_arr, rePM_arr]
    have hm2 : (if grp o (s + x) l r < grp o s l (r ++ [x]) then grp o s l (r ++ [x]) else grp o (s + x) l r) = max (grp o (s + x) l r) (grp o s l (r ++ [x])) := by split <;> omega
    simp only [List.length_cons] at h9
    exact ⟨by omega, fun _ => ⟨by omega, hm2⟩, fun _ => ⟨by omega, hm2⟩⟩
end
theorem c_groups : ∀ m, @C_groups ⟨m⟩
  | 0 => fun o s l r h => absurd h.2.2 (Nat.not_lt_zero _)
  | m + 1 => fun o s l r h => @x_groups ⟨m⟩ (@k_groups ⟨m⟩ (c_groups m)) o s l r h
instance fuel100 : Fuel := ⟨100⟩
theorem o_groups : O_groups := k_groups (c_groups 100)
end Sim
