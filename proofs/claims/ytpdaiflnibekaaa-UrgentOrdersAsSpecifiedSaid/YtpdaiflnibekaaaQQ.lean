/- What functions of this seat compute, by values: contracts (lemmas of the statement's proof, under the conditions that each names). -/
import Derived.Test.YtpdaiflnibekaaaQP
namespace Sim
open Go Go.Proofs
set_option maxRecDepth 10000
set_option maxHeartbeats 2000000
set_option linter.unusedVariables false
set_option linter.unusedSimpArgs false
attribute [local congr] opsIf_congr condC_congr guardC_congr grd_congr pick3_congr obind_congr omap_congr opsV_congr
theorem wrapu {x : Int} (h0 : 0 ≤ x) (h : x < 18446744073709551616) : IntKind.u64.wrap x = x := by
  simp [IntKind.wrap, IntKind.bits, IntKind.signed]; omega
theorem and32 {x : Nat} (h : x < 18446744073709551616) : intBitsP .and .u64 (x : Int) 4294967295 = some ((x % 4294967296 : Nat) : Int) := by
  have e : (BitVec.ofInt 64 (x : Int) &&& BitVec.ofInt 64 4294967295).toNat = x % 4294967296 := by
    rw [BitVec.ofInt_natCast, show BitVec.ofInt 64 4294967295 = BitVec.ofNat 64 (2 ^ 32 - 1) from rfl, BitVec.toNat_and, BitVec.toNat_ofNat, BitVec.toNat_ofNat, Nat.mod_eq_of_lt (a := x) (by omega), Nat.mod_eq_of_lt (by omega), Nat.and_two_pow_sub_one_eq_mod]
  show some (IntKind.u64.wrap ((BitVec.ofInt 64 (x : Int) &&& BitVec.ofInt 64 4294967295).toNat : Int)) = _
  rw [e, wrapu (by omega) (by omega)]
theorem shr32 {x : Nat} : (x : Int).fdiv 4294967296 = ((x / 4294967296 : Nat) : Int) := by
  rw [Int.fdiv_eq_ediv_of_nonneg _ (by omega)]; rfl
theorem mul_parts (x y : Nat) : ((x * y : Nat) : Int) = (x : Int) * (y : Int) := rfl
noncomputable def A_mulG : (Nat) × (Nat) → List PV := fun (x, y) => [.int .u64 x, .int .u64 y]
noncomputable def R_mulG : (Nat) × (Nat) → PV := fun (x, y) => .tuple [.int .u64 (x * y / 18446744073709551616 : Nat), .int .u64 (x * y % 18446744073709551616 : Nat)]
def H_mulG : (Nat) × (Nat) → Prop := fun (x, y) => (x < 18446744073709551616 ∧ y < 18446744073709551616)
noncomputable def e_mulG : Nat × Ent := (61, .v (specOf A_mulG R_mulG H_mulG))
theorem j_mulG : ∀ i j, A_mulG i = A_mulG j → i = j := by
  rintro ⟨x₁, y₁⟩ ⟨x₂, y₂⟩ h
  simp only [A_mulG, List.cons.injEq, and_true, PV.lits.injEq, PV.int.injEq, PV.bool.injEq, PV.str.injEq, PV.agg.injEq, PV.func.injEq, PV.vptr.injEq, true_and, List.map_nil, inj_ints, inj_strs, inj_reps] at h
  simp [Prod.ext_iff, h] <;> omega
theorem s_mulG (x : Nat) (y : Nat) : specOf A_mulG R_mulG H_mulG [.int .u64 x, .int .u64 y] = @ite (Option (PV)) ((x < 18446744073709551616 ∧ y < 18446744073709551616)) (Classical.propDecidable _) (some (.tuple [.int .u64 (x * y / 18446744073709551616 : Nat), .int .u64 (x * y % 18446744073709551616 : Nat)])) none := specOf_if j_mulG (x, y)
def C_mulG : Prop := ∀ (x : Nat) (y : Nat) (h : (x < 18446744073709551616 ∧ y < 18446744073709551616)) , VC Try.prog 61 [.int .u64 x, .int .u64 y] (.tuple [.int .u64 (x * y / 18446744073709551616 : Nat), .int .u64 (x * y % 18446744073709551616 : Nat)])
def O_mulG : Prop := EntOK Try.prog e_mulG.1 e_mulG.2
theorem k_mulG (c : C_mulG) : O_mulG := specOf_ok fun ⟨x, y⟩ h => c x y h
theorem c_mulG : C_mulG := by
  intro x y ⟨hx, hy⟩
  refine vc_ofU mixed (l := []) (eok_nil) [] []  Try.func61 rfl (by decide +kernel) (N := 51) rfl (by simp) rfl (by kernel_rfl) fun hs => ?_
  simp only [smallL, PV.small, List.length_map, and_true, true_and] at hs
  generalize hr : x * y / 18446744073709551616 = r
  generalize hr' : x * y % 18446744073709551616 = r'
  have a1 := and32 hx
  have a2 := and32 hy
  have s1 := shr32 (x := x)
  have s2 := shr32 (x := y)
  have ba : x % 4294967296 ≤ 4294967295 := by omega
  have bb : x / 4294967296 ≤ 4294967295 := by omega
  have bc : y % 4294967296 ≤ 4294967295 := by omega
  have bd : y / 4294967296 ≤ 4294967295 := by omega
  generalize ha : x % 4294967296 = a at *
  generalize hb : x / 4294967296 = b at *
  generalize hc : y % 4294967296 = c at *
  generalize hd : y / 4294967296 = d at *
  have pac : a * c ≤ 18446744065119617025 := Nat.mul_le_mul ba bc
  have pbc : b * c ≤ 18446744065119617025 := Nat.mul_le_mul bb bc
  have pad : a * d ≤ 18446744065119617025 := Nat.mul_le_mul ba bd
  have pbd : b * d ≤ 18446744065119617025 := Nat.mul_le_mul bb bd
  have hxy : x * y = a * c + 4294967296 * (a * d + b * c) + 18446744073709551616 * (b * d) := by
    have e1 : x = a + 4294967296 * b := by omega
    have e2 : y = c + 4294967296 * d := by omega
    rw [e1, e2, Nat.add_mul, Nat.mul_add, Nat.mul_add, Nat.mul_assoc, Nat.mul_assoc, ← Nat.mul_assoc a 4294967296 d, Nat.mul_comm a 4294967296, Nat.mul_assoc, ← Nat.mul_assoc b 4294967296 d, Nat.mul_comm b 4294967296, Nat.mul_assoc]
    omega
  have w1 : IntKind.u64.wrap ((a : Int) * (c : Int)) = ((a * c : Nat) : Int) := by rw [wrapu] <;> omega
  have w2 : IntKind.u64.wrap ((b : Int) * (c : Int)) = ((b * c : Nat) : Int) := by rw [wrapu] <;> omega
  have w3 : IntKind.u64.wrap ((a : Int) * (d : Int)) = ((a * d : Nat) : Int) := by rw [wrapu] <;> omega
  have w4 : IntKind.u64.wrap ((b : Int) * (d : Int)) = ((b * d : Nat) : Int) := by rw [wrapu] <;> omega
  have w9 : IntKind.u64.wrap ((x : Int) * (y : Int)) = (r' : Int) := by
    rw [← hr']
    simp [IntKind.wrap, IntKind.bits, IntKind.signed]
  generalize hac : a * c = ac at *
  generalize hbc : b * c = bc at *
  generalize had : a * d = ad at *
  generalize hbd : b * d = bd at *
  have s3 := shr32 (x := ac)
  have w5 : IntKind.u64.wrap ((bc : Int) + ((ac / 4294967296 : Nat) : Int)) = ((bc + ac / 4294967296 : Nat) : Int) := by rw [wrapu] <;> omega
  have ht : bc + ac / 4294967296 < 18446744073709551616 := by omega
  generalize hT : bc + ac / 4294967296 = t at *
  have a3 := and32 ht
  have s4 := shr32 (x := t)
  have w6 : IntKind.u64.wrap (((t % 4294967296 : Nat) : Int) + (ad : Int)) = ((t % 4294967296 + ad : Nat) : Int) := by rw [wrapu] <;> omega
  have hu : t % 4294967296 + ad < 18446744073709551616 := by omega
  generalize hU : t % 4294967296 + ad = u at *
  have s5 := shr32 (x := u)
  have w7 : IntKind.u64.wrap ((bd : Int) + ((t / 4294967296 : Nat) : Int)) = ((bd + t / 4294967296 : Nat) : Int) := by rw [wrapu] <;> omega
  have w8 : IntKind.u64.wrap (((bd + t / 4294967296 : Nat) : Int) + ((u / 4294967296 : Nat) : Int)) = ((bd + t / 4294967296 + u / 4294967296 : Nat) : Int) := by rw [wrapu] <;> omega
  have hfin : bd + t / 4294967296 + u / 4294967296 = r := by omega
  rw [hfin] at w8
  simp +contextual (maxSteps := 4000000) only [↓ur_seq, ↓ur_ret, ↓ur_region, ↓cont_seq, ↓done_nil, ↓ops_consN, nY_move, nY_assign, nY_binOp, ↓ops_nil, opsIf_some, Option.map_some, Option.bind_some, Nat.reduceLT, ↓upd_same, ↓upd_ne, Nat.reduceBEq, and_true, List.getD_cons_zero, List.getD_cons_succ, endQ, cfg_P, Option.some.injEq, exists_eq_left', Nat.reduceLeDiff, Nat.lt_succ_self, Int.reduceLT, Int.reduceToNat, st0, DRx_int, DRx_tuple, DRxL_cons, DRxL_nil, ↓ev_tmp, ↓ev_int, ↓iop_move, ↓iop_assign, ↓iop_binOp, b_add, b_mul, b_and, b_shr, env0_eq, ires_eq, iresL_2, iresAll_nil, iresAll_cons, iresOne_tmp, ↓reduceIte, bits_u64, Nat.min_def, Int.reducePow, nth_reps, pur_reps, Try.f61, a1, a2, s1, s2, w1, w2, w3, w4, s3, w5, a3, s4, w6, s5, w7, w8, w9]
theorem o_mulG : O_mulG := k_mulG c_mulG

noncomputable def A_mul : (Nat) × (Nat) → List PV := fun (x, y) => [.int .u64 x, .int .u64 y]
noncomputable def R_mul : (Nat) × (Nat) → PV := fun (x, y) => .tuple [.int .u64 (x * y / 18446744073709551616 : Nat), .int .u64 (x * y % 18446744073709551616 : Nat)]
def H_mul : (Nat) × (Nat) → Prop := fun (x, y) => (x < 18446744073709551616 ∧ y < 18446744073709551616)
noncomputable def e_mul : Nat × Ent := (59, .v (specOf A_mul R_mul H_mul))
theorem j_mul : ∀ i j, A_mul i = A_mul j → i = j := by
  rintro ⟨x₁, y₁⟩ ⟨x₂, y₂⟩ h
  simp only [A_mul, List.cons.injEq, and_true, PV.lits.injEq, PV.int.injEq, PV.bool.injEq, PV.str.injEq, PV.agg.injEq, PV.func.injEq, PV.vptr.injEq, true_and, List.map_nil, inj_ints, inj_strs, inj_reps] at h
  simp [Prod.ext_iff, h] <;> omega
theorem s_mul (x : Nat) (y : Nat) : specOf A_mul R_mul H_mul [.int .u64 x, .int .u64 y] = @ite (Option (PV)) ((x < 18446744073709551616 ∧ y < 18446744073709551616)) (Classical.propDecidable _) (some (.tuple [.int .u64 (x * y / 18446744073709551616 : Nat), .int .u64 (x * y % 18446744073709551616 : Nat)])) none := specOf_if j_mul (x, y)
def C_mul : Prop := ∀ (x : Nat) (y : Nat) (h : (x < 18446744073709551616 ∧ y < 18446744073709551616)) , VC Try.prog 59 [.int .u64 x, .int .u64 y] (.tuple [.int .u64 (x * y / 18446744073709551616 : Nat), .int .u64 (x * y % 18446744073709551616 : Nat)])
def O_mul : Prop := EntOK Try.prog e_mul.1 e_mul.2
theorem k_mul (c : C_mul) : O_mul := specOf_ok fun ⟨x, y⟩ h => c x y h
theorem c_mul : C_mul := by
  intro x y h
  refine vc_ofU mixed (l := [e_mulG]) ((eok_cons o_mulG eok_nil)) [] []  Try.func59 rfl (by decide +kernel) (N := 30) rfl (by simp) rfl (by kernel_rfl) fun hs => ?_
  simp only [smallL, PV.small, List.length_map, and_true, true_and] at hs
  generalize hr : x * y / 18446744073709551616 = r
  generalize hr' : x * y % 18446744073709551616 = r'
  simp +contextual (maxSteps := 4000000) only [↓ur_skip, ↓ur_seq, ↓ur_ret, ↓ur_region, ↓ur_cond, ↓cont_seq, ↓done_nil, ↓ops_consN, nY_move, nY_assign, nY_extract, nY_callf, ↓ops_nil, opsIf_some, condC_false, Option.map_some, Option.bind_some, Option.getD_some, Nat.reduceLT, Bool.false_eq_true, ↓upd_same, ↓upd_ne, Nat.reduceBEq, and_true, List.getD_cons_zero, List.getD_cons_succ, List.getElem?_cons_zero, List.getElem?_cons_succ, endQ, cfg_P, cfg_tab, cfg_muts, cfg_frz, List.contains_nil, Option.some.injEq, exists_eq_left', tabOf_cons, tab_v, Bool.and_self, List.nil_append, List.append_nil, Nat.lt_succ_self, st0, pur_int, DRx_int, DRx_tuple, DRxL_cons, DRxL_nil, ↓ev_tmp, ↓ev_int, ↓ev_bool, ↓ev_func, ↓iop_move, ↓iop_assign, ↓iop_extract, extr_tuple, ↓iop_callv, nrmAll_cons, nrmAll_nil, nrm_int, env0_eq, ires_eq, iresL_2, iresAll_nil, iresAll_cons, iresOne_tmp, valT_eq, pursL_cons, pursL_nil, ↓reduceIte, callP_eq, ↓evs_cons, ↓evs_nil, and_false, Bool.true_eq_false, e_mulG, s_mulG, nth_reps, pur_reps, Try.f59, ty89, h, hr, hr']
theorem o_mul : O_mul := k_mul c_mul

def mixL (a b : PV) (i c : Nat) : List PV := List.replicate i a ++ List.replicate (c - i) b
theorem mixL_len {a b : PV} {i c : Nat} (h : i ≤ c) : (mixL a b i c).length = c := by simp [mixL]; omega
theorem mixL_step {a b : PV} {i c m : Nat} (h : i + m ≤ c) (hm : m ≤ i) : (mixL a b i c).take i ++ ((mixL a b i c).take i).take m ++ (mixL a b i c).drop (i + m) = mixL a b (i + m) c := by
  have h1 : (mixL a b i c).take i = List.replicate i a := by simp [mixL]
  rw [h1]
  have h2 : (mixL a b i c).drop (i + m) = List.replicate (c - (i + m)) b := by
    simp only [mixL, List.drop_append, List.length_replicate, List.drop_replicate]
    rw [show i - (i + m) = 0 by omega, show c - i - (i + m - i) = c - (i + m) by omega]; simp
  rw [h2, List.take_replicate, Nat.min_eq_left hm]
  simp [mixL, List.replicate_append_replicate]
noncomputable def A_repeat : (Int) × (Nat) → List PV := fun (v, m) => [ints [v], I m]
noncomputable def R_repeat : (Int) × (Nat) → List PV := fun (v, m) => List.replicate m (I v)
def H_repeat : (Int) × (Nat) → Prop := fun (v, m) => 1 ≤ m ∧ m ≤ 1024
noncomputable def e_repeat : Nat × Ent := (54, .a (1) (specOf A_repeat R_repeat H_repeat))
theorem j_repeat : ∀ i j, A_repeat i = A_repeat j → i = j := by
  rintro ⟨v₁, m₁⟩ ⟨v₂, m₂⟩ h
  simp only [A_repeat, List.cons.injEq, and_true, PV.lits.injEq, PV.int.injEq, PV.bool.injEq, PV.str.injEq, PV.agg.injEq, PV.func.injEq, PV.vptr.injEq, true_and, List.map_nil, inj_ints, inj_strs, inj_reps] at h
  simp [Prod.ext_iff, h] <;> omega
theorem s_repeat (v : Int) (m : Nat) : specOf A_repeat R_repeat H_repeat [ints [v], I m] = @ite (Option (List PV)) (1 ≤ m ∧ m ≤ 1024) (Classical.propDecidable _) (some (List.replicate m (I v))) none := specOf_if j_repeat (v, m)
def C_repeat : Prop := ∀ (v : Int) (m : Nat) (h : 1 ≤ m ∧ m ≤ 1024) , VCA Try.prog 54 [ints [v], I m] (1) (List.replicate m (I v))
def O_repeat : Prop := EntOK Try.prog e_repeat.1 e_repeat.2
theorem k_repeat (c : C_repeat) : O_repeat := specOf_okA fun ⟨v, m⟩ h => c v m h
theorem c_repeat : C_repeat := by
  rintro v c ⟨h1, h2⟩
  refine vca_ofD mixed (l := [e_mul]) ((eok_cons o_mul eok_nil)) [] [] 0 0 Try.func54 rfl (by decide +kernel) (N := 48) rfl (by simp) rfl (by kernel_rfl) ?_ ?_
  · intro e he
    rw [List.mem_replicate] at he
    rw [he.2]; rfl
  have hcv : IntKind.u64.wrap (c : Int) = c := wrapu (by omega) (by omega)
  have hc1 : IntKind.u64.wrap (1 : Int) = ((1 : Nat) : Int) := wrapu (by omega) (by omega)
  have hmul : 1 * c / 18446744073709551616 = 0 := by omega
  have hmul2 : 1 * c % 18446744073709551616 = c := by omega
  have hc2 : IntKind.i64.wrap (c : Int) = c := wrap64 (by omega) (by omega)
  have hneg : ¬ (c : Int) < 0 := by omega
  have hlt : c < 18446744073709551616 := by omega
  have hbig : ¬ (9223372036854775807 : Int) < (c : Int) := by omega
  have hmax : (c : Int) ≤ 4294967296 := by omega
  have hsm := s_mul 1 c
  rw [if_pos ⟨by omega, hlt⟩, hmul, hmul2] at hsm
  have hzz : ((0 : Nat) : Int) = 0 := rfl
  have hz1 : ((1 : Nat) : Int) = 1 := rfl
  rw [hzz, hz1] at hsm
  simp +contextual (maxSteps := 4000000) only [↓ur_skip, ↓ur_seq, ↓ur_block, ↓ur_region, ↓ur_cond, ↓cont_seq, ↓ops_consN, ↓ops_guardN, nY_move, nY_assign, nY_pick, nY_binOp, nY_convert, nY_makeSlice, nY_extract, nY_callf, nY_callb, ↓ops_nil, opsIf_some, condC_false, guardC_ff, Option.map_some, Option.bind_some, Option.getD_some, Nat.reduceLT, Bool.false_eq_true, ↓upd_same, ↓upd_ne, Nat.reduceBEq, true_and, and_true, List.getD_cons_zero, List.getD_cons_succ, List.getElem?_toArray, List.getElem?_cons_zero, List.getElem?_cons_succ, cfg_P, cfg_tab, cfg_muts, cfg_frz, cfg_num, numOf_eq, List.map_cons, List.map_nil, List.contains_nil, Int.natCast_nonneg, Int.toNat_natCast, decide_false, tabOf_cons, tab_v, Bool.and_self, List.nil_append, List.append_nil, updO_same, List.length_cons, List.length_nil, Nat.zero_add, List.take_zero, Nat.reduceAdd, List.length_replicate, Nat.lt_succ_self, Int.reduceLT, Nat.le_refl, pur_int, ↓ev_tmp, ↓ev_int, ↓ev_nils, ↓ev_func, ↓guardP_eq, grd_some, ↓iop_move, ↓iop_assign, ↓pick3_bool, ↓iop_pick, ↓iop_binOp, ↓iop_convert, ↓iop_makeSlice, mkSl_int, ↓iop_extract, extr_tuple, ↓iop_callv, ↓iop_callb, nrmAll_cons, nrmAll_nil, bi_len, lenM_none, bi_copy, copyP_ref, isStr_lits, nrm_int, lenP_lits, elemsP_lits, b_lss, b_gtr, cv_int, env0_eq, valT_eq, pursL_cons, pursL_nil, Store.new, Store.set, ↓reduceIte, arrB_some, callP_eq, ↓evs_cons, ↓evs_nil, Int.le_refl, and_false, Bool.true_eq_false, Nat.min_def, e_mul, nth_reps, pur_reps, Try.f54, ty3, ty25, ty83, hcv, hc1, hz1, hsm, hc2, hneg, hbig, hmax]
  have hlenc : ∀ i, i ≤ c → (mixL (I v) (I 0) i c).length = c := fun i hi => mixL_len hi
  refine loop_cnt [8, 34, 35, 36, 37, 38, 39, 40, 41, 42, 43, 44, 45, 46] 10 (fun k ρ st' => ∃ i : Nat, i = min (2 ^ k) c ∧ ρ 8 = I i ∧ st'.obj 0 = some (.arr 0 1 (mixL (I v) (I 0) i c))) (.refl _) ?_ ?_
  · refine ⟨1, by simp; omega, ?_⟩
    have e1 : (if 1 ≤ c then 1 else c) = 1 := if_pos h1
    have e2 : I v :: List.drop 1 (List.replicate c (I 0)) = mixL (I v) (I 0) 1 c := by simp [mixL]
    simp +contextual (maxSteps := 4000000) only [↓upd_same, and_true, List.cons_append, List.nil_append, updO_same, List.take_succ_cons, List.take_nil, Int.cast_ofNat_Int, nth_reps, pur_reps, Try.f54, e1, e2]
  · rintro k ρ ⟨ob, M⟩ hk ⟨i, hi, h8, h0⟩
    dsimp only at h0
    have hic : i ≤ c := by omega
    have hl := hlenc i hic
    by_cases hlt : i < c
    · have hk10 : k < 10 := by
        rcases Nat.lt_or_ge k 10 with g | g
        · exact g
        · have : k = 10 := by omega
          subst this
          simp at hi; omega
      have hd : min i (c - i) = if i ≤ c - i then i else c - i := Nat.min_def
      have hi1 : 1 ≤ i := by have := Nat.two_pow_pos k; omega
      obtain ⟨m, hm⟩ : ∃ m, m = min i (c - i) := ⟨_, rfl⟩
      have hstep := mixL_step (a := I v) (b := I 0) (i := i) (c := c) (m := m) (by omega) (by omega)
      have hw : IntKind.i64.wrap ((i : Int) + (m : Int)) = ((i + m : Nat) : Int) := by rw [wrap64 (by omega) (by omega)]; omega
      have hlt2 : (List.take (i - 0) (mixL (I v) (I 0) i c)).length = i := by simp [hl]; omega
      have hif : (if i ≤ c - i then i else c - i) = m := by rw [hm, hd]
      have hti : List.take (i - 0) (mixL (I v) (I 0) i c) = List.take i (mixL (I v) (I 0) i c) := rfl
      have hpow : i + m = if 2 ^ (k + 1) ≤ c then 2 ^ (k + 1) else c := by
        have e : min (2 ^ (k + 1)) c = if 2 ^ (k + 1) ≤ c then 2 ^ (k + 1) else c := Nat.min_def
        rw [← e, Nat.pow_succ]
        generalize 2 ^ k = q at *
        omega
      simp +contextual (maxSteps := 4000000) only [↓ur_skip, ↓ur_seq, ↓ur_block, ↓ur_region, ↓ur_cond, ↓cont_seq, ↓cont_blk, ↓cont_lp, ↓ops_consN, nY_move, nY_assign, nY_binOp, nY_slice, nY_callb, ↓ops_nil, opsIf_some, opsIf_if, map_if, bind_if, condC_true, Option.map_some, Option.map_none, Option.bind_some, Option.bind_none, Option.getD_some, Option.getD_none, Nat.reduceLT, ↓upd_same, ↓upd_ne, Nat.reduceBEq, true_and, and_true, cfg_P, ↓havoc_in, ↓havoc_out, agree_upd, agree_havoc, List.contains_cons, List.contains_nil, Bool.or_false, Bool.or_true, Int.natCast_nonneg, Int.ofNat_lt, Int.toNat_natCast, decide_true, Option.some.injEq, PV.int.injEq, updO_same, Nat.zero_add, Nat.add_zero, List.drop_zero, IObj.arr.injEq, Nat.lt_succ_self, Int.reduceToNat, ↓ev_tmp, ↓iop_move, ↓iop_assign, ↓iop_binOp, ↓iop_slice, intOfP_int, slcP_tf, slcP_ft, ↓iop_callb, bi_len, lenM_none, bi_copy, copyP_ref, isStr_ref, lenP_ref, elemsP_ref, sliceP_ref, b_add, b_lss, Store.set, ↓reduceIte, arr_eq, arrB_some, Int.natCast_inj, ↓evs_cons, ↓evs_nil, Int.le_refl, beq_self_eq_true, Nat.min_def, Int.cast_ofNat_Int, nth_reps, pur_reps, Try.f54, ty25, h8, h0, hl, hlt, hlt2, hif, hw]
      refine ⟨⟨by omega, by omega, by omega⟩, ⟨by omega, by omega⟩, by omega, by omega, hk10, i + m, hpow, rfl, ?_⟩
      rw [hti]; exact hstep
    · have e : i = c := by omega
      subst e
      simp +contextual (maxSteps := 4000000) only [↓ur_seq, ↓ur_exit, ↓ur_ret, ↓ur_region, ↓ur_cond, ↓cont_seq, ↓leave_seq, ↓leave_blk, ↓leave_lp, ↓done_nil, ↓ops_consN, nY_move, nY_assign, nY_binOp, nY_callb, ↓ops_nil, opsIf_some, condC_false, Option.map_some, Option.bind_some, Option.getD_some, Nat.reduceLT, ↓upd_same, ↓upd_ne, Nat.reduceBEq, true_and, endQ, cfg_P, ↓havoc_in, ↓havoc_out, List.contains_cons, List.contains_nil, Bool.or_false, Int.ofNat_lt, decide_false, Option.some.injEq, exists_eq_left', Nat.lt_irrefl, Nat.lt_succ_self, ↓ev_tmp, ↓iop_move, ↓iop_assign, ↓iop_binOp, ↓iop_callb, bi_len, lenM_none, lenP_ref, b_lss, ires_eq, iresL_1, iresAll_nil, iresAll_cons, iresOne_tmp, ↓reduceIte, arr_eq, arrB_some, ↓evs_cons, ↓evs_nil, beq_self_eq_true, nth_reps, pur_reps, Try.f54, ty25, h8, h0]
      refine ⟨0, 0, rfl, ?_⟩
      rw [h0]; simp [mixL]
theorem o_repeat : O_repeat := k_repeat c_repeat
end Sim
