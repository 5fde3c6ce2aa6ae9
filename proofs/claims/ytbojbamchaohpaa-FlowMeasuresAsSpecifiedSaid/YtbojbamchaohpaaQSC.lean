/- What functions of this seat compute, by values: contracts (lemmas of the statement's proof, under the conditions that each names). -/
import Derived.Test.YtbojbamchaohpaaQBD
import Derived.Test.YtbojbamchaohpaaQSP
namespace Sim
open Go Go.Proofs
set_option maxRecDepth 10000
set_option maxHeartbeats 4000000
set_option linter.unusedVariables false
set_option linter.unusedSimpArgs false
attribute [local congr] opsIf_congr condC_congr guardC_congr grd_congr pick3_congr obind_congr omap_congr
structure GC where
 id : Nat
 g : Nat
 A : List Arc
 N : Nat
 s : Nat
 t : Nat
def A_chp (x : GC) : List PV := [.ref x.id x.g 0 x.A.length, I (x.N : Nat), I (x.s : Nat), I (x.t : Nat)]
def H_chp (x : GC) (ob : Nat → Option IObj) : Prop := ob x.id = some (.arr x.g 4 (x.A.map arcV)) ∧ (∃ m sent, SB x.A x.N m x.s x.t sent) ∧ x.N ≤ 2000 ∧ x.A.length ≤ 20000
def R_chp (x : GC) : PV := if (finB x.A x.N x.s).known.getD x.t false = true then .agg [.lits 1 (natsV (pathB x.A x.N x.s x.t)), .bool true] else .agg [.nils, .bool false]
noncomputable def e_chp : Nat × Ent := (45, .c (specC A_chp H_chp R_chp))
theorem j_chp (a b : GC) (ob : Nat → Option IObj) (h : A_chp a = A_chp b) (hx : H_chp a ob) (hy : H_chp b ob) : R_chp a = R_chp b := by
 obtain ⟨i1, g1, A1, N1, s1, t1⟩ := a
 obtain ⟨i2, g2, A2, N2, s2, t2⟩ := b
 simp only [A_chp, List.cons.injEq, and_true, PV.ref.injEq, PV.int.injEq, true_and] at h
 obtain ⟨⟨e1, e2, _⟩, e3, e4, e5⟩ := h
 have e3 : N1 = N2 := by omega
 have e4 : s1 = s2 := by omega
 have e5 : t1 = t2 := by omega
 subst e1; subst e2; subst e3; subst e4; subst e5
 have q := hx.1.symm.trans hy.1
 simp only [Option.some.injEq, IObj.arr.injEq, inj_arcs, true_and] at q
 rw [q]
theorem s_chp (x : GC) {ob : Nat → Option IObj} (h : H_chp x ob) : specC A_chp H_chp R_chp [.ref x.id x.g 0 x.A.length, I (x.N : Nat), I (x.s : Nat), I (x.t : Nat)] ob = some (R_chp x) := specC_app j_chp (i := x) h
structure CB (ob : Nat → Option IObj) (M : Nat) (st : BS) (O : Nat → Option IObj) : Prop where
 e0 : O M = some (.arr 0 2 [.agg [.nils, .bool false]])
 e1 : O (M + 1) = some (.arr 0 1 (st.cost.map (PV.int .i64)))
 e2 : O (M + 2) = some (.arr 0 1 (st.known.map PV.bool))
 e3 : O (M + 3) = some (.arr 0 1 (st.last.map (PV.int .i64)))
 fr : ∀ i o, ob i = some o → O i = some o
theorem CB.high {ob : Nat → Option IObj} {M : Nat} {st : BS} {O : Nat → Option IObj} (h : CB ob M st O) (r0 : ∀ i o, ob i = some o → i < M) {n : Nat} {x : Option IObj} (hn : M + 4 ≤ n) : CB ob M st (updO O n x) := by
 have key : ∀ i, i < n → updO O n x i = O i := fun i hi => by simp only [updO]; rw [if_neg (by omega)]
 exact ⟨by rw [key _ (by omega)]; exact h.e0, by rw [key _ (by omega)]; exact h.e1, by rw [key _ (by omega)]; exact h.e2, by rw [key _ (by omega)]; exact h.e3, fun i o hi => by have := r0 i o hi; rw [key _ (by omega)]; exact h.fr i o hi⟩
theorem CB.put {ob : Nat → Option IObj} {M : Nat} {st : BS} {O : Nat → Option IObj} (h : CB ob M st O) (r0 : ∀ i o, ob i = some o → i < M) (c : List Int) (k : List Bool) (l : List Int) :
  CB ob M ⟨c, k, l⟩ (updO (updO (updO O (M + 2) (some (.arr 0 1 (k.map PV.bool)))) (M + 1) (some (.arr 0 1 (c.map (PV.int .i64))))) (M + 3) (some (.arr 0 1 (l.map (PV.int .i64))))) := by
 refine ⟨?_, ?_, ?_, ?_, fun i o hi => ?_⟩
 ·simp [updO, h.e0]
 ·simp [updO]
 ·simp [updO]
 ·simp [updO]
 ·have := r0 i o hi
  simp only [updO]
  rw [if_neg (by omega), if_neg (by omega), if_neg (by omega)]
  exact h.fr i o hi
theorem pathF_len {A : List Arc} {last : List Int} {s : Nat} : ∀ {f v : Nat}, (pathF A last s f v).length ≤ f
 | 0, v => Nat.le_refl _
 | f + 1, v => by
  rw [pathF]
  split
  ·simp
  ·have := pathF_len (A := A) (last := last) (s := s) (f := f) (v := aF A (last.getD v 0).toNat)
   rw [List.length_cons]; omega
theorem nth_intD {l : List Int} {k : Nat} (h : k < l.length) : nth (l.map (PV.int .i64)) k = I (l.getD k 0) := nth_mapD 0 h
theorem nth_bools' {l : List Bool} {k : Nat} (h : k < l.length) : nth (l.map PV.bool) k = .bool (l.getD k false) := nth_mapD false h
theorem o_chp : EntOK Try.prog e_chp.1 e_chp.2 := specC_ok ⟨Try.f45, Try.func45, rfl, by decide +kernel⟩ j_chp (fun x ob ob' h hx => ⟨h _ _ hx.1, hx.2⟩) fun x st wf hx => by
 obtain ⟨id, g, A, N, s, t⟩ := x
 obtain ⟨ob, M⟩ := st
 unfold H_chp at hx
 dsimp only at hx
 obtain ⟨ho, ⟨m, sent, S⟩, hN, hA⟩ := hx
 simp only [A_chp]
 generalize hR : R_chp ⟨id, g, A, N, s, t⟩ = R
 obtain ⟨φ, G⟩ := S.gb
 have r0 : ∀ i o, ob i = some o → i < M := wf
 have hidM := r0 _ _ ho
 have sN := S.sN
 have tN := S.tN
 have hNi : (N : Int) ≤ 4294967296 := by omega
 have n0 : ¬ id = M := by omega
 have n1 : ¬ id = M + 1 := by omega
 have n2 : ¬ id = M + 2 := by omega
 have n3 : ¬ id = M + 3 := by omega
 have hini : iniB N s = ⟨List.replicate N 0, (List.replicate N false).set s true, List.replicate N 0⟩ := rfl
 have hbs : ((List.replicate N (PV.bool false)).set s (PV.bool true)) = ((List.replicate N false).set s true).map PV.bool := by rw [List.map_set, List.map_replicate]
 refine ixc_ofD mixed (l := []) (eok_nil) [] [] 0 Try.func45 rfl (by decide +kernel) (N := 121) rfl (by simp) rfl (by kernel_rfl) ?_
 have p1 : ¬ M = M + 1 := by omega
 have p2 : ¬ M = M + 2 := by omega
 have p3 : ¬ M = M + 3 := by omega
 have p4 : ¬ M + 1 = M + 2 := by omega
 have p5 : ¬ M + 1 = M + 3 := by omega
 have p6 : ¬ M + 2 = M + 3 := by omega
 have q1 : ¬ M + 1 = M := by omega
 have q2 : ¬ M + 2 = M := by omega
 have q3 : ¬ M + 3 = M := by omega
 have q4 : ¬ M + 2 = M + 1 := by omega
 have q5 : ¬ M + 3 = M + 1 := by omega
 have q6 : ¬ M + 3 = M + 2 := by omega
 have hb0 : nth (List.replicate N (PV.bool false)) s = .bool false := by simp [nth, sN]
 have a11 : M + 1 + 1 = M + 2 := rfl
 have a21 : M + 2 + 1 = M + 3 := rfl
 simp +contextual (maxSteps := 4000000) only [↓bdD, bdP, Nat.reduceLT, Nat.reduceBEq, Nat.reduceAdd, Nat.reduceLeDiff, reduceCtorEq, Store.new, Store.set, ↓reduceIte, Nat.reduceBeqDiff, nth_its, pur_its, nth_arcs, pur_arcs, nth_snds, pur_snds, nth_lnks, pur_lnks, lkC_len, lkC_0, lkC_1, lkC_cap, lkC_pri, lkC_take, pur_lkC, Nat.mul_one, Try.f45, ty3, ty4, ty46, ty88, ty100, hNi, sN, ho, n0, n1, n2, n3, p1, p2, p3, q1, q2, q3, a11, a21, hb0, hbs]
 refine loop_cnt [12, 13, 14, 25, 26, 27, 28, 29, 30, 31, 32, 33, 34, 35, 36, 37, 38, 39, 40, 41, 42, 43, 44, 45, 46, 47, 48, 49, 50, 51, 52, 53, 54, 55, 56, 57, 58, 59, 60, 61, 62, 63, 64, 65, 66, 67, 68, 69, 70, 71, 72, 73, 74, 75, 76, 77, 78, 79, 80, 81, 82, 83, 84, 85, 86, 87, 88, 89, 90, 91, 92, 93, 94] N (fun r ρ st' => ρ 12 = I r ∧ ∃ O nx, st' = ⟨O, nx⟩ ∧ M + 4 ≤ nx ∧ CB ob M (runB A N s r) O) (.refl _) ?_ ?_
 ·simp +contextual (maxSteps := 4000000) only [↓bdD, bdP, nth_its, pur_its, nth_arcs, pur_arcs, nth_snds, pur_snds, nth_lnks, pur_lnks, lkC_len, lkC_0, lkC_1, lkC_cap, lkC_pri, lkC_take, pur_lkC, Nat.mul_one, Try.f45]
  refine ⟨_, _, rfl, by omega, ?_⟩
  show CB ob M (iniB N s) _
  rw [hini]
  refine ⟨?_, ?_, ?_, ?_, fun i o hi => ?_⟩
  ·simp [updO]
  ·simp [updO]
  ·simp [updO]
  ·simp [updO]
  ·have := r0 i o hi
   simp only [updO]
   repeat (rw [if_neg (by omega)])
   exact hi
 rintro r ρ st' hr ⟨h12, O, nx, rfl, hnx, hO⟩
 by_cases hrN : r < N
 ·have wr := wrapN' (k := r) (by omega)
  obtain ⟨n, hn⟩ : ∃ n, A.length = n := ⟨_, rfl⟩
  have hAl : (A.map arcV).length = n := by rw [List.length_map, hn]
  simp +contextual (maxSteps := 4000000) only [↓bdD, bdP, Nat.reduceLT, Nat.reduceBEq, nth_its, pur_its, nth_arcs, pur_arcs, nth_snds, pur_snds, nth_lnks, pur_lnks, lkC_len, lkC_0, lkC_1, lkC_cap, lkC_pri, lkC_take, pur_lkC, Nat.mul_one, Try.f45, h12, hrN]
  refine loop_cnt [13, 14, 30, 31, 32, 33, 34, 35, 36, 37, 38, 39, 40, 41, 42, 43, 44, 45, 46, 47, 48, 49, 50, 51, 52, 53, 54, 55, 56, 57, 58, 59, 60, 61, 62, 63, 64, 65, 66, 67, 68, 69, 70, 71, 72, 73, 74, 75, 76, 77, 78, 79, 80, 81, 82, 83, 84, 85, 86, 87, 88, 89, 90, 91, 92, 93, 94] n (fun k ρ st' => ρ 13 = I k ∧ ∃ O nx, st' = ⟨O, nx⟩ ∧ M + 4 ≤ nx ∧ CB ob M (fldB A (runB A N s r) k) O) (.refl _) ?_ ?_
  ·simp +contextual (maxSteps := 4000000) only [↓bdD, bdP, nth_its, pur_its, nth_arcs, pur_arcs, nth_snds, pur_snds, nth_lnks, pur_lnks, lkC_len, lkC_0, lkC_1, lkC_cap, lkC_pri, lkC_take, pur_lkC, Nat.mul_one, Try.f45]
   exact ⟨_, _, rfl, hnx, hO⟩
  clear hO hnx
  rintro k ρ2 st' hk ⟨h13, O2, nx2, rfl, hnx, hO⟩
  have f0 := hO.fr _ _ ho
  by_cases hkn : k < n
  ·have wk := wrapN' (k := k) (by omega)
   have hI := (fldB_ok G (runB_ok G r) k (by omega)).1
   have hst : fldB A (runB A N s r) (k + 1) = rlxB A (fldB A (runB A N s r) k) k := fldB_succ
   obtain ⟨uN, vN⟩ := G.ar k (by omega)
   have hpr := G.pr k (by omega)
   have hcn : r * A.length + k ≤ 40020000 := by
    have : r * A.length ≤ 2000 * 20000 := Nat.mul_le_mul (by omega) hA
    omega
   generalize fldB A (runB A N s r) k = B at *
   have e1 := hO.e1
   have e2 := hO.e2
   have e3 := hO.e3
   have hkA : k < A.length := by omega
   have hnA := nth_arcs hkA
   rw [show (A.getD k dA).1 = aF A k from rfl, show (A.getD k dA).2.1 = aT A k from rfl, show (A.getD k dA).2.2.1 = aL A k from rfl, show (A.getD k dA).2.2.2 = aP A k from rfl] at hnA
   have hmu := hI.mag _ uN
   have hlc := hI.lc
   have hlk := hI.lk
   have hll := hI.ll
   unfold rlxB at hst
   generalize aF A k = u at *
   generalize aT A k = v at *
   generalize aL A k = lf at *
   generalize aP A k = pc at *
   have k1 := nth_bools' (l := B.known) (k := u) (by omega)
   have k2 := nth_bools' (l := B.known) (k := v) (by omega)
   have c1 := nth_intD (l := B.cost) (k := u) (by omega)
   have c2 := nth_intD (l := B.cost) (k := v) (by omega)
   have c3 := nth_intD (l := B.last) (k := v) (by omega)
   have lm1 : (B.known.map PV.bool).length = N := by rw [List.length_map, hlk]
   have lm2 : (B.cost.map (PV.int .i64)).length = N := by rw [List.length_map, hlc]
   have lm3 : (B.last.map (PV.int .i64)).length = N := by rw [List.length_map, hll]
   have m0 : ¬ id = nx2 := by omega
   have m1 : ¬ M + 1 = nx2 := by omega
   have m2 : ¬ M + 2 = nx2 := by omega
   have m3 : ¬ M + 3 = nx2 := by omega
   have m4 : ¬ nx2 = M + 1 := by omega
   have m5 : ¬ nx2 = M + 2 := by omega
   have m6 : ¬ nx2 = M + 3 := by omega
   have hOh := hO.high r0 (n := nx2) (x := some (.arr 0 4 [.agg [I (u : Nat), I (v : Nat), I lf, I pc]])) hnx
   by_cases z1 : 0 < lf
   ·cases z2 : B.known.getD u false with
    | false =>
     rw [if_neg (fun g => by rw [z2] at g; exact absurd g.2.1 (by simp))] at hst
     rw [z2] at k1
     simp +contextual (maxSteps := 4000000) only [↓bdD, bdP, Nat.reduceLT, Nat.reduceBEq, Nat.reduceAdd, Nat.reduceLeDiff, Store.new, Store.set, ↓reduceIte, nth_its, pur_its, nth_arcs, pur_arcs, nth_snds, pur_snds, nth_lnks, pur_lnks, lkC_len, lkC_0, lkC_1, lkC_cap, lkC_pri, lkC_take, pur_lkC, Nat.mul_one, Try.f45, ty3, ty4, ty71, ty76, ty100, h13, hkn, wk, hnA, f0, hAl, hn, e1, e2, e3, uN, vN, k1, k2, c1, c2, c3, lm1, lm2, lm3, m0, m1, m2, m3, m4, m5, m6, p1, p2, p3, q1, q2, q3, z1, hst, updO_updO]
     exact ⟨_, _, rfl, by omega, hOh⟩
    | true =>
     rw [z2] at k1
     have hmu := hmu z2
     have wc : IntKind.i64.wrap (B.cost.getD u 0 + pc) = B.cost.getD u 0 + pc := wrap64 (by omega) (by omega)
     have ks : (B.known.map PV.bool).set v (.bool true) = (B.known.set v true).map PV.bool := by rw [List.map_set]
     have cs : (B.cost.map (PV.int .i64)).set v (I (B.cost.getD u 0 + pc)) = (B.cost.set v (B.cost.getD u 0 + pc)).map (PV.int .i64) := by rw [List.map_set]
     have ls' : (B.last.map (PV.int .i64)).set v (I (k : Nat)) = (B.last.set v (k : Nat)).map (PV.int .i64) := by rw [List.map_set]
     cases z3 : B.known.getD v false with
     | false =>
      rw [if_pos ⟨z1, z2, .inl z3⟩] at hst
      rw [z3] at k2
      simp +contextual (maxSteps := 4000000) only [↓bdD, bdP, Nat.reduceLT, Nat.reduceBEq, Nat.reduceAdd, Nat.reduceLeDiff, reduceCtorEq, Store.new, Store.set, ↓reduceIte, Nat.reduceBeqDiff, nth_its, pur_its, nth_arcs, pur_arcs, nth_snds, pur_snds, nth_lnks, pur_lnks, lkC_len, lkC_0, lkC_1, lkC_cap, lkC_pri, lkC_take, pur_lkC, Nat.mul_one, Try.f45, ty3, ty4, ty46, ty71, ty76, ty100, h13, hkn, wk, hnA, f0, hAl, hn, e1, e2, e3, uN, vN, k1, k2, c1, c2, c3, lm1, lm2, lm3, m0, m1, m2, m3, m4, m5, m6, p1, p2, p3, q1, q2, q3, z1, wc, ks, cs, ls', updO_updO]
      rw [hst]
      exact ⟨_, _, rfl, by omega, hOh.put r0 _ _ _⟩
     | true =>
      rw [z3] at k2
      by_cases z4 : B.cost.getD u 0 + pc < B.cost.getD v 0
      ·rw [if_pos ⟨z1, z2, .inr z4⟩] at hst
       simp +contextual (maxSteps := 4000000) only [↓bdD, bdP, Nat.reduceLT, Nat.reduceBEq, Nat.reduceAdd, Nat.reduceLeDiff, reduceCtorEq, Store.new, Store.set, ↓reduceIte, Nat.reduceBeqDiff, nth_its, pur_its, nth_arcs, pur_arcs, nth_snds, pur_snds, nth_lnks, pur_lnks, lkC_len, lkC_0, lkC_1, lkC_cap, lkC_pri, lkC_take, pur_lkC, Nat.mul_one, Try.f45, ty3, ty4, ty46, ty71, ty76, ty100, h13, hkn, wk, hnA, f0, hAl, hn, e1, e2, e3, uN, vN, k1, k2, c1, c2, c3, lm1, lm2, lm3, m0, m1, m2, m3, m4, m5, m6, p1, p2, p3, q1, q2, q3, z1, z4, wc, ks, cs, ls', updO_updO]
       rw [hst]
       exact ⟨_, _, rfl, by omega, hOh.put r0 _ _ _⟩
      ·rw [if_neg (fun g => g.2.2.elim (fun g => by rw [z3] at g; cases g) z4)] at hst
       simp +contextual (maxSteps := 4000000) only [↓bdD, bdP, Nat.reduceLT, Nat.reduceBEq, Nat.reduceAdd, Nat.reduceLeDiff, Store.new, Store.set, ↓reduceIte, nth_its, pur_its, nth_arcs, pur_arcs, nth_snds, pur_snds, nth_lnks, pur_lnks, lkC_len, lkC_0, lkC_1, lkC_cap, lkC_pri, lkC_take, pur_lkC, Nat.mul_one, Try.f45, ty3, ty4, ty46, ty71, ty76, ty100, h13, hkn, wk, hnA, f0, hAl, hn, e1, e2, e3, uN, vN, k1, k2, c1, c2, c3, lm1, lm2, lm3, m0, m1, m2, m3, m4, m5, m6, p1, p2, p3, q1, q2, q3, z1, z4, wc, hst, updO_updO]
       exact ⟨_, _, rfl, by omega, hOh⟩
   ·rw [if_neg (fun g => z1 g.1)] at hst
    simp +contextual (maxSteps := 4000000) only [↓bdD, bdP, Nat.reduceLT, Nat.reduceBEq, Nat.reduceAdd, Nat.reduceLeDiff, Store.new, Store.set, ↓reduceIte, nth_its, pur_its, nth_arcs, pur_arcs, nth_snds, pur_snds, nth_lnks, pur_lnks, lkC_len, lkC_0, lkC_1, lkC_cap, lkC_pri, lkC_take, pur_lkC, Nat.mul_one, Try.f45, ty3, ty71, ty76, h13, hkn, wk, hnA, f0, hAl, hn, e1, e2, e3, uN, vN, k1, k2, c1, c2, c3, lm1, lm2, lm3, m0, m1, m2, m3, m4, m5, m6, p1, p2, p3, q1, q2, q3, z1, hst, updO_updO]
    exact ⟨_, _, rfl, by omega, hOh⟩
  ·have e : k = n := by omega
   rw [e] at h13 hO
   simp +contextual (maxSteps := 4000000) only [↓bdD, bdP, Nat.reduceLT, Nat.reduceBEq, ↓reduceIte, nth_its, pur_its, nth_arcs, pur_arcs, nth_snds, pur_snds, nth_lnks, pur_lnks, lkC_len, lkC_0, lkC_1, lkC_cap, lkC_pri, lkC_take, pur_lkC, Nat.mul_one, Try.f45, ty71, h13, f0, hAl, hn, wr, h12]
   rw [agree_havoc_sub (by decide +kernel)]
   refine ⟨?_, _, _, rfl, by omega, ?_⟩
   ·simp +contextual (maxSteps := 4000000) only [↓bdD, bdP, Nat.reduceBEq, nth_its, pur_its, nth_arcs, pur_arcs, nth_snds, pur_snds, nth_lnks, pur_lnks, lkC_len, lkC_0, lkC_1, lkC_cap, lkC_pri, lkC_take, pur_lkC, Nat.mul_one, Try.f45]
   ·rw [← hn] at hO
    exact hO
 ·have e : r = N := by omega
  rw [e] at h12 hO
  have hB : runB A N s N = finB A N s := rfl
  rw [hB] at hO
  have hI := runB_ok G N
  rw [hB] at hI
  have hkt := known_iff S
  have hR2 : R = if (finB A N s).known.getD t false = true then .agg [.lits 1 (natsV (pathB A N s t)), .bool true] else .agg [.nils, .bool false] := hR.symm
  have hpl := fun h => (pathB_ok S (hkt.1 h)).2
  generalize finB A N s = B at *
  have e0 := hO.e0
  have e1 := hO.e1
  have e2 := hO.e2
  have e3 := hO.e3
  have hlk := hI.lk
  have hll := hI.ll
  have k1 := nth_bools' (l := B.known) (k := t) (by omega)
  have lm1 : (B.known.map PV.bool).length = N := by rw [List.length_map, hlk]
  have lm3 : (B.last.map (PV.int .i64)).length = N := by rw [List.length_map, hll]
  cases z : B.known.getD t false with
  | false =>
   rw [z, if_neg (by simp)] at hR2
   rw [z] at k1
   simp +contextual (maxSteps := 4000000) only [↓bdD, bdP, Nat.reduceLT, Nat.reduceBEq, endQ, Nat.reduceAdd, Store.set, ↓reduceIte, nth_its, pur_its, nth_arcs, pur_arcs, nth_snds, pur_snds, nth_lnks, pur_lnks, lkC_len, lkC_0, lkC_1, lkC_cap, lkC_pri, lkC_take, pur_lkC, Nat.mul_one, Try.f45, ty4, ty88, ty100, h12, e0, e2, k1, lm1, tN, p1, p2, p3, q1, q2, q3]
   rw [hR2]
   refine ⟨[], .inl rfl, fun i o hi => ?_, Nat.le_refl _, .agg _ fun c hc => ?_⟩
   ·have := r0 i o hi
    refine ⟨this, rfl, ?_, .inl hi⟩
    simp only [updO]
    rw [if_neg (by omega)]
    exact hO.fr i o hi
   ·simp only [List.mem_cons, List.not_mem_nil, or_false] at hc
    rcases hc with hc | hc
    ·rw [hc]; exact .nils
    ·rw [hc]; exact .bool _
  | true =>
   rw [z, if_pos rfl] at hR2
   rw [z] at k1
   have hpl := hpl z
   simp +contextual (maxSteps := 4000000) only [↓bdD, bdP, Nat.reduceLT, Nat.reduceBEq, Nat.reduceAdd, ↓reduceIte, nth_its, pur_its, nth_arcs, pur_arcs, nth_snds, pur_snds, nth_lnks, pur_lnks, lkC_len, lkC_0, lkC_1, lkC_cap, lkC_pri, lkC_take, pur_lkC, Nat.mul_one, Try.f45, ty4, ty100, h12, e0, e2, k1, lm1, tN, p1, p2, p3, q1, q2, q3]
   refine loop_meas [3, 15, 101, 102, 103, 104, 105, 106, 107, 108, 109, 110, 111, 112, 113, 114, 115, 116, 117, 118] (pathB A N s t).length (fun f ρ st' => ∃ v pre P gn O2, ρ 3 = I (v : Nat) ∧ ρ 15 = .ref nx gn 0 pre.length ∧ st' = ⟨O2, nx + 1⟩ ∧ O2 nx = some (.arr gn 1 (natsV pre)) ∧ CB ob M B O2 ∧ v < N ∧ B.known.getD v false = true ∧ PL A B.last s v P ∧ P.length = f ∧ pre ++ P = pathB A N s t) (.slot _ 15 1 ?_ ?_) ?_ ?_
   ·simp +contextual (maxSteps := 4000000) only [↓bdD, bdP, nth_its, pur_its, nth_arcs, pur_arcs, nth_snds, pur_snds, nth_lnks, pur_lnks, lkC_len, lkC_0, lkC_1, lkC_cap, lkC_pri, lkC_take, pur_lkC, Nat.mul_one, Try.f45]
   ·decide
   ·simp +contextual (maxSteps := 4000000) only [↓bdD, bdP, Nat.reduceBEq, Store.new, nth_its, pur_its, nth_arcs, pur_arcs, nth_snds, pur_snds, nth_lnks, pur_lnks, lkC_len, lkC_0, lkC_1, lkC_cap, lkC_pri, lkC_take, pur_lkC, Nat.mul_one, Try.f45]
    exact ⟨t, [], _, 0, _, rfl, rfl, rfl, by simp [updO, natsV], hO.high r0 hnx, tN, z, hpl, rfl, rfl⟩
   clear hO e0 e1 e2 e3
   rintro f ρ4 st' ⟨v, pre, P, gn, O2, r3, r15, rfl, ho15, hO, hv, hkv, hPL, hPf, hpre⟩
   have e0 := hO.e0
   have e3 := hO.e3
   have f0 := hO.fr _ _ ho
   have hnp : (natsV pre).length = pre.length := nats_len
   have hpN : pre.length + P.length ≤ N := by
    have h1 : (pathB A N s t).length ≤ N := pathF_len
    rw [← hpre, List.length_append] at h1
    exact h1
   by_cases hvs : v = s
   ·have hP : P = [] := by
     subst hvs
     cases hPL with
     | nil => rfl
     | cons _ _ hv _ _ => exact absurd rfl hv
    rw [hP, List.append_nil] at hpre
    have hvi : (v : Int) = (s : Int) := by rw [hvs]
    have d1 : ¬ M = nx := by omega
    have d2 : ¬ nx = M := by omega
    simp +contextual (maxSteps := 4000000) only [↓bdD, bdP, Nat.reduceLT, Nat.reduceBEq, endQ, Nat.reduceAdd, Nat.reduceLeDiff, Store.set, ↓reduceIte, nth_its, pur_its, nth_arcs, pur_arcs, nth_snds, pur_snds, nth_lnks, pur_lnks, lkC_len, lkC_0, lkC_1, lkC_cap, lkC_pri, lkC_take, pur_lkC, Nat.mul_one, Try.f45, ty88, r3, r15, hvi, e0, d1, d2]
    rw [hR2, ← hpre]
    refine ⟨[nx], .inr ?_, fun i o hi => ?_, Nat.le_refl _, .agg _ fun c hc => ?_⟩
    ·have htk : List.take pre.length (natsV pre) = natsV pre := List.take_of_length_le (by rw [hnp]; exact Nat.le_refl _)
     simp [rdP, rdC, rdL, Store.only, Store.arr?, updO, d2, ho15, pur_nats, hnp, htk, PV.pur, PV.isCell]
    ·have := r0 i o hi
     have d3 : ¬ i = nx := by omega
     refine ⟨this, by simp [d3], ?_, .inl hi⟩
     simp only [updO]
     rw [if_neg (by omega)]
     exact hO.fr i o hi
    ·simp only [List.mem_cons, List.not_mem_nil, or_false] at hc
     rcases hc with hc | hc
     ·rw [hc]
      refine .lits _ _ fun e he c hc => ?_
      obtain ⟨x, _, rfl⟩ := List.mem_map.1 he
      simp only [PV.cells, List.mem_singleton] at hc
      rw [hc]; exact .int _ _
     ·rw [hc]; exact .bool _
   ·obtain ⟨k, P', hP, hlast, hkA, hPL', hkk⟩ : ∃ k P', P = k :: P' ∧ B.last.getD v 0 = ((k : Nat) : Int) ∧ k < A.length ∧ PL A B.last s (aF A k) P' ∧ B.known.getD (aF A k) false = true := by
     obtain ⟨k, b1, b2, b3, b4, b5, b6⟩ := hI.par v hv hkv hvs
     cases hPL with
     | nil => exact absurd rfl hvs
     | cons _ P' _ hT h =>
      rw [b1, Int.toNat_natCast] at h
      exact ⟨k, P', by rw [b1, Int.toNat_natCast], b1, b2, h, b5⟩
    have hvi : ¬ (v : Int) = (s : Int) := by omega
    have hnl := nth_intD (l := B.last) (k := v) (by omega)
    rw [hlast] at hnl
    have hnA := nth_arcs hkA
    rw [show (A.getD k dA).1 = aF A k from rfl] at hnA
    have hAl : (A.map arcV).length = A.length := List.length_map _
    have huN := (G.ar k hkA).1
    have hb1 : ¬ pre.length + 1 ≤ pre.length := by omega
    have hb2 : pre.length + 1 ≤ 2147483648 := by omega
    have d0 : ¬ id = nx := by omega
    have d3 : ¬ M + 3 = nx := by omega
    have d4 : ¬ nx = M + 3 := by omega
    rw [hP, List.length_cons] at hPf
    rw [hP] at hpre
    simp +contextual (maxSteps := 4000000) only [↓bdD, bdP, Nat.reduceLT, Nat.reduceBEq, Nat.reduceAdd, Nat.reduceLeDiff, Store.set, ↓reduceIte, nth_its, pur_its, nth_arcs, pur_arcs, nth_snds, pur_snds, nth_lnks, pur_lnks, lkC_len, lkC_0, lkC_1, lkC_cap, lkC_pri, lkC_take, pur_lkC, Nat.mul_one, Try.f45, ty3, ty46, ty71, ty76, r3, r15, hvi, e3, f0, ho15, lm3, hnl, hnA, hAl, hkA, hv, hnp, hb1, hb2, d0, d3, d4, p1, p2, p3, q1, q2, q3]
    refine ⟨P'.length, by omega, aF A k, pre ++ [k], P', gn + 1, _, rfl, by rw [List.length_append]; rfl, rfl, ?_, hO.high r0 hnx, huN, hkk, hPL', rfl, by rw [List.append_assoc]; exact hpre⟩
    simp only [updO, if_true]
    rw [nats_app, List.take_of_length_le (by rw [hnp]; exact Nat.le_refl _)]
end Sim
