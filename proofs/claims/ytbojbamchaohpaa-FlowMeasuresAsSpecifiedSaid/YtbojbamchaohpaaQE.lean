/- What functions of this seat compute, by values: contracts (lemmas of the statement's proof, under the conditions that each names). -/
import Derived.Test.YtbojbamchaohpaaQBD
namespace Sim
open Go Go.Proofs
set_option maxRecDepth 10000
set_option maxHeartbeats 2000000
set_option linter.unusedVariables false
set_option linter.unusedSimpArgs false
attribute [local congr] opsIf_congr condC_congr guardC_congr grd_congr pick3_congr obind_congr omap_congr
structure QS where
 aid : Nat
 g : Nat
 n : Nat
 l : List It
 u : Nat
 v : Nat
def QS.sl (x : QS) : PV := .ref x.aid x.g 0 x.n
def QS.at (x : QS) (st : Store) : Prop := st.obj x.aid = some (.arr x.g 2 (x.l.map itV)) ∧ x.n ≤ x.l.length ∧ x.l.length ≤ 1073741824
theorem QS.same {x y : QS} {st : Store} (h : x.sl = y.sl) (hx : x.at st) (hy : y.at st) : x.aid = y.aid ∧ x.g = y.g ∧ x.n = y.n ∧ x.l = y.l := by
 unfold QS.sl at h
 simp only [PV.ref.injEq, true_and] at h
 have hy1 := hy.1
 rw [← h.1] at hy1
 have := hx.1.symm.trans hy1
 simp only [Option.some.injEq, IObj.arr.injEq, inj_its] at this
 exact ⟨h.1, h.2.1, h.2.2, this.2.2⟩
def A_qlen (x : QS) : List PV := [x.sl]
def R_qlen (x : QS) (st : Store) : PV × Store := (I (x.n : Nat), st)
noncomputable def e_qlen : Nat × Ent := (55, .x (specX A_qlen QS.at R_qlen))
theorem j_qlen (x y : QS) (st : Store) (h : A_qlen x = A_qlen y) (hx : x.at st) (hy : y.at st) : R_qlen x st = R_qlen y st := by
 simp only [A_qlen, List.cons.injEq, and_true] at h
 simp only [R_qlen, (QS.same h hx hy).2.2.1]
def H_qij (x : QS) (st : Store) : Prop := x.at st ∧ x.u < x.n ∧ x.v < x.n
def A_qij (x : QS) : List PV := [x.sl, I (x.u : Nat), I (x.v : Nat)]
theorem QS.same3 {x y : QS} {st : Store} (h : A_qij x = A_qij y) (hx : H_qij x st) (hy : H_qij y st) : x = y := by
 simp only [A_qij, List.cons.injEq, and_true, PV.int.injEq, true_and] at h
 obtain ⟨a1, a2, a3, a4⟩ := QS.same h.1 hx.1 hy.1
 cases x; cases y
 simp only at a1 a2 a3 a4 h
 simp only [QS.mk.injEq]
 exact ⟨a1, a2, a3, a4, by omega, by omega⟩
def R_qless (x : QS) (st : Store) : PV × Store := (.bool (decide (kI x.l x.u < kI x.l x.v)), st)
noncomputable def e_qless : Nat × Ent := (79, .x (specX A_qij H_qij R_qless))
def R_qswap (x : QS) (st : Store) : PV × Store := (.tuple [], st.set x.aid (.arr x.g 2 ((swp x.l x.u x.v).map itV)))
noncomputable def e_qswap : Nat × Ent := (82, .x (specX A_qij H_qij R_qswap))
theorem updO_updO {ob : Nat → Option IObj} {i : Nat} {a b : Option IObj} : updO (updO ob i a) i b = updO ob i b := by
 funext j; simp only [updO]; split <;> rfl
theorem left_refl {r : PV} {st : Store} : Left r st r st := Left.refl
theorem set_its {l : List It} {k : Nat} {x : It} : (l.map itV).set k (.agg [I x.1, I (x.2 : Nat)]) = (l.set k x).map itV := by rw [List.map_set]
theorem o_qlen : EntOK Try.prog e_qlen.1 e_qlen.2 := specX_ok fun x st hx => by
 obtain ⟨aid, g, n, l, u, v⟩ := x
 obtain ⟨ob, M⟩ := st
 unfold QS.at at hx
 dsimp only at hx
 obtain ⟨h1, h2, h3⟩ := hx
 simp only [A_qlen, R_qlen, QS.sl]
 refine ixc_ofD mixed (l := []) (eok_nil) [] [] 0 Try.func55 rfl (by decide +kernel) (N := 5) rfl (by simp) rfl (by kernel_rfl) ?_
 simp +contextual (maxSteps := 4000000) only [↓bdD, bdP, Nat.reduceLT, Nat.reduceBEq, endQ, ↓reduceIte, nth_its, pur_its, nth_arcs, pur_arcs, nth_snds, pur_snds, nth_lnks, pur_lnks, Try.f55, ty106, h1, left_refl]
theorem o_qless : EntOK Try.prog e_qless.1 e_qless.2 := specX_ok fun x st hx => by
 obtain ⟨aid, g, n, l, u, v⟩ := x
 obtain ⟨ob, M⟩ := st
 unfold H_qij QS.at at hx
 dsimp only at hx
 obtain ⟨⟨h1, h2, h3⟩, h4, h5⟩ := hx
 simp only [A_qij, R_qless, QS.sl, kI]
 have h6 : u < l.length := by omega
 have h7 : v < l.length := by omega
 refine ixc_ofD mixed (l := []) (eok_nil) [] [] 0 Try.func79 rfl (by decide +kernel) (N := 18) rfl (by simp) rfl (by kernel_rfl) ?_
 simp +contextual (maxSteps := 4000000) only [↓bdD, bdP, Nat.reduceLT, Nat.reduceBEq, endQ, Nat.reduceAdd, ↓reduceIte, nth_its, pur_its, nth_arcs, pur_arcs, nth_snds, pur_snds, nth_lnks, pur_lnks, Try.f79, ty3, ty104, ty106, h1, h2, h4, h5, h6, h7]
 exact Left.refl
theorem o_qswap : EntOK Try.prog e_qswap.1 e_qswap.2 := specX_ok fun x st hx => by
 obtain ⟨aid, g, n, l, u, v⟩ := x
 obtain ⟨ob, M⟩ := st
 unfold H_qij QS.at at hx
 dsimp only at hx
 obtain ⟨⟨h1, h2, h3⟩, h4, h5⟩ := hx
 have h6 : u < l.length := by omega
 have h7 : v < l.length := by omega
 simp only [A_qij, R_qswap, QS.sl]
 refine ixc_ofD mixed (l := []) (eok_nil) [] [] 0 Try.func82 rfl (by decide +kernel) (N := 20) rfl (by simp) rfl (by kernel_rfl) ?_
 have h8 : v < (l.set u (l.getD v dI)).length := by rw [List.length_set]; exact h7
 have e1 : setCells (nth ((l.set u (l.getD v dI)).map itV) v) 0 [I (l.getD u dI).1, I ((l.getD u dI).2 : Nat)] = .agg [I (l.getD u dI).1, I ((l.getD u dI).2 : Nat)] := by rw [nth_its h8]; rfl
 simp +contextual (maxSteps := 4000000) only [↓bdD, bdP, Nat.reduceLT, Nat.reduceBEq, endQ, Nat.reduceAdd, Store.set, ↓reduceIte, nth_its, pur_its, nth_arcs, pur_arcs, nth_snds, pur_snds, nth_lnks, pur_lnks, Try.f82, ty104, ty106, h1, h2, h4, h5, h6, h7, List.length_set, set_its, e1, updO_updO]
 exact ⟨_, rfl, Left.refl⟩
end Sim
namespace Sim
open Go Go.Proofs
set_option maxRecDepth 10000
set_option maxHeartbeats 2000000
set_option linter.unusedVariables false
set_option linter.unusedSimpArgs false
attribute [local congr] opsIf_congr condC_congr guardC_congr grd_congr pick3_congr obind_congr omap_congr
structure HS where
 qid : Nat
 qg : Nat
 aid : Nat
 g : Nat
 q : List It
 tl : List It
 x : It
 j : Nat
 k : Nat
def HS.p (h : HS) : PV := .ptr h.qid h.qg 0 0
def HS.at (h : HS) (st : Store) : Prop := st.obj h.qid = some (.arr h.qg 1 [.ref h.aid h.g 0 h.q.length]) ∧ st.obj h.aid = some (.arr h.g 2 ((h.q ++ h.tl).map itV)) ∧ (h.q ++ h.tl).length ≤ 1000000000 ∧ h.qid < st.next ∧ h.aid < st.next
def hpS (ob : Nat → Option IObj) (nx qid qg aid g : Nat) (q tl : List It) : Store := ⟨updO (updO ob aid (some (.arr g 2 ((q ++ tl).map itV)))) qid (some (.arr qg 1 [.ref aid g 0 q.length])), nx⟩
theorem HS.same {x y : HS} {st : Store} (h : x.p = y.p) (hx : x.at st) (hy : y.at st) : x.qid = y.qid ∧ x.qg = y.qg ∧ x.aid = y.aid ∧ x.g = y.g ∧ x.q = y.q ∧ x.tl = y.tl := by
 unfold HS.p at h
 simp only [PV.ptr.injEq, and_true] at h
 obtain ⟨h1, h2, _, _⟩ := hx
 obtain ⟨h3, h4, _, _⟩ := hy
 rw [← h.1, h1] at h3
 simp only [Option.some.injEq, IObj.arr.injEq, List.cons.injEq, PV.ref.injEq, and_true, true_and] at h3
 rw [← h3.2.1, h2] at h4
 simp only [Option.some.injEq, IObj.arr.injEq, inj_its, true_and] at h4
 obtain ⟨e1, e2⟩ := List.append_inj h4.2 h3.2.2.2
 exact ⟨h.1, h.2, h3.2.1, h3.2.2.1, e1, e2⟩
theorem HS.ne {h : HS} {st : Store} (hx : h.at st) : ¬ h.aid = h.qid := fun e => by
 have h1 := hx.1
 rw [← e, hx.2.1] at h1
 simp only [Option.some.injEq, IObj.arr.injEq] at h1
 omega
theorem HS.lt {h : HS} {st : Store} (hx : h.at st) : h.qid < st.next ∧ h.aid < st.next := hx.2.2.2
theorem isInt_its {l : List It} : (l.map itV).all PV.isInt = true := by simp [PV.isInt, PV.isInt1]
def A_hx (h : HS) : List PV := [h.p, .iface 104 (itV h.x)]
def psQ (h : HS) : Nat × List It := if h.tl = [] then (h.g + 1, []) else (h.g, h.tl.tail)
def R_qpush (h : HS) (st : Store) : PV × Store := (.tuple [], hpS st.obj st.next h.qid h.qg h.aid (psQ h).1 (h.q ++ [h.x]) (psQ h).2)
noncomputable def e_qpush : Nat × Ent := (81, .x (specX A_hx HS.at R_qpush))
theorem j_qpush (x y : HS) (st : Store) (h : A_hx x = A_hx y) (hx : x.at st) (hy : y.at st) : R_qpush x st = R_qpush y st := by
 simp only [A_hx, List.cons.injEq, and_true, PV.iface.injEq, true_and, PV.agg.injEq, PV.int.injEq] at h
 obtain ⟨a1, a2, a3, a4, a5, a6⟩ := HS.same h.1 hx hy
 have a7 : x.x = y.x := Prod.ext h.2.1 (by omega)
 simp only [R_qpush, psQ, a1, a2, a3, a4, a5, a6, a7]
theorem o_qpush : EntOK Try.prog e_qpush.1 e_qpush.2 := specX_ok fun h st hx => by
 have hne := HS.ne hx
 obtain ⟨qid, qg, aid, g, q, tl, x, j, k⟩ := h
 obtain ⟨ob, M⟩ := st
 unfold HS.at at hx
 dsimp only at hx hne
 obtain ⟨h1, h2, h3, h4⟩ := hx
 have hne2 : ¬ qid = aid := fun e => hne e.symm
 rw [List.length_append] at h3
 simp only [A_hx, R_qpush, HS.p]
 refine ixc_ofD mixed (l := []) (eok_nil) [] [700011, 700012] 0 Try.func81 rfl (by decide +kernel) (N := 13) rfl (by simp) rfl (by kernel_rfl) ?_
 have b1 : q.length + 1 ≤ 2147483648 := by omega
 cases tl with
 | nil =>
  simp only [List.append_nil] at h2
  have b2 : ¬ q.length + 1 ≤ q.length := by omega
  simp +contextual (maxSteps := 4000000) only [↓bdD, bdP, Nat.reduceLT, Nat.reduceBEq, endQ, Nat.reduceAdd, Nat.reduceMul, Nat.reduceLeDiff, reduceCtorEq, Store.set, ↓reduceIte, nth_its, pur_its, nth_arcs, pur_arcs, nth_snds, pur_snds, nth_lnks, pur_lnks, Try.f81, ty104, ty106, h1, h2, hne, hne2, isInt_its, b1, b2]
  refine ⟨_, rfl, ?_⟩
  simp only [psQ, if_true, hpS, List.append_nil, List.length_append, List.length_cons, List.length_nil, Nat.zero_add, List.map_append, List.map_cons, List.map_nil]
  exact Left.refl
 | cons y tl =>
  have b2 : q.length + 1 ≤ q.length + (tl.length + 1) := by omega
  have b3 : q.length ≤ q.length + (tl.length + 1) := by omega
  have e0 : (q.map itV).length = q.length := List.length_map _
  simp +contextual (maxSteps := 4000000) only [↓bdD, bdP, Nat.reduceLT, Nat.reduceBEq, endQ, Nat.reduceAdd, Nat.reduceMul, Nat.reduceLeDiff, reduceCtorEq, Store.set, ↓reduceIte, nth_its, pur_its, nth_arcs, pur_arcs, nth_snds, pur_snds, nth_lnks, pur_lnks, Try.f81, ty104, ty106, h1, h2, hne, hne2, isInt_its, b1, b2, b3]
  have e1 : List.take q.length ((q ++ y :: tl).map itV) ++ [itV x] ++ List.drop (q.length + 1) ((q ++ y :: tl).map itV) = (q ++ [x] ++ tl).map itV := by
   rw [List.map_append, List.take_left' e0, List.drop_append, e0, List.drop_of_length_le (by omega), show q.length + 1 - q.length = 1 by omega]
   simp
  refine ⟨_, rfl, ?_⟩
  rw [e1]
  simp only [psQ, hpS, reduceCtorEq, if_false, List.tail_cons, List.length_append, List.length_cons, List.length_nil, Nat.zero_add]
  exact Left.refl
def A_hp (h : HS) : List PV := [h.p]
def H_hpop (h : HS) (st : Store) : Prop := h.at st ∧ 0 < h.q.length
def R_qpop (h : HS) (st : Store) : PV × Store := (.iface 104 (itV (h.q.getD (h.q.length - 1) dI)), hpS (updO st.obj st.next none) (st.next + 1) h.qid h.qg h.aid h.g (h.q.take (h.q.length - 1)) (h.q.drop (h.q.length - 1) ++ h.tl))
noncomputable def e_qpop : Nat × Ent := (80, .x (specX A_hp H_hpop R_qpop))
theorem j_qpop (x y : HS) (st : Store) (h : A_hp x = A_hp y) (hx : H_hpop x st) (hy : H_hpop y st) : R_qpop x st = R_qpop y st := by
 simp only [A_hp, List.cons.injEq, and_true] at h
 obtain ⟨a1, a2, a3, a4, a5, a6⟩ := HS.same h hx.1 hy.1
 simp only [R_qpop, a1, a2, a3, a4, a5, a6]
theorem o_qpop : EntOK Try.prog e_qpop.1 e_qpop.2 := specX_ok fun h st hx => by
 obtain ⟨hx, hq⟩ := hx
 have hne := HS.ne hx
 have hlt := HS.lt hx
 obtain ⟨qid, qg, aid, g, q, tl, x, j, k⟩ := h
 obtain ⟨ob, M⟩ := st
 unfold HS.at at hx
 dsimp only at hx hne hq hlt
 obtain ⟨h1, h2, h3, h4⟩ := hx
 obtain ⟨l1, l2⟩ := hlt
 have hne2 : ¬ qid = aid := fun e => hne e.symm
 have m1 : ¬ qid = M := by omega
 have m2 : ¬ aid = M := by omega
 have m3 : ¬ M = qid := by omega
 have m4 : ¬ M = aid := by omega
 rw [List.length_append] at h3
 simp only [A_hp, R_qpop, HS.p]
 refine ixc_ofD mixed (l := []) (eok_nil) [] [] 0 Try.func80 rfl (by decide +kernel) (N := 23) rfl (by simp) rfl (by kernel_rfl) ?_
 obtain ⟨n, hn⟩ : ∃ n, q.length = n + 1 := ⟨q.length - 1, by omega⟩
 have w1 : IntKind.i64.wrap ((n : Int) + 1 - 1) = (n : Int) := by rw [wrap64 (by omega) (by omega)]; omega
 have w2 : IntKind.i64.wrap (((n + 1 : Nat) : Int) - 1) = (n : Int) := by rw [wrap64 (by omega) (by omega)]; omega
 have b1 : n < (q ++ tl).length := by rw [List.length_append]; omega
 have b2 : n < n + 1 := by omega
 have e1 : (q ++ tl).getD n dI = q.getD n dI := by
  rw [List.getD_eq_getElem?_getD, List.getElem?_append_left (by omega), List.getD_eq_getElem?_getD]
 rw [hn] at h1
 have hn1 := nth_its b1
 simp +contextual (maxSteps := 4000000) only [↓bdD, bdP, Nat.reduceLT, Nat.reduceBEq, endQ, Nat.reduceAdd, Nat.reduceLeDiff, Int.reduceToNat, Store.new, Store.set, ↓reduceIte, nth_its, pur_its, nth_arcs, pur_arcs, nth_snds, pur_snds, nth_lnks, pur_lnks, Try.f80, ty104, ty106, h1, h2, hn, hn1, hne, hne2, m1, m2, m3, m4, w1, w2, b1, b2, e1]
 refine ⟨by omega, by omega, Left.same rfl (fun i o hi => ?_) (Nat.le_refl _)⟩
 simp only [hpS, updO] at hi ⊢
 by_cases c1 : i = qid
 ·rw [if_pos c1] at hi ⊢
  rw [← hi]
  simp [hn]
 ·rw [if_neg c1] at hi ⊢
  by_cases c2 : i = aid
  ·subst c2
   rw [if_pos rfl] at hi
   rw [if_neg m2, if_neg m2, h2, ← hi, ← List.append_assoc, List.take_append_drop]
  ·rw [if_neg c2] at hi
   by_cases c3 : i = M
   ·rw [if_pos c3] at hi; cases hi
   ·rw [if_neg c3] at hi
    rw [if_neg c3, if_neg c3, hi]
def HS.pi (h : HS) : PV := .iface 102 h.p
end Sim
namespace Sim
open Go Go.Proofs
set_option maxRecDepth 10000
set_option maxHeartbeats 2000000
set_option linter.unusedVariables false
set_option linter.unusedSimpArgs false
attribute [local congr] opsIf_congr condC_congr guardC_congr grd_congr pick3_congr obind_congr omap_congr
theorem j_qless (x y : QS) (st : Store) (h : A_qij x = A_qij y) (hx : H_qij x st) (hy : H_qij y st) : R_qless x st = R_qless y st := by rw [QS.same3 h hx hy]
theorem j_qswap (x y : QS) (st : Store) (h : A_qij x = A_qij y) (hx : H_qij x st) (hy : H_qij y st) : R_qswap x st = R_qswap y st := by rw [QS.same3 h hx hy]
theorem s_qlen {aid g n : Nat} (l : List It) {st : Store} (h : QS.at ⟨aid, g, n, l, 0, 0⟩ st) : specX A_qlen QS.at R_qlen [.ref aid g 0 n] st = some (I (n : Nat), st) := specX_app j_qlen (i := ⟨aid, g, n, l, 0, 0⟩) h
theorem s_qless {aid g n u v : Nat} (l : List It) {st : Store} (h : H_qij ⟨aid, g, n, l, u, v⟩ st) : specX A_qij H_qij R_qless [.ref aid g 0 n, I (u : Nat), I (v : Nat)] st = some (.bool (decide (kI l u < kI l v)), st) :=
 specX_app j_qless (i := ⟨aid, g, n, l, u, v⟩) h
theorem s_qswap {aid g n u v : Nat} (l : List It) {ob : Nat → Option IObj} {M : Nat} (h : H_qij ⟨aid, g, n, l, u, v⟩ ⟨ob, M⟩) : specX A_qij H_qij R_qswap [.ref aid g 0 n, I (u : Nat), I (v : Nat)] ⟨ob, M⟩ = some (.tuple [], ⟨updO ob aid (some (.arr g 2 ((swp l u v).map itV))), M⟩) :=
 specX_app j_qswap (i := ⟨aid, g, n, l, u, v⟩) h
theorem getD_app {l tl : List It} {k : Nat} (h : k < l.length) : (l ++ tl).getD k dI = l.getD k dI := by
 rw [List.getD_eq_getElem?_getD, List.getElem?_append_left h, List.getD_eq_getElem?_getD]
theorem kI_app2 {l tl : List It} {k : Nat} (h : k < l.length) : kI (l ++ tl) k = kI l k := by unfold kI; rw [getD_app h]
theorem swp_app {l tl : List It} {u v : Nat} (hu : u < l.length) (hv : v < l.length) : swp (l ++ tl) u v = swp l u v ++ tl := by
 unfold swp
 rw [getD_app hu, getD_app hv, List.set_append, if_pos hu, List.set_append, if_pos (by rw [List.length_set]; exact hv)]
abbrev hpO (ob : Nat → Option IObj) (qid qg aid g : Nat) (q tl : List It) : Nat → Option IObj := updO (updO ob aid (some (.arr g 2 ((q ++ tl).map itV)))) qid (some (.arr qg 1 [.ref aid g 0 q.length]))
theorem hpO_self {ob : Nat → Option IObj} {qid qg aid g : Nat} {q tl : List It} (h1 : ob qid = some (.arr qg 1 [.ref aid g 0 q.length])) (h2 : ob aid = some (.arr g 2 ((q ++ tl).map itV))) : hpO ob qid qg aid g q tl = ob := by
 funext i
 simp only [hpO, updO]
 by_cases c1 : i = qid
 ·rw [if_pos c1, c1, h1]
 ·rw [if_neg c1]
  by_cases c2 : i = aid
  ·rw [if_pos c2, c2, h2]
  ·rw [if_neg c2]
theorem hpO_set {ob : Nat → Option IObj} {qid qg aid g : Nat} {q q' tl : List It} (hne : ¬ aid = qid) (hl : q'.length = q.length) : updO (hpO ob qid qg aid g q tl) aid (some (.arr g 2 ((q' ++ tl).map itV))) = hpO ob qid qg aid g q' tl := by
 funext i
 simp only [hpO, updO]
 by_cases c1 : i = aid
 ·have c2 : ¬ i = qid := by rw [c1]; exact hne
  rw [if_pos c1, if_neg c2, if_pos c1]
 ·rw [if_neg c1, if_neg c1, if_neg c1, hl]
theorem at_hpO {ob : Nat → Option IObj} {M qid qg aid g n : Nat} {q tl : List It} {u v : Nat} (hne : ¬ aid = qid) (hn : n = q.length) (hb : q.length + tl.length ≤ 1000000000) : QS.at ⟨aid, g, n, q ++ tl, u, v⟩ ⟨hpO ob qid qg aid g q tl, M⟩ := by
 refine ⟨?_, ?_, ?_⟩
 ·simp only [hpO, updO, if_neg hne, if_true]
 ·dsimp only
  rw [List.length_append]; omega
 ·dsimp only
  rw [List.length_append]; omega
def H_hup (h : HS) (st : Store) : Prop := h.at st ∧ h.j < h.q.length
def A_hup (h : HS) : List PV := [h.pi, I (h.j : Nat)]
def R_hup (h : HS) (st : Store) : PV × Store := (.tuple [], hpS st.obj st.next h.qid h.qg h.aid h.g (upF (h.j + 1) h.q h.j) h.tl)
noncomputable def e_hup : Nat × Ent := (62, .x (specX A_hup H_hup R_hup))
theorem j_hup (x y : HS) (st : Store) (h : A_hup x = A_hup y) (hx : H_hup x st) (hy : H_hup y st) : R_hup x st = R_hup y st := by
 simp only [A_hup, HS.pi, List.cons.injEq, and_true, PV.iface.injEq, true_and, PV.int.injEq] at h
 obtain ⟨a1, a2, a3, a4, a5, a6⟩ := HS.same h.1 hx.1 hy.1
 have a7 : x.j = y.j := by omega
 simp only [R_hup, a1, a2, a3, a4, a5, a6, a7]
theorem half {j : Nat} (h : j ≤ 1000000000) : IntKind.i64.wrap (Int.tdiv ((j : Int) - 1) 2) = (((j - 1) / 2 : Nat) : Int) := by
 rcases Nat.eq_zero_or_pos j with rfl | hj
 ·decide
 ·rw [Int.tdiv_eq_ediv_of_nonneg (by omega), wrap64 (by omega) (by omega)]
  omega
theorem o_hup : EntOK Try.prog e_hup.1 e_hup.2 := specX_ok fun h st hx => by
 obtain ⟨hx, hj⟩ := hx
 have hne := HS.ne hx
 obtain ⟨qid, qg, aid, g, q, tl, x, j, k⟩ := h
 obtain ⟨ob, M⟩ := st
 unfold HS.at at hx
 dsimp only at hx hne hj
 obtain ⟨h1, h2, h3, h4⟩ := hx
 have hne2 : ¬ qid = aid := fun e => hne e.symm
 rw [List.length_append] at h3
 simp only [A_hup, R_hup, HS.p, HS.pi, hpS]
 obtain ⟨R, hR⟩ : ∃ R, upF (j + 1) q j = R := ⟨_, rfl⟩
 rw [hR]
 refine ixc_ofD mixed (l := [e_qless, e_qswap]) ((eok_cons o_qless (eok_cons o_qswap eok_nil))) [] [] 0 Try.func62 rfl (by decide +kernel) (N := 23) rfl (by simp) rfl (by kernel_rfl) ?_
 simp +contextual (maxSteps := 4000000) only [↓bdD, bdP, e_qless, e_qswap, nth_its, pur_its, nth_arcs, pur_arcs, nth_snds, pur_snds, nth_lnks, pur_lnks, Try.f62]
 refine loop_meas [1, 4, 5, 6, 7, 8, 9, 10, 11, 12, 13, 14, 15, 16, 17, 18, 19, 20, 21, 22] (j + 1) (fun m ρ st' => ∃ l' j', ρ 1 = I (j' : Nat) ∧ j' < m ∧ j' < q.length ∧ l'.length = q.length ∧ upF m l' j' = R ∧ st' = ⟨hpO ob qid qg aid g l' tl, M⟩) (.refl _) ?_ ?_
 ·refine ⟨q, j, rfl, by omega, hj, rfl, hR, ?_⟩
  rw [hpO_self h1 h2]
 rintro m ρ st' ⟨l', j', r1, r2, r3, r4, r5, rfl⟩
 have w1 : IntKind.i64.wrap ((j' : Int) - 1) = (j' : Int) - 1 := wrap64 (by omega) (by omega)
 have w2 := half (j := j') (by omega)
 have hL := s_qless (u := j') (v := (j' - 1) / 2) (l' ++ tl) (st := ⟨hpO ob qid qg aid g l' tl, M⟩) (n := l'.length) (g := g) (aid := aid) ⟨at_hpO hne rfl (by omega), by dsimp only; omega, by dsimp only; omega⟩
 have hS := s_qswap (u := (j' - 1) / 2) (v := j') (l' ++ tl) (ob := hpO ob qid qg aid g l' tl) (M := M) (n := l'.length) (g := g) (aid := aid) ⟨at_hpO hne rfl (by omega), by dsimp only; omega, by dsimp only; omega⟩
 simp +contextual (maxSteps := 4000000) only [↓bdD, bdP, Nat.reduceLT, Nat.reduceBEq, endQ, Nat.reduceEqDiff, Nat.reduceAdd, reduceCtorEq, Int.reduceEq, ↓reduceIte, nth_its, pur_its, nth_arcs, pur_arcs, nth_snds, pur_snds, nth_lnks, pur_lnks, Try.f62, ty3, r1, w1, w2, hL, hS, ty102, ty106, hne, hne2]
 obtain ⟨m1, rfl⟩ : ∃ m1, m = m1 + 1 := ⟨m - 1, by omega⟩
 have k1 : kI (l' ++ tl) j' = kI l' j' := kI_app2 (by omega)
 have k2 : kI (l' ++ tl) ((j' - 1) / 2) = kI l' ((j' - 1) / 2) := kI_app2 (by omega)
 rw [k1, k2]
 simp only [upF] at r5
 refine ⟨fun a => ⟨fun b => ?_, fun b => ?_⟩, fun a => ?_⟩
 ·rw [if_pos (.inr b)] at r5
  subst r5
  exact ⟨_, rfl, Left.refl⟩
 ·rw [if_neg (by simp [a, b])] at r5
  rw [swp_app (by omega) (by omega)]
  refine ⟨m1, by omega, _, by omega, by omega, ?_, r5, ?_⟩
  ·rw [swp_len, r4]
  ·rw [hpO_set hne (by rw [swp_len])]
 ·rw [if_pos (.inl a)] at r5
  subst r5
  exact ⟨_, rfl, Left.refl⟩
end Sim
namespace Sim
open Go Go.Proofs
set_option maxRecDepth 10000
set_option maxHeartbeats 2000000
set_option linter.unusedVariables false
set_option linter.unusedSimpArgs false
attribute [local congr] opsIf_congr condC_congr guardC_congr grd_congr pick3_congr obind_congr omap_congr
def downI : Nat → List It → Nat → Nat → Nat
 | 0, _, i, _ => i
 | f + 1, l, i, n => if n ≤ 2 * i + 1 ∨ ¬ kI l (chC l i n) < kI l i then i else downI f (swp l i (chC l i n)) (chC l i n) n
def H_hdown (h : HS) (st : Store) : Prop := h.at st ∧ h.j < h.q.length ∧ h.k ≤ h.q.length
def A_hdown (h : HS) : List PV := [h.pi, I (h.j : Nat), I (h.k : Nat)]
def R_hdown (h : HS) (st : Store) : PV × Store := (.bool (decide (h.j < downI h.q.length h.q h.j h.k)), hpS st.obj st.next h.qid h.qg h.aid h.g (downF h.q.length h.q h.j h.k) h.tl)
noncomputable def e_hdown : Nat × Ent := (60, .x (specX A_hdown H_hdown R_hdown))
theorem j_hdown (x y : HS) (st : Store) (h : A_hdown x = A_hdown y) (hx : H_hdown x st) (hy : H_hdown y st) : R_hdown x st = R_hdown y st := by
 simp only [A_hdown, HS.pi, List.cons.injEq, and_true, PV.iface.injEq, true_and, PV.int.injEq] at h
 obtain ⟨a1, a2, a3, a4, a5, a6⟩ := HS.same h.1 hx.1 hy.1
 have a7 : x.j = y.j := by omega
 have a8 : x.k = y.k := by omega
 simp only [R_hdown, a1, a2, a3, a4, a5, a6, a7, a8]
theorem o_hdown : EntOK Try.prog e_hdown.1 e_hdown.2 := specX_ok fun h st hx => by
 obtain ⟨hx, hj, hk⟩ := hx
 have hne := HS.ne hx
 obtain ⟨qid, qg, aid, g, q, tl, x, j, n⟩ := h
 obtain ⟨ob, M⟩ := st
 unfold HS.at at hx
 dsimp only at hx hne hj hk
 obtain ⟨h1, h2, h3, h4⟩ := hx
 have hne2 : ¬ qid = aid := fun e => hne e.symm
 rw [List.length_append] at h3
 simp only [A_hdown, R_hdown, HS.p, HS.pi, hpS]
 obtain ⟨R, hR⟩ : ∃ R, downF q.length q j n = R := ⟨_, rfl⟩
 obtain ⟨S, hS⟩ : ∃ S, downI q.length q j n = S := ⟨_, rfl⟩
 rw [hR, hS]
 refine ixc_ofD mixed (l := [e_qless, e_qswap]) ((eok_cons o_qless (eok_cons o_qswap eok_nil))) [] [] 0 Try.func60 rfl (by decide +kernel) (N := 48) rfl (by simp) rfl (by kernel_rfl) ?_
 simp +contextual (maxSteps := 4000000) only [↓bdD, bdP, Nat.reduceLT, Nat.reduceBEq, e_qless, e_qswap, nth_its, pur_its, nth_arcs, pur_arcs, nth_snds, pur_snds, nth_lnks, pur_lnks, Try.f60]
 refine loop_meas [7, 8, 9, 10, 12, 13, 14, 15, 16, 17, 18, 19, 20, 21, 22, 23, 24, 25, 26, 27, 28, 29, 30, 31, 32, 33, 34, 35, 36, 37, 38, 39, 40, 41, 42, 43, 44] q.length (fun m ρ st' => ∃ l' i', ρ 7 = I (i' : Nat) ∧ q.length ≤ i' + m ∧ i' < q.length ∧ l'.length = q.length ∧ downF m l' i' n = R ∧ downI m l' i' n = S ∧ st' = ⟨hpO ob qid qg aid g l' tl, M⟩) (.refl _) ?_ ?_
 ·simp +contextual (maxSteps := 4000000) only [↓bdD, bdP, nth_its, pur_its, nth_arcs, pur_arcs, nth_snds, pur_snds, nth_lnks, pur_lnks, Try.f60]
  refine ⟨q, by omega, hj, rfl, hR, hS, ?_⟩
  rw [hpO_self h1 h2]
 rintro m ρ st' ⟨l', i', r1, r2, r3, r4, r5, r6, rfl⟩
 obtain ⟨a, ha⟩ : ∃ a, a = 2 * i' + 1 := ⟨_, rfl⟩
 obtain ⟨b, hb⟩ : ∃ b, b = 2 * i' + 2 := ⟨_, rfl⟩
 have w1 : IntKind.i64.wrap (2 * (i' : Int)) = 2 * (i' : Int) := wrap64 (by omega) (by omega)
 have w2 : IntKind.i64.wrap (2 * (i' : Int) + 1) = (a : Int) := by rw [wrap64 (by omega) (by omega)]; omega
 have w3 : IntKind.i64.wrap ((a : Int) + 1) = (b : Int) := by rw [wrap64 (by omega) (by omega)]; omega
 have hneg : ¬ (a : Int) < 0 := by omega
 by_cases c0 : n ≤ a
 ·have g1 : R = l' ∧ S = i' := by
   cases m with
   | zero => exact ⟨r5.symm, r6.symm⟩
   | succ m =>
    simp only [downF, downI] at r5 r6
    rw [if_pos (.inl (by omega))] at r5 r6
    exact ⟨r5.symm, r6.symm⟩
  obtain ⟨rfl, rfl⟩ := g1
  have c0i : (n : Int) ≤ (a : Int) := by omega
  simp +contextual (maxSteps := 4000000) only [↓bdD, bdP, Nat.reduceLT, Nat.reduceBEq, endQ, reduceCtorEq, ↓reduceIte, nth_its, pur_its, nth_arcs, pur_arcs, nth_snds, pur_snds, nth_lnks, pur_lnks, Try.f60, r1, w1, w2, c0i]
  exact Left.refl
 have c0i : ¬ (n : Int) ≤ (a : Int) := by omega
 obtain ⟨m1, rfl⟩ : ∃ m1, m = m1 + 1 := ⟨m - 1, by omega⟩
 simp only [downF, downI] at r5 r6
 have key : ∀ c, chC l' i' n = c → c < q.length → i' < c → (¬ kI l' c < kI l' i' → R = l' ∧ S = i') ∧ (kI l' c < kI l' i' → downF m1 (swp l' i' c) c n = R ∧ downI m1 (swp l' i' c) c n = S) := fun c e _ _ => by
  rw [e] at r5 r6
  constructor
  ·intro h
   rw [if_pos (.inr h)] at r5 r6
   exact ⟨r5.symm, r6.symm⟩
  ·intro h
   rw [if_neg (by intro hh; rcases hh with hh | hh; omega; exact hh h)] at r5 r6
   exact ⟨r5, r6⟩
 have hat : ∀ u v, QS.at ⟨aid, g, l'.length, l' ++ tl, u, v⟩ ⟨hpO ob qid qg aid g l' tl, M⟩ := fun u v => at_hpO hne rfl (by omega)
 have hL : ∀ u v, u < q.length → v < q.length → specX A_qij H_qij R_qless [.ref aid g 0 l'.length, I (u : Nat), I (v : Nat)] ⟨hpO ob qid qg aid g l' tl, M⟩ = some (.bool (decide (kI l' u < kI l' v)), ⟨hpO ob qid qg aid g l' tl, M⟩) := fun u v hu hv => by
  rw [s_qless (u := u) (v := v) (l' ++ tl) ⟨hat u v, by dsimp only; omega, by dsimp only; omega⟩, kI_app2 (by omega), kI_app2 (by omega)]
 have hW : ∀ c, c < q.length → specX A_qij H_qij R_qswap [.ref aid g 0 l'.length, I (i' : Nat), I (c : Nat)] ⟨hpO ob qid qg aid g l' tl, M⟩ = some (.tuple [], ⟨hpO ob qid qg aid g (swp l' i' c) tl, M⟩) := fun c hc => by
  rw [s_qswap (u := i') (v := c) (l' ++ tl) ⟨hat i' c, by dsimp only; omega, by dsimp only; omega⟩, swp_app (by omega) (by omega), hpO_set hne (by rw [swp_len])]
 by_cases c1 : b < n ∧ kI l' b < kI l' a
 ·obtain ⟨c1, c2⟩ := c1
  have hL1 := hL b a (by omega) (by omega)
  have hL2 := hL b i' (by omega) (by omega)
  have hW2 := hW b (by omega)
  obtain ⟨k1, k2⟩ := key b (by unfold chC; rw [← hb, ← ha, if_pos ⟨c1, c2⟩]) (by omega) (by omega)
  simp +contextual (maxSteps := 4000000) only [↓bdD, bdP, Nat.reduceLT, Nat.reduceBEq, endQ, Nat.reduceEqDiff, Nat.reduceAdd, reduceCtorEq, ↓reduceIte, nth_its, pur_its, nth_arcs, pur_arcs, nth_snds, pur_snds, nth_lnks, pur_lnks, Try.f60, ty3, r1, w1, w2, w3, hneg, c0i, c1, c2, hL1, hL2, hW2, ty102, ty106, hne, hne2]
  refine ⟨fun h => ?_, fun h => ?_⟩
  ·obtain ⟨rfl, rfl⟩ := k1 h
   exact Left.refl
  ·obtain ⟨e1, e2⟩ := k2 h
   exact ⟨m1, by omega, _, by omega, by omega, by rw [swp_len, r4], e1, e2, rfl⟩
 ·have hL2 := hL a i' (by omega) (by omega)
  have hW2 := hW a (by omega)
  obtain ⟨k1, k2⟩ := key a (by unfold chC; rw [← hb, ← ha, if_neg c1]) (by omega) (by omega)
  by_cases c3 : b < n
  ·have hL1 := hL b a (by omega) (by omega)
   have c2 : ¬ kI l' b < kI l' a := fun h => c1 ⟨c3, h⟩
   simp +contextual (maxSteps := 4000000) only [↓bdD, bdP, Nat.reduceLT, Nat.reduceBEq, endQ, Nat.reduceEqDiff, Nat.reduceAdd, reduceCtorEq, ↓reduceIte, nth_its, pur_its, nth_arcs, pur_arcs, nth_snds, pur_snds, nth_lnks, pur_lnks, Try.f60, ty3, r1, w1, w2, w3, hneg, c0i, c3, c2, hL1, hL2, hW2, ty102, ty106, hne, hne2]
   refine ⟨fun h => ?_, fun h => ?_⟩
   ·obtain ⟨rfl, rfl⟩ := k1 h
    exact Left.refl
   ·obtain ⟨e1, e2⟩ := k2 h
    exact ⟨m1, by omega, _, by omega, by omega, by rw [swp_len, r4], e1, e2, rfl⟩
  ·simp +contextual (maxSteps := 4000000) only [↓bdD, bdP, Nat.reduceLT, Nat.reduceBEq, endQ, Nat.reduceEqDiff, Nat.reduceAdd, reduceCtorEq, ↓reduceIte, nth_its, pur_its, nth_arcs, pur_arcs, nth_snds, pur_snds, nth_lnks, pur_lnks, Try.f60, ty3, r1, w1, w2, w3, hneg, c0i, c3, hL2, hW2, ty102, ty106, hne, hne2]
   refine ⟨fun h => ?_, fun h => ?_⟩
   ·obtain ⟨rfl, rfl⟩ := k1 h
    exact Left.refl
   ·obtain ⟨e1, e2⟩ := k2 h
    exact ⟨m1, by omega, _, by omega, by omega, by rw [swp_len, r4], e1, e2, rfl⟩
end Sim
