/- What functions of this seat compute, by values: contracts (lemmas of the statement's proof, under the conditions that each names). -/
import Derived.Test.YtbojbamchaohpaaQBD
import Derived.Test.YtbojbamchaohpaaQE
namespace Sim
open Go Go.Proofs
set_option maxRecDepth 10000
set_option maxHeartbeats 2000000
set_option linter.unusedVariables false
set_option linter.unusedSimpArgs false
attribute [local congr] opsIf_congr condC_congr guardC_congr grd_congr pick3_congr obind_congr omap_congr
theorem at_hp {ob : Nat → Option IObj} {M qid qg aid g : Nat} {q tl : List It} {x : It} {j k : Nat} (h1 : qid < M) (h2 : aid < M) (hne : ¬ aid = qid) (hl : q.length + tl.length ≤ 1000000000) : HS.at ⟨qid, qg, aid, g, q, tl, x, j, k⟩ ⟨hpO ob qid qg aid g q tl, M⟩ := by
 refine ⟨?_, ?_, ?_, h1, h2⟩
 ·simp only [hpO, updO, if_true]
 ·simp only [hpO, updO, if_neg hne, if_true]
 ·dsimp only; rw [List.length_append]; exact hl
theorem hpO_hpO {ob : Nat → Option IObj} {qid qg aid g g' : Nat} {q tl q' tl' : List It} : hpO (hpO ob qid qg aid g q tl) qid qg aid g' q' tl' = hpO ob qid qg aid g' q' tl' := by
 funext i
 simp only [hpO, updO]
 by_cases c1 : i = qid
 ·rw [if_pos c1, if_pos c1]
 ·rw [if_neg c1, if_neg c1, if_neg c1]
  by_cases c2 : i = aid
  ·rw [if_pos c2, if_pos c2]
  ·rw [if_neg c2, if_neg c2, if_neg c2]
theorem hpO_none {ob : Nat → Option IObj} {qid qg aid g n : Nat} {q tl : List It} (h1 : ¬ qid = n) (h2 : ¬ aid = n) : updO (hpO ob qid qg aid g q tl) n none = hpO (updO ob n none) qid qg aid g q tl := by
 funext i
 simp only [hpO, updO]
 by_cases c : i = n
 ·rw [if_pos c, if_neg (by rw [c]; exact fun e => h1 e.symm), if_neg (by rw [c]; exact fun e => h2 e.symm), if_pos c]
 ·rw [if_neg c, if_neg c]
theorem s_qpush {ob : Nat → Option IObj} {M qid qg aid g : Nat} {q tl : List It} {a b : Int} (x : It) (ha : a = x.1) (hb : b = (x.2 : Nat)) (h : HS.at ⟨qid, qg, aid, g, q, tl, x, 0, 0⟩ ⟨ob, M⟩) : specX A_hx HS.at R_qpush [.ptr qid qg 0 0, .iface 104 (.agg [I a, I b])] ⟨ob, M⟩ = some (.tuple [], ⟨hpO ob qid qg aid (psQ ⟨qid, qg, aid, g, q, tl, x, 0, 0⟩).1 (q ++ [x]) (psQ ⟨qid, qg, aid, g, q, tl, x, 0, 0⟩).2, M⟩) := by
 subst ha; subst hb
 exact specX_app j_qpush (i := ⟨qid, qg, aid, g, q, tl, x, 0, 0⟩) h
theorem s_qpop {ob : Nat → Option IObj} {M qid qg aid g : Nat} {q tl : List It} (h : H_hpop ⟨qid, qg, aid, g, q, tl, dI, 0, 0⟩ ⟨ob, M⟩) : specX A_hp H_hpop R_qpop [.ptr qid qg 0 0] ⟨ob, M⟩ = some (.iface 104 (itV (q.getD (q.length - 1) dI)), ⟨hpO (updO ob M none) qid qg aid g (q.take (q.length - 1)) (q.drop (q.length - 1) ++ tl), M + 1⟩) :=
 specX_app j_qpop (i := ⟨qid, qg, aid, g, q, tl, dI, 0, 0⟩) h
theorem s_hup {ob : Nat → Option IObj} {M qid qg aid g j : Nat} {q tl : List It} (h : H_hup ⟨qid, qg, aid, g, q, tl, dI, j, 0⟩ ⟨ob, M⟩) : specX A_hup H_hup R_hup [.iface 102 (.ptr qid qg 0 0), I (j : Nat)] ⟨ob, M⟩ = some (.tuple [], ⟨hpO ob qid qg aid g (upF (j + 1) q j) tl, M⟩) :=
 specX_app j_hup (i := ⟨qid, qg, aid, g, q, tl, dI, j, 0⟩) h
theorem s_hdown {ob : Nat → Option IObj} {M qid qg aid g n : Nat} {q tl : List It} (h : H_hdown ⟨qid, qg, aid, g, q, tl, dI, 0, n⟩ ⟨ob, M⟩) : specX A_hdown H_hdown R_hdown [.iface 102 (.ptr qid qg 0 0), I 0, I (n : Nat)] ⟨ob, M⟩ = some (.bool (decide (0 < downI q.length q 0 n)), ⟨hpO ob qid qg aid g (downF q.length q 0 n) tl, M⟩) :=
 specX_app j_hdown (i := ⟨qid, qg, aid, g, q, tl, dI, 0, n⟩) h
theorem psQ_len {qid qg aid g j k : Nat} {q tl : List It} {x : It} (n : Nat) (hn : q.length + tl.length ≤ n) : q.length + 1 + (psQ ⟨qid, qg, aid, g, q, tl, x, j, k⟩).2.length ≤ n + 1 := by
 unfold psQ
 dsimp only
 split
 ·simp only [List.length_nil]; omega
 ·rename_i h
  dsimp only
  rw [List.length_tail]
  have : 0 < tl.length := List.length_pos_iff.2 h
  omega
def A_hpush (h : HS) : List PV := [h.pi, .iface 104 (itV h.x)]
def H_hpush (h : HS) (st : Store) : Prop := h.at st ∧ (h.q ++ h.tl).length < 1000000000
def R_hpush (h : HS) (st : Store) : PV × Store := (.tuple [], hpS st.obj st.next h.qid h.qg h.aid (psQ h).1 (pushH h.q h.x) (psQ h).2)
noncomputable def e_hpush : Nat × Ent := (58, .x (specX A_hpush H_hpush R_hpush))
theorem j_hpush (x y : HS) (st : Store) (h : A_hpush x = A_hpush y) (hx : H_hpush x st) (hy : H_hpush y st) : R_hpush x st = R_hpush y st := by
 simp only [A_hpush, HS.pi, List.cons.injEq, and_true, PV.iface.injEq, true_and, PV.agg.injEq, PV.int.injEq] at h
 obtain ⟨a1, a2, a3, a4, a5, a6⟩ := HS.same h.1 hx.1 hy.1
 have a7 : x.x = y.x := Prod.ext h.2.1 (by omega)
 simp only [R_hpush, psQ, a1, a2, a3, a4, a5, a6, a7]
theorem o_hpush : EntOK Try.prog e_hpush.1 e_hpush.2 := specX_ok fun h st hx => by
 obtain ⟨hx, hb⟩ := hx
 have hne := HS.ne hx
 have hlt := HS.lt hx
 obtain ⟨qid, qg, aid, g, q, tl, x, j, k⟩ := h
 obtain ⟨ob, M⟩ := st
 dsimp only at hne hlt hb
 obtain ⟨l1, l2⟩ := hlt
 have hx' := hx
 unfold HS.at at hx
 dsimp only at hx
 obtain ⟨h1, h2, h3, h4⟩ := hx
 have hne2 : ¬ qid = aid := fun e => hne e.symm
 rw [List.length_append] at h3 hb
 simp only [A_hpush, R_hpush, HS.p, HS.pi, hpS]
 have hps : ∀ j k, psQ ⟨qid, qg, aid, g, q, tl, x, j, k⟩ = psQ ⟨qid, qg, aid, g, q, tl, x, 0, 0⟩ := fun _ _ => rfl
 rw [hps j k]
 have hpl := psQ_len (qid := qid) (qg := qg) (aid := aid) (g := g) (x := x) (j := 0) (k := 0) (q := q) (tl := tl) (q.length + tl.length) (Nat.le_refl _)
 have sp := s_qpush (ob := ob) (M := M) (qid := qid) (qg := qg) (aid := aid) (g := g) (q := q) (tl := tl) x rfl rfl ⟨h1, h2, by dsimp only; rw [List.length_append]; omega, h4⟩
 clear hps
 generalize psQ ⟨qid, qg, aid, g, q, tl, x, 0, 0⟩ = P at *
 obtain ⟨g', tl'⟩ := P
 dsimp only at hpl sp ⊢
 have hql : (q ++ [x]).length = q.length + 1 := by simp
 have su := s_hup (ob := hpO ob qid qg aid g' (q ++ [x]) tl') (M := M) (j := q.length) (q := q ++ [x]) (tl := tl') (g := g') (aid := aid) (qid := qid) (qg := qg) ⟨at_hp l1 l2 hne (by rw [hql]; omega), by dsimp only; omega⟩
 have sl := s_qlen (aid := aid) (g := g') (n := (q ++ [x]).length) ((q ++ [x]) ++ tl') (st := ⟨hpO ob qid qg aid g' (q ++ [x]) tl', M⟩) (at_hpO hne rfl (by rw [hql]; omega))
 rw [hpO_hpO] at su
 rw [hql] at sl
 have w1 : IntKind.i64.wrap (((q.length + 1 : Nat) : Int) - 1) = (q.length : Int) := by rw [wrap64 (by omega) (by omega)]; omega
 have hbox : hpO ob qid qg aid g' (q ++ [x]) tl' qid = some (.arr qg 1 [.ref aid g' 0 (q.length + 1)]) := by simp only [hpO, updO, if_true, hql]
 refine ixc_ofD mixed (l := [e_qpush, e_qlen, e_hup]) ((eok_cons o_qpush (eok_cons o_qlen (eok_cons o_hup eok_nil)))) [] [] 0 Try.func58 rfl (by decide +kernel) (N := 12) rfl (by simp) rfl (by kernel_rfl) ?_
 generalize hO : hpO ob qid qg aid g' (q ++ [x]) tl' = O at *
 simp +contextual (maxSteps := 4000000) only [↓bdD, bdP, Nat.reduceLT, Nat.reduceBEq, endQ, Nat.reduceEqDiff, Nat.reduceAdd, ↓reduceIte, e_qpush, e_qlen, e_hup, nth_its, pur_its, nth_arcs, pur_arcs, nth_snds, pur_snds, nth_lnks, pur_lnks, Try.f58, ty3, ty20, ty115, h1, sp, sl, su, w1, hbox, ty102, ty106]
 exact ⟨_, rfl, Left.refl⟩
def A_hpop (h : HS) : List PV := [h.pi]
def R_hpop (h : HS) (st : Store) : PV × Store := (.iface 104 (itV (popX h.q)), hpS (updO st.obj st.next none) (st.next + 1) h.qid h.qg h.aid h.g (popH h.q) ((popL h.q).drop (h.q.length - 1) ++ h.tl))
noncomputable def e_hpop : Nat × Ent := (56, .x (specX A_hpop H_hpop R_hpop))
theorem j_hpop (x y : HS) (st : Store) (h : A_hpop x = A_hpop y) (hx : H_hpop x st) (hy : H_hpop y st) : R_hpop x st = R_hpop y st := by
 simp only [A_hpop, HS.pi, List.cons.injEq, and_true, PV.iface.injEq, true_and] at h
 obtain ⟨a1, a2, a3, a4, a5, a6⟩ := HS.same h hx.1 hy.1
 simp only [R_hpop, a1, a2, a3, a4, a5, a6]
theorem o_hpop : EntOK Try.prog e_hpop.1 e_hpop.2 := specX_ok fun h st hx => by
 obtain ⟨hx, hb⟩ := hx
 have hne := HS.ne hx
 have hlt := HS.lt hx
 obtain ⟨qid, qg, aid, g, q, tl, x, j, k⟩ := h
 obtain ⟨ob, M⟩ := st
 dsimp only at hne hlt hb
 obtain ⟨l1, l2⟩ := hlt
 unfold HS.at at hx
 dsimp only at hx
 obtain ⟨h1, h2, h3, h4⟩ := hx
 have hne2 : ¬ qid = aid := fun e => hne e.symm
 rw [List.length_append] at h3
 simp only [A_hpop, R_hpop, HS.p, HS.pi, hpS]
 obtain ⟨n, hn⟩ : ∃ n, q.length = n + 1 := ⟨q.length - 1, by omega⟩
 have hn1 : q.length - 1 = n := by omega
 have hsl : (swp q 0 n).length = n + 1 := by rw [swp_len, hn]
 have hpl : popL q = downF (n + 1) (swp q 0 n) 0 n := by unfold popL; rw [hn1, hn]
 have hpn : (popL q).length = n + 1 := by rw [hpl, down_len, hsl]
 have w1 : IntKind.i64.wrap (((n + 1 : Nat) : Int) - 1) = (n : Int) := by rw [wrap64 (by omega) (by omega)]; omega
 have sl := s_qlen (aid := aid) (g := g) (n := n + 1) (q ++ tl) (st := ⟨ob, M⟩) ⟨h2, by dsimp only; rw [List.length_append]; omega, by dsimp only; rw [List.length_append]; omega⟩
 have sw := s_qswap (u := 0) (v := n) (q ++ tl) (ob := ob) (M := M) (n := n + 1) (g := g) (aid := aid) ⟨⟨h2, by dsimp only; rw [List.length_append]; omega, by dsimp only; rw [List.length_append]; omega⟩, by dsimp only; omega, by dsimp only; omega⟩
 have e1 : updO ob aid (some (.arr g 2 ((swp (q ++ tl) 0 n).map itV))) = hpO ob qid qg aid g (swp q 0 n) tl := by
  conv => lhs; rw [← hpO_self h1 h2]
  rw [swp_app (by omega) (by omega), hpO_set hne (by rw [swp_len])]
 rw [e1] at sw
 change specX A_qij H_qij R_qswap [.ref aid g 0 (n + 1), I 0, I (n : Nat)] ⟨ob, M⟩ = _ at sw
 have sd := s_hdown (ob := hpO ob qid qg aid g (swp q 0 n) tl) (M := M) (n := n) (q := swp q 0 n) (tl := tl) (g := g) (aid := aid) (qid := qid) (qg := qg) ⟨at_hp l1 l2 hne (by omega), by dsimp only; omega, by dsimp only; omega⟩
 rw [hpO_hpO, hsl, ← hpl] at sd
 have sp := s_qpop (ob := hpO ob qid qg aid g (popL q) tl) (M := M) (q := popL q) (tl := tl) (g := g) (aid := aid) (qid := qid) (qg := qg) ⟨at_hp l1 l2 hne (by omega), by dsimp only; omega⟩
 rw [hpO_none (by omega) (by omega), hpO_hpO, hpn, show n + 1 - 1 = n by omega] at sp
 have hbox : hpO ob qid qg aid g (swp q 0 n) tl qid = some (.arr qg 1 [.ref aid g 0 (n + 1)]) := by simp only [hpO, updO, if_true, hsl]
 have hbox2 : hpO ob qid qg aid g (popL q) tl qid = some (.arr qg 1 [.ref aid g 0 (n + 1)]) := by simp only [hpO, updO, if_true, hpn]
 rw [hn] at h1
 have ep : popX q = (popL q).getD n dI := by unfold popX; rw [hn1]
 have eh : popH q = (popL q).take n := by unfold popH; rw [hn1]
 rw [ep, eh, hn1]
 refine ixc_ofD mixed (l := [e_qlen, e_qswap, e_hdown, e_qpop]) ((eok_cons o_qlen (eok_cons o_qswap (eok_cons o_hdown (eok_cons o_qpop eok_nil))))) [] [] 0 Try.func56 rfl (by decide +kernel) (N := 15) rfl (by simp) rfl (by kernel_rfl) ?_
 generalize hO : hpO ob qid qg aid g (swp q 0 n) tl = O at *
 generalize hO2 : hpO ob qid qg aid g (popL q) tl = O2 at *
 simp +contextual (maxSteps := 4000000) only [↓bdD, bdP, Nat.reduceLT, Nat.reduceBEq, endQ, Nat.reduceEqDiff, Nat.reduceAdd, ↓reduceIte, e_qlen, e_qswap, e_hdown, e_qpop, nth_its, pur_its, nth_arcs, pur_arcs, nth_snds, pur_snds, nth_lnks, pur_lnks, Try.f56, ty3, ty115, h1, sl, sw, sd, sp, w1, hbox, hbox2, ty102, ty106]
 exact Left.refl
theorem s_hpush {ob : Nat → Option IObj} {M qid qg aid g : Nat} {q tl : List It} {a b : Int} (x : It) (ha : a = x.1) (hb : b = (x.2 : Nat)) (h : H_hpush ⟨qid, qg, aid, g, q, tl, x, 0, 0⟩ ⟨ob, M⟩) : specX A_hpush H_hpush R_hpush [.iface 102 (.ptr qid qg 0 0), .iface 104 (.agg [I a, I b])] ⟨ob, M⟩ = some (.tuple [], ⟨hpO ob qid qg aid (psQ ⟨qid, qg, aid, g, q, tl, x, 0, 0⟩).1 (pushH q x) (psQ ⟨qid, qg, aid, g, q, tl, x, 0, 0⟩).2, M⟩) := by
 subst ha; subst hb
 exact specX_app j_hpush (i := ⟨qid, qg, aid, g, q, tl, x, 0, 0⟩) h
theorem s_hpop {ob : Nat → Option IObj} {M qid qg aid g : Nat} {q tl : List It} (h : H_hpop ⟨qid, qg, aid, g, q, tl, dI, 0, 0⟩ ⟨ob, M⟩) : specX A_hpop H_hpop R_hpop [.iface 102 (.ptr qid qg 0 0)] ⟨ob, M⟩ = some (.iface 104 (itV (popX q)), ⟨hpO (updO ob M none) qid qg aid g (popH q) ((popL q).drop (q.length - 1) ++ tl), M + 1⟩) :=
 specX_app j_hpop (i := ⟨qid, qg, aid, g, q, tl, dI, 0, 0⟩) h
end Sim
namespace Sim
open Go Go.Proofs
set_option maxRecDepth 10000
set_option maxHeartbeats 2000000
set_option linter.unusedVariables false
set_option linter.unusedSimpArgs false
attribute [local congr] opsIf_congr condC_congr guardC_congr grd_congr pick3_congr obind_congr omap_congr
theorem wrapN' {k : Nat} (h : k ≤ 4611686018427387904) : IntKind.i64.wrap ((k : Int) + 1) = ((k + 1 : Nat) : Int) := by rw [wrap64 (by omega) (by omega)]; omega
def natsV (l : List Nat) : List PV := l.map fun k => I (k : Nat)
theorem nth_nats {l : List Nat} {k : Nat} (h : k < l.length) : nth (natsV l) k = I ((l.getD k 0 : Nat) : Int) := nth_mapD (f := fun k : Nat => I (k : Nat)) 0 h
theorem nats_len {l : List Nat} : (natsV l).length = l.length := List.length_map _
theorem isInt_nats {l : List Nat} : (natsV l).all PV.isInt = true := by simp [natsV, PV.isInt]
theorem inj_nats {l m : List Nat} : (natsV l = natsV m) = (l = m) := inj_map (f := fun k : Nat => I (k : Nat)) fun x y h => by
 simp only [PV.int.injEq, true_and] at h
 omega
def gOut (B : Nat) (out : List (List Nat)) : List PV := (List.range out.length).map fun v => PV.ref (B + 5 + v) (out.getD v []).length 0 (out.getD v []).length
theorem gOut_len {B : Nat} {out : List (List Nat)} : (gOut B out).length = out.length := by simp [gOut]
theorem nth_gOut {B : Nat} {out : List (List Nat)} {u : Nat} (h : u < out.length) : nth (gOut B out) u = PV.ref (B + 5 + u) (out.getD u []).length 0 (out.getD u []).length := by
 unfold gOut
 rw [nth_mapD (f := fun v => PV.ref (B + 5 + v) (out.getD v []).length 0 (out.getD v []).length) 0 (by simpa using h)]
 simp [h]
def gBox (B : Nat) (A : List Arc) (out : List (List Nat)) (lv : List Int) : PV := .agg [.ref (B + 4) (A.length / 2) 0 A.length, .ref B 1 0 out.length, .ref (B + 1) 1 0 lv.length]
structure GrAt (B : Nat) (A : List Arc) (out : List (List Nat)) (lv : List Int) (ob : Nat → Option IObj) : Prop where
 o0 : ob B = some (.arr 1 1 (gOut B out))
 o1 : ob (B + 1) = some (.arr 1 1 (lv.map (PV.int .i64)))
 o2 : ob (B + 2) = some (.arr 0 3 [gBox B A out lv])
 o4 : ob (B + 4) = some (.arr (A.length / 2) 4 (A.map arcV))
 o5 : ∀ u, u < out.length → ob (B + 5 + u) = some (.arr (out.getD u []).length 1 (natsV (out.getD u [])))
abbrev gP (B : Nat) : PV := .ptr (B + 2) 0 0 0
def posL (A : List Arc) (l : List Nat) : List Nat := l.filter fun k => decide (0 < aL A k)
theorem posL_succ {A : List Arc} {l : List Nat} {k : Nat} (h : k < l.length) : posL A (l.take (k + 1)) = posL A (l.take k) ++ if 0 < aL A (l.getD k 0) then [l.getD k 0] else [] := by
 unfold posL
 have e : l.getD k 0 = l[k] := by simp [h]
 rw [List.take_succ_eq_append_getElem h, List.filter_append, e]
 congr 1
 by_cases c : 0 < aL A l[k] <;> simp [List.filter, c]
theorem posL_pre {A : List Arc} {l : List Nat} {k : Nat} : ∃ r, posL A l = posL A (l.take k) ++ r := ⟨posL A (l.drop k), by
 unfold posL
 rw [← List.filter_append, List.take_append_drop]⟩
theorem y_open {B u : Nat} {A : List Arc} {out : List (List Nat)} {lv : List Int} (hu : u < out.length) (hk : ∀ k ∈ out.getD u [], k < A.length) (hl : (out.getD u []).length ≤ 1000000000) :
  YieldsG (fun st => GrAt B A out lv st.obj) Try.prog 0 61 [] [.vptr [gP B] 0, .vptr [I (u : Nat)] 0] ((posL A (out.getD u [])).map fun k => [I (k : Nat)]) := by
 refine yields_ofG (fun st => GrAt B A out lv st.obj) (l := []) eok_nil [] [] 0 Try.func61 rfl (by decide +kernel) rfl (N := 34) rfl (by simp) (fun y => by kernel_rfl) fun y H J E st0 hm h0 hstab hG hy => ?_
 obtain ⟨ob0, M0⟩ := st0
 have g0 := hG _ _ h0
 obtain ⟨n, hn⟩ : ∃ n, (out.getD u []).length = n := ⟨_, rfl⟩
 obtain ⟨l, hl'⟩ : ∃ l, out.getD u [] = l := ⟨_, rfl⟩
 rw [hl'] at hk hn hl ⊢
 have a0 := g0.o0
 have a2 := g0.o2
 have a5 := g0.o5 u hu
 have hno := nth_gOut (B := B) hu
 rw [hl', hn] at a5 hno
 dsimp only at a0 a2 a5
 unfold gBox at a2
 have hol := gOut_len (B := B) (out := out)
 rw [hn] at hl
 simp +contextual (maxSteps := 4000000) only [↓bdD, bdP, Nat.reduceLT, Nat.reduceBEq, Nat.reduceAdd, ↓reduceIte, nth_its, pur_its, nth_arcs, pur_arcs, nth_snds, pur_snds, nth_lnks, pur_lnks, Try.f61, ty3, ty46, ty59, ty66, ty68, a0, a2, a5, hno, hu, hol, Nat.mul_one]
 refine loop_cnt (hm := hm) [5, 14, 15, 16, 17, 18, 19, 20, 21, 22, 23, 24, 25, 26, 27, 28, 29, 30, 31, 32, 33] n (fun k ρ st' => ρ 14 = I k ∧ J (posL A (l.take k)).length st') (.refl _) ?_ ?_
 ·simp +contextual (maxSteps := 4000000) only [↓bdD, bdP, nth_its, pur_its, nth_arcs, pur_arcs, nth_snds, pur_snds, nth_lnks, pur_lnks, Try.f61]
  exact h0
 rintro k ρ ⟨ob, M⟩ hkn ⟨h14, hJ⟩
 by_cases hlt : k < n
 ·have hwk := wrapN' (k := k) (by omega)
  have g1 := hG _ _ hJ
  have b2 := g1.o2
  have b4 := g1.o4
  have b5 := g1.o5 u hu
  rw [hl', hn] at b5
  dsimp only at b2 b4 b5
  unfold gBox at b2
  have hkl : k < l.length := by omega
  have hnk := nth_nats hkl
  have hnl : (natsV l).length = n := by rw [nats_len, hn]
  have hmem : l.getD k 0 ∈ l := by
   have e : l.getD k 0 = l[k] := by simp [hkl]
   rw [e]; exact List.getElem_mem _
  have hA := hk _ hmem
  have hps := posL_succ (A := A) hkl
  obtain ⟨r, hr⟩ := posL_pre (A := A) (l := l) (k := k + 1)
  have haL : (A.getD (l.getD k 0) dA).2.2.1 = aL A (l.getD k 0) := rfl
  generalize hx : l.getD k 0 = x at *
  have hnA := nth_arcs hA
  have hAl : (A.map arcV).length = A.length := List.length_map _
  have hxA : (x : Int) < A.length := by omega
  by_cases c : 0 < aL A x
  ·rw [if_pos c] at hps
   have z1 : (List.map (fun k : Nat => [I (k : Nat)]) (posL A l))[(posL A (l.take k)).length]? = some [I (x : Nat)] := by
    rw [List.getElem?_map, hr, hps]; simp
   simp +contextual (maxSteps := 4000000) only [↓bdD, bdP, Nat.reduceLT, Nat.reduceBEq, Nat.reduceAdd, reduceCtorEq, ↓reduceIte, nth_its, pur_its, nth_arcs, pur_arcs, nth_snds, pur_snds, nth_lnks, pur_lnks, Try.f61, ty3, ty46, ty59, ty65, ty68, ty70, h14, hlt, hwk, b2, b4, b5, hnk, hnl, hnA, hAl, hxA, haL, c, Nat.mul_one]
   refine hy _ _ _ _ (by rw [hl']; exact z1) hJ (fun st2 h2 => ?_) (fun st2 h2 => ?_)
   ·obtain ⟨ob2, M2⟩ := st2
    simp +contextual (maxSteps := 4000000) only [↓bdD, bdP, nth_its, pur_its, nth_arcs, pur_arcs, nth_snds, pur_snds, nth_lnks, pur_lnks, Try.f61, h14, hwk]
    rw [hps, List.length_append]
    exact h2
   ·simp +contextual (maxSteps := 4000000) only [↓bdD, bdP, nth_its, pur_its, nth_arcs, pur_arcs, nth_snds, pur_snds, nth_lnks, pur_lnks, Try.f61]
    exact .inr h2
  ·rw [if_neg c, List.append_nil] at hps
   simp +contextual (maxSteps := 4000000) only [↓bdD, bdP, Nat.reduceLT, Nat.reduceBEq, Nat.reduceAdd, ↓reduceIte, nth_its, pur_its, nth_arcs, pur_arcs, nth_snds, pur_snds, nth_lnks, pur_lnks, Try.f61, ty3, ty46, ty59, ty65, ty68, ty70, h14, hlt, hwk, b2, b4, b5, hnk, hnl, hnA, hAl, hxA, haL, c, Nat.mul_one]
   rw [hps]
   exact hJ
 ·have e : k = n := by omega
  subst e
  rw [← hn, List.take_length] at hJ
  simp +contextual (maxSteps := 4000000) only [↓bdD, bdP, Nat.reduceLT, Nat.reduceBEq, reduceCtorEq, ↓reduceIte, nth_its, pur_its, nth_arcs, pur_arcs, nth_snds, pur_snds, nth_lnks, pur_lnks, Try.f61, h14]
  exact .inl hJ
end Sim
