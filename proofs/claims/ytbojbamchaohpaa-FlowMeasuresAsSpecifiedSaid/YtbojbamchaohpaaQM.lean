/- What functions of this seat compute, by values: contracts (lemmas of the statement's proof, under the conditions that each names). -/
import Derived.Test.YtbojbamchaohpaaQBD
import Derived.Test.YtbojbamchaohpaaQLM
namespace Sim
open Go Go.Proofs
set_option maxRecDepth 10000
set_option maxHeartbeats 4000000
set_option linter.unusedVariables false
set_option linter.unusedSimpArgs false
attribute [local congr] opsIf_congr condC_congr guardC_congr grd_congr pick3_congr obind_congr omap_congr
theorem re_at {f : Nat → Option IObj} {nx k z n g z0 : Nat} {l es : List PV} (h : f k = some (.arr g z0 es)) : Store.re ⟨f, nx⟩ (k + 1) z l n = some (.ref k (g + 1) 0 n, ⟨updO f k (some (.arr (g + 1) z l)), nx⟩) := by
 simp [Store.re, h, Store.set]
def gK (b N k : Nat) : List PV := (List.range N).map fun v => if v < k then PV.ref (b + v) 0 0 0 else .nils
theorem gK_len {b N k : Nat} : (gK b N k).length = N := by simp [gK]
theorem gK_nth {b N k v : Nat} (h : v < N) : nth (gK b N k) v = if v < k then PV.ref (b + v) 0 0 0 else .nils := by simp [gK, nth, h]
theorem gK_0 {b N : Nat} : gK b N 0 = List.replicate N .nils := by
 refine List.ext_getElem (by simp [gK]) fun i h1 h2 => ?_
 simp [gK]
theorem gK_set {b N k : Nat} (h : k < N) : (gK b N k).set k (PV.ref (b + k) 0 0 0) = gK b N (k + 1) := by
 refine List.ext_getElem (by simp [gK]) fun i h1 h2 => ?_
 rw [List.getElem_set]
 by_cases c : k = i
 ·subst c; simp [gK]
 ·rw [if_neg c]
  by_cases c2 : i < k
  ·simp [gK, c2, show i < k + 1 by omega]
  ·simp [gK, c2, show ¬ i < k + 1 by omega]
theorem gK_N {b N : Nat} : gK (b + 5) N N = gOut b (List.replicate N []) := by
 refine List.ext_getElem (by simp [gK, gOut]) fun i h1 h2 => ?_
 rw [gK_len] at h1
 simp [gK, gOut, h1]
def outG (O : Nat → Option IObj) (B b N k : Nat) : Nat → Option IObj := fun i => if i = B then some (.arr 1 1 (gK b N k)) else if b ≤ i ∧ i < b + k then some (.arr 0 1 []) else O i
theorem ghost_out {ρ : Nat → PV} {O : Nat → Option IObj} {B b N : Nat} (hB : B < b) (h : O B = some (.arr 1 1 (List.replicate N .nils))) : ∀ k, k ≤ N → Ghost ⟨ρ, ⟨O, b⟩⟩ ⟨ρ, ⟨outG O B b N k, b + k⟩⟩
 | 0, _ => by
  have : outG O B b N 0 = O := by
   funext i
   unfold outG
   by_cases c : i = B
   ·rw [if_pos c, c, h, gK_0]
   ·rw [if_neg c, if_neg (by omega)]
  rw [this]; exact .refl _
 | k + 1, hk => by
  refine .trans (ghost_out hB h k (by omega)) ?_
  have hn : nth (gK b N k) k = .nils := by rw [gK_nth (by omega), if_neg (by omega)]
  have g := Ghost.cell ⟨ρ, ⟨outG O B b N k, b + k⟩⟩ B 1 1 1 (gK b N k) k 0 (by simp [outG]) (by rw [hn]; rfl) (by omega)
  have e : (Store.set (Store.new ⟨outG O B b N k, b + k⟩ (.arr 0 1 [])) B (.arr 1 1 ((gK b N k).set k (setCells (nth (gK b N k) k) 0 [.ref (b + k) 0 0 0])))) = ⟨outG O B b N (k + 1), b + (k + 1)⟩ := by
   rw [hn, show setCells .nils 0 [.ref (b + k) 0 0 0] = PV.ref (b + k) 0 0 0 from rfl, gK_set (by omega)]
   simp only [Store.set, Store.new]
   congr 1
   funext i
   simp only [updO, outG]
   by_cases c : i = B
   ·rw [if_pos c, if_pos c]
   ·simp only [if_neg c]
    by_cases c2 : i = b + k
    ·rw [if_pos c2, if_pos (by omega)]
    ·rw [if_neg c2]
     by_cases c3 : b ≤ i ∧ i < b + k
     ·rw [if_pos c3, if_pos (by omega)]
     ·rw [if_neg c3, if_neg (by omega)]
  rw [← e]
  exact g
theorem ghost_gr {O : Nat → Option IObj} {M N : Nat} (a1 : O (M + 1) = some (.arr 1 1 (List.replicate N (I 0)))) : GrAt M [] (List.replicate N []) (List.replicate N 0) (outG (updO (updO O (M + 4) (some (.arr 0 4 []))) (M + 2) (some (.arr 0 3 [.agg [.ref (M + 4) 0 0 0, .ref M 1 0 N, .ref (M + 1) 1 0 N]]))) M (M + 5) N N) := by
 refine ⟨?_, ?_, ?_, ?_, fun u hu => ?_⟩
 ·simp only [outG, if_true, gK_N]
 ·simp only [outG, updO]
  rw [if_neg (by omega), if_neg (by omega), if_neg (by omega), if_neg (by omega), a1, List.map_replicate]
 ·simp only [outG, updO]
  rw [if_neg (by omega), if_neg (by omega), if_pos trivial]
  simp [gBox]
 ·simp only [outG, updO]
  rw [if_neg (by omega), if_neg (by omega), if_neg (by omega), if_pos trivial]
  simp
 ·rw [List.length_replicate] at hu
  simp only [outG, updO]
  rw [if_neg (by omega), if_pos (by omega)]
  simp [hu, natsV]
theorem in_ints {K : Nat → Prop} {g z : Nat} {l : List Int} : OIn K (.arr g z (l.map (PV.int .i64))) := fun e he c hc => by
 obtain ⟨x, _, rfl⟩ := List.mem_map.1 he
 simp only [PV.cells, List.mem_singleton] at hc
 rw [hc]; exact .int _ _
theorem in_nats {K : Nat → Prop} {g z : Nat} {l : List Nat} : OIn K (.arr g z (natsV l)) := fun e he c hc => by
 obtain ⟨x, _, rfl⟩ := List.mem_map.1 he
 simp only [PV.cells, List.mem_singleton] at hc
 rw [hc]; exact .int _ _
structure GM where
 h : Nat
 D : Nat
 ls : List Lnk
 us : List Snd
 d : Dem
abbrev GM.T (x : GM) : TN := netT (x.h : Nat) x.ls x.us x.d.2.2.2.1
abbrev GM.N (x : GM) : Nat := (x.D + 1) * x.h
abbrev GM.n (x : GM) : Nat := x.D * (x.h + x.ls.length)
def A_make (x : GM) : List PV := [netV ((x.h : Nat), x.ls), snds x.us, demV x.d]
def H_make (x : GM) (st : Store) : Prop := WF st ∧ OKr (x.h : Nat) x.ls x.us ∧ 0 ≤ x.d.2.2.2.1 ∧ x.d.2.2.2.2 = x.d.2.2.2.1 + (x.D : Nat) ∧ x.D ≤ 100 ∧ x.d.2.2.2.2 ≤ 1000000 ∧ fitM (x.h : Nat) x.ls x.us = 0
def mkO (ob : Nat → Option IObj) (M : Nat) (A : List Arc) (out : List (List Nat)) (N : Nat) : Nat → Option IObj := fun i =>
 if i = M then some (.arr 1 1 (gOut M out)) else if i = M + 1 then some (.arr 1 1 ((List.replicate N (0 : Int)).map (PV.int .i64))) else if i = M + 2 then some (.arr 0 3 [gBox M A out (List.replicate N 0)])
 else if i = M + 4 then some (.arr (A.length / 2) 4 (A.map arcV)) else if M + 5 ≤ i ∧ i < M + 5 + N then some (.arr (out.getD (i - (M + 5)) []).length 1 (natsV (out.getD (i - (M + 5)) []))) else ob i
def R_make (x : GM) (st : Store) : PV × Store := (gP st.next, ⟨mkO st.obj st.next (gA x.T.p x.n) (gO x.T.p x.N x.n) x.N, st.next + 5 + x.N⟩)
structure MkI (ob : Nat → Option IObj) (M : Nat) (A : List Arc) (out : List (List Nat)) (lv : List Int) (es : List (PV × PV)) (S : Store) : Prop where
 gr : GrAt M A out lv S.obj
 mp : S.obj (M + 3) = some (.map 0 (.ints 2) es)
 fr : ∀ i o, ob i = some o → S.obj i = some o
 nx : M + 5 + out.length ≤ S.next
theorem MkI.high {ob : Nat → Option IObj} {M : Nat} {A : List Arc} {out : List (List Nat)} {lv : List Int} {es : List (PV × PV)} {O : Nat → Option IObj} {nx : Nat} (h : MkI ob M A out lv es ⟨O, nx⟩) (r0 : ∀ i o, ob i = some o → i < M) {x : Option IObj} : MkI ob M A out lv es ⟨updO O nx x, nx + 1⟩ := by
 have hn := h.nx
 dsimp only at hn
 have key : ∀ i, i < nx → updO O nx x i = O i := fun i hi => by simp only [updO]; rw [if_neg (by omega)]
 obtain ⟨⟨g0, g1, g2, g4, g5⟩, h2, h3, _⟩ := h
 exact ⟨⟨by dsimp only; rw [key _ (by omega)]; exact g0, by dsimp only; rw [key _ (by omega)]; exact g1, by dsimp only; rw [key _ (by omega)]; exact g2, by dsimp only; rw [key _ (by omega)]; exact g4, fun u hu => by dsimp only; rw [key _ (by omega)]; exact g5 u hu⟩,
  by dsimp only; rw [key _ (by omega)]; exact h2, fun i o hi => by have := r0 i o hi; dsimp only; rw [key _ (by omega)]; exact h3 i o hi, by dsimp only; omega⟩
theorem MkI.again {ob : Nat → Option IObj} {M : Nat} {A : List Arc} {out : List (List Nat)} {lv : List Int} {es : List (PV × PV)} {O : Nat → Option IObj} {nx : Nat} {y : Option IObj} (h : MkI ob M A out lv es ⟨updO O nx y, nx + 1⟩) (r0 : ∀ i o, ob i = some o → i < M) (hn : M + 5 + out.length ≤ nx := by assumption) {x : Option IObj} : MkI ob M A out lv es ⟨updO (updO O nx y) nx x, nx + 1⟩ := by
 have e : updO (updO O nx y) nx x = updO O nx x := by
  funext i; simp only [updO]; split <;> rfl
 obtain ⟨⟨g0, g1, g2, g4, g5⟩, h2, h3, _⟩ := h
 have key : ∀ i, i < nx → updO (updO O nx y) nx x i = updO O nx y i := fun i hi => by simp only [updO]; rw [if_neg (by omega)]
 dsimp only at *
 exact ⟨⟨by dsimp only; rw [key _ (by omega)]; exact g0, by dsimp only; rw [key _ (by omega)]; exact g1, by dsimp only; rw [key _ (by omega)]; exact g2, by dsimp only; rw [key _ (by omega)]; exact g4, fun u hu => by dsimp only; rw [key _ (by omega)]; exact g5 u hu⟩,
  by dsimp only; rw [key _ (by omega)]; exact h2, fun i o hi => by have := r0 i o hi; dsimp only; rw [key _ (by omega)]; exact h3 i o hi, by dsimp only; omega⟩
theorem MkI.map {ob : Nat → Option IObj} {M : Nat} {A : List Arc} {out : List (List Nat)} {lv : List Int} {es es' : List (PV × PV)} {O : Nat → Option IObj} {nx : Nat} (h : MkI ob M A out lv es ⟨O, nx⟩) (r0 : ∀ i o, ob i = some o → i < M) : MkI ob M A out lv es' ⟨updO O (M + 3) (some (.map 0 (.ints 2) es')), nx⟩ := by
 obtain ⟨⟨g0, g1, g2, g4, g5⟩, h2, h3, h4⟩ := h
 dsimp only at *
 refine ⟨⟨?_, ?_, ?_, ?_, fun u hu => ?_⟩, ?_, fun i o hi => ?_, h4⟩ <;> simp only [updO]
 ·rw [if_neg (by omega)]; exact g0
 ·rw [if_neg (by omega)]; exact g1
 ·rw [if_neg (by omega)]; exact g2
 ·rw [if_neg (by omega)]; exact g4
 ·rw [if_neg (by omega)]; exact g5 u hu
 ·rw [if_pos trivial]
 ·have := r0 i o hi
  rw [if_neg (by omega)]; exact h3 i o hi
theorem MkI.add {ob : Nat → Option IObj} {M u v : Nat} {x y : Int} {A : List Arc} {out : List (List Nat)} {lv : List Int} {es : List (PV × PV)} {O : Nat → Option IObj} {nx : Nat} (h : MkI ob M A out lv es ⟨O, nx⟩) (r0 : ∀ i o, ob i = some o → i < M) (hu : u < out.length) (hv : v < out.length) (huv : ¬ u = v) :
  MkI ob M (addA A u v x y) (outA out u v A.length) lv es ⟨aO O M u v (A.length / 2 + 1) (addA A u v x y) (outA out u v A.length) lv, nx⟩ := by
 obtain ⟨g, h2, h3, h4⟩ := h
 dsimp only at *
 refine ⟨aO_gr g hu hv huv, ?_, fun i o hi => ?_, by unfold outA; rw [List.length_set, List.length_set]; exact h4⟩
 ·simp only [aO, updO]
  rw [if_neg (by omega), if_neg (by omega), if_neg (by omega), if_neg (by omega), if_neg (by omega)]; exact h2
 ·have := r0 i o hi
  simp only [aO, updO]
  rw [if_neg (by omega), if_neg (by omega), if_neg (by omega), if_neg (by omega), if_neg (by omega)]; exact h3 i o hi
theorem mk_left {ob O : Nat → Option IObj} {M N n : Nat} {A : List Arc} {out : List (List Nat)} (h1 : WF ⟨ob, M⟩) (g : GrAt M A out (List.replicate N 0) O) (fr : ∀ i o, ob i = some o → O i = some o) (ho : out.length = N) : Left0 ⟨ob, M⟩ (gP M) ⟨mkO ob M A out N, M + 5 + N⟩ (.ptr (M + 2) 0 0 0) ⟨O, n⟩ := by
 refine ⟨[], .inl rfl, fun i o hi => ?_, by dsimp only; omega, .ptr _ _ _ _ (by dsimp only; omega)⟩
 dsimp only at hi ⊢
 unfold mkO at hi
 by_cases c0 : i = M
 ·rw [if_pos c0] at hi
  cases hi
  refine ⟨by omega, rfl, by rw [c0]; exact g.o0, .inr fun e he c hc => ?_⟩
  obtain ⟨v, hv, rfl⟩ := List.mem_map.1 he
  rw [List.mem_range, ho] at hv
  simp only [PV.cells, List.mem_singleton] at hc
  rw [hc]; exact .ref _ _ _ _ (by omega)
 rw [if_neg c0] at hi
 by_cases c1 : i = M + 1
 ·rw [if_pos c1] at hi
  cases hi
  exact ⟨by omega, rfl, by rw [c1]; exact g.o1, .inr in_ints⟩
 rw [if_neg c1] at hi
 by_cases c2 : i = M + 2
 ·rw [if_pos c2] at hi
  cases hi
  refine ⟨by omega, rfl, by rw [c2]; exact g.o2, .inr fun e he c hc => ?_⟩
  rw [List.mem_singleton] at he
  subst he
  simp only [gBox, PV.cells, List.mem_cons, List.not_mem_nil, or_false] at hc
  rcases hc with hc | hc | hc <;> (rw [hc]; exact .ref _ _ _ _ (by omega))
 rw [if_neg c2] at hi
 by_cases c4 : i = M + 4
 ·rw [if_pos c4] at hi
  cases hi
  exact ⟨by omega, rfl, by rw [c4]; exact g.o4, .inr in_arcs⟩
 rw [if_neg c4] at hi
 by_cases c5 : M + 5 ≤ i ∧ i < M + 5 + N
 ·rw [if_pos c5] at hi
  cases hi
  have := g.o5 (i - (M + 5)) (by omega)
  rw [show M + 5 + (i - (M + 5)) = i by omega] at this
  exact ⟨c5.2, rfl, this, .inr in_nats⟩
 ·rw [if_neg c5] at hi
  have := h1 i o hi
  dsimp only at this
  exact ⟨by omega, rfl, fr i o hi, .inl hi⟩
theorem c_make {x : GM} {st : Store} (hx : H_make x st) : IXC Try.prog 42 (A_make x) st (Left0 st (R_make x st).1 (R_make x st).2) := by
 obtain ⟨h, D, ls, us, ⟨df, dt, db, dr, dd⟩⟩ := x
 obtain ⟨ob, M⟩ := st
 unfold H_make at hx
 dsimp only at hx
 obtain ⟨h1, ok, h5, h6, h7, h8, hft⟩ := hx
 have h2 : 1 ≤ h := by have := ok.net.houses; omega
 have h3 : h ≤ 12 := by have := ok.net.houses; omega
 have h4 := ok.net.len
 simp only [A_make]
 generalize hR1 : (R_make ⟨h, D, ls, us, df, dt, db, dr, dd⟩ ⟨ob, M⟩).1 = R1
 generalize hR2 : (R_make ⟨h, D, ls, us, df, dt, db, dr, dd⟩ ⟨ob, M⟩).2 = R2
 obtain ⟨N, hN⟩ : ∃ N, (D + 1) * h = N := ⟨_, rfl⟩
 have hNb : N ≤ 1212 := by rw [← hN]; exact Nat.le_trans (Nat.mul_le_mul (show D + 1 ≤ 101 by omega) h3) (by decide)
 have w1 : IntKind.i64.wrap (dd - dr) = (D : Int) := by rw [wrap64 (by omega) (by omega)]; omega
 have w2 : IntKind.i64.wrap ((D : Int) + 1) = ((D + 1 : Nat) : Int) := wrapN' (by omega)
 have w3 : IntKind.i64.wrap (((D + 1 : Nat) : Int) * (h : Int)) = (N : Int) := by
  have : ((D + 1 : Nat) : Int) * (h : Int) = (N : Int) := by rw [← hN]; exact (Int.natCast_mul _ _).symm
  rw [this, wrap64 (by omega) (by omega)]
 have hNi : (N : Int) ≤ 4294967296 := by omega
 refine ixc_ofB mixed (l := [e_add]) ((eok_cons o_add eok_nil)) [36] [25, 26, 31, 32, 100028, 200034] 2 Try.func42 rfl (by decide +kernel) (N := 130) rfl (by simp) rfl (by kernel_rfl) ?_
 unfold stB
 dsimp only
 obtain ⟨F, hF⟩ : ∃ F : Nat → Option IObj, (fun i => if M ≤ i ∧ i < M + 2 then some (IObj.arr 0 1 []) else ob i) = F := ⟨_, rfl⟩
 have F0 : F M = some (.arr 0 1 []) := by rw [← hF]; simp
 have F1 : F (M + 1) = some (.arr 0 1 []) := by rw [← hF]; simp
 have F9 : ∀ i o, ob i = some o → F i = some o := fun i o hi => by
  have := h1 i o hi
  dsimp only at this
  rw [← hF]
  simp only [show ¬ (M ≤ i ∧ i < M + 2) by omega, if_false, hi]
 rw [hF]
 have q1 : ¬ M + 1 = M := by omega
 have q2 : ¬ M = M + 1 := by omega
 have r1 := re_at (nx := M + 2) (z := 1) (l := List.replicate N PV.nils) (n := N) F0
 have r2 : Store.re ⟨updO F M (some (.arr (0 + 1) 1 (List.replicate N PV.nils))), M + 2⟩ (M + 2) 1 (List.replicate N (I 0)) N = some (.ref (M + 1) (0 + 1) 0 N, ⟨updO (updO F M (some (.arr (0 + 1) 1 (List.replicate N PV.nils)))) (M + 1) (some (.arr (0 + 1) 1 (List.replicate N (I 0)))), M + 2⟩) :=
  re_at (k := M + 1) (by simp only [updO]; rw [if_neg q1]; exact F1)
 rw [Nat.zero_add] at r1 r2
 simp +contextual (maxSteps := 4000000) only [↓bdD, bdP, Nat.reduceLT, Nat.reduceBEq, Nat.reduceEqDiff, Nat.reduceAdd, Nat.reduceLeDiff, reduceCtorEq, Store.new, ↓reduceIte, e_add, nth_its, pur_its, nth_arcs, pur_arcs, nth_snds, pur_snds, nth_lnks, pur_lnks, Try.f42, ty3, ty24, ty25, ty27, ty46, ty66, ty68, ty95, cfgB_P, cfgB_tab, cfgB_muts, cfgB_num, cfgB_frz, cfgB_yl, w1, w2, w3, hNi, r1, r2, F0, F1, q1, q2]
 obtain ⟨O1, hO1⟩ : ∃ O1 : Nat → Option IObj, updO (updO (updO (updO F M (some (.arr 1 1 (List.replicate N PV.nils)))) (M + 1) (some (.arr 1 1 (List.replicate N (I 0))))) (M + 2) (some (.arr 0 3 [.agg [.nils, .ref M 1 0 N, .ref (M + 1) 1 0 N]]))) (M + 2 + 1) (some (.map 0 (.ints 2) [])) = O1 := ⟨_, rfl⟩
 have a0 : O1 M = some (.arr 1 1 (List.replicate N PV.nils)) := by rw [← hO1]; simp [updO, show ¬ M = M + 2 + 1 by omega]
 have a1 : O1 (M + 1) = some (.arr 1 1 (List.replicate N (I 0))) := by rw [← hO1]; simp [updO]
 have a2 : O1 (M + 2) = some (.arr 0 3 [.agg [.nils, .ref M 1 0 N, .ref (M + 1) 1 0 N]]) := by rw [← hO1]; simp [updO]
 have a3 : O1 (M + 2 + 1) = some (.map 0 (.ints 2) []) := by rw [← hO1]; simp [updO]
 have a9 : ∀ i o, ob i = some o → O1 i = some o := fun i o hi => by
  have := h1 i o hi
  dsimp only at this
  rw [← hO1]
  simp only [updO]
  rw [if_neg (by omega), if_neg (by omega), if_neg (by omega), if_neg (by omega), F9 i o hi]
 rw [hO1]
 have gh : ∀ ρ, Ghost ⟨ρ, ⟨O1, M + 4⟩⟩ ⟨ρ, ⟨outG (updO (updO O1 (M + 4) (some (.arr 0 4 []))) (M + 2) (some (.arr 0 3 [.agg [.ref (M + 4) 0 0 0, .ref M 1 0 N, .ref (M + 1) 1 0 N]]))) M (M + 5) N N, M + 5 + N⟩⟩ := fun ρ => by
  refine .trans (Ghost.cell ⟨ρ, ⟨O1, M + 4⟩⟩ (M + 2) 0 3 4 _ 0 0 a2 rfl (by omega)) ?_
  show Ghost ⟨ρ, ⟨updO (updO O1 (M + 4) (some (.arr 0 4 []))) (M + 2) (some (.arr 0 3 [.agg [.ref (M + 4) 0 0 0, .ref M 1 0 N, .ref (M + 1) 1 0 N]])), M + 5⟩⟩ _
  refine ghost_out (B := M) (b := M + 5) (by omega) ?_ N (Nat.le_refl _)
  simp only [updO]
  rw [if_neg (by omega), if_neg (by omega), a0]
 have gr0 := ghost_gr (O := O1) (M := M) (N := N) a1
 have mi0 : MkI ob M [] (List.replicate N []) (List.replicate N 0) [] ⟨outG (updO (updO O1 (M + 4) (some (.arr 0 4 []))) (M + 2) (some (.arr 0 3 [.agg [.ref (M + 4) 0 0 0, .ref M 1 0 N, .ref (M + 1) 1 0 N]]))) M (M + 5) N N, M + 5 + N⟩ := by
  refine ⟨gr0, ?_, fun i o hi => ?_, by rw [List.length_replicate]; exact Nat.le_refl _⟩
  ·simp only [outG, updO]
   rw [if_neg (by omega), if_neg (by omega), if_neg (by omega), if_neg (by omega)]; exact a3
  ·have := h1 i o hi
   dsimp only at this
   simp only [outG, updO]
   rw [if_neg (by omega), if_neg (by omega), if_neg (by omega), if_neg (by omega)]; exact a9 i o hi
 clear gr0
 generalize outG (updO (updO O1 (M + 4) (some (.arr 0 4 []))) (M + 2) (some (.arr 0 3 [.agg [.ref (M + 4) 0 0 0, .ref M 1 0 N, .ref (M + 1) 1 0 N]]))) M (M + 5) N N = O2 at *
 have hul := ok.len
 have r0 : ∀ i o, ob i = some o → i < M := h1
 refine loop_cnt [11, 40, 41, 42, 43, 44, 45, 46, 47, 48, 49, 50, 51, 52] us.length (fun k ρ st' => ρ 40 = I k ∧ MkI ob M [] (List.replicate N []) (List.replicate N 0) ((us.take k).map tkE) st') (gh _) ?_ ?_
 ·simp +contextual (maxSteps := 4000000) only [↓bdD, bdP, nth_its, pur_its, nth_arcs, pur_arcs, nth_snds, pur_snds, nth_lnks, pur_lnks, Try.f42]
  exact mi0
 rintro k ρ ⟨O, nx⟩ hk ⟨h40, hI⟩
 by_cases hlt : k < us.length
 ·have hwk := wrapN' (k := k) (by omega)
  have hmp := hI.mp
  have hstep := tk_step ok hlt
  have e1 := ok.link k hlt
  have e2 := ok.tick k hlt
  generalize hx : us.getD k dS = x at *
  have hkey := keyIs_tk (a := x.1) (b := x.2.1) (by omega) (by omega)
  dsimp only at hmp
  have hnx := hI.nx
  dsimp only at hnx
  have d1 : ¬ M + 3 = nx := by omega
  have d2 : ¬ nx = M + 3 := by omega
  simp +contextual (maxSteps := 4000000) only [↓bdD, bdP, Nat.reduceLT, Nat.reduceBEq, Nat.reduceAdd, Nat.reduceMul, Nat.reduceLeDiff, Store.new, Store.set, ↓reduceIte, nth_its, pur_its, nth_arcs, pur_arcs, nth_snds, pur_snds, nth_lnks, pur_lnks, Try.f42, ty3, ty25, ty56, ty94, ty95, cfgB_P, cfgB_tab, cfgB_muts, cfgB_num, cfgB_frz, cfgB_yl, h40, hlt, hwk, hx, hmp, hkey, hstep, d1, d2]
  exact ((hI.high r0).again r0).map r0
 ·have e : k = us.length := by omega
  subst e
  rw [List.take_length] at hI
  obtain ⟨L, hL⟩ : ∃ L, ls.length = L := ⟨_, rfl⟩
  have hok := netT_ok (r := dr) (D := D) hft
  have hpo := TN.p_ok hok
  have ph : ∀ t x, x < h → (netT h ls us dr).p (t * (h + L) + x) = (t * h + x, (t + 1) * h + x, 1099511627776, 0) := fun t x hx => by
   rw [← hL]; exact TN.p_house (T := netT h ls us dr) hx
  have pl : ∀ t k, k < L → (netT h ls us dr).p (t * (h + L) + (h + k)) = (t * h + (ls.getD k dL).1.toNat, (t + 1) * h + (ls.getD k dL).2.1.toNat, capM ls (k : Int) (dr + (t : Int)) - sentT us (k : Int) (dr + (t : Int)) us.length, priM ls (k : Int) (dr + (t : Int))) := fun t k hk => by
   rw [← hL] at hk ⊢; exact TN.p_link (T := netT h ls us dr) hk
  have hW : (netT h ls us dr).W = h + L := by rw [← hL]; rfl
  have hh : (netT h ls us dr).h = h := rfl
  rw [hW, hh, hN] at hpo
  obtain ⟨p, hp⟩ : ∃ p, (netT h ls us dr).p = p := ⟨_, rfl⟩
  have hRp : R_make ⟨h, D, ls, us, df, dt, db, dr, dd⟩ ⟨ob, M⟩ = (gP M, ⟨mkO ob M (gA p (D * (h + L))) (gO p N (D * (h + L))) N, M + 5 + N⟩) := by
   simp only [R_make, GM.T, GM.N, GM.n, hp, hN, hL]
  rw [hRp] at hR1 hR2
  clear hRp
  rw [hp] at hpo ph pl
  have hI : MkI ob M (gA p (0 * (h + L))) (gO p N (0 * (h + L))) (List.replicate N 0) (us.map tkE) ⟨O, nx⟩ := by rw [Nat.zero_mul]; exact hI
  simp +contextual (maxSteps := 4000000) only [↓bdD, bdP, Nat.reduceLT, Nat.reduceBEq, ↓reduceIte, nth_its, pur_its, nth_arcs, pur_arcs, nth_snds, pur_snds, nth_lnks, pur_lnks, Try.f42, cfgB_P, cfgB_tab, cfgB_muts, cfgB_num, cfgB_frz, cfgB_yl, h40]
  refine loop_cnt [13, 14, 15, 16, 17, 56, 57, 58, 59, 60, 61, 62, 63, 64, 65, 66, 67, 68, 69, 70, 71, 72, 73, 74, 75, 76, 77, 78, 79, 80, 81, 82, 83, 84, 85, 86, 87, 88, 89, 90, 91, 92, 93, 94, 95, 96, 97, 98, 99, 100, 101, 102, 103, 104, 105, 106, 107, 108, 109, 110, 111, 112, 113, 114, 115, 116, 117, 118, 119, 120, 121, 122, 123, 124, 125, 126, 127, 128] D (fun t ρ st' => ρ 56 = I t ∧ MkI ob M (gA p (t * (h + L))) (gO p N (t * (h + L))) (List.replicate N 0) (us.map tkE) st') (.refl _) ?_ ?_
  ·simp +contextual (maxSteps := 4000000) only [↓bdD, bdP, nth_its, pur_its, nth_arcs, pur_arcs, nth_snds, pur_snds, nth_lnks, pur_lnks, Try.f42]
   exact hI
  clear hI
  rintro t ρ5 ⟨O3, n3⟩ ht ⟨h56, hI⟩
  by_cases htD : t < D
  ·clear mi0 gh F9 F0 F1 r1 r2 hF hO1 a0 a1 a2 a3 a9
   have hle : (t + 1) * (h + L) ≤ D * (h + L) := Nat.mul_le_mul_right _ (by omega)
   have hs1 : (t + 1) * (h + L) = t * (h + L) + (h + L) := Nat.succ_mul _ _
   have hn1 : (t + 1) * h = t * h + h := Nat.succ_mul _ _
   have hn2 : (t + 2) * h ≤ N := by rw [← hN]; exact Nat.mul_le_mul_right _ (by omega)
   have hn3 : (t + 2) * h = (t + 1) * h + h := Nat.succ_mul _ _
   have hDW : D * (h + L) ≤ 7200 := Nat.le_trans (Nat.mul_le_mul h7 (show h + L ≤ 72 by omega)) (by decide)
   have wt : IntKind.i64.wrap ((t : Int) * (h : Int)) = ((t * h : Nat) : Int) := by rw [← Int.natCast_mul, wrap64 (by omega) (by omega)]
   have wt1 := wrapN' (k := t) (by omega)
   have wth : IntKind.i64.wrap (((t + 1 : Nat) : Int) * (h : Int)) = (((t + 1) * h : Nat) : Int) := by rw [← Int.natCast_mul, wrap64 (by omega) (by omega)]
   have hol : ∀ j, (gO p N j).length = N := fun j => gO_len
   have hadd : ∀ (j : Nat) (S : Store) (u v : Nat) (x y : Int), j < D * (h + L) → p j = (u, v, x, y) → MkI ob M (gA p j) (gO p N j) (List.replicate N 0) (us.map tkE) S →
     specX A_add H_add R_add [gP M, I (u : Nat), I (v : Nat), I x, I y] S = some (.tuple [], ⟨aO S.obj M u v ((gA p j).length / 2 + 1) (addA (gA p j) u v x y) (outA (gO p N j) u v (gA p j).length) (List.replicate N 0), S.next⟩) ∧
     MkI ob M (gA p (j + 1)) (gO p N (j + 1)) (List.replicate N 0) (us.map tkE) ⟨aO S.obj M u v ((gA p j).length / 2 + 1) (addA (gA p j) u v x y) (outA (gO p N j) u v (gA p j).length) (List.replicate N 0), S.next⟩ := by
    intro j S u v x y hj hpj hI
    have q := hpo j hj
    rw [hpj] at q
    dsimp only at q
    obtain ⟨b1, b2, b3, b4, b5, b6⟩ := q
    have c1 := gO_cnt (p := p) (N := N) (n := j) (fun i hi => hpo i (by omega))
    have c2 := c1 u
    have c3 := c1 v
    have hAl := gA_len (p := p) (n := j)
    refine ⟨s_add (gA p j) (gO p N j) (List.replicate N 0) ⟨hI.gr, ?_, ?_, b3, ?_, ?_, ?_, ?_, ?_, ?_, ?_⟩, ?_⟩
    all_goals (try dsimp only)
    ·rw [hol]; exact b1
    ·rw [hol]; exact b2
    ·exact hI.nx
    ·omega
    ·omega
    ·omega
    ·omega
    ·omega
    ·omega
    ·rw [gA, gO, hpj]
     exact MkI.add (O := S.obj) (nx := S.next) hI r0 (by rw [hol]; exact b1) (by rw [hol]; exact b2) b3
   simp +contextual (maxSteps := 4000000) only [↓bdD, bdP, Nat.reduceLT, Nat.reduceBEq, Nat.reduceAdd, ↓reduceIte, nth_its, pur_its, nth_arcs, pur_arcs, nth_snds, pur_snds, nth_lnks, pur_lnks, Try.f42, ty3, ty24, cfgB_P, cfgB_tab, cfgB_muts, cfgB_num, cfgB_frz, cfgB_yl, h56, htD]
   refine loop_cnt [14, 61, 62, 63, 64, 65, 66, 67, 68, 69, 70, 71, 72, 73, 74, 75, 76, 77, 78, 79] h (fun x ρ st' => ρ 61 = I x ∧ MkI ob M (gA p (t * (h + L) + x)) (gO p N (t * (h + L) + x)) (List.replicate N 0) (us.map tkE) st') (.refl _) ?_ ?_
   ·simp +contextual (maxSteps := 4000000) only [↓bdD, bdP, nth_its, pur_its, nth_arcs, pur_arcs, nth_snds, pur_snds, nth_lnks, pur_lnks, Try.f42]
    exact hI
   clear hI
   rintro x ρ6 ⟨O4, n4⟩ hxh ⟨h61, hI⟩
   by_cases hx : x < h
   ·have wx := wrapN' (k := x) (by omega)
    have wx1 : IntKind.i64.wrap (((t * h : Nat) : Int) + (x : Int)) = ((t * h + x : Nat) : Int) := by rw [← Int.natCast_add, wrap64 (by omega) (by omega)]
    have wx2 : IntKind.i64.wrap ((((t + 1) * h : Nat) : Int) + (x : Int)) = (((t + 1) * h + x : Nat) : Int) := by rw [← Int.natCast_add, wrap64 (by omega) (by omega)]
    obtain ⟨sp, hI2⟩ := hadd (t * (h + L) + x) ⟨O4, n4⟩ (t * h + x) ((t + 1) * h + x) 1099511627776 0 (by omega) (ph t x hx) hI
    unfold gP at sp
    dsimp only at sp hI2
    simp +contextual (maxSteps := 4000000) only [↓bdD, bdP, Nat.reduceLT, Nat.reduceBEq, Nat.reduceAdd, ↓reduceIte, nth_its, pur_its, nth_arcs, pur_arcs, nth_snds, pur_snds, nth_lnks, pur_lnks, Try.f42, ty3, ty24, cfgB_P, cfgB_tab, cfgB_muts, cfgB_num, cfgB_frz, cfgB_yl, h61, hx, wx, wt, wt1, wth, wx1, wx2, sp]
    exact hI2
   have e : x = h := by omega
   rw [e] at h61 hI
   have hI : MkI ob M (gA p (t * (h + L) + (h + 0))) (gO p N (t * (h + L) + (h + 0))) (List.replicate N 0) (us.map tkE) ⟨O4, n4⟩ := hI
   simp +contextual (maxSteps := 4000000) only [↓bdD, bdP, Nat.reduceLT, Nat.reduceBEq, Nat.reduceAdd, ↓reduceIte, nth_its, pur_its, nth_arcs, pur_arcs, nth_snds, pur_snds, nth_lnks, pur_lnks, Try.f42, ty22, ty24, cfgB_P, cfgB_tab, cfgB_muts, cfgB_num, cfgB_frz, cfgB_yl, h61, hL, e]
   refine loop_cnt [15, 16, 17, 83, 84, 85, 86, 87, 88, 89, 90, 91, 92, 93, 94, 95, 96, 97, 98, 99, 100, 101, 102, 103, 104, 105, 106, 107, 108, 109, 110, 111, 112, 113, 114, 115, 116, 117, 118, 119, 120, 121, 122, 123, 124, 125, 126, 127] L (fun k ρ st' => ρ 83 = I k ∧ MkI ob M (gA p (t * (h + L) + (h + k))) (gO p N (t * (h + L) + (h + k))) (List.replicate N 0) (us.map tkE) st') (.refl _) ?_ ?_
   ·simp +contextual (maxSteps := 4000000) only [↓bdD, bdP, nth_its, pur_its, nth_arcs, pur_arcs, nth_snds, pur_snds, nth_lnks, pur_lnks, Try.f42]
    exact hI
   clear hI
   rintro k ρ7 ⟨O5, n5⟩ hkL ⟨h83, hI⟩
   by_cases hk : k < L
   ·have wk := wrapN' (k := k) (by omega)
    have hkl : k < ls.length := by omega
    have hmp := hI.mp
    have hnx := hI.nx
    dsimp only at hmp hnx
    rw [hol] at hnx
    have hend := ok.net.ends k hkl
    have hfs := fit_sent hft (k := (k : Int)) (t := dr + (t : Int)) ⟨by omega, by omega⟩
    have hcb := capM_le ok.net (link := (k : Int)) (tick := dr + (t : Int)) (by omega) (by omega)
    have hpe := pl t k hk
    have hget := tk_get ok (a := (k : Int)) (b := dr + (t : Int))
    have hkey := keyIs_tk (a := (k : Int)) (b := dr + (t : Int)) (by omega) (by omega)
    have hnl := nth_lnks hkl
    have w4 : IntKind.i64.wrap (dr + (t : Int)) = dr + (t : Int) := wrap64 (by omega) (by omega)
    have h24 := tmod24 (t := dr + (t : Int)) (by omega)
    unfold capM at hpe hcb hfs
    unfold priM at hpe
    rw [Int.toNat_natCast] at hpe hcb hfs
    have hlt24 : (dr + (t : Int)).toNat % 24 < 24 := Nat.mod_lt _ (by omega)
    have hli24 : (((dr + (t : Int)).toNat % 24 : Nat) : Int) < 24 := by omega
    generalize (dr + (t : Int)).toNat % 24 = hr at *
    have hc1 := lkC_cap (a := ls.getD k dL) hlt24
    have hc2 := lkC_pri (a := ls.getD k dL) hlt24
    generalize hlk : ls.getD k dL = lk at *
    generalize sentT us (k : Int) (dr + (t : Int)) us.length = sn at *
    obtain ⟨cp, hcp⟩ : ∃ c, capA lk hr = c := ⟨_, rfl⟩
    obtain ⟨pc, hpc⟩ : ∃ c, priA lk hr = c := ⟨_, rfl⟩
    rw [hcp] at hpe hcb hfs hc1
    rw [hpc] at hpe hc2
    obtain ⟨fu, hfu⟩ : ∃ u, lk.1.toNat = u := ⟨_, rfl⟩
    obtain ⟨fv, hfv⟩ : ∃ u, lk.2.1.toNat = u := ⟨_, rfl⟩
    have hf1 : lk.1 = (fu : Int) := by omega
    have hf2 : lk.2.1 = (fv : Int) := by omega
    rw [hfu, hfv] at hpe
    have wx1 : IntKind.i64.wrap (((t * h : Nat) : Int) + (fu : Int)) = ((t * h + fu : Nat) : Int) := by rw [← Int.natCast_add, wrap64 (by omega) (by omega)]
    have wx2 : IntKind.i64.wrap ((((t + 1) * h : Nat) : Int) + (fv : Int)) = (((t + 1) * h + fv : Nat) : Int) := by rw [← Int.natCast_add, wrap64 (by omega) (by omega)]
    have w5 : IntKind.i64.wrap (cp - sn) = cp - sn := wrap64 (by omega) (by omega)
    have hIh := (hI.high (x := some (.arr 0 50 [.agg (lkC lk)])) r0)
    have hlk0 := lkC_0 (a := lk)
    have hlk1 := lkC_1 (a := lk)
    rw [hf1] at hlk0
    rw [hf2] at hlk1
    have d1 : ¬ M + 3 = n5 := by omega
    have d2 : ¬ n5 = M + 3 := by omega
    obtain ⟨sp, hI2⟩ := hadd (t * (h + L) + (h + k)) ⟨updO O5 n5 (some (.arr 0 50 [.agg (lkC lk)])), n5 + 1⟩ (t * h + fu) ((t + 1) * h + fv) (cp - sn) pc (by omega) hpe hIh
    unfold gP at sp
    dsimp only at sp hI2
    simp +contextual (maxSteps := 4000000) only [↓bdD, bdP, Nat.reduceLT, Nat.reduceBEq, Nat.reduceAdd, Nat.reduceLeDiff, Int.reduceEq, Store.new, Store.set, ↓reduceIte, nth_its, pur_its, nth_arcs, pur_arcs, nth_snds, pur_snds, nth_lnks, pur_lnks, Try.f42, ty3, ty22, ty24, ty27, ty47, ty49, ty94, ty95, cfgB_P, cfgB_tab, cfgB_muts, cfgB_num, cfgB_frz, cfgB_yl, h83, hk, wk, wt, wt1, wth, wx1, wx2, w4, w5, h24, hlt24, hli24, hlk, hmp, hget, hkey, hnl, hc1, hc2, hlk0, hlk1, d1, d2, lkC_len, lkC_take, hkl, updO_updO, sp, Nat.mul_one]
    exact hI2
   have e : k = L := by omega
   rw [e] at h83 hI
   simp +contextual (maxSteps := 4000000) only [↓bdD, bdP, Nat.reduceLT, Nat.reduceBEq, ↓reduceIte, nth_its, pur_its, nth_arcs, pur_arcs, nth_snds, pur_snds, nth_lnks, pur_lnks, Try.f42, cfgB_P, cfgB_tab, cfgB_muts, cfgB_num, cfgB_frz, cfgB_yl, h56, h83, wt1]
   refine ⟨?_, by rw [hs1]; exact hI⟩
   rw [agree_havoc_sub (by decide +kernel)]
   simp +contextual (maxSteps := 4000000) only [↓bdD, bdP, Nat.reduceBEq, nth_its, pur_its, nth_arcs, pur_arcs, nth_snds, pur_snds, nth_lnks, pur_lnks, Try.f42]
   rw [agree_havoc_sub (by decide +kernel)]
   simp +contextual (maxSteps := 4000000) only [↓bdD, bdP, Nat.reduceBEq, nth_its, pur_its, nth_arcs, pur_arcs, nth_snds, pur_snds, nth_lnks, pur_lnks, Try.f42]
  ·have e : t = D := by omega
   subst e
   simp +contextual (maxSteps := 4000000) only [↓bdD, bdP, Nat.reduceLT, Nat.reduceBEq, endQ, ↓reduceIte, nth_its, pur_its, nth_arcs, pur_arcs, nth_snds, pur_snds, nth_lnks, pur_lnks, Try.f42, cfgB_P, cfgB_tab, cfgB_muts, cfgB_num, cfgB_frz, cfgB_yl, h56]
   rw [← hR1, ← hR2]
   exact mk_left h1 hI.gr hI.fr gO_len
noncomputable def e_make : Nat × Ent := (42, .x (specX A_make H_make R_make))
theorem o_make : EntOK Try.prog e_make.1 e_make.2 := specX_ok0 fun _ _ hx => c_make hx
theorem j_make (a b : GM) (st : Store) (h : A_make a = A_make b) (hx : H_make a st) (hy : H_make b st) : R_make a st = R_make b st := by
 obtain ⟨h1, D1, ls1, us1, ⟨df1, dt1, db1, dr1, dd1⟩⟩ := a
 obtain ⟨h2, D2, ls2, us2, ⟨df2, dt2, db2, dr2, dd2⟩⟩ := b
 simp only [A_make, List.cons.injEq, and_true, PV.agg.injEq, PV.int.injEq, PV.lits.injEq, inj_lnks, inj_snds, true_and] at h
 obtain ⟨⟨e1, e2⟩, e3, e4, e5, e6, e7, e8⟩ := h
 have e1 : h1 = h2 := by omega
 have a4 := hx.2.2.2.1
 have b4 := hy.2.2.2.1
 dsimp only at a4 b4
 have e9 : D1 = D2 := by omega
 subst e1; subst e2; subst e3; subst e4; subst e5; subst e6; subst e7; subst e8; subst e9
 rfl
theorem s_make (x : GM) {st : Store} (h : H_make x st) : specX A_make H_make R_make [netV ((x.h : Nat), x.ls), snds x.us, demV x.d] st = some (R_make x st) := specX_app j_make (i := x) h
theorem mk_gr {ob : Nat → Option IObj} {M N : Nat} {A : List Arc} {out : List (List Nat)} (ho : out.length = N) : GrAt M A out (List.replicate N 0) (mkO ob M A out N) := by
 refine ⟨?_, ?_, ?_, ?_, fun u hu => ?_⟩ <;> unfold mkO
 ·rw [if_pos rfl]
 ·rw [if_neg (by omega), if_pos rfl]
 ·rw [if_neg (by omega), if_neg (by omega), if_pos rfl]
 ·rw [if_neg (by omega), if_neg (by omega), if_neg (by omega), if_pos rfl]
 ·rw [if_neg (by omega), if_neg (by omega), if_neg (by omega), if_neg (by omega), if_pos (by omega), show M + 5 + u - (M + 5) = u by omega]
end Sim
