/- What functions of this seat compute, by values: contracts (lemmas of the statement's proof, under the conditions that each names). -/
import Derived.Test.YtbojbamchaohpaaQBD
import Derived.Test.YtbojbamchaohpaaQN5
namespace Sim
open Go Go.Proofs
set_option maxRecDepth 10000
set_option maxHeartbeats 2000000
set_option linter.unusedVariables false
set_option linter.unusedSimpArgs false
attribute [local congr] opsIf_congr condC_congr guardC_congr grd_congr pick3_congr obind_congr omap_congr opsV_congr
def linkM (ls : List Lnk) (s : Snd) : Lnk := ls.getD s.1.toNat dL
def chgN (ls : List Lnk) (l : List Snd) (i : Nat) : Int × Int × Int :=
 if i % 2 = 0 then ((l.getD (i / 2) dS).2.1, (linkM ls (l.getD (i / 2) dS)).1, -(l.getD (i / 2) dS).2.2) else ((l.getD (i / 2) dS).2.1, (linkM ls (l.getD (i / 2) dS)).2.1, (l.getD (i / 2) dS).2.2)
abbrev chgV (x : Int × Int × Int) : List PV := [I x.1, .agg [I x.2.1, I x.2.2]]
def ysL (ls : List Lnk) (l : List Snd) : List (List PV) := (List.range (2 * l.length)).map fun i => chgV (chgN ls l i)
theorem ys_at {ls : List Lnk} {l : List Snd} {i : Nat} (h : i < 2 * l.length) : (ysL ls l)[i]? = some (chgV (chgN ls l i)) := by
 simp [ysL, h]
theorem ys_len {ls : List Lnk} {l : List Snd} : (ysL ls l).length = 2 * l.length := by simp [ysL]
theorem ys_inv {ls : List Lnk} {l : List Snd} {i : Nat} {y : List PV} (h : (ysL ls l)[i]? = some y) : i < 2 * l.length ∧ y = chgV (chgN ls l i) := by
 have hlt := (List.getElem?_eq_some_iff.1 h).1
 rw [ys_len] at hlt
 rw [ys_at hlt] at h
 exact ⟨hlt, (Option.some.inj h).symm⟩
theorem chg_even {ls : List Lnk} {l : List Snd} {k : Nat} : chgN ls l (2 * k) = ((l.getD k dS).2.1, (linkM ls (l.getD k dS)).1, -(l.getD k dS).2.2) := by
 unfold chgN
 rw [if_pos (by omega), show 2 * k / 2 = k by omega]
theorem chg_odd {ls : List Lnk} {l : List Snd} {k : Nat} : chgN ls l (2 * k + 1) = ((l.getD k dS).2.1, (linkM ls (l.getD k dS)).2.1, (l.getD k dS).2.2) := by
 unfold chgN
 rw [if_neg (by omega), show (2 * k + 1) / 2 = k by omega]
abbrev chgF (hn : Int) (ls : List Lnk) (l : List Snd) : PV := .func (.func 54) [] [.vptr [snds l] 0, .vptr [I hn, lnks ls] 0]
noncomputable def A_changes : (Int) × (List Lnk) × (List Snd) → List PV := fun (hn, ls, l) => [.agg [I hn, lnks ls], snds l]
noncomputable def R_changes : (Int) × (List Lnk) × (List Snd) → PV := fun (hn, ls, l) => chgF hn ls l
def H_changes : (Int) × (List Lnk) × (List Snd) → Prop := fun (hn, ls, l) => True
noncomputable def e_changes : Nat × Ent := (49, .v (specOf A_changes R_changes H_changes))
theorem j_changes : ∀ i j, A_changes i = A_changes j → i = j := by
 rintro ⟨hn₁, ls₁, l₁⟩ ⟨hn₂, ls₂, l₂⟩ h
 simp only [A_changes, List.cons.injEq, and_true, PV.lits.injEq, PV.int.injEq, PV.bool.injEq, PV.str.injEq, PV.agg.injEq, PV.func.injEq, Fn.func.injEq, PV.vptr.injEq, true_and, List.map_nil, inj_ints, inj_strs, inj_its, inj_arcs, inj_snds, inj_lnks] at h
 simp [Prod.ext_iff, h] <;> omega
theorem s_changes (hn : Int) (ls : List Lnk) (l : List Snd) : specOf A_changes R_changes H_changes [.agg [I hn, lnks ls], snds l] = some (chgF hn ls l) := specOf_app j_changes (i := (hn, ls, l)) trivial
def C_changes : Prop := ∀ (hn : Int) (ls : List Lnk) (l : List Snd) , VC Try.prog 49 [.agg [I hn, lnks ls], snds l] (chgF hn ls l)
def O_changes : Prop := EntOK Try.prog e_changes.1 e_changes.2
theorem k_changes (c : C_changes) : O_changes := specOf_ok fun ⟨hn, ls, l⟩ h => c hn ls l
theorem c_changes : C_changes := by
 intro hn ls l
 refine vc_ofU mixed (l := []) (eok_nil) [] []  Try.func49 rfl (by decide +kernel) (N := 6) rfl (by simp) rfl (by kernel_rfl) fun hs => ?_
 simp only [smallL, PV.small, List.length_map, and_true, true_and] at hs
 simp +contextual (maxSteps := 4000000) only [↓bdD, bdP, Nat.reduceLT, Nat.reduceBEq, endQ, Nat.reduceAdd, st0, ↓reduceIte, nth_its, pur_its, nth_arcs, pur_arcs, nth_snds, pur_snds, nth_lnks, pur_lnks, lkC_len, lkC_0, lkC_1, lkC_cap, lkC_pri, lkC_take, pur_lkC, Nat.mul_one, Try.f49]
 simp [DRx, chgF, pur_func, pursL_cons, pur_vptr, pur_lits, pur_lnks, pur_snds, pur_int, pursL_nil]
theorem o_changes : O_changes := k_changes c_changes
theorem y_changes {hn : Int} {ls : List Lnk} {l : List Snd} (ok : OKr hn ls l) : YieldsF Try.prog 0 54 [] [.vptr [snds l] 0, .vptr [I hn, lnks ls] 0] (ysL ls l) := by
 refine yields_ofF (l := []) eok_nil [] [] 0 Try.func54 rfl (by decide +kernel) rfl (N := 46) rfl (by simp) (fun y => by kernel_rfl) fun y H J E st0 hm h0 hstab hy => ?_
 have hlen := ok.len
 have hyl := ys_len (ls := ls) (l := l)
 obtain ⟨ob0, M0⟩ := st0
 simp +contextual (maxSteps := 4000000) only [↓bdD, bdP, Nat.reduceLT, Nat.reduceAdd, ↓reduceIte, nth_its, pur_its, nth_arcs, pur_arcs, nth_snds, pur_snds, nth_lnks, pur_lnks, lkC_len, lkC_0, lkC_1, lkC_cap, lkC_pri, lkC_take, pur_lkC, Nat.mul_one, Try.f54, ty25]
 refine loop_cnt (hm := hm) [5, 8, 9, 10, 11, 12, 13, 14, 15, 16, 17, 18, 19, 20, 21, 22, 23, 24, 25, 26, 27, 28, 29, 30, 31, 32, 33, 34, 35, 36, 37, 38, 39, 40, 41, 42, 43, 44, 45] l.length (fun k ρ st' => ρ 8 = I k ∧ J (2 * k) st' ∧ M0 ≤ st'.next) (.refl _) ?_ ?_
 ·simp +contextual (maxSteps := 4000000) only [↓bdD, bdP, Nat.reduceMul, nth_its, pur_its, nth_arcs, pur_arcs, nth_snds, pur_snds, nth_lnks, pur_lnks, lkC_len, lkC_0, lkC_1, lkC_cap, lkC_pri, lkC_take, pur_lkC, Nat.mul_one, Try.f54]
  exact h0
 ·rintro k ρ ⟨ob, M⟩ hk ⟨h8, hJ, hMM⟩
  dsimp only at hMM
  by_cases hlt : k < l.length
  ·have hw1 : IntKind.i64.wrap ((k : Int) + 1) = ((k + 1 : Nat) : Int) := by rw [wrap64 (by omega) (by omega)]; omega
   have e1 := ok.link k hlt
   have hb := ok.bytes k hlt
   have c1 := ys_at (ls := ls) (l := l) (i := 2 * k) (by omega)
   have c2 := ys_at (ls := ls) (l := l) (i := 2 * k + 1) (by omega)
   rw [chg_even] at c1
   rw [chg_odd] at c2
   unfold linkM at c1 c2
   generalize hx : l.getD k dS = x at *
   have hwn : IntKind.i64.wrap (0 - x.2.2) = -x.2.2 := by rw [wrap64 (by omega) (by omega)]; omega
   have h5 := toNat_lt' e1.1 e1.2
   have h6 := Int.toNat_of_nonneg e1.1
   generalize x.1.toNat = kk at *
   simp +contextual (maxSteps := 4000000) only [↓bdD, bdP, Nat.reduceLT, Nat.reduceBEq, Nat.reduceAdd, Nat.reduceLeDiff, reduceCtorEq, Store.new, Store.set, ↓reduceIte, nth_its, pur_its, nth_arcs, pur_arcs, nth_snds, pur_snds, nth_lnks, pur_lnks, lkC_len, lkC_0, lkC_1, lkC_cap, lkC_pri, lkC_take, pur_lkC, Nat.mul_one, Try.f54, ty3, ty22, ty24, ty25, ty49, ty56, ty94, h8, hlt, hx, e1, h5, ← h6, hwn]
   have hJ' : ∀ o o2, J (2 * k) ⟨updO (updO ob M o) M o2, M + 1⟩ := fun o o2 => hstab _ _ _ hJ (by simp) (fun x hx => (updO_ne (by simp; exact Nat.ne_of_lt hx)).trans (updO_ne (by simp; exact Nat.ne_of_lt hx)))
   refine hy (2 * k) _ _ _ c1 (hJ' _ _) (fun st2 h2 hk2 => ?_) (fun st2 h2 => ?_)
   ·obtain ⟨ob2, M2⟩ := st2
    have hM := hk2.2 M hMM (by simp) (fun r => by simp [updO])
    have hM2 := hk2.1
    dsimp only at hM hM2
    rw [updO_same] at hM
    simp +contextual (maxSteps := 4000000) only [↓bdD, bdP, Nat.reduceLT, Nat.reduceBEq, Nat.reduceAdd, Nat.reduceLeDiff, reduceCtorEq, ↓reduceIte, nth_its, pur_its, nth_arcs, pur_arcs, nth_snds, pur_snds, nth_lnks, pur_lnks, lkC_len, lkC_0, lkC_1, lkC_cap, lkC_pri, lkC_take, pur_lkC, Nat.mul_one, Try.f54, ty3, ty22, ty24, ty49, ty56, ty94, hM, h8, hlt, hx, e1, h5, ← h6, hwn]
    refine hy (2 * k + 1) _ _ _ c2 h2 (fun st3 h3 hk3 => ?_) (fun st3 h3 => ?_)
    ·have hM3 := hk3.1
     dsimp only at hM3
     simp +contextual (maxSteps := 4000000) only [↓bdD, bdP, nth_its, pur_its, nth_arcs, pur_arcs, nth_snds, pur_snds, nth_lnks, pur_lnks, lkC_len, lkC_0, lkC_1, lkC_cap, lkC_pri, lkC_take, pur_lkC, Nat.mul_one, Try.f54, h8, hw1]
     exact ⟨by rw [show 2 * (k + 1) = 2 * k + 1 + 1 by omega]; exact h3, by omega⟩
    ·simp +contextual (maxSteps := 4000000) only [↓bdD, bdP, nth_its, pur_its, nth_arcs, pur_arcs, nth_snds, pur_snds, nth_lnks, pur_lnks, lkC_len, lkC_0, lkC_1, lkC_cap, lkC_pri, lkC_take, pur_lkC, Nat.mul_one, Try.f54]
     exact .inr h3
   ·simp +contextual (maxSteps := 4000000) only [↓bdD, bdP, ↓reduceIte, nth_its, pur_its, nth_arcs, pur_arcs, nth_snds, pur_snds, nth_lnks, pur_lnks, lkC_len, lkC_0, lkC_1, lkC_cap, lkC_pri, lkC_take, pur_lkC, Nat.mul_one, Try.f54]
    exact .inr h2
  ·have e : k = l.length := by omega
   subst e
   simp +contextual (maxSteps := 4000000) only [↓bdD, bdP, Nat.reduceLT, Nat.reduceBEq, reduceCtorEq, ↓reduceIte, nth_its, pur_its, nth_arcs, pur_arcs, nth_snds, pur_snds, nth_lnks, pur_lnks, lkC_len, lkC_0, lkC_1, lkC_cap, lkC_pri, lkC_take, pur_lkC, Nat.mul_one, Try.f54, h8, hyl]
   exact .inl hJ
end Sim
namespace Sim
open Go Go.Proofs
set_option maxRecDepth 10000
set_option maxHeartbeats 2000000
set_option linter.unusedVariables false
set_option linter.unusedSimpArgs false
attribute [local congr] opsIf_congr condC_congr guardC_congr grd_congr pick3_congr obind_congr omap_congr opsV_congr
theorem run_env2 {X : Cfg} {N : Nat} {Q : IExit → IState → Prop} {c : Code} {ks : List Kf} {A : Prop} (T : (Nat → PV) → Store → Prop) (h1 : (∀ ρ st, T ρ st → run X N Q c ks ⟨ρ, st⟩) → A) (h2 : ∀ ρ st, T ρ st → run X N Q c ks ⟨ρ, st⟩) : A := h1 h2
def have0 (d : Dem) (at_ tick : Int) : Int := if at_ = d.1 ∧ d.2.2.2.1 ≤ tick then d.2.2.1 else 0
def haveS (ls : List Lnk) (s : Snd) (at_ tick : Int) : Int := if s.2.1 < tick then (if (linkM ls s).2.1 = at_ then s.2.2 else 0) - (if (linkM ls s).1 = at_ then s.2.2 else 0) else 0
def haveT (ls : List Lnk) (l : List Snd) (at_ tick : Int) : Nat → Int
 | 0 => 0
 | k + 1 => haveT ls l at_ tick k + haveS ls (l.getD k dS) at_ tick
def haveM (ls : List Lnk) (l : List Snd) (d : Dem) (at_ tick : Int) : Int := have0 d at_ tick + haveT ls l at_ tick l.length
def hyT (ls : List Lnk) (l : List Snd) (at_ tick : Int) : Nat → Int
 | 0 => 0
 | i + 1 => hyT ls l at_ tick i + if (chgN ls l i).1 < tick ∧ (chgN ls l i).2.1 = at_ then (chgN ls l i).2.2 else 0
theorem hyT_two {ls : List Lnk} {l : List Snd} {at_ tick : Int} : ∀ k, hyT ls l at_ tick (2 * k) = haveT ls l at_ tick k
 | 0 => rfl
 | k + 1 => by
  show hyT ls l at_ tick (2 * k + 1 + 1) = _
  simp only [hyT, chg_odd, chg_even, haveT, haveS]
  rw [hyT_two k]
  by_cases h : (l.getD k dS).2.1 < tick
  ·simp only [h, true_and, if_true]
   split <;> split <;> omega
  ·simp only [h, false_and, if_false]
   omega
theorem hyT_le {hn : Int} {ls : List Lnk} {l : List Snd} (ok : OKr hn ls l) (at_ tick : Int) : ∀ i, i ≤ 2 * l.length → -(1073741824 * (i : Int)) ≤ hyT ls l at_ tick i ∧ hyT ls l at_ tick i ≤ 1073741824 * (i : Int)
 | 0, _ => by simp [hyT]
 | i + 1, hi => by
  have ih := hyT_le ok at_ tick i (by omega)
  have hb := ok.bytes (i / 2) (by omega)
  simp only [hyT]
  split
  ·unfold chgN
   split <;> dsimp only <;> omega
  ·omega
def demB (d : Dem) : Prop := 0 ≤ d.2.2.1 ∧ d.2.2.1 ≤ 1099511627776
theorem have0_le {d : Dem} (h : demB d) (at_ tick : Int) : 0 ≤ have0 d at_ tick ∧ have0 d at_ tick ≤ 1099511627776 := by
 unfold demB at h
 unfold have0
 split <;> omega
noncomputable def A_stock : (Int) × (List Lnk) × (List Snd) × (Dem) × (Int) × (Int) → List PV := fun (hn, ls, l, d, at_, tick) => [.agg [I hn, lnks ls], snds l, demV d, I at_, I tick]
noncomputable def R_stock : (Int) × (List Lnk) × (List Snd) × (Dem) × (Int) × (Int) → PV := fun (hn, ls, l, d, at_, tick) => I (haveM ls l d at_ tick)
def H_stock : (Int) × (List Lnk) × (List Snd) × (Dem) × (Int) × (Int) → Prop := fun (hn, ls, l, d, at_, tick) => OKr hn ls l ∧ demB d
noncomputable def e_stock : Nat × Ent := (35, .v (specOf A_stock R_stock H_stock))
theorem j_stock : ∀ i j, A_stock i = A_stock j → i = j := by
 rintro ⟨hn₁, ls₁, l₁, d₁, at_₁, tick₁⟩ ⟨hn₂, ls₂, l₂, d₂, at_₂, tick₂⟩ h
 simp only [A_stock, List.cons.injEq, and_true, PV.lits.injEq, PV.int.injEq, PV.bool.injEq, PV.str.injEq, PV.agg.injEq, PV.func.injEq, Fn.func.injEq, PV.vptr.injEq, true_and, List.map_nil, inj_ints, inj_strs, inj_its, inj_arcs, inj_snds, inj_lnks] at h
 simp [Prod.ext_iff, h] <;> omega
theorem s_stock (hn : Int) (ls : List Lnk) (l : List Snd) (d : Dem) (at_ : Int) (tick : Int) : specOf A_stock R_stock H_stock [.agg [I hn, lnks ls], snds l, demV d, I at_, I tick] = @ite (Option (PV)) (OKr hn ls l ∧ demB d) (Classical.propDecidable _) (some (I (haveM ls l d at_ tick))) none := specOf_if j_stock (hn, ls, l, d, at_, tick)
def C_stock : Prop := ∀ (hn : Int) (ls : List Lnk) (l : List Snd) (d : Dem) (at_ : Int) (tick : Int) (h : OKr hn ls l ∧ demB d) , VC Try.prog 35 [.agg [I hn, lnks ls], snds l, demV d, I at_, I tick] (I (haveM ls l d at_ tick))
def O_stock : Prop := EntOK Try.prog e_stock.1 e_stock.2
theorem k_stock (c : C_stock) : O_stock := specOf_ok fun ⟨hn, ls, l, d, at_, tick⟩ h => c hn ls l d at_ tick h
theorem c_stock : C_stock := by
 rintro hn ls l d at_ tick ⟨ok, hd⟩
 refine vc_ofD mixed (l := [e_changes]) ((eok_cons o_changes eok_nil)) [] [] 0 1 Try.func35 rfl (by decide +kernel) (N := 45) rfl (by simp) rfl (by kernel_rfl) fun hs => ?_
 simp only [smallL, PV.small, List.length_map, and_true, true_and] at hs
 have h0 := have0_le hd at_ tick
 have hlen := ok.len
 generalize hr : haveM ls l d at_ tick = r
 have hr2 : have0 d at_ tick + hyT ls l at_ tick (2 * l.length) = r := by rw [← hr, hyT_two]; rfl
 have hle := hyT_le ok at_ tick
 obtain ⟨c, hc⟩ : ∃ c, c = have0 d at_ tick := ⟨_, rfl⟩
 have tail : ∀ (ρ : Nat → PV) (st : Store), True := fun _ _ => trivial
 have hcases : (at_ = d.1 ∧ d.2.2.2.1 ≤ tick ∧ c = d.2.2.1) ∨ (at_ = d.1 ∧ ¬ d.2.2.2.1 ≤ tick ∧ c = 0) ∨ (¬ at_ = d.1 ∧ c = 0) := by
  unfold have0 at hc
  by_cases h1 : at_ = d.1
  ·by_cases h2 : d.2.2.2.1 ≤ tick
   ·rw [if_pos ⟨h1, h2⟩] at hc; exact .inl ⟨h1, h2, hc⟩
   ·rw [if_neg (fun h => h2 h.2)] at hc; exact .inr (.inl ⟨h1, h2, hc⟩)
  ·rw [if_neg (fun h => h1 h.1)] at hc; exact .inr (.inr ⟨h1, hc⟩)
 rw [← hc] at hr2 h0
 refine run_env2 (X := ?X) (N := ?N) (Q := ?Q) (c := ?c) (ks := ?ks) (fun ρ st => ρ 8 = .vptr [I at_] 0 ∧ ρ 9 = .vptr [I tick] 0 ∧ ρ 11 = .ptr 0 0 0 0 ∧ ρ 28 = chgF hn ls l ∧ st.obj 0 = some (.arr 0 1 [I c]) ∧ st.next = 1) ?h1 ?h2
 case h1 =>
  intro tail
  rcases hcases with ⟨g1, g2, g3⟩ | ⟨g1, g2, g3⟩ | ⟨g1, g3⟩
  ·simp +contextual (maxSteps := 4000000) only [↓bdD, bdP, Nat.reduceLT, Nat.reduceBEq, Nat.reduceAdd, Nat.reduceLeDiff, Store.new, Store.set, ↓reduceIte, e_changes, s_changes, nth_its, pur_its, nth_arcs, pur_arcs, nth_snds, pur_snds, nth_lnks, pur_lnks, lkC_len, lkC_0, lkC_1, lkC_cap, lkC_pri, lkC_take, pur_lkC, Nat.mul_one, Try.f35, ty3, ty24, ty25, ty27, g1, g2]
   refine tail _ _ ?_
   simp +contextual (maxSteps := 4000000) only [↓bdD, bdP, Nat.reduceBEq, nth_its, pur_its, nth_arcs, pur_arcs, nth_snds, pur_snds, nth_lnks, pur_lnks, lkC_len, lkC_0, lkC_1, lkC_cap, lkC_pri, lkC_take, pur_lkC, Nat.mul_one, Try.f35, g1, g3]
  ·simp +contextual (maxSteps := 4000000) only [↓bdD, bdP, Nat.reduceLT, Nat.reduceBEq, Nat.reduceAdd, Nat.reduceLeDiff, Store.new, Store.set, ↓reduceIte, e_changes, s_changes, nth_its, pur_its, nth_arcs, pur_arcs, nth_snds, pur_snds, nth_lnks, pur_lnks, lkC_len, lkC_0, lkC_1, lkC_cap, lkC_pri, lkC_take, pur_lkC, Nat.mul_one, Try.f35, ty3, ty24, ty25, ty27, g1, g2]
   refine tail _ _ ?_
   simp +contextual (maxSteps := 4000000) only [↓bdD, bdP, Nat.reduceBEq, nth_its, pur_its, nth_arcs, pur_arcs, nth_snds, pur_snds, nth_lnks, pur_lnks, lkC_len, lkC_0, lkC_1, lkC_cap, lkC_pri, lkC_take, pur_lkC, Nat.mul_one, Try.f35, g1, g3]
  ·simp +contextual (maxSteps := 4000000) only [↓bdD, bdP, Nat.reduceLT, Nat.reduceBEq, Nat.reduceAdd, Nat.reduceLeDiff, Store.new, Store.set, ↓reduceIte, e_changes, s_changes, nth_its, pur_its, nth_arcs, pur_arcs, nth_snds, pur_snds, nth_lnks, pur_lnks, lkC_len, lkC_0, lkC_1, lkC_cap, lkC_pri, lkC_take, pur_lkC, Nat.mul_one, Try.f35, ty3, ty24, ty25, ty27, g1]
   refine tail _ _ ?_
   simp +contextual (maxSteps := 4000000) only [↓bdD, bdP, Nat.reduceBEq, nth_its, pur_its, nth_arcs, pur_arcs, nth_snds, pur_snds, nth_lnks, pur_lnks, lkC_len, lkC_0, lkC_1, lkC_cap, lkC_pri, lkC_take, pur_lkC, Nat.mul_one, Try.f35, g1, g3]
 case h2 =>
  rintro ρ ⟨ob, M⟩ ⟨h8, h9, h11, h28, ho, hM⟩
  dsimp only at ho hM
  subst hM
  refine run_rangeF (ys := ysL ls l) (f := 54) (first := []) (captured := [.vptr [snds l] 0, .vptr [I hn, lnks ls] 0]) rfl rfl (hookMono_none rfl) ?_ (y_changes ok) rfl ?_ (by kernel_rfl) (by kernel_rfl)
   (fun i st' => st'.obj 0 = some (.arr 0 1 [I (c + hyT ls l at_ tick i)]) ∧ 0 < st'.next) (fun e st' => False) ?_ ?_ ?_ ?_ ?_ ?_ ?_
  ·simp +contextual (maxSteps := 4000000) only [↓bdD, bdP, nth_its, pur_its, nth_arcs, pur_arcs, nth_snds, pur_snds, nth_lnks, pur_lnks, lkC_len, lkC_0, lkC_1, lkC_cap, lkC_pri, lkC_take, pur_lkC, Nat.mul_one, Try.f35, h28]
  ·intro y hy
   obtain ⟨x, _, rfl⟩ := List.mem_map.1 hy
   rfl
  ·intro i
   exact Stays.obj (fun _ => by simp)
  ·intro e
   exact Stays.const
  ·exact ⟨by simp [hyT, ho], by simp⟩
  ·rintro i y ⟨ob2, M2⟩ id lr hy hid hlp hbase ⟨a0, a1⟩
   obtain ⟨hi, rfl⟩ := ys_inv hy
   dsimp only at hid hlp hbase a0 a1
   have hstep : hyT ls l at_ tick (i + 1) = hyT ls l at_ tick i + if (chgN ls l i).1 < tick ∧ (chgN ls l i).2.1 = at_ then (chgN ls l i).2.2 else 0 := rfl
   have hl1 := hle i (by omega)
   have hl2 := hle (i + 1) (by omega)
   rw [hstep] at hl2 ⊢
   generalize chgN ls l i = x at *
   have d0 : ¬ id = 0 := by omega
   have d3 : ¬ id = M2 := by omega
   have e0 : ¬ 0 = M2 := by omega
   have f0 : ¬ 0 = id := by omega
   have f3 : ¬ M2 = id := by omega
   have hkeep2 : ∀ (o1 o2 o3 o4 : IObj), Keep 1 ⟨ob2, M2⟩ ⟨updO (updO (updO (updO ob2 M2 (some o1)) M2 (some o2)) id (some o3)) 0 (some o4), M2 + 1⟩ := fun o1 o2 o3 o4 => ⟨by simp, fun x h1 h2 h3 => by
    dsimp only at h2 h3 ⊢
    have n1 : x ≠ M2 := by omega
    have n2 : x ≠ id := fun e => h3 lr (by rw [e]; exact hlp)
    have n3 : x ≠ 0 := by omega
    simp [updO, n1, n2, n3]⟩
   have hkeep : ∀ (o1 o2 o3 : IObj), Keep 1 ⟨ob2, M2⟩ ⟨updO (updO (updO ob2 M2 (some o1)) M2 (some o2)) id (some o3), M2 + 1⟩ := fun o1 o2 o3 => ⟨by simp, fun x h1 h2 h3 => by
    dsimp only at h2 h3 ⊢
    have n1 : x ≠ M2 := by omega
    have n2 : x ≠ id := fun e => h3 lr (by rw [e]; exact hlp)
    simp [updO, n1, n2]⟩
   by_cases c1 : x.1 < tick
   ·by_cases c2 : x.2.1 = at_
    ·rw [if_pos ⟨c1, c2⟩] at hl2 ⊢
     have hw : IntKind.i64.wrap (c + hyT ls l at_ tick i + x.2.2) = c + (hyT ls l at_ tick i + x.2.2) := by rw [wrap64 (by omega) (by omega)]; omega
     simp +contextual (maxSteps := 4000000) only [↓bdD, bdP, Nat.reduceLT, Nat.reduceBEq, Nat.reduceAdd, Nat.reduceLeDiff, Int.reduceLT, Int.reduceLE, Int.reduceToNat, Store.new, Store.set, ↓reduceIte, nth_its, pur_its, nth_arcs, pur_arcs, nth_snds, pur_snds, nth_lnks, pur_lnks, lkC_len, lkC_0, lkC_1, lkC_cap, lkC_pri, lkC_take, pur_lkC, Nat.mul_one, Try.f35, ty3, ty94, hlp, h8, h9, h11, a0, d0, d3, e0, f0, f3, roundA, roundB, c1, c2, hw]
     exact fun rb => ⟨by omega, by omega, hkeep2 _ _ _ _⟩
    ·rw [if_neg (fun h => c2 h.2), Int.add_zero] at hl2 ⊢
     simp +contextual (maxSteps := 4000000) only [↓bdD, bdP, Nat.reduceLT, Nat.reduceBEq, Nat.reduceAdd, Int.reduceLT, Int.reduceToNat, Store.new, Store.set, ↓reduceIte, nth_its, pur_its, nth_arcs, pur_arcs, nth_snds, pur_snds, nth_lnks, pur_lnks, lkC_len, lkC_0, lkC_1, lkC_cap, lkC_pri, lkC_take, pur_lkC, Nat.mul_one, Try.f35, ty3, ty94, hlp, h8, h9, h11, a0, d0, d3, e0, f0, f3, roundA, roundB, c1, c2]
     exact fun rb => ⟨by omega, by omega, hkeep _ _ _⟩
   ·rw [if_neg (fun h => c1 h.1), Int.add_zero] at hl2 ⊢
    simp +contextual (maxSteps := 4000000) only [↓bdD, bdP, Nat.reduceLT, Nat.reduceBEq, Nat.reduceAdd, Store.new, Store.set, ↓reduceIte, nth_its, pur_its, nth_arcs, pur_arcs, nth_snds, pur_snds, nth_lnks, pur_lnks, lkC_len, lkC_0, lkC_1, lkC_cap, lkC_pri, lkC_take, pur_lkC, Nat.mul_one, Try.f35, ty3, ty94, hlp, h8, h9, h11, a0, d0, d3, e0, f0, f3, roundA, roundB, c1]
    exact fun rb => ⟨by omega, by omega, hkeep _ _ _⟩
  ·rintro ⟨ob2, M2⟩ ⟨a0, a1⟩
   dsimp only at a0 a1
   rw [ys_len, hr2] at a0
   simp +contextual (maxSteps := 4000000) only [↓bdD, bdP, Nat.reduceLT, endQ, Nat.reduceAdd, ↓reduceIte, nth_its, pur_its, nth_arcs, pur_arcs, nth_snds, pur_snds, nth_lnks, pur_lnks, lkC_len, lkC_0, lkC_1, lkC_cap, lkC_pri, lkC_take, pur_lkC, Nat.mul_one, Try.f35, ty3, h11, a0]
  ·rintro i ⟨ob2, M2⟩ h
   exact h.elim
  ·rintro ⟨ob2, M2⟩ h
   exact h.elim
theorem o_stock : O_stock := k_stock c_stock
end Sim
