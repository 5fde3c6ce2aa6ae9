/- What functions of this seat compute, by values: contracts (lemmas of the statement's proof, under the conditions that each names). -/
import Derived.Test.YtmgklnbhbomlnaaQL
import Derived.Test.YtmgklnbhbomlnaaSimQ
import Derived.Shelf.SlSortCmp.NoneTotal
import Derived.Shelf.Lay
import Derived.Ground.SlsfProg
import Derived.Test.YtmgklnbhbomlnaaQM1
import Derived.LoopN
namespace Sim
open Go Go.Proofs Go.Shelf Go.RowKit Go.Lib Go.Sort
shelf_lay_g SlLaysF0.n6 Slsf 6 at Try 35 as Try.sortKey
end Sim

namespace Sim
open Go Go.Proofs Go.Shelf Go.RowKit Go.Lib Go.Sort
set_option maxRecDepth 20000
set_option linter.unusedVariables false
set_option linter.unusedSimpArgs false
def kcmp (x y : Int) : Int := if x < y then -1 else if y < x then 1 else 0
def cfK (x y : Key) : Int := if kcmp x.1 y.1 ≠ 0 then kcmp x.1 y.1 else if kcmp x.2.1 y.2.1 ≠ 0 then kcmp x.2.1 y.2.1 else kcmp x.2.2 y.2.2
def ltK (x y : Key) : Prop := x.1 < y.1 ∨ (x.1 = y.1 ∧ (x.2.1 < y.2.1 ∨ (x.2.1 = y.2.1 ∧ x.2.2 < y.2.2)))
instance (x y : Key) : Decidable (ltK x y) := by unfold ltK; infer_instance
theorem cfK_lt' {x y : Key} (h : ltK x y) : cfK x y = -1 := by
  unfold ltK at h
  unfold cfK kcmp
  repeat' split
  all_goals omega
theorem cfK_gt' {x y : Key} (h : ltK y x) : cfK x y = 1 := by
  unfold ltK at h
  unfold cfK kcmp
  repeat' split
  all_goals omega
theorem cfK_eq' {x y : Key} (h : x.1 = y.1 ∧ x.2.1 = y.2.1 ∧ x.2.2 = y.2.2) : cfK x y = 0 := by
  unfold cfK kcmp
  repeat' split
  all_goals omega
set_option maxHeartbeats 4000000 in
theorem compare3 (a b c d e f : Int) (g h : Nat) (w : World) (ha : w.cell? ⟨g, 0, none⟩ = some (.int .i64 a)) (hb : w.cell? ⟨g, 1, none⟩ = some (.int .i64 b)) (hc : w.cell? ⟨g, 2, none⟩ = some (.int .i64 c))
    (hd : w.cell? ⟨h, 0, none⟩ = some (.int .i64 d)) (he : w.cell? ⟨h, 1, none⟩ = some (.int .i64 e)) (hf : w.cell? ⟨h, 2, none⟩ = some (.int .i64 f)) :
    Calls Try.prog 52 #[.slice (some ⟨g, 0, none⟩) 3 3, .slice (some ⟨h, 0, none⟩) 3 3] w fun e' w' => e' = .returned (.int .i64 (cfK (a, b, c) (d, e, f))) ∧ w' = w := by
  go_enter Try.func52, Try.ntmps52
  go_wp2
  refine wp_loop_rounds 4 ?_
  repeat any_goals (rw [rounds_succ]; go_wp2)
  all_goals go_ret
  all_goals refine ⟨?_, rfl⟩
  all_goals first
    | (show Ending.returned (.int .i64 (-1)) = _; rw [cfK_lt' (by unfold ltK; dsimp only; omega)])
    | (show Ending.returned (.int .i64 1) = _; rw [cfK_gt' (by unfold ltK; dsimp only; omega)])
    | (show Ending.returned (.int .i64 0) = _; rw [cfK_eq' (by dsimp only; omega)])
theorem drew2 (W : World) (o1 o2 : Obj) : ((W.alloc o1).alloc o2).drew = grow (W.drewN 1) #[o1, o2] := by
  repeat rw [alloc_eq_grow]
  repeat rw [grow_grow]
  rfl
set_option maxHeartbeats 4000000 in
theorem closureK (x y : Key) (W : World) : Calls Try.prog 33 #[.agg #[.int .i64 x.1, .int .i64 x.2.1, .int .i64 x.2.2], .agg #[.int .i64 y.1, .int .i64 y.2.1, .int .i64 y.2.2]] W fun e w' => e = .returned (.int .i64 (cfK x y)) ∧ ∃ q os', w' = grow (W.drewN q) os' := by
  obtain ⟨a, b, c⟩ := x
  obtain ⟨d, e, f⟩ := y
  dsimp only at *
  go_enter Try.func33, Try.ntmps33
  go_wp2
  go_region_with (go_at_call 52; refine (compare3 a b c d e f _ _ _ ?_ ?_ ?_ ?_ ?_ ?_).mono ?_; (all_goals (try (first | (simp; done) | (simp [go_sem]; done) | (go_simp; done)))); rintro e w' ⟨rfl, rfl⟩)
  all_goals go_wp2
  all_goals go_ret
  all_goals exact ⟨rfl, 1, _, drew2 W _ _⟩
theorem cfK_lt {x y : Key} : cfK x y < 0 ↔ ltK x y := by
  constructor
  · intro h
    apply Classical.byContradiction
    intro hc
    by_cases g : ltK y x
    · rw [cfK_gt' g] at h; omega
    · rw [cfK_eq' (by unfold ltK at hc g; omega)] at h; omega
  · intro h
    rw [cfK_lt' h]; omega
def leK (x y : Key) : Bool := !decide (cfK y x < 0)
theorem leK_iff {x y : Key} : leK x y = true ↔ ¬ ltK y x := by
  have h : leK x y = true ↔ ¬ cfK y x < 0 := by simp [leK]
  rw [h, cfK_lt]
instance : Inhabited Key := ⟨(0, 0, 0)⟩
theorem inj_keys {l m : List Key} : (l.map keyV = m.map keyV) = (l = m) := inj_map fun x y h => by
  simp only [PV.agg.injEq, List.cons.injEq, true_and, and_true, PV.int.injEq] at h
  exact Prod.ext h.1 (Prod.ext h.2.1 h.2.2)
noncomputable def A_sortK : List Key → List PV := fun d => d.map keyV
noncomputable def R_sortK : List Key → List PV := fun d => (d.mergeSort leK).map keyV
def H_sortK : List Key → Prop := fun d => d.length ≤ 1000000
noncomputable def e_sortK : Nat × Ent := (35, .s 3 33 (specOf A_sortK R_sortK H_sortK))
theorem j_sortK : ∀ i j, A_sortK i = A_sortK j → i = j := by
  intro i j h
  simp only [A_sortK, inj_keys] at h
  exact h
theorem s_sortK (d : List Key) : specOf A_sortK R_sortK H_sortK (d.map keyV) = @ite _ (d.length ≤ 1000000) (Classical.propDecidable _) (some ((d.mergeSort leK).map keyV)) none := specOf_if j_sortK d
def O_sortK : Prop := EntOK Try.prog e_sortK.1 e_sortK.2
theorem o_sortK : O_sortK := by
  refine specOf_okS ⟨_, rfl, rfl, by kernel_rfl⟩ (vcs0_of Try.sortKey) ?_
  intro d hlen
  have key := vcs_of (α := Key) Try.sortKey (z := 3) (by decide) (by intro w; kernel_rfl) (by intro w; kernel_rfl) (fun x => [I x.1, I x.2.1, I x.2.2]) (fun _ => rfl) (fun x c hc => by
      simp at hc; rcases hc with rfl | rfl | rfl <;> rfl) cfK
    ⟨fun x => by simp only [ltOf, decide_eq_false_iff_not, cfK_lt, ltK]; omega, fun x y z => by
      simp only [ltOf, decide_eq_true_eq, cfK_lt, ltK]; omega, fun x y z => by
      simp only [ltOf, decide_eq_false_iff_not, cfK_lt, ltK]; omega⟩
    (fun x y h1 h2 => by
      simp only [ltOf, decide_eq_false_iff_not, cfK_lt, ltK] at h1 h2
      exact Prod.ext (by omega) (Prod.ext (by omega) (by omega)))
    33 (fun args w => run_callFunc ⟨_, rfl, rfl, by kernel_rfl⟩) (fun x y W => closureK x y W) d (by unfold H_sortK at hlen; omega)
  exact key
end Sim
