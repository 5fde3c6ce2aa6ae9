/- What functions of this seat compute, by values: contracts (lemmas of the statement's proof, under the conditions that each names). -/
import Derived.Test.YtpaaaaijebdphaaQA
import Derived.Test.YtpaaaaijebdphaaSimQ
import Derived.Shelf.SlSortCmp.NoneTotal
import Derived.Shelf.Lay
import Derived.Ground.SlsfProg
import Derived.LoopN
namespace Sim
open Go Go.Proofs Go.Shelf Go.RowKit Go.Lib Go.Sort
shelf_lay_g SlLaysF0.n6 Slsf 6 at Try 31 as Try.sortGap
end Sim

namespace Sim
open Go Go.Proofs Go.Shelf Go.RowKit Go.Lib Go.Sort
set_option maxRecDepth 20000
set_option linter.unusedVariables false
set_option linter.unusedSimpArgs false
def cmpI (x y : Int) : Int := if x < y then -1 else if y < x then 1 else 0
def cmp3 (a b c d e f : Int) : Int := if cmpI a d ≠ 0 then cmpI a d else if cmpI b e ≠ 0 then cmpI b e else cmpI c f
theorem cmp3_lt {a b c d e f : Int} (h : a < d ∨ (a = d ∧ (b < e ∨ (b = e ∧ c < f)))) : cmp3 a b c d e f = -1 := by
  unfold cmp3 cmpI
  repeat' split
  all_goals omega
theorem cmp3_gt {a b c d e f : Int} (h : d < a ∨ (a = d ∧ (e < b ∨ (b = e ∧ f < c)))) : cmp3 a b c d e f = 1 := by
  unfold cmp3 cmpI
  repeat' split
  all_goals omega
theorem cmp3_eq {a b c d e f : Int} (h : a = d ∧ b = e ∧ c = f) : cmp3 a b c d e f = 0 := by
  unfold cmp3 cmpI
  repeat' split
  all_goals omega
set_option maxHeartbeats 4000000 in
theorem closure32 (x y : Gap) (W : World) : Calls Try.prog 32 #[.agg #[.int .i64 x.1, .int .i64 x.2.1, .int .i64 x.2.2.1, .int .i64 x.2.2.2.1, .int .i64 x.2.2.2.2], .agg #[.int .i64 y.1, .int .i64 y.2.1, .int .i64 y.2.2.1, .int .i64 y.2.2.2.1, .int .i64 y.2.2.2.2]] W fun e w' => e = .returned (.int .i64 (cmp3 x.1 x.2.1 x.2.2.1 y.1 y.2.1 y.2.2.1)) ∧ ∃ q os', w' = grow (W.drewN q) os' := by
  obtain ⟨a, b, c, x4, x5⟩ := x
  obtain ⟨d, e, f, y4, y5⟩ := y
  dsimp only at *
  go_enter Try.func32, Try.ntmps32
  go_wp2
  refine wp_loop_rounds 4 ?_
  repeat any_goals (rw [rounds_succ]; go_wp2)
  all_goals go_ret
  all_goals refine ⟨?_, 0, _, by (repeat rw [alloc_eq_grow]); (repeat rw [grow_grow]); rfl⟩
  all_goals first
    | (show Ending.returned (.int .i64 (-1)) = _; rw [cmp3_lt (by omega)])
    | (show Ending.returned (.int .i64 1) = _; rw [cmp3_gt (by omega)])
    | (show Ending.returned (.int .i64 0) = _; rw [cmp3_eq (by omega)])
/-- Gaps whose sums follow from the accounts and the reason. -/
abbrev FGap (F : Int → Int → Int → Int × Int) := {g : Gap // g.2.2.2 = F g.1 g.2.1 g.2.2.1}
instance {F : Int → Int → Int → Int × Int} : Inhabited (FGap F) := ⟨⟨(0, 0, 0, F 0 0 0), rfl⟩⟩
def cfG (x y : Gap) : Int := cmp3 x.1 x.2.1 x.2.2.1 y.1 y.2.1 y.2.2.1
theorem cfG_lt {x y : Gap} : cfG x y < 0 ↔ (x.1 < y.1 ∨ (x.1 = y.1 ∧ (x.2.1 < y.2.1 ∨ (x.2.1 = y.2.1 ∧ x.2.2.1 < y.2.2.1)))) := by
  unfold cfG
  constructor
  · intro h
    apply Classical.byContradiction
    intro hc
    by_cases g : y.1 < x.1 ∨ (x.1 = y.1 ∧ (y.2.1 < x.2.1 ∨ (x.2.1 = y.2.1 ∧ y.2.2.1 < x.2.2.1)))
    · rw [cmp3_gt g] at h; omega
    · rw [cmp3_eq (by omega)] at h; omega
  · intro h
    rw [cmp3_lt h]; omega
def leG (x y : Gap) : Bool := !decide (cfG y x < 0)
theorem leG_iff {x y : Gap} : leG x y = true ↔ x.1 < y.1 ∨ (x.1 = y.1 ∧ (x.2.1 < y.2.1 ∨ (x.2.1 = y.2.1 ∧ x.2.2.1 ≤ y.2.2.1))) := by
  have h : leG x y = true ↔ ¬ cfG y x < 0 := by simp [leG]
  rw [h, cfG_lt]
  omega
def keysG (d : List Gap) : Prop := d.Pairwise fun x y => ¬ (x.1 = y.1 ∧ x.2.1 = y.2.1 ∧ x.2.2.1 = y.2.2.1)
def FofG (d : List Gap) (a b c : Int) : Int × Int := ((d.find? fun s => decide (s.1 = a ∧ s.2.1 = b ∧ s.2.2.1 = c)).map (·.2.2.2)).getD (0, 0)
theorem fofG : ∀ {d : List Gap}, keysG d → ∀ x ∈ d, x.2.2.2 = FofG d x.1 x.2.1 x.2.2.1
  | [], _, x, hx => by simp at hx
  | y :: d, h, x, hx => by
    unfold keysG at h
    rw [List.pairwise_cons] at h
    rcases List.mem_cons.1 hx with rfl | hx
    · simp [FofG]
    · have h1 := h.1 x hx
      have := fofG (d := d) h.2 x hx
      unfold FofG at this ⊢
      rw [List.find?_cons_of_neg (by simpa using h1)]
      exact this
noncomputable def A_sort : List Gap → List PV := fun d => d.map gapV
noncomputable def R_sort : List Gap → List PV := fun d => (d.mergeSort leG).map gapV
def H_sort : List Gap → Prop := fun d => d.length ≤ 1000000 ∧ keysG d
noncomputable def e_sort : Nat × Ent := (31, .s 5 32 (specOf A_sort R_sort H_sort))
theorem j_sort : ∀ i j, A_sort i = A_sort j → i = j := by
  intro i j h
  simp only [A_sort, inj_gaps] at h
  exact h
theorem s_sort (d : List Gap) : specOf A_sort R_sort H_sort (d.map gapV) = @ite _ (d.length ≤ 1000000 ∧ keysG d) (Classical.propDecidable _) (some ((d.mergeSort leG).map gapV)) none := specOf_if j_sort d
def O_sort : Prop := EntOK Try.prog e_sort.1 e_sort.2
theorem o_sort : O_sort := by
  refine specOf_okS ⟨_, rfl, rfl, by kernel_rfl⟩ (vcs0_of Try.sortGap) ?_
  rintro d ⟨hlen, hkey⟩
  have hF := fofG hkey
  generalize FofG d = F at hF
  obtain ⟨d', rfl⟩ : ∃ d' : List (FGap F), d'.map Subtype.val = d := ⟨d.attach.map fun x => ⟨x.1, hF x.1 x.2⟩, by rw [List.map_map]; exact List.attach_map_subtype_val d⟩
  have key := vcs_of (α := FGap F) Try.sortGap (z := 5) (by decide) (by intro w; kernel_rfl) (by intro w; kernel_rfl) (fun x => [I x.1.1, I x.1.2.1, I x.1.2.2.1, I x.1.2.2.2.1, I x.1.2.2.2.2]) (fun _ => rfl) (fun x c hc => by
      simp at hc; rcases hc with rfl | rfl | rfl | rfl | rfl <;> rfl) (fun x y => cfG x.1 y.1)
    ⟨fun x => by simp only [ltOf, decide_eq_false_iff_not, cfG_lt]; omega, fun x y z => by
      simp only [ltOf, decide_eq_true_eq, cfG_lt]; omega, fun x y z => by
      simp only [ltOf, decide_eq_false_iff_not, cfG_lt]; omega⟩
    (fun x y h1 h2 => by
      obtain ⟨⟨a, b, c, u⟩, hx⟩ := x; obtain ⟨⟨d, e, f, v⟩, hy⟩ := y
      simp only [ltOf, decide_eq_false_iff_not, cfG_lt] at h1 h2
      have e1 : a = d := by omega
      have e2 : b = e := by omega
      have e3 : c = f := by omega
      dsimp only at hx hy
      subst e1; subst e2; subst e3; subst hx; subst hy; rfl)
    32 (fun args w => run_callFunc ⟨_, rfl, rfl, by kernel_rfl⟩) (fun x y W => closure32 x.1 y.1 W) d' (by simp at hlen; omega)
  have e1 : (d'.map Subtype.val).map gapV = d'.map fun x => PV.agg [I x.1.1, I x.1.2.1, I x.1.2.2.1, I x.1.2.2.2.1, I x.1.2.2.2.2] := by rw [List.map_map]; rfl
  have e2 : ((d'.map Subtype.val).mergeSort leG).map gapV = (d'.mergeSort fun x y => !(ltOf fun x y : FGap F => cfG x.1 y.1) y x).map fun x => PV.agg [I x.1.1, I x.1.2.1, I x.1.2.2.1, I x.1.2.2.2.1, I x.1.2.2.2.2] := by
    rw [← List.map_mergeSort (r := fun x y : FGap F => !(ltOf fun x y : FGap F => cfG x.1 y.1) y x) (fun a _ b _ => rfl), List.map_map]; rfl
  show VCS Try.prog 31 32 5 _ _
  unfold A_sort R_sort
  rw [e1, e2]
  exact key
end Sim
