/- What functions of this seat compute, by values: contracts (lemmas of the statement's proof, under the conditions that each names). -/
import Derived.Test.YtoojbjfofokfjaaQS1
namespace Sim
open Go Go.Proofs Go.Shelf Go.RowKit Go.Lib Go.Sort
set_option linter.unusedVariables false
set_option linter.unusedSimpArgs false
/-- Small ticks and links. -/
def smS (s : Snd) : Prop := (0 ≤ s.2.1 ∧ s.2.1 < 4294967296) ∧ (0 ≤ s.1 ∧ s.1 < 4294967296)
def cfS (x y : Snd) : Int := if x.2.1 = y.2.1 then x.1 - y.1 else x.2.1 - y.2.1
set_option maxHeartbeats 1000000 in
theorem closure38 (x y : Snd) (hx : smS x) (hy : smS y) (W : World) : Calls Try.prog 38 #[.agg #[.int .i64 x.1, .int .i64 x.2.1, .int .i64 x.2.2], .agg #[.int .i64 y.1, .int .i64 y.2.1, .int .i64 y.2.2]] W fun e w' => e = .returned (.int .i64 (cfS x y)) ∧ ∃ q os', w' = grow (W.drewN q) os' := by
  obtain ⟨a, b, c⟩ := x
  obtain ⟨d, e, f⟩ := y
  obtain ⟨⟨h1, h2⟩, h3, h4⟩ := hx
  obtain ⟨⟨h5, h6⟩, h7, h8⟩ := hy
  dsimp only at *
  have hw : RowKit.wrap64 (b - e) = b - e := by unfold RowKit.wrap64; omega
  have hw2 : RowKit.wrap64 (a - d) = a - d := by unfold RowKit.wrap64; omega
  go_enter Try.func38, Try.ntmps38
  go_wp2
  · rename_i hne
    have hne : ¬ b = e := by simpa using hne
    go_ret
    exact ⟨by simp [cfS, hne, hw], 0, _, by rw [alloc_eq_grow, alloc_eq_grow, grow_grow]; rfl⟩
  · rename_i hne
    have hne : b = e := by simpa using hne
    go_ret
    exact ⟨by simp [cfS, hne], 0, _, by rw [alloc_eq_grow, alloc_eq_grow, grow_grow]; rfl⟩
/-- Sends whose bytes follow from the link and the tick. -/
abbrev FSnd (F : Int → Int → Int) := {s : Snd // smS s ∧ s.2.2 = F s.1 s.2.1}
instance {F : Int → Int → Int} : Inhabited (FSnd F) := ⟨⟨(0, 0, F 0 0), by simp [smS], rfl⟩⟩
def leS (x y : Snd) : Bool := !decide (cfS y x < 0)
def keysD (d : List Snd) : Prop := d.Pairwise fun x y => ¬ (x.1 = y.1 ∧ x.2.1 = y.2.1)
def FofD (d : List Snd) (a b : Int) : Int := ((d.find? fun s => decide (s.1 = a ∧ s.2.1 = b)).map (·.2.2)).getD 0
theorem fofD : ∀ {d : List Snd}, keysD d → ∀ x ∈ d, x.2.2 = FofD d x.1 x.2.1
  | [], _, x, hx => by simp at hx
  | y :: d, h, x, hx => by
    unfold keysD at h
    rw [List.pairwise_cons] at h
    rcases List.mem_cons.1 hx with rfl | hx
    · simp [FofD]
    · have h1 := h.1 x hx
      have := fofD (d := d) h.2 x hx
      unfold FofD at this ⊢
      rw [List.find?_cons_of_neg (by simpa using h1)]
      exact this
noncomputable def A_sort : List Snd → List PV := fun d => d.map sndV
noncomputable def R_sort : List Snd → List PV := fun d => (d.mergeSort leS).map sndV
def H_sort : List Snd → Prop := fun d => d.length ≤ 1000000 ∧ (∀ x ∈ d, smS x) ∧ keysD d
noncomputable def e_sort : Nat × Ent := (37, .s 3 38 (specOf A_sort R_sort H_sort))
theorem j_sort : ∀ i j, A_sort i = A_sort j → i = j := by
  intro i j h
  simp only [A_sort, inj_snds] at h
  exact h
theorem s_sort (d : List Snd) : specOf A_sort R_sort H_sort (d.map sndV) = @ite _ (d.length ≤ 1000000 ∧ (∀ x ∈ d, smS x) ∧ keysD d) (Classical.propDecidable _) (some ((d.mergeSort leS).map sndV)) none := specOf_if j_sort d
def O_sort : Prop := EntOK Try.prog e_sort.1 e_sort.2
theorem o_sort : O_sort := by
  refine specOf_okS ⟨_, rfl, rfl, by kernel_rfl⟩ (vcs0_of Try.sortSnd) ?_
  rintro d ⟨hlen, hsm, hkey⟩
  have hF := fofD hkey
  generalize FofD d = F at hF
  obtain ⟨d', rfl⟩ : ∃ d' : List (FSnd F), d'.map Subtype.val = d := ⟨d.attach.map fun x => ⟨x.1, hsm x.1 x.2, hF x.1 x.2⟩, by rw [List.map_map]; exact List.attach_map_subtype_val d⟩
  have key := vcs_of (α := FSnd F) Try.sortSnd (z := 3) (by decide) (by intro w; kernel_rfl) (by intro w; kernel_rfl) (fun x => [I x.1.1, I x.1.2.1, I x.1.2.2]) (fun _ => rfl) (fun x c hc => by
      simp at hc; rcases hc with rfl | rfl | rfl <;> rfl) (fun x y => cfS x.1 y.1)
    ⟨fun x => by simp [ltOf, cfS], fun x y z => by
      obtain ⟨x, _⟩ := x; obtain ⟨y, _⟩ := y; obtain ⟨z, _⟩ := z
      simp only [ltOf, cfS, decide_eq_true_eq]; split <;> split <;> split <;> omega, fun x y z => by
      obtain ⟨x, _⟩ := x; obtain ⟨y, _⟩ := y; obtain ⟨z, _⟩ := z
      simp only [ltOf, cfS, decide_eq_false_iff_not]; split <;> split <;> split <;> omega⟩
    (fun x y h1 h2 => by
      obtain ⟨⟨a, b, c⟩, _, hx⟩ := x; obtain ⟨⟨d, e, f⟩, _, hy⟩ := y
      simp only [ltOf, cfS, decide_eq_false_iff_not] at h1 h2 hx hy
      have e1 : b = e := by split at h1 <;> split at h2 <;> omega
      have e2 : a = d := by subst e1; simp at h1 h2; omega
      subst e1; subst e2; subst hx; subst hy; rfl)
    38 (fun args w => run_callFunc ⟨_, rfl, rfl, by kernel_rfl⟩) (fun x y W => closure38 x.1 y.1 x.2.1 y.2.1 W) d' (by simp at hlen; omega)
  have e1 : (d'.map Subtype.val).map sndV = d'.map fun x => PV.agg [I x.1.1, I x.1.2.1, I x.1.2.2] := by rw [List.map_map]; rfl
  have e2 : ((d'.map Subtype.val).mergeSort leS).map sndV = (d'.mergeSort fun x y => !(ltOf fun x y : FSnd F => cfS x.1 y.1) y x).map fun x => PV.agg [I x.1.1, I x.1.2.1, I x.1.2.2] := by
    rw [← List.map_mergeSort (r := fun x y : FSnd F => !(ltOf fun x y : FSnd F => cfS x.1 y.1) y x) (fun a _ b _ => rfl), List.map_map]; rfl
  show VCS Try.prog 37 38 3 _ _
  unfold A_sort R_sort
  rw [e1, e2]
  exact key
end Sim
