/- TagsBlendAsSpecified, for every input: the law returns true and its arguments read as they did. -/
import Derived.Test.YtkecimhcoljobaaRows
import Derived.Test.YtkecimhcoljobaaSimW
import Derived.Test.YtkecimhcoljobaaQF
import Derived.ReadAgain
import Derived.JoinedOf
namespace Go.Proofs.Ytkecimhcoljobaa
open Go Go.ChangeShapes Go.WideShapes Go.ChangeAt Go.RowKit Sim
set_option linter.unusedVariables false
theorem own : ownKnob Try.prog.godebug = Option.none := by kernel_rfl
theorem kids : Kids Try.prog (· < Try.prog.types.size) := kids_rows (by kernel_rfl) (by kernel_rfl)
theorem wideB : ((List.range Try.prog.types.size).all fun t => match Try.prog.underlying t with | some (.slice e) => decide (0 < Try.prog.cellsOf e) | _ => true) = true := by kernel_rfl
theorem wide : ∀ t e, t < Try.prog.types.size → Try.prog.underlying t = some (.slice e) → 0 < Try.prog.cellsOf e := fun t e ht hu => by
  have := List.all_eq_true.1 wideB t (List.mem_range.2 ht)
  rw [hu] at this
  simpa using this
theorem r22 (W : World) : RdC Try.prog W 22 (fun l : List Int => ints l) (fun l => ∀ n ∈ l, (Lit.int .i64 n).wf = true) := RdC.slice Try.underlying22 (by kernel_rfl) (by decide) (RdC.int Try.underlying3)
theorem r48 (W : World) : RdC Try.prog W 48 (fun l : List (List Int × Int) => anss l) (fun l => ∀ a ∈ l, (∀ n ∈ a.1, (Lit.int .i64 n).wf = true) ∧ (Lit.int .i64 a.2).wf = true) :=
  RdC.slice Try.underlying48 (by kernel_rfl) (by decide) (RdC.struct2 Try.underlying28 (by kernel_rfl) ⟨rfl, rfl⟩ ⟨by kernel_rfl, by kernel_rfl⟩ (r22 W) (RdC.int Try.underlying3) (fun _ => rfl) (fun _ => rfl))
set_option maxRecDepth 100000 in
theorem lifted4 (os : Os) (started : os.Started) (H : Type) (enc : TypeId × Value → H) :
    ReturnsInHanded {} Try.checked os 4 .any (Rows.tagsBlendAsSpecifiedSpec.pre6 enc Try.prog Try.f4 Rows.tagsBlendAsSpecifiedRow.domain false) (Rows.tagsBlendAsSpecifiedSpec.post enc Try.prog Try.f4 false true false false) := by
  refine returnsInHanded_of_change (C := Try.checked) own started (by kernel_rfl) Try.func4
    (ChangeSpec.witness6 (enc := enc) (C := Try.checked) false ⟨#[], #[.slice Option.none 0 0, .slice Option.none 0 0], []⟩ 8 (by kernel_rfl) (by kernel_rfl) (by kernel_rfl) (by kernel_rfl)) ?_
  intro W base args ds gs before hval0 hW hcnd _
  have hval : ∀ (j : Nat) t v, Try.f4.params[j]? = some t → args[j]? = some v → Value.okWide Try.prog W .any base t v := hval0
  have hW' := hW
  obtain ⟨p, q, hA0, hV, rfl, hfz, hnd⟩ := hW
  have hA : DataW.TrodAll enc Try.prog W 0 (fun _ => true) true Try.f4.params.toList args.toList ds p := hA0
  rw [Try.params4] at hA hval
  obtain ⟨v0, v1, d0, d1, p0, p1, rfl, rfl, rfl, h0, h1⟩ := trodAll_two hA
  obtain ⟨rfl, rfl⟩ := trodVars_none hV
  obtain ⟨l, _, hl⟩ := RdC.arg Try.underlying48 (r48 W) (fun _ => rfl) (hval 0 48 v0 rfl rfl) h0
  obtain ⟨y, _, hy⟩ := RdC.arg Try.underlying22 (r22 W) (fun _ => rfl) (hval 1 22 v1 rfl rfl) h1
  refine ((c_law l y).2 (full W) W #[v0, v1] (fun _ _ _ h => h) ⟨rfl, fun i p hp => ?_⟩).mono fun e W' ⟨v, he, hfr, hold, hsz, hv⟩ => ?_
  · match i, hp with
    | 0, hp => simp at hp; subst hp; exact hl
    | 1, hp => simp at hp; subst hp; exact hy
    | i + 2, hp => simp at hp
  · subst he
    have e := inv_bool hv
    subst e
    exact ⟨_, rfl, post_keep kids wide (by rw [Try.params4]; decide +kernel) rfl hW' hfr hold rfl rfl (fun _ _ _ => trodAll_mk1 (shut_bool Try.underlying4 _)) (ok_one (by kernel_rfl) rfl (okWide_bool_mk Try.underlying4 _))⟩
theorem tagsBlendAsSpecified_holds : Rows.TagsBlendAsSpecifiedSaid :=
  OpenClaim.holds_of_wide 4 Try.f4 rfl rfl rfl rfl rfl rfl rfl ⟨rfl, rfl, rfl, rfl, rfl⟩ rfl rfl rfl rfl rfl (by kernel_rfl) Try.func4 (by kernel_rfl)
    (of_decide_eq_true (by kernel_rfl)) (by unfold Func.isWrapper; first | (rw [if_pos (by decide +kernel)]; kernel_rfl) | (rw [if_neg (by decide +kernel)]; exact ⟨rfl, rfl⟩))
    (fun os started H enc _ => lifted4 os started H enc)
end Go.Proofs.Ytkecimhcoljobaa
