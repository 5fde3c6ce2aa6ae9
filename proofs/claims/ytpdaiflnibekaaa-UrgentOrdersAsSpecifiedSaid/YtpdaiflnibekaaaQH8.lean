/- UrgentOrdersAsSpecified, for every input: the law returns true and its arguments read as they did. -/
import Derived.Test.YtpdaiflnibekaaaRows
import Derived.Test.YtpdaiflnibekaaaQW
import Derived.Test.YtpdaiflnibekaaaQL8
import Derived.ReadAgain
import Derived.JoinedOf
namespace Go.Proofs.Ytpdaiflnibekaaa
open Go Go.ChangeShapes Go.WideShapes Go.ChangeAt Go.RowKit Sim
set_option linter.unusedVariables false
set_option maxRecDepth 100000 in
theorem lifted4 (os : Os) (started : os.Started) (H : Type) (enc : TypeId × Value → H) :
    ReturnsInHanded {} Try.checked os 4 .any (Rows.urgentOrdersAsSpecifiedSpec.pre6 enc Try.prog Try.f4 Rows.urgentOrdersAsSpecifiedRow.domain false) (Rows.urgentOrdersAsSpecifiedSpec.post enc Try.prog Try.f4 false true false false) := by
  refine returnsInHanded_of_change (C := Try.checked) own20 started (by kernel_rfl) Try.func4
    (ChangeSpec.witness6 (enc := enc) (C := Try.checked) false ⟨#[], #[.agg #[.int .i64 0, .slice Option.none 0 0]], []⟩ 8 (by kernel_rfl) (by kernel_rfl) (by kernel_rfl) (by kernel_rfl)) ?_
  intro W base args ds gs before hval0 hW hcnd _
  have hval : ∀ (j : Nat) t v, Try.f4.params[j]? = some t → args[j]? = some v → Value.okWide Try.prog W .any base t v := hval0
  have hW' := hW
  obtain ⟨p, q, hA0, hV, rfl, hfz, hnd⟩ := hW
  have hA : DataW.TrodAll enc Try.prog W 0 (fun _ => true) true Try.f4.params.toList args.toList ds p := hA0
  rw [Try.params4] at hA hval
  obtain ⟨v0, d0, rfl, rfl, h0⟩ := trodAll_one hA
  obtain ⟨rfl, rfl⟩ := trodVars_none hV
  obtain ⟨st0, rs0, g0⟩ := crew_arg (hval 0 24 v0 rfl rfl) h0
  refine ((c_law8 st0 rs0).2 (full W) W #[v0] (fun _ _ _ h => h) ⟨rfl, fun i p hp => ?_⟩).mono fun e W' ⟨v, he, hfr, hold, hsz, hv⟩ => ?_
  · match i, hp with
    | 0, hp => simp at hp; subst hp; exact g0
    | i + 1, hp => simp at hp
  · subst he
    have e := inv_bool hv
    subst e
    exact ⟨_, rfl, post_keep kids20 wide20 (by rw [Try.params4]; decide +kernel) rfl hW' hfr hold rfl rfl (fun _ _ _ => trodAll_mk1 (shut_bool Try.underlying4 _)) (ok_one (by kernel_rfl) rfl (okWide_bool_mk Try.underlying4 _))⟩
theorem urgentOrdersAsSpecified_holds : Rows.UrgentOrdersAsSpecifiedSaid :=
  OpenClaim.holds_of_wide 4 Try.f4 rfl rfl rfl rfl rfl rfl rfl ⟨rfl, rfl, rfl, rfl, rfl⟩ rfl rfl rfl rfl rfl (by kernel_rfl) Try.func4 (by kernel_rfl)
    (of_decide_eq_true (by kernel_rfl)) (by unfold Func.isWrapper; first | (rw [if_pos (by decide +kernel)]; kernel_rfl) | (rw [if_neg (by decide +kernel)]; exact ⟨rfl, rfl⟩))
    (fun os started H enc _ => lifted4 os started H enc)
end Go.Proofs.Ytpdaiflnibekaaa
