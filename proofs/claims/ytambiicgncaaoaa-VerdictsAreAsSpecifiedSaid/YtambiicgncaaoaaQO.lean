/- VerdictsAreAsSpecified, for every input: the law returns true and its arguments read as they did. -/
import Derived.Test.YtambiicgncaaoaaRows
import Derived.Test.YtambiicgncaaoaaSimW
import Derived.Test.YtambiicgncaaoaaQN
import Derived.ReadAgain
import Derived.JoinedOf
import Derived.Carry
import Derived.WideKeyPair
namespace Go.Proofs.Ytambiicgncaaoaa
open Go Go.ChangeShapes Go.WideShapes Go.ChangeAt Go.RowKit Sim
set_option linter.unusedVariables false
theorem own : ownKnob Try.prog.godebug = Option.none := by kernel_rfl
theorem kids : Kids Try.prog (· < Try.prog.types.size) := kids_rows (by kernel_rfl) (by kernel_rfl)
theorem wideB : ((List.range Try.prog.types.size).all fun t => match Try.prog.underlying t with | some (.slice e) => decide (0 < Try.prog.cellsOf e) | _ => true) = true := by kernel_rfl
theorem wide : ∀ t e, t < Try.prog.types.size → Try.prog.underlying t = some (.slice e) → 0 < Try.prog.cellsOf e := fun t e ht hu => by
  have := List.all_eq_true.1 wideB t (List.mem_range.2 ht)
  rw [hu] at this
  simpa using this
set_option maxRecDepth 100000 in
theorem lifted3 (os : Os) (started : os.Started) (H : Type) (enc : TypeId × Value → H) :
    ReturnsInHanded {} Try.checked os 3 .any (Rows.verdictsAreAsSpecifiedSpec.pre6 enc Try.prog Try.f3 Rows.verdictsAreAsSpecifiedRow.domain false) (Rows.verdictsAreAsSpecifiedSpec.post enc Try.prog Try.f3 false true false false) := by
  refine returnsInHanded_of_change (C := Try.checked) own started (by kernel_rfl) Try.func3
    (ChangeSpec.witness6 (enc := enc) (C := Try.checked) false ⟨#[], #[.int .i64 0, .int .i64 0, .int .i64 0, .agg #[.int .i64 0, .int .i64 0]], []⟩ 8 (by kernel_rfl) (by kernel_rfl) (by kernel_rfl) (by kernel_rfl)) ?_
  intro W base args ds gs before hval0 hW hcnd _
  have hval : ∀ (j : Nat) t v, Try.f3.params[j]? = some t → args[j]? = some v → Value.okWide Try.prog W .any base t v := hval0
  have hW' := hW
  obtain ⟨p, q, hA0, hV, rfl, hfz, hnd⟩ := hW
  have hA : DataW.TrodAll enc Try.prog W 0 (fun _ => true) true Try.f3.params.toList args.toList ds p := hA0
  rw [Try.params3] at hA hval
  obtain ⟨v0, v1, v2, v3, d0, d1, d2, d3, p0, p1, p2, p3, rfl, rfl, rfl, h0, h1, h2, h3⟩ := trodAll_four hA
  obtain ⟨rfl, rfl⟩ := trodVars_none hV
  obtain ⟨n, rfl⟩ := okWide_int Try.underlying3 (hval 0 3 v0 rfl rfl)
  obtain ⟨b, rfl⟩ := okWide_int Try.underlying3 (hval 1 3 v1 rfl rfl)
  obtain ⟨k, rfl⟩ := okWide_int Try.underlying3 (hval 2 3 v2 rfl rfl)
  obtain ⟨y, o, rfl, _, _, w0, w1⟩ := Go.WideMaps.open_pair (P := Try.prog) (k := 22) (e := 3) ⟨Try.underlying22, by kernel_rfl, by kernel_rfl, by kernel_rfl⟩ Try.underlying3 (hval 3 22 v3 rfl rfl) h3
  refine ((c_law n b k y o).2 (full W) W #[.int .i64 n, .int .i64 b, .int .i64 k, .agg #[.int .i64 y, .int .i64 o]] (fun _ _ _ h => h) ⟨rfl, fun i p hp => ?_⟩).mono fun e W' ⟨v, he, hfr, hold, hsz, hv⟩ => ?_
  · match i, hp with
    | 0, hp => simp at hp; subst hp; exact .int _ _
    | 1, hp => simp at hp; subst hp; exact .int _ _
    | 2, hp => simp at hp; subst hp; exact .int _ _
    | 3, hp =>
      simp at hp; subst hp
      refine .agg _ _ rfl (by simp [PV.isCell]) fun j p hp => ?_
      match j, hp with
      | 0, hp => simp at hp; subst hp; exact .int _ _
      | 1, hp => simp at hp; subst hp; exact .int _ _
      | j + 2, hp => simp at hp
    | i + 4, hp => simp at hp
  · subst he
    have e := inv_bool hv
    subst e
    exact ⟨_, rfl, post_keep kids wide (by rw [Try.params3]; decide +kernel) rfl hW' hfr hold rfl rfl (fun _ _ _ => trodAll_mk1 (shut_bool Try.underlying4 _)) (ok_one (by kernel_rfl) rfl (okWide_bool_mk Try.underlying4 _))⟩
theorem verdictsAreAsSpecified_holds : Rows.VerdictsAreAsSpecifiedSaid :=
  OpenClaim.holds_of_wide 3 Try.f3 rfl rfl rfl rfl rfl rfl rfl ⟨rfl, rfl, rfl, rfl, rfl⟩ rfl rfl rfl rfl rfl (by kernel_rfl) Try.func3 (by kernel_rfl)
    (of_decide_eq_true (by kernel_rfl)) (by unfold Func.isWrapper; first | (rw [if_pos (by decide +kernel)]; kernel_rfl) | (rw [if_neg (by decide +kernel)]; exact ⟨rfl, rfl⟩))
    (fun os started H enc _ => lifted3 os started H enc)
end Go.Proofs.Ytambiicgncaaoaa
