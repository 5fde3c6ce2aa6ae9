/- VerdictCountsSets, for every input: the law returns true and its arguments read as they did. -/
import Derived.Test.YtambiicgncaaoaaRows
import Derived.Test.YtambiicgncaaoaaSimW
import Derived.Test.YtambiicgncaaoaaQQ
import Derived.ReadAgain
import Derived.JoinedOf
import Derived.Carry
import Derived.WideKeyPair
namespace Go.Proofs.Ytambiicgncaaoaa
open Go Go.ChangeShapes Go.WideShapes Go.ChangeAt Go.RowKit Sim
set_option linter.unusedVariables false
theorem own : ownKnob Try.prog.godebug = Option.none := by kernel_rfl
theorem kids : Kids Try.prog (· < Try.prog.types.size) := kids_rows (by kernel_rfl) (by kernel_rfl)
theorem wideB : ((List.range Try.prog.types.size).all fun t => match Try.prog.underlying t with | some (.slice e) => decide (0 < Try.prog.cellsOf e) | _ => true) = true := by kernel_rfl
theorem wide : ∀ t e, t < Try.prog.types.size → Try.prog.underlying t = some (.slice e) → 0 < Try.prog.cellsOf e := fun t e ht hu => by
  have := List.all_eq_true.1 wideB t (List.mem_range.2 ht)
  rw [hu] at this
  simpa using this
set_option maxRecDepth 100000 in
theorem lifted4 (os : Os) (started : os.Started) (H : Type) (enc : TypeId × Value → H) :
    ReturnsInHanded {} Try.checked os 4 .any (Rows.verdictCountsSetsSpec.pre6 enc Try.prog Try.f4 Rows.verdictCountsSetsRow.domain false) (Rows.verdictCountsSetsSpec.post enc Try.prog Try.f4 false true false false) := by
  refine returnsInHanded_of_change (C := Try.checked) own started (by kernel_rfl) Try.func4
    (ChangeSpec.witness6 (enc := enc) (C := Try.checked) false ⟨#[], #[.int .u8 0, .int .u16 0, .int .u8 0], []⟩ 8 (by kernel_rfl) (by kernel_rfl) (by kernel_rfl) (by kernel_rfl)) ?_
  intro W base args ds gs before hval0 hW hcnd _
  have hval : ∀ (j : Nat) t v, Try.f4.params[j]? = some t → args[j]? = some v → Value.okWide Try.prog W .any base t v := hval0
  have hW' := hW
  obtain ⟨p, q, hA0, hV, rfl, hfz, hnd⟩ := hW
  have hA : DataW.TrodAll enc Try.prog W 0 (fun _ => true) true Try.f4.params.toList args.toList ds p := hA0
  rw [Try.params4] at hA hval
  obtain ⟨v0, v1, v2, d0, d1, d2, p0, p1, p2, rfl, rfl, rfl, h0, h1, h2⟩ := trodAll_three hA
  obtain ⟨rfl, rfl⟩ := trodVars_none hV
  obtain ⟨x, rfl, _, _, w0⟩ := open_int Try.underlying5 (hval 0 5 v0 rfl rfl) h0
  obtain ⟨y, rfl, _, _, w1⟩ := open_int Try.underlying45 (hval 1 45 v1 rfl rfl) h1
  obtain ⟨z, rfl, _, _, w2⟩ := open_int Try.underlying5 (hval 2 5 v2 rfl rfl) h2
  have w0' : 0 ≤ x ∧ x ≤ 255 := by simpa [Lit.wf, IntKind.min, IntKind.max, IntKind.signed, IntKind.bits] using w0
  have w1' : 0 ≤ y ∧ y ≤ 65535 := by simpa [Lit.wf, IntKind.min, IntKind.max, IntKind.signed, IntKind.bits] using w1
  have w2' : 0 ≤ z ∧ z ≤ 255 := by simpa [Lit.wf, IntKind.min, IntKind.max, IntKind.signed, IntKind.bits] using w2
  obtain ⟨x, rfl⟩ := Int.eq_ofNat_of_zero_le w0'.1
  obtain ⟨y, rfl⟩ := Int.eq_ofNat_of_zero_le w1'.1
  obtain ⟨z, rfl⟩ := Int.eq_ofNat_of_zero_le w2'.1
  refine ((c_lawC x y z ⟨by omega, by omega, by omega⟩).2 (full W) W #[.int .u8 x, .int .u16 y, .int .u8 z] (fun _ _ _ h => h) ⟨rfl, fun i p hp => ?_⟩).mono fun e W' ⟨v, he, hfr, hold, hsz, hv⟩ => ?_
  · match i, hp with
    | 0, hp => simp at hp; subst hp; exact .int _ _
    | 1, hp => simp at hp; subst hp; exact .int _ _
    | 2, hp => simp at hp; subst hp; exact .int _ _
    | i + 3, hp => simp at hp
  · subst he
    have e := inv_bool hv
    subst e
    exact ⟨_, rfl, post_keep kids wide (by rw [Try.params4]; decide +kernel) rfl hW' hfr hold rfl rfl (fun _ _ _ => trodAll_mk1 (shut_bool Try.underlying4 _)) (ok_one (by kernel_rfl) rfl (okWide_bool_mk Try.underlying4 _))⟩
theorem verdictCountsSets_holds : Rows.VerdictCountsSetsSaid :=
  OpenClaim.holds_of_wide 4 Try.f4 rfl rfl rfl rfl rfl rfl rfl ⟨rfl, rfl, rfl, rfl, rfl⟩ rfl rfl rfl rfl rfl (by kernel_rfl) Try.func4 (by kernel_rfl)
    (of_decide_eq_true (by kernel_rfl)) (by unfold Func.isWrapper; first | (rw [if_pos (by decide +kernel)]; kernel_rfl) | (rw [if_neg (by decide +kernel)]; exact ⟨rfl, rfl⟩))
    (fun os started H enc _ => lifted4 os started H enc)
end Go.Proofs.Ytambiicgncaaoaa
