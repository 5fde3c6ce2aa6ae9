/- VerdictIsMonotone, for every input: the law returns true and its arguments read as they did. -/
import Derived.Test.YtambiicgncaaoaaRows
import Derived.Test.YtambiicgncaaoaaSimW
import Derived.Test.YtambiicgncaaoaaQX
import Derived.ReadAgain
import Derived.JoinedOf
import Derived.Carry
import Derived.WideKeyPair
namespace Go.Proofs.Ytambiicgncaaoaa
open Go Go.ChangeShapes Go.WideShapes Go.ChangeAt Go.RowKit Sim
set_option linter.unusedVariables false
theorem own : ownKnob Try.prog.godebug = Option.none := by kernel_rfl
theorem kids : Kids Try.prog (· < Try.prog.types.size) := kids_rows (by kernel_rfl) (by kernel_rfl)
theorem wideB : ((List.range Try.prog.types.size).all fun t => match Try.prog.underlying t with | some (.slice e) => decide (0 < Try.prog.cellsOf e) | _ => true) = true := by kernel_rfl
theorem wide : ∀ t e, t < Try.prog.types.size → Try.prog.underlying t = some (.slice e) → 0 < Try.prog.cellsOf e := fun t e ht hu => by
  have := List.all_eq_true.1 wideB t (List.mem_range.2 ht)
  rw [hu] at this
  simpa using this
set_option maxRecDepth 100000 in
theorem lifted5 (os : Os) (started : os.Started) (H : Type) (enc : TypeId × Value → H) :
    ReturnsInHanded {} Try.checked os 5 .any (Rows.verdictIsMonotoneSpec.pre6 enc Try.prog Try.f5 Rows.verdictIsMonotoneRow.domain false) (Rows.verdictIsMonotoneSpec.post enc Try.prog Try.f5 false true false false) := by
  refine returnsInHanded_of_change (C := Try.checked) own started (by kernel_rfl) Try.func5
    (ChangeSpec.witness6 (enc := enc) (C := Try.checked) false ⟨#[], #[.int .u8 0, .agg #[.int .u8 0, .int .u8 0], .int .u16 0], []⟩ 8 (by kernel_rfl) (by kernel_rfl) (by kernel_rfl) (by kernel_rfl)) ?_
  intro W base args ds gs before hval0 hW hcnd _
  have hval : ∀ (j : Nat) t v, Try.f5.params[j]? = some t → args[j]? = some v → Value.okWide Try.prog W .any base t v := hval0
  have hW' := hW
  obtain ⟨p, q, hA0, hV, rfl, hfz, hnd⟩ := hW
  have hA : DataW.TrodAll enc Try.prog W 0 (fun _ => true) true Try.f5.params.toList args.toList ds p := hA0
  rw [Try.params5] at hA hval
  obtain ⟨v0, v1, v2, d0, d1, d2, p0, p1, p2, rfl, rfl, rfl, h0, h1, h2⟩ := trodAll_three hA
  obtain ⟨rfl, rfl⟩ := trodVars_none hV
  obtain ⟨x, rfl, _, _, w0⟩ := open_int Try.underlying5 (hval 0 5 v0 rfl rfl) h0
  obtain ⟨y, z, rfl, _, _, w1, w2⟩ := Go.WideMaps.open_pair (P := Try.prog) (k := 49) (e := 5) ⟨Try.underlying49, by kernel_rfl, by kernel_rfl, by kernel_rfl⟩ Try.underlying5 (hval 1 49 v1 rfl rfl) h1
  obtain ⟨w, rfl, _, _, w3⟩ := open_int Try.underlying45 (hval 2 45 v2 rfl rfl) h2
  have w0' : 0 ≤ x ∧ x ≤ 255 := by simpa [Lit.wf, IntKind.min, IntKind.max, IntKind.signed, IntKind.bits] using w0
  have w1' : 0 ≤ y ∧ y ≤ 255 := by simpa [Lit.wf, IntKind.min, IntKind.max, IntKind.signed, IntKind.bits] using w1
  have w2' : 0 ≤ z ∧ z ≤ 255 := by simpa [Lit.wf, IntKind.min, IntKind.max, IntKind.signed, IntKind.bits] using w2
  have w3' : 0 ≤ w ∧ w ≤ 65535 := by simpa [Lit.wf, IntKind.min, IntKind.max, IntKind.signed, IntKind.bits] using w3
  obtain ⟨x, rfl⟩ := Int.eq_ofNat_of_zero_le w0'.1
  obtain ⟨y, rfl⟩ := Int.eq_ofNat_of_zero_le w1'.1
  obtain ⟨z, rfl⟩ := Int.eq_ofNat_of_zero_le w2'.1
  obtain ⟨w, rfl⟩ := Int.eq_ofNat_of_zero_le w3'.1
  refine ((c_lawM x y z w ⟨by omega, by omega, by omega, by omega⟩).2 (full W) W #[.int .u8 x, .agg #[.int .u8 y, .int .u8 z], .int .u16 w] (fun _ _ _ h => h) ⟨rfl, fun i p hp => ?_⟩).mono fun e W' ⟨v, he, hfr, hold, hsz, hv⟩ => ?_
  · match i, hp with
    | 0, hp => simp at hp; subst hp; exact .int _ _
    | 1, hp =>
      simp at hp; subst hp
      refine .agg _ _ rfl (by simp [PV.isCell]) fun j p hp => ?_
      match j, hp with
      | 0, hp => simp at hp; subst hp; exact .int _ _
      | 1, hp => simp at hp; subst hp; exact .int _ _
      | j + 2, hp => simp at hp
    | 2, hp => simp at hp; subst hp; exact .int _ _
    | i + 3, hp => simp at hp
  · subst he
    have e := inv_bool hv
    subst e
    exact ⟨_, rfl, post_keep kids wide (by rw [Try.params5]; decide +kernel) rfl hW' hfr hold rfl rfl (fun _ _ _ => trodAll_mk1 (shut_bool Try.underlying4 _)) (ok_one (by kernel_rfl) rfl (okWide_bool_mk Try.underlying4 _))⟩
theorem verdictIsMonotone_holds : Rows.VerdictIsMonotoneSaid :=
  OpenClaim.holds_of_wide 5 Try.f5 rfl rfl rfl rfl rfl rfl rfl ⟨rfl, rfl, rfl, rfl, rfl⟩ rfl rfl rfl rfl rfl (by kernel_rfl) Try.func5 (by kernel_rfl)
    (of_decide_eq_true (by kernel_rfl)) (by unfold Func.isWrapper; first | (rw [if_pos (by decide +kernel)]; kernel_rfl) | (rw [if_neg (by decide +kernel)]; exact ⟨rfl, rfl⟩))
    (fun os started H enc _ => lifted5 os started H enc)
end Go.Proofs.Ytambiicgncaaoaa
