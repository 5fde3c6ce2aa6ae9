/- What functions of this seat compute, by values: contracts (lemmas of the statement's proof, under the conditions that each names). -/
import Derived.Test.YtoojbjfofokfjaaQW
namespace Sim
open Go Go.ChangeShapes Go.WideShapes Go.ChangeAt Go.RowKit Go.Proofs
set_option linter.unusedVariables false
set_option linter.unusedSimpArgs false
set_option maxRecDepth 20000
theorem wf_u16 {n : Int} (h : (Lit.int .u16 n).wf = true) : 0 ≤ n ∧ n < 65536 := by
  simp [Lit.wf, IntKind.min, IntKind.max, IntKind.signed, IntKind.bits] at h
  omega
theorem nat_u16 {n : Int} (h : (Lit.int .u16 n).wf = true) : ∃ a : Nat, n = (a : Int) ∧ a < 65536 := by
  have := wf_u16 h
  exact ⟨n.toNat, by omega, by omega⟩
theorem r59 (W : World) : RdC Try.prog W 59 (fun a : Nat × Nat × Nat × Nat => .agg [.int .u16 a.1, .int .u16 a.2.1, .int .u16 a.2.2.1, .int .u16 a.2.2.2]) (fun a => a.1 < 65536 ∧ a.2.1 < 65536 ∧ a.2.2.1 < 65536 ∧ a.2.2.2 < 65536) := by
  have h := @RdC.arrayI Try.prog W 59 _ _ .u16 Try.underlying59 (by kernel_rfl) (by kernel_rfl) Try.underlying54
  refine @RdC.conv Try.prog W 59 (List Int) (Nat × Nat × Nat × Nat) _ _ h _ _ ?_
  rintro l ⟨hl, hw⟩
  match l, hl, hw with
  | [a, b, c, d], _, hw =>
    obtain ⟨a', rfl, ha⟩ := nat_u16 (hw a (by simp))
    obtain ⟨b', rfl, hb⟩ := nat_u16 (hw b (by simp))
    obtain ⟨c', rfl, hc⟩ := nat_u16 (hw c (by simp))
    obtain ⟨d', rfl, hd⟩ := nat_u16 (hw d (by simp))
    exact ⟨(a', b', c', d'), ⟨ha, hb, hc, hd⟩, rfl⟩
theorem r63 (W : World) : RdC Try.prog W 63 (fun a : Nat × Nat => .agg [.int .u16 a.1, .int .u16 a.2]) (fun a => a.1 < 65536 ∧ a.2 < 65536) := by
  have h := @RdC.arrayI Try.prog W 63 _ _ .u16 Try.underlying63 (by kernel_rfl) (by kernel_rfl) Try.underlying54
  refine @RdC.conv Try.prog W 63 (List Int) (Nat × Nat) _ _ h _ _ ?_
  rintro l ⟨hl, hw⟩
  match l, hl, hw with
  | [a, b], _, hw =>
    obtain ⟨a', rfl, ha⟩ := nat_u16 (hw a (by simp))
    obtain ⟨b', rfl, hb⟩ := nat_u16 (hw b (by simp))
    exact ⟨(a', b'), ⟨ha, hb⟩, rfl⟩
theorem r54 (W : World) : RdC Try.prog W 54 (fun a : Nat => .int .u16 a) (fun a => a < 65536) := by
  have h := @RdC.int Try.prog W 54 .u16 Try.underlying54
  refine @RdC.conv Try.prog W 54 Int Nat _ _ h _ _ ?_
  intro a hw
  obtain ⟨a', rfl, ha⟩ := nat_u16 hw
  exact ⟨a', ha, rfl⟩
section
variable {W : World} {b0 bs : Nat} {H : Type} {enc : TypeId × Value → H} {spare : Nat → Bool} {held : Bool} {v : Value} {d : DataW H} {ps : List MemPlace}
theorem four_arg (hval : Value.okWide Try.prog W .any b0 59 v) (hd : DataW.Trod enc Try.prog W bs spare held 59 v d ps) : ∃ a b c e : Nat, (a < 65536 ∧ b < 65536 ∧ c < 65536 ∧ e < 65536) ∧ VR (base (full W) W) v (.agg [.int .u16 a, .int .u16 b, .int .u16 c, .int .u16 e]) := by
  obtain ⟨a, q, h⟩ := RdC.argS (l := fun a : Nat × Nat × Nat × Nat => [.int .u16 a.1, .int .u16 a.2.1, .int .u16 a.2.2.1, .int .u16 a.2.2.2]) (.inr ⟨_, _, Try.underlying59⟩) (r59 W) hval hd
  exact ⟨_, _, _, _, q, h⟩
theorem two_arg (hval : Value.okWide Try.prog W .any b0 63 v) (hd : DataW.Trod enc Try.prog W bs spare held 63 v d ps) : ∃ a b : Nat, (a < 65536 ∧ b < 65536) ∧ VR (base (full W) W) v (.agg [.int .u16 a, .int .u16 b]) := by
  obtain ⟨a, q, h⟩ := RdC.argS (l := fun a : Nat × Nat => [.int .u16 a.1, .int .u16 a.2]) (.inr ⟨_, _, Try.underlying63⟩) (r63 W) hval hd
  exact ⟨_, _, q, h⟩
theorem u16_arg (hval : Value.okWide Try.prog W .any b0 54 v) (hd : DataW.Trod enc Try.prog W bs spare held 54 v d ps) : ∃ a : Nat, a < 65536 ∧ VR (base (full W) W) v (.int .u16 a) := by
  obtain ⟨fuel, hd⟩ := hd
  obtain ⟨a, q, h1, h2, h3⟩ := r54 W enc bs spare held fuel _ _ hd
  obtain ⟨n, rfl⟩ := okWide_int Try.underlying54 hval
  refine ⟨a, q, ?_⟩
  have := h3 0 _ rfl
  simpa [Value.cells] using this
end
end Sim
