/- What functions of this seat compute, by values: contracts (lemmas of the statement's proof, under the conditions that each names). -/
import Derived.Test.YtpdaiflnibekaaaQW
import Derived.Test.YtpdaiflnibekaaaQL14
import Derived.OpenShut
namespace Sim
open Go Go.ChangeShapes Go.WideShapes Go.ChangeAt Go.RowKit Go.Proofs
set_option linter.unusedVariables false
set_option linter.unusedSimpArgs false
/-- An array of three elements that are cells. -/
theorem RdC.array3 {P : Program} {w : World} {t e : TypeId} (ht : P.underlying t = some (.array 3 e)) (hn : P.cellsOf t = 3) (hc : P.cellsOf e = 1) {f : Int → PV} {q : Int → Prop} (h0 : RdC P w e f q) (hfc : ∀ a, (f a).cells = [f a]) :
    RdC P w t (fun a : Int × Int × Int => .agg [f a.1, f a.2.1, f a.2.2]) (fun a => q a.1 ∧ q a.2.1 ∧ q a.2.2) := by
  intro H enc bs spare held fuel cs x h
  obtain ⟨xs, n, _, _, hl, hlen, hf⟩ := DataW.trod_array ht h
  rw [hn] at hl
  match xs, hlen with
  | [y0, y1, y2], _ =>
    have g0 := hf 0 (by omega)
    have g1 := hf 1 (by omega)
    have g2 := hf 2 (by omega)
    rw [hc] at g0 g1 g2
    match cs, hl with
    | [c0, c1, c2], _ =>
      simp only [Nat.zero_mul, Nat.one_mul, Nat.mul_one, List.drop_zero, List.take_succ_cons, List.take_zero, List.drop_succ_cons, List.drop_zero, List.getElem?_cons_zero, List.getElem?_cons_succ] at g0 g1 g2
      obtain ⟨a0, q0, _, p0, r0⟩ := h0 enc bs spare held n _ _ g0
      obtain ⟨a1, q1, _, p1, r1⟩ := h0 enc bs spare held n _ _ g1
      obtain ⟨a2, q2, _, p2, r2⟩ := h0 enc bs spare held n _ _ g2
      refine ⟨(a0, a1, a2), ⟨q0, q1, q2⟩, rfl, fun c hc => ?_, fun j c hj => ?_⟩
      · simp only [PV.cells, List.mem_cons, List.not_mem_nil, or_false] at hc
        rcases hc with rfl | rfl | rfl
        · exact p0 _ (by rw [hfc]; simp)
        · exact p1 _ (by rw [hfc]; simp)
        · exact p2 _ (by rw [hfc]; simp)
      · simp only [PV.cells] at hj
        match j, hj with
        | 0, hj =>
          simp at hj; subst hj
          exact r0 0 _ (by rw [hfc]; rfl)
        | 1, hj =>
          simp at hj; subst hj
          exact r1 0 _ (by rw [hfc]; rfl)
        | 2, hj =>
          simp at hj; subst hj
          exact r2 0 _ (by rw [hfc]; rfl)
        | j + 3, hj => simp at hj
theorem r59 (W : World) : RdC Try.prog W 59 (fun a : Mr => moreV a) (fun a => (Lit.int .u16 a.1).wf = true ∧ (Lit.int .u16 a.2.1).wf = true ∧ (Lit.int .u16 a.2.2).wf = true) :=
  RdC.array3 Try.underlying59 (by kernel_rfl) (by kernel_rfl) (RdC.int Try.underlying58) (fun _ => rfl)
theorem r57 (W : World) : RdC Try.prog W 57 (fun l : List Mr => mores l) (fun l => ∀ a ∈ l, (Lit.int .u16 a.1).wf = true ∧ (Lit.int .u16 a.2.1).wf = true ∧ (Lit.int .u16 a.2.2).wf = true) := RdC.slice Try.underlying57 (by kernel_rfl) (by decide) (r59 W)
theorem wf_u16 {n : Int} (h : (Lit.int .u16 n).wf = true) : 0 ≤ n ∧ n < 65536 := by
  simp [Lit.wf, IntKind.min, IntKind.max, IntKind.signed, IntKind.bits] at h
  omega
theorem more_arg {W : World} {b0 bs : Nat} {H : Type} {enc : TypeId × Value → H} {spare : Nat → Bool} {held : Bool} {v : Value} {d : DataW H} {ps : List MemPlace} (hval : Value.okWide Try.prog W .any b0 57 v) (hd : DataW.Trod enc Try.prog W bs spare held 57 v d ps) :
    ∃ l, (∀ m ∈ l, inM m) ∧ VR (base (full W) W) v (mores l) := by
  obtain ⟨a, qa, h⟩ := RdC.arg (f := fun l : List Mr => mores l) Try.underlying57 (r57 W) (fun _ => rfl) hval hd
  exact ⟨a, fun m hm => ⟨wf_u16 (qa m hm).1, wf_u16 (qa m hm).2.1, wf_u16 (qa m hm).2.2⟩, h⟩
end Sim
