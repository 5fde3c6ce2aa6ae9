/- What functions of this seat compute, by values: contracts (lemmas of the statement's proof, under the conditions that each names). -/
import Derived.Test.YtpdaiflnibekaaaQV
import Derived.Test.YtpdaiflnibekaaaSimW
import Derived.JoinedOf
namespace Sim
open Go Go.ChangeShapes Go.WideShapes Go.ChangeAt Go.RowKit Go.Proofs
set_option linter.unusedVariables false
/-- A struct of four fields that are cells. -/
theorem RdC.struct4 {P : Program} {w : World} {t : TypeId} {f0 f1 f2 f3 : Field} (ht : P.underlying t = some (.struct #[f0, f1, f2, f3])) (hn : P.cellsOf t = 4) (ho : f0.offset = 0 ∧ f1.offset = 1 ∧ f2.offset = 2 ∧ f3.offset = 3)
    (hc : P.cellsOf f0.type = 1 ∧ P.cellsOf f1.type = 1 ∧ P.cellsOf f2.type = 1 ∧ P.cellsOf f3.type = 1) {f : Int → PV} {q : Int → Prop} (h0 : RdC P w f0.type f q) (h1 : RdC P w f1.type f q) (h2 : RdC P w f2.type f q) (h3 : RdC P w f3.type f q) (hfc : ∀ a, (f a).cells = [f a]) :
    RdC P w t (fun a : Int × Int × Int × Int => .agg [f a.1, f a.2.1, f a.2.2.1, f a.2.2.2]) (fun _ => True) := by
  intro H enc bs spare held fuel cs x h
  obtain ⟨xs, n, _, _, hl, hlen, hf⟩ := DataW.trod_struct ht h
  rw [hn] at hl
  match xs, hlen with
  | [y0, y1, y2, y3], _ =>
    have g0 := hf 0 f0 rfl
    have g1 := hf 1 f1 rfl
    have g2 := hf 2 f2 rfl
    have g3 := hf 3 f3 rfl
    rw [ho.1, hc.1] at g0
    rw [ho.2.1, hc.2.1] at g1
    rw [ho.2.2.1, hc.2.2.1] at g2
    rw [ho.2.2.2, hc.2.2.2] at g3
    match cs, hl with
    | [c0, c1, c2, c3], _ =>
      simp only [List.drop_zero, List.take_succ_cons, List.take_zero, List.drop_succ_cons, List.drop_zero, List.getElem?_cons_zero, List.getElem?_cons_succ] at g0 g1 g2 g3
      obtain ⟨a0, _, _, p0, r0⟩ := h0 enc bs spare held n _ _ g0
      obtain ⟨a1, _, _, p1, r1⟩ := h1 enc bs spare held n _ _ g1
      obtain ⟨a2, _, _, p2, r2⟩ := h2 enc bs spare held n _ _ g2
      obtain ⟨a3, _, _, p3, r3⟩ := h3 enc bs spare held n _ _ g3
      refine ⟨(a0, a1, a2, a3), trivial, rfl, fun c hc => ?_, fun j c hj => ?_⟩
      · simp only [PV.cells, List.mem_cons, List.not_mem_nil, or_false] at hc
        rcases hc with rfl | rfl | rfl | rfl
        · exact p0 _ (by rw [hfc]; simp)
        · exact p1 _ (by rw [hfc]; simp)
        · exact p2 _ (by rw [hfc]; simp)
        · exact p3 _ (by rw [hfc]; simp)
      · simp only [PV.cells] at hj
        match j, hj with
        | 0, hj =>
          simp at hj; subst hj
          exact r0 0 _ (by rw [hfc]; rfl)
        | 1, hj =>
          simp at hj; subst hj
          exact r1 0 _ (by rw [hfc]; rfl)
        | 2, hj =>
          simp at hj; subst hj
          exact r2 0 _ (by rw [hfc]; rfl)
        | 3, hj =>
          simp at hj; subst hj
          exact r3 0 _ (by rw [hfc]; rfl)
        | j + 4, hj => simp at hj
/-- An argument that is a struct. -/
theorem RdC.argS {P : Program} {w : World} {t : TypeId} {fs : Array Field} (ht : P.underlying t = some (.struct fs)) {α : Type} {l : α → List PV} {q : α → Prop} (h : RdC P w t (fun a => .agg (l a)) q) {H : Type} {enc : TypeId × Value → H} {bs b0 : Nat} {spare : Nat → Bool} {held : Bool} {v : Value} {d : DataW H} {ps : List MemPlace}
    (hval : Value.okWide P w .any b0 t v) (hd : DataW.Trod enc P w bs spare held t v d ps) : ∃ a, q a ∧ VR (base (full w) w) v (.agg (l a)) := by
  unfold Value.okWide at hval
  rw [ht] at hval
  obtain ⟨cs, rfl, hsz, _⟩ := hval
  obtain ⟨fuel, hd⟩ := hd
  obtain ⟨a, qa, h1, h2, h3⟩ := h enc bs spare held fuel _ _ hd
  refine ⟨a, qa, .agg cs _ ?_ h2 fun i p hp => ?_⟩
  · have h4 : (l a).length = cs.toList.length := h1
    rw [Array.length_toList] at h4; exact h4.symm
  · have := h3 i p hp
    have e : (Value.agg cs).cells.toList.getD i undef = cs.getD i undef := by
      simp [Value.cells, Array.getD_eq_getD_getElem?, List.getD_eq_getElem?_getD]
    rwa [e] at this
theorem RdC.any {P : Program} {w : World} {t : TypeId} {α : Type} {f : α → PV} {q : α → Prop} (h : RdC P w t f q) : RdC P w t f (fun _ => True) := fun enc bs spare held fuel cs x hx => by
  obtain ⟨a, _, h1⟩ := h enc bs spare held fuel cs x hx
  exact ⟨a, trivial, h1⟩
theorem own20 : ownKnob Try.prog.godebug = Option.none := by kernel_rfl
theorem kids20 : Kids Try.prog (· < Try.prog.types.size) := kids_rows (by kernel_rfl) (by kernel_rfl)
theorem wideB20 : ((List.range Try.prog.types.size).all fun t => match Try.prog.underlying t with | some (.slice e) => decide (0 < Try.prog.cellsOf e) | _ => true) = true := by kernel_rfl
theorem wide20 : ∀ t e, t < Try.prog.types.size → Try.prog.underlying t = some (.slice e) → 0 < Try.prog.cellsOf e := fun t e ht hu => by
  have := List.all_eq_true.1 wideB20 t (List.mem_range.2 ht)
  rw [hu] at this
  simpa using this
theorem r3 (W : World) : RdC Try.prog W 3 (fun n : Int => I n) (fun _ => True) := RdC.any (RdC.int Try.underlying3)
theorem r25 (W : World) : RdC Try.prog W 25 (fun l : List Int => ints l) (fun _ => True) := RdC.any (RdC.slice Try.underlying25 (by kernel_rfl) (by decide) (r3 W))
theorem r56 (W : World) : RdC Try.prog W 56 (fun a : Rep => repV a) (fun _ => True) :=
  RdC.struct4 Try.underlying56 (by kernel_rfl) ⟨rfl, rfl, rfl, rfl⟩ ⟨by kernel_rfl, by kernel_rfl, by kernel_rfl, by kernel_rfl⟩ (r3 W) (r3 W) (r3 W) (r3 W) (fun _ => rfl)
theorem r22 (W : World) : RdC Try.prog W 22 (fun l : List Rep => reps l) (fun _ => True) := RdC.any (RdC.slice Try.underlying22 (by kernel_rfl) (by decide) (r56 W))
theorem r24 (W : World) : RdC Try.prog W 24 (fun a : Int × List Rep => .agg [I a.1, reps a.2]) (fun _ => True) :=
  RdC.any (RdC.struct2 Try.underlying24 (by kernel_rfl) ⟨rfl, rfl⟩ ⟨by kernel_rfl, by kernel_rfl⟩ (r3 W) (r22 W) (fun _ => rfl) (fun _ => rfl))
/-- The crew of an argument. -/
theorem crew_arg {W : World} {b0 bs : Nat} {H : Type} {enc : TypeId × Value → H} {spare : Nat → Bool} {held : Bool} {v : Value} {d : DataW H} {ps : List MemPlace} (hval : Value.okWide Try.prog W .any b0 24 v) (hd : DataW.Trod enc Try.prog W bs spare held 24 v d ps) :
    ∃ st rs, VR (base (full W) W) v (.agg [I st, reps rs]) := by
  obtain ⟨a, _, h⟩ := RdC.argS (l := fun a : Int × List Rep => [I a.1, reps a.2]) Try.underlying24 (r24 W) hval hd
  exact ⟨a.1, a.2, h⟩
theorem ints_arg {W : World} {b0 bs : Nat} {H : Type} {enc : TypeId × Value → H} {spare : Nat → Bool} {held : Bool} {v : Value} {d : DataW H} {ps : List MemPlace} (hval : Value.okWide Try.prog W .any b0 25 v) (hd : DataW.Trod enc Try.prog W bs spare held 25 v d ps) :
    ∃ l, VR (base (full W) W) v (ints l) := by
  obtain ⟨a, _, h⟩ := RdC.arg (f := fun l : List Int => ints l) Try.underlying25 (r25 W) (fun _ => rfl) hval hd
  exact ⟨a, h⟩
theorem int_arg {W : World} {b0 : Nat} {v : Value} (hval : Value.okWide Try.prog W .any b0 3 v) : ∃ n, VR (base (full W) W) v (I n) := by
  obtain ⟨n, rfl⟩ := okWide_int Try.underlying3 hval
  exact ⟨n, .int _ _⟩
end Sim
