/- What functions of this seat compute, by values: contracts (lemmas of the statement's proof, under the conditions that each names). -/
import Derived.Test.YtpaaaaijebdphaaQV
import Derived.Test.YtpaaaaijebdphaaSimY
import Derived.JoinedOf
import Derived.OpenShut
namespace Sim
open Go Go.ChangeShapes Go.WideShapes Go.ChangeAt Go.RowKit Go.Proofs
set_option linter.unusedVariables false
set_option linter.unusedSimpArgs false
set_option maxRecDepth 20000
theorem RdC.conv {P : Program} {w : World} {t : TypeId} {α β : Type} {f : α → PV} {q : α → Prop} (h : RdC P w t f q) (g : β → PV) (q' : β → Prop) (hc : ∀ a, q a → ∃ b, q' b ∧ g b = f a) : RdC P w t g q' := fun enc bs spare held fuel cs x hx => by
  obtain ⟨a, h1, h2⟩ := h enc bs spare held fuel cs x hx
  obtain ⟨b, h3, h4⟩ := hc a h1
  exact ⟨b, h3, by rw [h4]; exact h2⟩
/-- A row of numbers, cell by cell. -/
theorem rowI {P : Program} {w : World} {k : IntKind} {cs : List Value} {n : Nat} (hl : cs.length = n) (h : ∀ i, i < n → ∃ (H : Type) (enc : TypeId × Value → H) (bs : Nat) (spare : Nat → Bool) (held : Bool) (m : Nat) (e : TypeId) (x : DataW H × List MemPlace), P.underlying e = some (.int k) ∧ DataW.trod enc P w bs spare held m e ((cs.drop i).take 1) = some x) :
    ∃ l : List Int, l.length = n ∧ (∀ a ∈ l, (Lit.int k a).wf = true) ∧ (∀ c ∈ l.map (PV.int k), c.isCell = true) ∧ ∀ (j : Nat) (c : PV), (l.map (PV.int k))[j]? = some c → VR (base (full w) w) (cs.getD j undef) c := by
  obtain ⟨l, h1, h2⟩ := exists_list (Q := fun i (a : Int) => (Lit.int k a).wf = true ∧ VR (base (full w) w) (cs.getD i undef) (.int k a)) n fun i hi => by
    obtain ⟨H, enc, bs, spare, held, m, e, x, he, hx⟩ := h i hi
    obtain ⟨a, h1, _, _, h4⟩ := RdC.int he enc bs spare held m _ x hx
    refine ⟨a, h1, ?_⟩
    have := h4 0 _ rfl
    rwa [List.getD_eq_getElem?_getD, List.getElem?_take_of_lt (by omega), List.getElem?_drop, Nat.add_zero, ← List.getD_eq_getElem?_getD] at this
  refine ⟨l, h1, fun a ha => ?_, fun c hc => ?_, fun j c hj => ?_⟩
  · obtain ⟨i, hi, rfl⟩ := List.getElem_of_mem ha
    exact (h2 i hi).1
  · obtain ⟨a, _, rfl⟩ := List.mem_map.1 hc
    rfl
  · rw [List.getElem?_map, Option.map_eq_some_iff] at hj
    obtain ⟨a, ha, rfl⟩ := hj
    obtain ⟨hi, rfl⟩ := List.getElem?_eq_some_iff.1 ha
    exact (h2 j hi).2
theorem RdC.structI {P : Program} {w : World} {t : TypeId} {fs : Array Field} {k : IntKind} (ht : P.underlying t = some (.struct fs)) (hn : P.cellsOf t = fs.size) (hf : ∀ (i : Nat) (f : Field), fs[i]? = some f → f.offset = i ∧ P.cellsOf f.type = 1 ∧ P.underlying f.type = some (.int k)) :
    RdC P w t (fun l : List Int => .agg (l.map (PV.int k))) (fun l => l.length = fs.size ∧ ∀ a ∈ l, (Lit.int k a).wf = true) := by
  intro H enc bs spare held fuel cs x h
  obtain ⟨xs, m, _, _, hl, hlen, hg⟩ := DataW.trod_struct ht h
  rw [hn] at hl
  obtain ⟨l, h1, h2, h3, h4⟩ := rowI (P := P) (w := w) (k := k) hl fun i hi => by
    obtain ⟨f1, f2, f3⟩ := hf i fs[i] (by simp [hi])
    have h5 := hg i fs[i] (by simp [hi])
    rw [f1, f2, List.getElem?_eq_getElem (by omega)] at h5
    exact ⟨H, enc, bs, spare, held, m, _, _, f3, h5⟩
  exact ⟨l, ⟨h1, h2⟩, by simp [PV.cells, h1, hl], h3, h4⟩
/-- An argument that is a struct. -/
theorem RdC.argS {P : Program} {w : World} {t : TypeId} (ht : (∃ fs, P.underlying t = some (.struct fs)) ∨ ∃ n e, P.underlying t = some (.array n e)) {α : Type} {l : α → List PV} {q : α → Prop} (h : RdC P w t (fun a => .agg (l a)) q) {H : Type} {enc : TypeId × Value → H} {bs b0 : Nat} {spare : Nat → Bool} {held : Bool} {v : Value} {d : DataW H} {ps : List MemPlace}
    (hval : Value.okWide P w .any b0 t v) (hd : DataW.Trod enc P w bs spare held t v d ps) : ∃ a, q a ∧ VR (base (full w) w) v (.agg (l a)) := by
  unfold Value.okWide at hval
  have key : ∃ cs, v = .agg cs := by
    rcases ht with ⟨fs, ht⟩ | ⟨n, e, ht⟩
    · rw [ht] at hval; obtain ⟨cs, rfl, _⟩ := hval; exact ⟨cs, rfl⟩
    · rw [ht] at hval; obtain ⟨cs, rfl, _⟩ := hval; exact ⟨cs, rfl⟩
  obtain ⟨cs, rfl⟩ := key
  obtain ⟨fuel, hd⟩ := hd
  obtain ⟨a, qa, h1, h2, h3⟩ := h enc bs spare held fuel _ _ hd
  refine ⟨a, qa, .agg cs _ ?_ h2 fun i p hp => ?_⟩
  · have h4 : (l a).length = cs.toList.length := h1
    rw [Array.length_toList] at h4; exact h4.symm
  · have := h3 i p hp
    have e : (Value.agg cs).cells.toList.getD i undef = cs.getD i undef := by
      simp [Value.cells, Array.getD_eq_getD_getElem?, List.getD_eq_getElem?_getD]
    rwa [e] at this
theorem RdC.any {P : Program} {w : World} {t : TypeId} {α : Type} {f : α → PV} {q : α → Prop} (h : RdC P w t f q) : RdC P w t f (fun _ => True) := fun enc bs spare held fuel cs x hx => by
  obtain ⟨a, _, h1⟩ := h enc bs spare held fuel cs x hx
  exact ⟨a, trivial, h1⟩
theorem own50 : ownKnob Try.prog.godebug = Option.none := by kernel_rfl
theorem kids50 : Kids Try.prog (· < Try.prog.types.size) := kids_rows (by kernel_rfl) (by kernel_rfl)
theorem wideB50 : ((List.range Try.prog.types.size).all fun t => match Try.prog.underlying t with | some (.slice e) => decide (0 < Try.prog.cellsOf e) | _ => true) = true := by kernel_rfl
theorem wide50 : ∀ t e, t < Try.prog.types.size → Try.prog.underlying t = some (.slice e) → 0 < Try.prog.cellsOf e := fun t e ht hu => by
  have := List.all_eq_true.1 wideB50 t (List.mem_range.2 ht)
  rw [hu] at this
  simpa using this
theorem r3 (W : World) : RdC Try.prog W 3 (fun n : Int => I n) (fun _ => True) := RdC.any (RdC.int Try.underlying3)
theorem r61 (W : World) : RdC Try.prog W 61 (fun a : Pst => pstV a) (fun _ => True) := by
  have h := @RdC.structI Try.prog W 61 _ .i64 Try.underlying61 (by kernel_rfl) (fun i f h => by
    match i, h with
    | 0, h => simp at h; subst h; exact ⟨rfl, by kernel_rfl, Try.underlying3⟩
    | 1, h => simp at h; subst h; exact ⟨rfl, by kernel_rfl, Try.underlying3⟩
    | 2, h => simp at h; subst h; exact ⟨rfl, by kernel_rfl, Try.underlying3⟩
    | 3, h => simp at h; subst h; exact ⟨rfl, by kernel_rfl, Try.underlying3⟩
    | 4, h => simp at h; subst h; exact ⟨rfl, by kernel_rfl, Try.underlying3⟩
    | 5, h => simp at h; subst h; exact ⟨rfl, by kernel_rfl, Try.underlying3⟩
    | i + 6, h => simp at h)
  refine @RdC.conv Try.prog W 61 (List Int) Pst _ _ h (fun a : Pst => pstV a) (fun _ => True) ?_
  rintro l ⟨hl, _⟩
  match l, hl with
  | [a, b, c, d, e, f], _ => exact ⟨(a, b, c, d, e, f), trivial, rfl⟩
theorem r22 (W : World) : RdC Try.prog W 22 (fun l : List Pst => psts l) (fun _ => True) := RdC.any (RdC.slice Try.underlying22 (by kernel_rfl) (by decide) (r61 W))
theorem r45 (W : World) : RdC Try.prog W 45 (fun a : Int × List Pst => .agg [I a.1, psts a.2]) (fun _ => True) :=
  RdC.any (RdC.struct2 Try.underlying45 (by kernel_rfl) ⟨rfl, rfl⟩ ⟨by kernel_rfl, by kernel_rfl⟩ (r3 W) (r22 W) (fun _ => rfl) (fun _ => rfl))
section
variable {W : World} {b0 bs : Nat} {H : Type} {enc : TypeId × Value → H} {spare : Nat → Bool} {held : Bool} {v : Value} {d : DataW H} {ps : List MemPlace}
theorem book_arg (hval : Value.okWide Try.prog W .any b0 45 v) (hd : DataW.Trod enc Try.prog W bs spare held 45 v d ps) : ∃ hn ls, VR (base (full W) W) v (.agg [I hn, psts ls]) := by
  obtain ⟨a, _, h⟩ := RdC.argS (l := fun a : Int × List Pst => [I a.1, psts a.2]) (.inl ⟨_, Try.underlying45⟩) (r45 W) hval hd
  exact ⟨a.1, a.2, h⟩
end
end Sim

namespace Sim
open Go Go.ChangeShapes Go.WideShapes Go.ChangeAt Go.RowKit Go.Proofs
set_option linter.unusedVariables false
set_option linter.unusedSimpArgs false
set_option maxRecDepth 20000
theorem r65 (W : World) : RdC Try.prog W 65 (fun n : Int => .int .u16 n) (fun n => (Lit.int .u16 n).wf = true) := RdC.int Try.underlying65
theorem wf_u16 {n : Int} (h : (Lit.int .u16 n).wf = true) : 0 ≤ n ∧ n ≤ 65535 := by
  simp [Lit.wf, IntKind.min, IntKind.max, IntKind.signed, IntKind.bits] at h
  omega
section
variable {W : World} {b0 bs : Nat} {H : Type} {enc : TypeId × Value → H} {spare : Nat → Bool} {held : Bool} {v : Value} {d : DataW H} {ps : List MemPlace}
theorem u16_arg (hval : Value.okWide Try.prog W .any b0 65 v) (hd : DataW.Trod enc Try.prog W bs spare held 65 v d ps) : ∃ a : Int, (0 ≤ a ∧ a ≤ 65535) ∧ VR (base (full W) W) v (.int .u16 a) := by
  obtain ⟨fuel, hd⟩ := hd
  obtain ⟨a, q, h1, h2, h3⟩ := r65 W enc bs spare held fuel _ _ hd
  obtain ⟨n, rfl⟩ := okWide_int Try.underlying65 hval
  refine ⟨a, wf_u16 q, ?_⟩
  have := h3 0 _ rfl
  simpa [Value.cells] using this
end
end Sim
