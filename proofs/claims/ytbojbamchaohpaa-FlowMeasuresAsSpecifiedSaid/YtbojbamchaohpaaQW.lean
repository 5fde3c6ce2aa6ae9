/- What functions of this seat compute, by values: contracts (lemmas of the statement's proof, under the conditions that each names). -/
import Derived.Test.YtbojbamchaohpaaQF9
import Derived.Test.YtbojbamchaohpaaSimY
import Derived.JoinedOf
import Derived.OpenShut
namespace Sim
open Go Go.ChangeShapes Go.WideShapes Go.ChangeAt Go.RowKit Go.Proofs
set_option linter.unusedVariables false
set_option linter.unusedSimpArgs false
set_option maxRecDepth 20000
theorem RdC.conv {P : Program} {w : World} {t : TypeId} {α β : Type} {f : α → PV} {q : α → Prop} (h : RdC P w t f q) (g : β → PV) (q' : β → Prop) (hc : ∀ a, q a → ∃ b, q' b ∧ g b = f a) : RdC P w t g q' := fun enc bs spare held fuel cs x hx => by
 obtain ⟨a, h1, h2⟩ := h enc bs spare held fuel cs x hx
 obtain ⟨b, h3, h4⟩ := hc a h1
 exact ⟨b, h3, by rw [h4]; exact h2⟩
theorem rowI {P : Program} {w : World} {k : IntKind} {cs : List Value} {n : Nat} (hl : cs.length = n) (h : ∀ i, i < n → ∃ (H : Type) (enc : TypeId × Value → H) (bs : Nat) (spare : Nat → Bool) (held : Bool) (m : Nat) (e : TypeId) (x : DataW H × List MemPlace), P.underlying e = some (.int k) ∧ DataW.trod enc P w bs spare held m e ((cs.drop i).take 1) = some x) :
  ∃ l : List Int, l.length = n ∧ (∀ a ∈ l, (Lit.int k a).wf = true) ∧ (∀ c ∈ l.map (PV.int k), c.isCell = true) ∧ ∀ (j : Nat) (c : PV), (l.map (PV.int k))[j]? = some c → VR (base (full w) w) (cs.getD j undef) c := by
 obtain ⟨l, h1, h2⟩ := exists_list (Q := fun i (a : Int) => (Lit.int k a).wf = true ∧ VR (base (full w) w) (cs.getD i undef) (.int k a)) n fun i hi => by
  obtain ⟨H, enc, bs, spare, held, m, e, x, he, hx⟩ := h i hi
  obtain ⟨a, h1, _, _, h4⟩ := RdC.int he enc bs spare held m _ x hx
  refine ⟨a, h1, ?_⟩
  have := h4 0 _ rfl
  rwa [List.getD_eq_getElem?_getD, List.getElem?_take_of_lt (by omega), List.getElem?_drop, Nat.add_zero, ← List.getD_eq_getElem?_getD] at this
 refine ⟨l, h1, fun a ha => ?_, fun c hc => ?_, fun j c hj => ?_⟩
 ·obtain ⟨i, hi, rfl⟩ := List.getElem_of_mem ha
  exact (h2 i hi).1
 ·obtain ⟨a, _, rfl⟩ := List.mem_map.1 hc
  rfl
 ·rw [List.getElem?_map, Option.map_eq_some_iff] at hj
  obtain ⟨a, ha, rfl⟩ := hj
  obtain ⟨hi, rfl⟩ := List.getElem?_eq_some_iff.1 ha
  exact (h2 j hi).2
theorem RdC.arrayI {P : Program} {w : World} {t e : TypeId} {n : Nat} {k : IntKind} (ht : P.underlying t = some (.array n e)) (hn : P.cellsOf t = n) (hc : P.cellsOf e = 1) (he : P.underlying e = some (.int k)) :
  RdC P w t (fun l : List Int => .agg (l.map (PV.int k))) (fun l => l.length = n ∧ ∀ a ∈ l, (Lit.int k a).wf = true) := by
 intro H enc bs spare held fuel cs x h
 obtain ⟨xs, m, _, _, hl, hlen, hf⟩ := DataW.trod_array ht h
 rw [hn] at hl
 obtain ⟨l, h1, h2, h3, h4⟩ := rowI (P := P) (w := w) (k := k) hl fun i hi => by
  have h5 := hf i hi
  rw [hc, Nat.mul_one, List.getElem?_eq_getElem (by omega)] at h5
  exact ⟨H, enc, bs, spare, held, m, e, _, he, h5⟩
 exact ⟨l, ⟨h1, h2⟩, by simp [PV.cells, h1, hl], h3, h4⟩
theorem RdC.structI {P : Program} {w : World} {t : TypeId} {fs : Array Field} {k : IntKind} (ht : P.underlying t = some (.struct fs)) (hn : P.cellsOf t = fs.size) (hf : ∀ (i : Nat) (f : Field), fs[i]? = some f → f.offset = i ∧ P.cellsOf f.type = 1 ∧ P.underlying f.type = some (.int k)) :
  RdC P w t (fun l : List Int => .agg (l.map (PV.int k))) (fun l => l.length = fs.size ∧ ∀ a ∈ l, (Lit.int k a).wf = true) := by
 intro H enc bs spare held fuel cs x h
 obtain ⟨xs, m, _, _, hl, hlen, hg⟩ := DataW.trod_struct ht h
 rw [hn] at hl
 obtain ⟨l, h1, h2, h3, h4⟩ := rowI (P := P) (w := w) (k := k) hl fun i hi => by
  obtain ⟨f1, f2, f3⟩ := hf i fs[i] (by simp [hi])
  have h5 := hg i fs[i] (by simp [hi])
  rw [f1, f2, List.getElem?_eq_getElem (by omega)] at h5
  exact ⟨H, enc, bs, spare, held, m, _, _, f3, h5⟩
 exact ⟨l, ⟨h1, h2⟩, by simp [PV.cells, h1, hl], h3, h4⟩
theorem RdC.argS {P : Program} {w : World} {t : TypeId} (ht : (∃ fs, P.underlying t = some (.struct fs)) ∨ ∃ n e, P.underlying t = some (.array n e)) {α : Type} {l : α → List PV} {q : α → Prop} (h : RdC P w t (fun a => .agg (l a)) q) {H : Type} {enc : TypeId × Value → H} {bs b0 : Nat} {spare : Nat → Bool} {held : Bool} {v : Value} {d : DataW H} {ps : List MemPlace}
  (hval : Value.okWide P w .any b0 t v) (hd : DataW.Trod enc P w bs spare held t v d ps) : ∃ a, q a ∧ VR (base (full w) w) v (.agg (l a)) := by
 unfold Value.okWide at hval
 have key : ∃ cs, v = .agg cs := by
  rcases ht with ⟨fs, ht⟩ | ⟨n, e, ht⟩
  ·rw [ht] at hval; obtain ⟨cs, rfl, _⟩ := hval; exact ⟨cs, rfl⟩
  ·rw [ht] at hval; obtain ⟨cs, rfl, _⟩ := hval; exact ⟨cs, rfl⟩
 obtain ⟨cs, rfl⟩ := key
 obtain ⟨fuel, hd⟩ := hd
 obtain ⟨a, qa, h1, h2, h3⟩ := h enc bs spare held fuel _ _ hd
 refine ⟨a, qa, .agg cs _ ?_ h2 fun i p hp => ?_⟩
 ·have h4 : (l a).length = cs.toList.length := h1
  rw [Array.length_toList] at h4; exact h4.symm
 ·have := h3 i p hp
  have e : (Value.agg cs).cells.toList.getD i undef = cs.getD i undef := by
   simp [Value.cells, Array.getD_eq_getD_getElem?, List.getD_eq_getElem?_getD]
  rwa [e] at this
theorem RdC.any {P : Program} {w : World} {t : TypeId} {α : Type} {f : α → PV} {q : α → Prop} (h : RdC P w t f q) : RdC P w t f (fun _ => True) := fun enc bs spare held fuel cs x hx => by
 obtain ⟨a, _, h1⟩ := h enc bs spare held fuel cs x hx
 exact ⟨a, trivial, h1⟩
theorem own16 : ownKnob Try.prog.godebug = Option.none := by kernel_rfl
theorem kids16 : Kids Try.prog (· < Try.prog.types.size) := kids_rows (by kernel_rfl) (by kernel_rfl)
theorem wideB16 : ((List.range Try.prog.types.size).all fun t => match Try.prog.underlying t with | some (.slice e) => decide (0 < Try.prog.cellsOf e) | _ => true) = true := by kernel_rfl
theorem wide16 : ∀ t e, t < Try.prog.types.size → Try.prog.underlying t = some (.slice e) → 0 < Try.prog.cellsOf e := fun t e ht hu => by
 have := List.all_eq_true.1 wideB16 t (List.mem_range.2 ht)
 rw [hu] at this
 simpa using this
theorem r3 (W : World) : RdC Try.prog W 3 (fun n : Int => I n) (fun _ => True) := RdC.any (RdC.int Try.underlying3)
theorem r56 (W : World) : RdC Try.prog W 56 (fun a : Snd => sndV a) (fun _ => True) := by
 have h := @RdC.structI Try.prog W 56 _ .i64 Try.underlying56 (by kernel_rfl) (fun i f h => by
  match i, h with
  | 0, h => simp at h; subst h; exact ⟨rfl, by kernel_rfl, Try.underlying3⟩
  | 1, h => simp at h; subst h; exact ⟨rfl, by kernel_rfl, Try.underlying3⟩
  | 2, h => simp at h; subst h; exact ⟨rfl, by kernel_rfl, Try.underlying3⟩
  | i + 3, h => simp at h)
 refine @RdC.conv Try.prog W 56 (List Int) Snd _ _ h (fun a : Snd => sndV a) (fun _ => True) ?_
 rintro l ⟨hl, _⟩
 match l, hl with
 | [a, b, c], _ => exact ⟨(a, b, c), trivial, rfl⟩
theorem r27 (W : World) : RdC Try.prog W 27 (fun a : Dem => demV a) (fun _ => True) := by
 have h := @RdC.structI Try.prog W 27 _ .i64 Try.underlying27 (by kernel_rfl) (fun i f h => by
  match i, h with
  | 0, h => simp at h; subst h; exact ⟨rfl, by kernel_rfl, Try.underlying3⟩
  | 1, h => simp at h; subst h; exact ⟨rfl, by kernel_rfl, Try.underlying3⟩
  | 2, h => simp at h; subst h; exact ⟨rfl, by kernel_rfl, Try.underlying3⟩
  | 3, h => simp at h; subst h; exact ⟨rfl, by kernel_rfl, Try.underlying3⟩
  | 4, h => simp at h; subst h; exact ⟨rfl, by kernel_rfl, Try.underlying3⟩
  | i + 5, h => simp at h)
 refine @RdC.conv Try.prog W 27 (List Int) Dem _ _ h (fun a : Dem => demV a) (fun _ => True) ?_
 rintro l ⟨hl, _⟩
 match l, hl with
 | [a, b, c, d, e], _ => exact ⟨(a, b, c, d, e), trivial, rfl⟩
theorem r47 (W : World) : RdC Try.prog W 47 (fun l : List Int => .agg (l.map (PV.int .i64))) (fun l => l.length = 24) := by
 have h := @RdC.arrayI Try.prog W 47 _ _ .i64 Try.underlying47 (by kernel_rfl) (by kernel_rfl) Try.underlying3
 exact @RdC.conv Try.prog W 47 (List Int) (List Int) _ _ h _ _ fun l h => ⟨l, h.1, rfl⟩
theorem d3 (W : World) : RdD Try.prog W 3 (fun n : Int => I n) (fun _ _ _ => True) := fun enc bs spare held fuel cs x hx => r3 W enc bs spare held fuel cs x hx
theorem d47 (W : World) : RdD Try.prog W 47 (fun l : List Int => .agg (l.map (PV.int .i64))) (fun l _ _ => l.length = 24) := fun enc bs spare held fuel cs x hx => r47 W enc bs spare held fuel cs x hx
theorem ofFn_list {l : List Int} (h : l.length = 24) : List.ofFn (fun i : Fin 24 => l.getD i.1 0) = l := by
 apply List.ext_getElem
 ·simp [h]
 ·intro i h1 h2
  rw [List.getElem_ofFn, List.getD_eq_getElem?_getD, List.getElem?_eq_getElem h2]; rfl
theorem r49 (W : World) : RdC Try.prog W 49 (fun a : Lnk => lnkV a) (fun _ => True) := by
 intro H enc bs spare held fuel cs x h
 have hcell : Try.prog.cellsOf 49 = 50 := by kernel_rfl
 have k3 : Try.prog.cellsOf 3 = 1 := by kernel_rfl
 have k47 : Try.prog.cellsOf 47 = 24 := by kernel_rfl
 obtain ⟨xs, n, _, hx, hl, hlen, hf⟩ := DataW.trod_struct Try.underlying49 h
 rw [hcell] at hl
 match xs, hlen with
 | [y0, y1, y2, y3], _ =>
  have f0 : DataW.trod enc Try.prog W bs spare held n 3 ((cs.drop 0).take (Try.prog.cellsOf 3)) = some y0 := hf 0 _ rfl
  have f1 : DataW.trod enc Try.prog W bs spare held n 3 ((cs.drop 1).take (Try.prog.cellsOf 3)) = some y1 := hf 1 _ rfl
  have f2 : DataW.trod enc Try.prog W bs spare held n 47 ((cs.drop 2).take (Try.prog.cellsOf 47)) = some y2 := hf 2 _ rfl
  have f3 : DataW.trod enc Try.prog W bs spare held n 47 ((cs.drop 26).take (Try.prog.cellsOf 47)) = some y3 := hf 3 _ rfl
  rw [k3] at f0 f1
  rw [k47] at f2 f3
  obtain ⟨a, _, _, p0⟩ := RdD.part (f := fun n : Int => I n) (q := fun _ _ _ => True) (d3 W) (cs := cs) (o := 0) (n := 1) (by omega) f0
  obtain ⟨b, _, _, p1⟩ := RdD.part (f := fun n : Int => I n) (q := fun _ _ _ => True) (d3 W) (cs := cs) (o := 1) (n := 1) (by omega) f1
  obtain ⟨l2, g2, _, p2⟩ := RdD.part (f := fun l : List Int => .agg (l.map (PV.int .i64))) (q := fun l _ _ => l.length = 24) (d47 W) (cs := cs) (o := 2) (n := 24) (by omega) f2
  obtain ⟨l3, g3, _, p3⟩ := RdD.part (f := fun l : List Int => .agg (l.map (PV.int .i64))) (q := fun l _ _ => l.length = 24) (d47 W) (cs := cs) (o := 26) (n := 24) (by omega) f3
  have hc : lkC (a, b, fun i => l2.getD i.1 0, fun i => l3.getD i.1 0) = [I a] ++ ([I b] ++ (l2.map (PV.int .i64) ++ l3.map (PV.int .i64))) := by
   simp only [lkC, ofFn_list g2, ofFn_list g3]; rfl
  have p0 : Part W cs 0 [I a] := p0
  have p1 : Part W cs 1 [I b] := p1
  have p2 : Part W cs 2 (l2.map (PV.int .i64)) := p2
  have p3 : Part W cs 26 (l3.map (PV.int .i64)) := p3
  have e26 : 2 + (l2.map (PV.int .i64)).length = 26 := by simp [g2]
  have hp : Part W cs 0 (lkC (a, b, fun i => l2.getD i.1 0, fun i => l3.getD i.1 0)) := by
   rw [hc]
   exact p0.append (p1.append (p2.append (by
    rw [e26]
    exact p3)))
  refine ⟨(a, b, fun i => l2.getD i.1 0, fun i => l3.getD i.1 0), trivial, ?_, hp.1, fun j c hj => ?_⟩
  ·simp only [PV.cells, lkC_len]; exact hl.symm
  ·have := hp.2 j c hj
   rwa [Nat.zero_add] at this
theorem r25 (W : World) : RdC Try.prog W 25 (fun l : List Snd => snds l) (fun _ => True) := RdC.any (RdC.slice Try.underlying25 (by kernel_rfl) (by decide) (r56 W))
theorem r22 (W : World) : RdC Try.prog W 22 (fun l : List Lnk => lnks l) (fun _ => True) := RdC.any (RdC.slice Try.underlying22 (by kernel_rfl) (by decide) (r49 W))
theorem r24 (W : World) : RdC Try.prog W 24 (fun a : Int × List Lnk => .agg [I a.1, lnks a.2]) (fun _ => True) :=
 RdC.any (RdC.struct2 Try.underlying24 (by kernel_rfl) ⟨rfl, rfl⟩ ⟨by kernel_rfl, by kernel_rfl⟩ (r3 W) (r22 W) (fun _ => rfl) (fun _ => rfl))
section
variable {W : World} {b0 bs : Nat} {H : Type} {enc : TypeId × Value → H} {spare : Nat → Bool} {held : Bool} {v : Value} {d : DataW H} {ps : List MemPlace}
theorem net_arg (hval : Value.okWide Try.prog W .any b0 24 v) (hd : DataW.Trod enc Try.prog W bs spare held 24 v d ps) : ∃ hn ls, VR (base (full W) W) v (.agg [I hn, lnks ls]) := by
 obtain ⟨a, _, h⟩ := RdC.argS (l := fun a : Int × List Lnk => [I a.1, lnks a.2]) (.inl ⟨_, Try.underlying24⟩) (r24 W) hval hd
 exact ⟨a.1, a.2, h⟩
theorem dem_arg (hval : Value.okWide Try.prog W .any b0 27 v) (hd : DataW.Trod enc Try.prog W bs spare held 27 v d ps) : ∃ a, VR (base (full W) W) v (demV a) := by
 obtain ⟨a, _, h⟩ := RdC.argS (l := fun d : Dem => [I d.1, I d.2.1, I d.2.2.1, I d.2.2.2.1, I d.2.2.2.2]) (.inl ⟨_, Try.underlying27⟩) (r27 W) hval hd
 exact ⟨a, h⟩
theorem sends_arg (hval : Value.okWide Try.prog W .any b0 25 v) (hd : DataW.Trod enc Try.prog W bs spare held 25 v d ps) : ∃ l, VR (base (full W) W) v (snds l) := by
 obtain ⟨a, _, h⟩ := RdC.arg (f := fun l : List Snd => snds l) Try.underlying25 (r25 W) (fun _ => rfl) hval hd
 exact ⟨a, h⟩
end
section
variable {W : World} {b0 bs : Nat} {H : Type} {enc : TypeId × Value → H} {spare : Nat → Bool} {held : Bool} {v : Value} {d : DataW H} {ps : List MemPlace}
end
end Sim
