/- A reading with what it says of the row's data. -/
import Derived.Test.YtmgklnbhbomlnaaSimW
namespace Sim
open Go Go.ChangeShapes Go.WideShapes Go.RowKit
set_option linter.unusedVariables false
set_option linter.unusedSimpArgs false
def RdD (P : Program) (w : World) (t : TypeId) {α : Type} (f : α → PV) (q : α → (H : Type) → DataW H → Prop) : Prop :=
  ∀ {H : Type} (enc : TypeId × Value → H) (bs : Nat) (spare : Nat → Bool) (held : Bool) (fuel : Nat) (cs : List Value) (x : DataW H × List MemPlace), DataW.trod enc P w bs spare held fuel t cs = some x →
    ∃ a, q a H x.1 ∧ (f a).cells.length = cs.length ∧ (∀ c ∈ (f a).cells, c.isCell = true) ∧ ∀ (j : Nat) (c : PV), (f a).cells[j]? = some c → VR (base (full w) w) (cs.getD j undef) c
theorem RdC.d {P : Program} {w : World} {t : TypeId} {α : Type} {f : α → PV} {q : α → Prop} (h : RdC P w t f q) : RdD P w t f (fun a _ _ => q a) := h
theorem RdD.str {P : Program} {w : World} {t : TypeId} (ht : P.underlying t = some .string) : RdD P w t PV.str (fun s H d => d = .lit (.string s)) := by
  intro H enc bs spare held fuel cs x h
  cases fuel with
  | zero => simp [DataW.trod] at h
  | succ n =>
    unfold DataW.trod at h
    rw [ht] at h
    match cs, h with
    | [.string s], h =>
      dsimp only at h
      split at h
      · rename_i hs
        cases h
        refine ⟨s.data.toList, rfl, rfl, by simp [PV.cells, PV.isCell], fun j c hj => ?_⟩
        simp only [PV.cells] at hj
        cases j with
        | zero => simp at hj; subst hj; exact .str _ _ rfl (by rw [Array.length_toList]; exact hs)
        | succ j => simp at hj
      · cases h
    | [], h => simp at h
    | _ :: _ :: _, h => simp at h
theorem RdD.slice {P : Program} {w : World} {t e : TypeId} (ht : P.underlying t = some (.slice e)) {z : Nat} (hz : P.cellsOf e = z) (hz0 : 0 < z) {α : Type} {f : α → PV} {q : α → (H : Type) → DataW H → Prop} (he : RdD P w e f q) :
    RdD P w t (fun l : List α => .lits z (l.map f)) (fun l H d => l = [] ∨ ∃ ds sp, d = .slice ds sp ∧ ds.length = l.length ∧ ∀ i (h : i < l.length) (h' : i < ds.length), q l[i] H ds[i]) := by
  intro H enc bs spare held fuel cs x h
  rcases DataW.trod_slice ht h with ⟨rfl, rfl⟩ | ⟨a, len, cap, elems, rest, n, _, rfl, rfl, hb, hl, hm, hlen, hel, hsp, hns⟩
  · refine ⟨[], .inl rfl, by simp [PV.cells], by simp [PV.cells, PV.isCell], fun j c hj => ?_⟩
    simp only [PV.cells] at hj
    cases j with
    | zero => simp at hj; subst hj; exact .lits0 _ _ _
    | succ j => simp at hj
  · obtain ⟨l, h1, h2⟩ := exists_list (Q := fun i v => (∀ h : i < elems.length, q v H elems[i].1) ∧ (f v).cells.length = z ∧ (∀ c ∈ (f v).cells, c.isCell = true) ∧ ∀ j, j < z → ∃ u, w.cell? ((a.add (i * z)).add j) = some u ∧ ∀ c, (f v).cells[j]? = some c → VR (base (full w) w) u c) len (fun i hi => by
      have h3 := hel i hi
      rw [hz] at h3
      have h4 : elems[i]? = some (elems[i]'(by omega)) := List.getElem?_eq_getElem (by omega)
      rw [h4, Option.bind_eq_some_iff] at h3
      obtain ⟨cs, h5, h6⟩ := h3
      obtain ⟨v, hq, h7, h8, h9⟩ := he enc bs spare held n cs _ h6
      obtain ⟨_, h10, h11⟩ := World.cells?_some h5
      refine ⟨v, fun _ => hq, by omega, h8, fun j hj => ?_⟩
      refine ⟨cs[j]'(by omega), by rw [h11 j hj]; exact List.getElem?_eq_getElem _, fun c hc => ?_⟩
      have := h9 j c hc
      rwa [List.getD_eq_getElem?_getD, List.getElem?_eq_getElem (by omega), Option.getD_some] at this)
    refine ⟨l, .inr ⟨_, _, rfl, by simp [h1, hlen], fun i hi hi' => ?_⟩, by simp [PV.cells], by simp [PV.cells, PV.isCell], fun j c hj => ?_⟩
    · have := (h2 i hi).1 (by omega)
      simpa using this
    simp only [PV.cells] at hj
    cases j with
    | succ j => simp at hj
    | zero =>
      simp at hj; subst hj
      simp only [List.getD_cons_zero]
      cases len with
      | zero =>
        have : l = [] := List.eq_nil_of_length_eq_zero h1
        subst this
        exact .lits0 _ _ _
      | succ m =>
        obtain ⟨u, hu, _⟩ := (h2 0 (by omega)).2.2.2 0 hz0
        simp only [Nat.zero_mul, Addr.add, if_true] at hu
        obtain ⟨b, o, sp⟩ := a
        have hsp0 : sp = none := by
          cases sp with
          | none => rfl
          | some s => simp [World.cell?] at hu; split at hu <;> simp at hu
        subst hsp0
        have hlen' : (l.map f).length = m + 1 := by simp [h1]
        rw [← hlen']
        have hadd : ∀ i j, ((Addr.mk b o none).add (i * z)).add j = ⟨b, o + i * z + j, none⟩ := fun i j => by
          unfold Addr.add
          split
          · rename_i h3; split
            · rename_i h4; simp [h3, h4]
            · simp [h3]
          · split
            · rename_i h3 h4; rw [h4]; rfl
            · rfl
        refine .lits b o z cap (l.map f) (by omega) hm hz0 (fun v hv => ?_) (fun i j hi hj => ?_) (fun i j v c hv hc => ?_)
        · obtain ⟨a', ha', rfl⟩ := List.mem_map.1 hv
          obtain ⟨i, hi, rfl⟩ := List.mem_iff_getElem.1 ha'
          exact ⟨(h2 i hi).2.1, (h2 i hi).2.2.1⟩
        · have hi' : i < l.length := by simpa using hi
          obtain ⟨u, hu, _⟩ := (h2 i hi').2.2.2 j hj
          rw [hadd] at hu
          show (w.cell? ⟨b, o + i * z + j, none⟩).isSome = true
          rw [hu]; rfl
        · rw [List.getElem?_map, Option.map_eq_some_iff] at hv
          obtain ⟨a', ha', rfl⟩ := hv
          obtain ⟨hi, rfl⟩ := List.getElem?_eq_some_iff.1 ha'
          have hj : j < z := by
            have := (List.getElem?_eq_some_iff.1 hc).1
            have := (h2 i hi).2.1
            omega
          obtain ⟨u, hu, hv⟩ := (h2 i hi).2.2.2 j hj
          rw [hadd] at hu
          show VR _ ((w.cell? ⟨b, o + i * z + j, none⟩).getD undef) c
          rw [hu]; exact hv c hc
/-- What a part of a row of cells says of the whole. -/
def Part (w : World) (cs : List Value) (o : Nat) (l : List PV) : Prop := (∀ c ∈ l, c.isCell = true) ∧ ∀ (j : Nat) (c : PV), l[j]? = some c → VR (base (full w) w) (cs.getD (o + j) undef) c
theorem Part.nil {w : World} {cs : List Value} {o : Nat} : Part w cs o [] := ⟨by simp, by simp⟩
theorem Part.append {w : World} {cs : List Value} {o : Nat} {l m : List PV} (h : Part w cs o l) (g : Part w cs (o + l.length) m) : Part w cs o (l ++ m) := by
  refine ⟨fun c hc => ?_, fun j c hj => ?_⟩
  · rcases List.mem_append.1 hc with h1 | h1
    · exact h.1 c h1
    · exact g.1 c h1
  · by_cases hl : j < l.length
    · rw [List.getElem?_append_left hl] at hj; exact h.2 j c hj
    · rw [List.getElem?_append_right (by omega)] at hj
      have := g.2 _ c hj
      rwa [show o + l.length + (j - l.length) = o + j by omega] at this
/-- A field's reading is a part. -/
theorem RdD.part {P : Program} {w : World} {t : TypeId} {α : Type} {f : α → PV} {q : α → (H : Type) → DataW H → Prop} (h : RdD P w t f q) {H : Type} {enc : TypeId × Value → H} {bs : Nat} {spare : Nat → Bool} {held : Bool} {fuel : Nat} {cs : List Value} {o n : Nat} (ho : o + n ≤ cs.length) {x : DataW H × List MemPlace}
    (hx : DataW.trod enc P w bs spare held fuel t ((cs.drop o).take n) = some x) : ∃ a, q a H x.1 ∧ (f a).cells.length = n ∧ Part w cs o (f a).cells := by
  obtain ⟨a, h1, h2, h3, h4⟩ := h enc bs spare held fuel _ x hx
  have hn : ((cs.drop o).take n).length = n := by simp; omega
  refine ⟨a, h1, by omega, h3, fun j c hj => ?_⟩
  have hjn : j < n := by have := (List.getElem?_eq_some_iff.1 hj).1; omega
  have := h4 j c hj
  rwa [List.getD_eq_getElem?_getD, List.getElem?_take_of_lt hjn, List.getElem?_drop, ← List.getD_eq_getElem?_getD] at this
/-- An argument that is a struct. -/
theorem Part.arg {w : World} {cs : Array Value} {l : List PV} (h : Part w cs.toList 0 l) (hn : cs.size = l.length) : VR (base (full w) w) (.agg cs) (.agg l) := by
  refine .agg cs l hn h.1 fun i p hp => ?_
  have := h.2 i p hp
  rw [Nat.zero_add] at this
  simpa [Array.getD_eq_getD_getElem?, List.getD_eq_getElem?_getD] using this
end Sim
