/- A reading with what it says of the row's data. -/
import Derived.Test.YtmgklnbhbomlnaaSimW
import Derived.Test.YtmgklnbhbomlnaaSimP
import Derived.Shelf.SlSortCmp.NoneTotal
namespace Sim
open Go Go.ChangeShapes Go.WideShapes Go.RowKit
set_option linter.unusedVariables false
set_option linter.unusedSimpArgs false
def RdD (P : Program) (w : World) (t : TypeId) {α : Type} (f : α → PV) (q : α → (H : Type) → DataW H → Prop) : Prop :=
  ∀ {H : Type} (enc : TypeId × Value → H) (bs : Nat) (spare : Nat → Bool) (held : Bool) (fuel : Nat) (cs : List Value) (x : DataW H × List MemPlace), DataW.trod enc P w bs spare held fuel t cs = some x →
    ∃ a, q a H x.1 ∧ (f a).cells.length = cs.length ∧ (∀ c ∈ (f a).cells, c.isCell = true) ∧ ∀ (j : Nat) (c : PV), (f a).cells[j]? = some c → VR (base (full w) w) (cs.getD j undef) c
theorem RdC.d {P : Program} {w : World} {t : TypeId} {α : Type} {f : α → PV} {q : α → Prop} (h : RdC P w t f q) : RdD P w t f (fun a _ _ => q a) := h
theorem RdD.str {P : Program} {w : World} {t : TypeId} (ht : P.underlying t = some .string) : RdD P w t PV.str (fun s H d => d = .lit (.string s)) := by
  intro H enc bs spare held fuel cs x h
  cases fuel with
  | zero => simp [DataW.trod] at h
  | succ n =>
    unfold DataW.trod at h
    rw [ht] at h
    match cs, h with
    | [.string s], h =>
      dsimp only at h
      split at h
      · rename_i hs
        cases h
        refine ⟨s.data.toList, rfl, rfl, by simp [PV.cells, PV.isCell], fun j c hj => ?_⟩
        simp only [PV.cells] at hj
        cases j with
        | zero => simp at hj; subst hj; exact .str _ _ rfl (by rw [Array.length_toList]; exact hs)
        | succ j => simp at hj
      · cases h
    | [], h => simp at h
    | _ :: _ :: _, h => simp at h
theorem RdD.slice {P : Program} {w : World} {t e : TypeId} (ht : P.underlying t = some (.slice e)) {z : Nat} (hz : P.cellsOf e = z) (hz0 : 0 < z) {α : Type} {f : α → PV} {q : α → (H : Type) → DataW H → Prop} (he : RdD P w e f q) :
    RdD P w t (fun l : List α => .lits z (l.map f)) (fun l H d => l = [] ∨ ∃ ds sp, d = .slice ds sp ∧ ds.length = l.length ∧ ∀ i (h : i < l.length) (h' : i < ds.length), q l[i] H ds[i]) := by
  intro H enc bs spare held fuel cs x h
  rcases DataW.trod_slice ht h with ⟨rfl, rfl⟩ | ⟨a, len, cap, elems, rest, n, _, rfl, rfl, hb, hl, hm, hlen, hel, hsp, hns⟩
  · refine ⟨[], .inl rfl, by simp [PV.cells], by simp [PV.cells, PV.isCell], fun j c hj => ?_⟩
    simp only [PV.cells] at hj
    cases j with
    | zero => simp at hj; subst hj; exact .lits0 _ _ _
    | succ j => simp at hj
  · obtain ⟨l, h1, h2⟩ := exists_list (Q := fun i v => (∀ h : i < elems.length, q v H elems[i].1) ∧ (f v).cells.length = z ∧ (∀ c ∈ (f v).cells, c.isCell = true) ∧ ∀ j, j < z → ∃ u, w.cell? ((a.add (i * z)).add j) = some u ∧ ∀ c, (f v).cells[j]? = some c → VR (base (full w) w) u c) len (fun i hi => by
      have h3 := hel i hi
      rw [hz] at h3
      have h4 : elems[i]? = some (elems[i]'(by omega)) := List.getElem?_eq_getElem (by omega)
      rw [h4, Option.bind_eq_some_iff] at h3
      obtain ⟨cs, h5, h6⟩ := h3
      obtain ⟨v, hq, h7, h8, h9⟩ := he enc bs spare held n cs _ h6
      obtain ⟨_, h10, h11⟩ := World.cells?_some h5
      refine ⟨v, fun _ => hq, by omega, h8, fun j hj => ?_⟩
      refine ⟨cs[j]'(by omega), by rw [h11 j hj]; exact List.getElem?_eq_getElem _, fun c hc => ?_⟩
      have := h9 j c hc
      rwa [List.getD_eq_getElem?_getD, List.getElem?_eq_getElem (by omega), Option.getD_some] at this)
    refine ⟨l, .inr ⟨_, _, rfl, by simp [h1, hlen], fun i hi hi' => ?_⟩, by simp [PV.cells], by simp [PV.cells, PV.isCell], fun j c hj => ?_⟩
    · have := (h2 i hi).1 (by omega)
      simpa using this
    simp only [PV.cells] at hj
    cases j with
    | succ j => simp at hj
    | zero =>
      simp at hj; subst hj
      simp only [List.getD_cons_zero]
      cases len with
      | zero =>
        have : l = [] := List.eq_nil_of_length_eq_zero h1
        subst this
        exact .lits0 _ _ _
      | succ m =>
        obtain ⟨u, hu, _⟩ := (h2 0 (by omega)).2.2.2 0 hz0
        simp only [Nat.zero_mul, Addr.add, if_true] at hu
        obtain ⟨b, o, sp⟩ := a
        have hsp0 : sp = none := by
          cases sp with
          | none => rfl
          | some s => simp [World.cell?] at hu; split at hu <;> simp at hu
        subst hsp0
        have hlen' : (l.map f).length = m + 1 := by simp [h1]
        rw [← hlen']
        have hadd : ∀ i j, ((Addr.mk b o none).add (i * z)).add j = ⟨b, o + i * z + j, none⟩ := fun i j => by
          unfold Addr.add
          split
          · rename_i h3; split
            · rename_i h4; simp [h3, h4]
            · simp [h3]
          · split
            · rename_i h3 h4; rw [h4]; rfl
            · rfl
        refine .lits b o z cap (l.map f) (by omega) hm hz0 (fun v hv => ?_) (fun i j hi hj => ?_) (fun i j v c hv hc => ?_)
        · obtain ⟨a', ha', rfl⟩ := List.mem_map.1 hv
          obtain ⟨i, hi, rfl⟩ := List.mem_iff_getElem.1 ha'
          exact ⟨(h2 i hi).2.1, (h2 i hi).2.2.1⟩
        · have hi' : i < l.length := by simpa using hi
          obtain ⟨u, hu, _⟩ := (h2 i hi').2.2.2 j hj
          rw [hadd] at hu
          show (w.cell? ⟨b, o + i * z + j, none⟩).isSome = true
          rw [hu]; rfl
        · rw [List.getElem?_map, Option.map_eq_some_iff] at hv
          obtain ⟨a', ha', rfl⟩ := hv
          obtain ⟨hi, rfl⟩ := List.getElem?_eq_some_iff.1 ha'
          have hj : j < z := by
            have := (List.getElem?_eq_some_iff.1 hc).1
            have := (h2 i hi).2.1
            omega
          obtain ⟨u, hu, hv⟩ := (h2 i hi).2.2.2 j hj
          rw [hadd] at hu
          show VR _ ((w.cell? ⟨b, o + i * z + j, none⟩).getD undef) c
          rw [hu]; exact hv c hc
/-- What a part of a row of cells says of the whole. -/
def Part (w : World) (cs : List Value) (o : Nat) (l : List PV) : Prop := (∀ c ∈ l, c.isCell = true) ∧ ∀ (j : Nat) (c : PV), l[j]? = some c → VR (base (full w) w) (cs.getD (o + j) undef) c
theorem Part.nil {w : World} {cs : List Value} {o : Nat} : Part w cs o [] := ⟨by simp, by simp⟩
theorem Part.append {w : World} {cs : List Value} {o : Nat} {l m : List PV} (h : Part w cs o l) (g : Part w cs (o + l.length) m) : Part w cs o (l ++ m) := by
  refine ⟨fun c hc => ?_, fun j c hj => ?_⟩
  · rcases List.mem_append.1 hc with h1 | h1
    · exact h.1 c h1
    · exact g.1 c h1
  · by_cases hl : j < l.length
    · rw [List.getElem?_append_left hl] at hj; exact h.2 j c hj
    · rw [List.getElem?_append_right (by omega)] at hj
      have := g.2 _ c hj
      rwa [show o + l.length + (j - l.length) = o + j by omega] at this
/-- A field's reading is a part. -/
theorem RdD.part {P : Program} {w : World} {t : TypeId} {α : Type} {f : α → PV} {q : α → (H : Type) → DataW H → Prop} (h : RdD P w t f q) {H : Type} {enc : TypeId × Value → H} {bs : Nat} {spare : Nat → Bool} {held : Bool} {fuel : Nat} {cs : List Value} {o n : Nat} (ho : o + n ≤ cs.length) {x : DataW H × List MemPlace}
    (hx : DataW.trod enc P w bs spare held fuel t ((cs.drop o).take n) = some x) : ∃ a, q a H x.1 ∧ (f a).cells.length = n ∧ Part w cs o (f a).cells := by
  obtain ⟨a, h1, h2, h3, h4⟩ := h enc bs spare held fuel _ x hx
  have hn : ((cs.drop o).take n).length = n := by simp; omega
  refine ⟨a, h1, by omega, h3, fun j c hj => ?_⟩
  have hjn : j < n := by have := (List.getElem?_eq_some_iff.1 hj).1; omega
  have := h4 j c hj
  rwa [List.getD_eq_getElem?_getD, List.getElem?_take_of_lt hjn, List.getElem?_drop, ← List.getD_eq_getElem?_getD] at this
/-- An argument that is a struct. -/
theorem Part.arg {w : World} {cs : Array Value} {l : List PV} (h : Part w cs.toList 0 l) (hn : cs.size = l.length) : VR (base (full w) w) (.agg cs) (.agg l) := by
  refine .agg cs l hn h.1 fun i p hp => ?_
  have := h.2 i p hp
  rw [Nat.zero_add] at this
  simpa [Array.getD_eq_getD_getElem?, List.getD_eq_getElem?_getD] using this
end Sim

namespace Sim
open Go Go.Proofs Go.Shelf Go.RowKit Go.Lib Go.Sort
set_option linter.unusedVariables false
set_option linter.unusedSimpArgs false
variable {P : Program} {ρ : Ren} {α : Type} [Inhabited α]
/-- The machine's value of a number or a truth value. -/
def toV : PV → Value
  | .int k n => .int k n
  | .bool b => .bool b
  | _ => undef
def plainC : PV → Bool
  | .int _ _ | .bool _ => true
  | _ => false
theorem toV_vr {C : Ctx} {p : PV} (h : plainC p = true) : VR C (toV p) p := by
  cases p <;> simp [plainC] at h
  · exact .bool _
  · exact .int _ _
theorem toV_eq {C : Ctx} {v : Value} {p : PV} (h : plainC p = true) (hv : VR C v p) : v = toV p := by
  cases p <;> simp [plainC] at h
  · cases hv; rfl
  · cases hv; rfl
theorem toV_one {p : PV} (h : plainC p = true) : (toV p).oneCell' = true := by
  cases p <;> simp [plainC] at h <;> rfl
theorem plain_isCell {p : PV} (h : plainC p = true) : p.isCell = true := by
  cases p <;> simp [plainC] at h <;> rfl
theorem plain_scal {p : PV} (h : plainC p = true) : p.scal1 = true := by
  cases p <;> simp [plainC] at h <;> rfl

theorem flat_div {z i j : Nat} (h : j < z) : (i * z + j) / z = i ∧ (i * z + j) % z = j := by
  have hz : 0 < z := by omega
  rw [Nat.mul_comm, Nat.mul_add_div hz, Nat.div_eq_of_lt h, Nat.mul_add_mod, Nat.mod_eq_of_lt h]
  exact ⟨by omega, rfl⟩
theorem flat_lt {z i j n : Nat} (hi : i < n) (h : j < z) : i * z + j < n * z := by
  have := Nat.mul_le_mul_right z (show i + 1 ≤ n by omega)
  rw [Nat.add_mul] at this; omega

/-- **The contract of slices.SortFunc at structs of numbers, as an entry.** -/
theorem vcs_of (L : SlLaysF0.n6 P ρ) {z : Nat} (hz : 0 < z) (aE : ∀ w, (isAgg (ρ.t 24)).run P w = .ok true w) (zE : ∀ w, (Go.sizeOf (ρ.t 24)).run P w = .ok z w) (enc : α → List PV) (hk : ∀ x, (enc x).length = z) (hp : ∀ x, ∀ c ∈ enc x, plainC c = true)
    (cf : α → α → Int) (hO : SWO (ltOf cf)) (hT : ∀ x y, (ltOf cf) x y = false → (ltOf cf) y x = false → x = y) (g : Nat) (eg : ∀ args w, (callFunc g args).run P w = .ok (.enter g args) w)
    (hcmp : ∀ (x y : α) (W : World), Calls P g #[.agg ((enc x).map toV).toArray, .agg ((enc y).map toV).toArray] W fun e w' => e = .returned (.int .i64 (cf x y)) ∧ ∃ q os', w' = grow (W.drewN q) os')
    (d : List α) (hsz : d.length < 4611686018427387904) :
    VCS P (ρ.f 6) g z (d.map fun x => .agg (enc x)) ((d.mergeSort fun x y => !(ltOf cf) y x).map fun x => .agg (enc x)) := by
  have hk' : ∀ x, ((enc x).map toV).length = z := fun x => by rw [List.length_map, hk]
  refine ⟨by simp, fun e he => ?_, fun w blk off cap cs T hb hn hfit hc => ?_⟩
  · obtain ⟨x, _, rfl⟩ := List.mem_map.1 he
    exact List.all_eq_true.2 fun c hcm => plain_scal (hp x c hcm)
  · rw [List.length_map] at hn hfit ⊢
    have hlt : blk < w.heap.size := (Array.getElem?_eq_some_iff.1 hb).1
    have flat : ∀ (l : List α) (i j : Nat) (c : PV), j < z → ∀ hi : i < l.length, (enc l[i])[j]? = some c → (flatK (fun x => (enc x).map toV) z l.toArray)[i * z + j]! = toV c := by
      intro l i j c hj hi hcj
      rw [get_flatK _ _ _ _ (by simpa using flat_lt hi hj), (flat_div hj).1, (flat_div hj).2]
      have h1 : l.toArray[i]! = l[i] := by rw [getElem!_pos _ _ (by simpa using hi)]; simp
      rw [h1]
      have h2 := (List.getElem?_eq_some_iff.1 hcj)
      obtain ⟨h2, rfl⟩ := h2
      simp [h2]
    have hH : HoldsK (fun x => (enc x).map toV) z w blk off d.toArray := by
      intro t ht
      rw [size_flatK] at ht
      have ht : t < d.length * z := by simpa using ht
      have hi : t / z < d.length := Nat.div_lt_of_lt_mul (by rw [Nat.mul_comm]; exact ht)
      have hj : t % z < z := Nat.mod_lt _ hz
      have htd : t / z * z + t % z = t := by rw [Nat.mul_comm]; exact Nat.div_add_mod t z
      have hcj : (enc d[t / z])[t % z]? = some ((enc d[t / z])[t % z]'(by rw [hk]; exact hj)) := List.getElem?_eq_getElem _
      obtain ⟨c1, c2, c3⟩ := hc (t / z) (.agg (enc d[t / z])) (by rw [List.getElem?_map, List.getElem?_eq_getElem hi]; rfl) ⟨fun _ _ => none, fun _ => none, fun _ => False, 0, fun _ => none, w.os, #[], fun _ => false, fun _ => false⟩
      have h3 := toV_eq (hp _ _ (List.getElem_mem _)) (c3 (t % z) _ hcj)
      rw [Nat.add_assoc, htd] at h3
      have hcs : off + t < cs.size := by omega
      refine ⟨?_, by simp [World.frozen?, hb]⟩
      have := flat d (t / z) (t % z) _ hj hi hcj
      rw [htd] at this
      simp only [id_eq]
      rw [this, ← h3]
      simp [World.cell?, hb, Array.getD_eq_getD_getElem?, hcs]
    refine (AnyQ.slices_SortFunc_total L z aE zE (fun x => (enc x).map toV) hk' (fun x v hv => ?_) cf hO g #[] blk off cap d.toArray w eg (fun m os dk hs x y => by simpa using hcmp x y _) hH hlt (by simpa using hsz) hT).mono ?_
    · obtain ⟨c, hcm, rfl⟩ := List.mem_map.1 hv
      exact toV_one (hp x c hcm)
    · rintro e w' ⟨he, n, os, rfl⟩
      generalize hd' : (d.mergeSort fun x y => !(ltOf cf) y x) = d' at *
      have hl' : d'.length = d.length := by rw [← hd']; simp
      refine ⟨he, ⟨rfl, rfl⟩, ?_, fun b hb' hne => ?_, putCells id off (flatK (fun x => (enc x).map toV) z d'.toArray) cs, ?_, by simp [putCells], fun i e hi C => ?_⟩
      · simp [sortWorldK, putRowK, putRow, mapBlock, Sort.ahead, grow]
      · simp only [sortWorldK, putRowK, putRow, mapBlock, Sort.ahead, grow]
        rw [Array.getElem?_append_left (by simpa using hb'), Array.getElem?_modify, if_neg (Ne.symm hne)]
      · simp only [sortWorldK, putRowK, putRow, mapBlock, Sort.ahead, grow, Array.getElem?_append, Array.size_modify, hlt, if_true, Array.getElem?_modify, hb, Option.map_some, onCells]
      · rw [List.getElem?_map, Option.map_eq_some_iff] at hi
        obtain ⟨x, hx, rfl⟩ := hi
        obtain ⟨hi, rfl⟩ := List.getElem?_eq_some_iff.1 hx
        refine ⟨hk _, fun c hcm => plain_isCell (hp _ c hcm), fun j c hj => ?_⟩
        have hjz : j < z := by have := (List.getElem?_eq_some_iff.1 hj).1; simpa [PV.cells, hk] using this
        have hf := flat d' i j c hjz hi hj
        have hlt2 := flat_lt (n := d'.length) hi hjz
        rw [hl'] at hlt2
        have hcs : off + i * z + j < cs.size := by generalize i * z = q at *; generalize d.length * z = q2 at *; omega
        have hsz2 : i * z + j < d'.length * z := by rw [hl']; exact hlt2
        have hv : (putCells id off (flatK (fun x => (enc x).map toV) z d'.toArray) cs).getD (off + i * z + j) undef = toV c := by
          rw [← hf]
          simp only [putCells, Array.getD_eq_getD_getElem?, Array.getElem?_mapIdx, size_flatK, List.size_toArray]
          rw [Array.getElem?_eq_getElem hcs, Option.map_some, Option.getD_some, if_pos ⟨by omega, by omega⟩]
          rw [show off + i * z + j - off = i * z + j by omega]; rfl
        rw [hv]
        exact toV_vr (hp _ c (List.mem_of_getElem? hj))
theorem vcs0_of (L : SlLaysF0.n6 P ρ) : VCS0 P (ρ.f 6) := fun p cap fv w => AnyF.slices_SortFunc_none L p cap fv w
end Sim
