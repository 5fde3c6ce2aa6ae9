/- A reading with what it says of the row's data. -/
import Derived.Test.YtbojbamchaohpaaSimW
import Derived.Test.YtbojbamchaohpaaSimX
import Derived.Test.YtbojbamchaohpaaProg
import Derived.KernelRfl
namespace Sim
open Go Go.ChangeShapes Go.WideShapes Go.RowKit
set_option linter.unusedVariables false
set_option linter.unusedSimpArgs false
def RdD (P : Program) (w : World) (t : TypeId) {α : Type} (f : α → PV) (q : α → (H : Type) → DataW H → Prop) : Prop :=
 ∀ {H : Type} (enc : TypeId × Value → H) (bs : Nat) (spare : Nat → Bool) (held : Bool) (fuel : Nat) (cs : List Value) (x : DataW H × List MemPlace), DataW.trod enc P w bs spare held fuel t cs = some x →
  ∃ a, q a H x.1 ∧ (f a).cells.length = cs.length ∧ (∀ c ∈ (f a).cells, c.isCell = true) ∧ ∀ (j : Nat) (c : PV), (f a).cells[j]? = some c → VR (base (full w) w) (cs.getD j undef) c
theorem RdC.d {P : Program} {w : World} {t : TypeId} {α : Type} {f : α → PV} {q : α → Prop} (h : RdC P w t f q) : RdD P w t f (fun a _ _ => q a) := h
theorem RdD.str {P : Program} {w : World} {t : TypeId} (ht : P.underlying t = some .string) : RdD P w t PV.str (fun s H d => d = .lit (.string s)) := by
 intro H enc bs spare held fuel cs x h
 cases fuel with
 | zero => simp [DataW.trod] at h
 | succ n =>
  unfold DataW.trod at h
  rw [ht] at h
  match cs, h with
  | [.string s], h =>
   dsimp only at h
   split at h
   ·rename_i hs
    cases h
    refine ⟨s.data.toList, rfl, rfl, by simp [PV.cells, PV.isCell], fun j c hj => ?_⟩
    simp only [PV.cells] at hj
    cases j with
    | zero => simp at hj; subst hj; exact .str _ _ rfl (by rw [Array.length_toList]; exact hs)
    | succ j => simp at hj
   ·cases h
  | [], h => simp at h
  | _ :: _ :: _, h => simp at h
theorem RdD.slice {P : Program} {w : World} {t e : TypeId} (ht : P.underlying t = some (.slice e)) {z : Nat} (hz : P.cellsOf e = z) (hz0 : 0 < z) {α : Type} {f : α → PV} {q : α → (H : Type) → DataW H → Prop} (he : RdD P w e f q) :
  RdD P w t (fun l : List α => .lits z (l.map f)) (fun l H d => l = [] ∨ ∃ ds sp, d = .slice ds sp ∧ ds.length = l.length ∧ ∀ i (h : i < l.length) (h' : i < ds.length), q l[i] H ds[i]) := by
 intro H enc bs spare held fuel cs x h
 rcases DataW.trod_slice ht h with ⟨rfl, rfl⟩ | ⟨a, len, cap, elems, rest, n, _, rfl, rfl, hb, hl, hm, hlen, hel, hsp, hns⟩
 ·refine ⟨[], .inl rfl, by simp [PV.cells], by simp [PV.cells, PV.isCell], fun j c hj => ?_⟩
  simp only [PV.cells] at hj
  cases j with
  | zero => simp at hj; subst hj; exact .lits0 _ _ _
  | succ j => simp at hj
 ·obtain ⟨l, h1, h2⟩ := exists_list (Q := fun i v => (∀ h : i < elems.length, q v H elems[i].1) ∧ (f v).cells.length = z ∧ (∀ c ∈ (f v).cells, c.isCell = true) ∧ ∀ j, j < z → ∃ u, w.cell? ((a.add (i * z)).add j) = some u ∧ ∀ c, (f v).cells[j]? = some c → VR (base (full w) w) u c) len (fun i hi => by
   have h3 := hel i hi
   rw [hz] at h3
   have h4 : elems[i]? = some (elems[i]'(by omega)) := List.getElem?_eq_getElem (by omega)
   rw [h4, Option.bind_eq_some_iff] at h3
   obtain ⟨cs, h5, h6⟩ := h3
   obtain ⟨v, hq, h7, h8, h9⟩ := he enc bs spare held n cs _ h6
   obtain ⟨_, h10, h11⟩ := World.cells?_some h5
   refine ⟨v, fun _ => hq, by omega, h8, fun j hj => ?_⟩
   refine ⟨cs[j]'(by omega), by rw [h11 j hj]; exact List.getElem?_eq_getElem _, fun c hc => ?_⟩
   have := h9 j c hc
   rwa [List.getD_eq_getElem?_getD, List.getElem?_eq_getElem (by omega), Option.getD_some] at this)
  refine ⟨l, .inr ⟨_, _, rfl, by simp [h1, hlen], fun i hi hi' => ?_⟩, by simp [PV.cells], by simp [PV.cells, PV.isCell], fun j c hj => ?_⟩
  ·have := (h2 i hi).1 (by omega)
   simpa using this
  simp only [PV.cells] at hj
  cases j with
  | succ j => simp at hj
  | zero =>
   simp at hj; subst hj
   simp only [List.getD_cons_zero]
   cases len with
   | zero =>
    have : l = [] := List.eq_nil_of_length_eq_zero h1
    subst this
    exact .lits0 _ _ _
   | succ m =>
    obtain ⟨u, hu, _⟩ := (h2 0 (by omega)).2.2.2 0 hz0
    simp only [Nat.zero_mul, Addr.add, if_true] at hu
    obtain ⟨b, o, sp⟩ := a
    have hsp0 : sp = none := by
     cases sp with
     | none => rfl
     | some s => simp [World.cell?] at hu; split at hu <;> simp at hu
    subst hsp0
    have hlen' : (l.map f).length = m + 1 := by simp [h1]
    rw [← hlen']
    have hadd : ∀ i j, ((Addr.mk b o none).add (i * z)).add j = ⟨b, o + i * z + j, none⟩ := fun i j => by
     unfold Addr.add
     split
     ·rename_i h3; split
      ·rename_i h4; simp [h3, h4]
      ·simp [h3]
     ·split
      ·rename_i h3 h4; rw [h4]; rfl
      ·rfl
    refine .lits b o z cap (l.map f) (by omega) hm hz0 (fun v hv => ?_) (fun i j hi hj => ?_) (fun i j v c hv hc => ?_)
    ·obtain ⟨a', ha', rfl⟩ := List.mem_map.1 hv
     obtain ⟨i, hi, rfl⟩ := List.mem_iff_getElem.1 ha'
     exact ⟨(h2 i hi).2.1, (h2 i hi).2.2.1⟩
    ·have hi' : i < l.length := by simpa using hi
     obtain ⟨u, hu, _⟩ := (h2 i hi').2.2.2 j hj
     rw [hadd] at hu
     show (w.cell? ⟨b, o + i * z + j, none⟩).isSome = true
     rw [hu]; rfl
    ·rw [List.getElem?_map, Option.map_eq_some_iff] at hv
     obtain ⟨a', ha', rfl⟩ := hv
     obtain ⟨hi, rfl⟩ := List.getElem?_eq_some_iff.1 ha'
     have hj : j < z := by
      have := (List.getElem?_eq_some_iff.1 hc).1
      have := (h2 i hi).2.1
      omega
     obtain ⟨u, hu, hv⟩ := (h2 i hi).2.2.2 j hj
     rw [hadd] at hu
     show VR _ ((w.cell? ⟨b, o + i * z + j, none⟩).getD undef) c
     rw [hu]; exact hv c hc
def Part (w : World) (cs : List Value) (o : Nat) (l : List PV) : Prop := (∀ c ∈ l, c.isCell = true) ∧ ∀ (j : Nat) (c : PV), l[j]? = some c → VR (base (full w) w) (cs.getD (o + j) undef) c
theorem Part.nil {w : World} {cs : List Value} {o : Nat} : Part w cs o [] := ⟨by simp, by simp⟩
theorem Part.append {w : World} {cs : List Value} {o : Nat} {l m : List PV} (h : Part w cs o l) (g : Part w cs (o + l.length) m) : Part w cs o (l ++ m) := by
 refine ⟨fun c hc => ?_, fun j c hj => ?_⟩
 ·rcases List.mem_append.1 hc with h1 | h1
  ·exact h.1 c h1
  ·exact g.1 c h1
 ·by_cases hl : j < l.length
  ·rw [List.getElem?_append_left hl] at hj; exact h.2 j c hj
  ·rw [List.getElem?_append_right (by omega)] at hj
   have := g.2 _ c hj
   rwa [show o + l.length + (j - l.length) = o + j by omega] at this
theorem RdD.part {P : Program} {w : World} {t : TypeId} {α : Type} {f : α → PV} {q : α → (H : Type) → DataW H → Prop} (h : RdD P w t f q) {H : Type} {enc : TypeId × Value → H} {bs : Nat} {spare : Nat → Bool} {held : Bool} {fuel : Nat} {cs : List Value} {o n : Nat} (ho : o + n ≤ cs.length) {x : DataW H × List MemPlace}
  (hx : DataW.trod enc P w bs spare held fuel t ((cs.drop o).take n) = some x) : ∃ a, q a H x.1 ∧ (f a).cells.length = n ∧ Part w cs o (f a).cells := by
 obtain ⟨a, h1, h2, h3, h4⟩ := h enc bs spare held fuel _ x hx
 have hn : ((cs.drop o).take n).length = n := by simp; omega
 refine ⟨a, h1, by omega, h3, fun j c hj => ?_⟩
 have hjn : j < n := by have := (List.getElem?_eq_some_iff.1 hj).1; omega
 have := h4 j c hj
 rwa [List.getD_eq_getElem?_getD, List.getElem?_take_of_lt hjn, List.getElem?_drop, ← List.getD_eq_getElem?_getD] at this
end Sim
namespace Sim
open Go Go.Proofs
theorem ty3 : Try.prog.cellsOf 3 = 1 ∧ tvSlc Try.prog 3 = 0 ∧ tvStr Try.prog 3 = false ∧ tvMap Try.prog 3 = none ∧ tvInt Try.prog 3 = some .i64 ∧ tvLd Try.prog 3 = some (1, false) ∧ tvZero Try.prog 3 = .int .i64 0 ∧ tvNil Try.prog 3 = [] := by
 refine ⟨?_, ?_, ?_, ?_, ?_, ?_, ?_, ?_⟩ <;> kernel_rfl
theorem ty4 : Try.prog.cellsOf 4 = 1 ∧ tvSlc Try.prog 4 = 0 ∧ tvStr Try.prog 4 = false ∧ tvMap Try.prog 4 = none ∧ tvBool Try.prog 4 = true ∧ tvLd Try.prog 4 = some (1, false) ∧ tvZero Try.prog 4 = .bool false ∧ tvNil Try.prog 4 = [] := by
 refine ⟨?_, ?_, ?_, ?_, ?_, ?_, ?_, ?_⟩ <;> kernel_rfl
theorem ty20 : Try.prog.cellsOf 20 = 1 ∧ tvSlc Try.prog 20 = 0 ∧ tvStr Try.prog 20 = false ∧ tvMap Try.prog 20 = none ∧ tvLd Try.prog 20 = some (1, false) ∧ tvZero Try.prog 20 = .nili ∧ tvNil Try.prog 20 = [] := by
 refine ⟨?_, ?_, ?_, ?_, ?_, ?_, ?_⟩ <;> kernel_rfl
theorem ty22 : Try.prog.cellsOf 22 = 1 ∧ tvSlc Try.prog 22 = 50 ∧ tvElem Try.prog 22 = 49 ∧ tvStr Try.prog 22 = false ∧ tvMap Try.prog 22 = none ∧ tvLd Try.prog 22 = some (1, false) ∧ tvZero Try.prog 22 = .nils ∧ tvNil Try.prog 22 = [(0, 50)] := by
 refine ⟨?_, ?_, ?_, ?_, ?_, ?_, ?_, ?_⟩ <;> kernel_rfl
theorem ty24 : Try.prog.cellsOf 24 = 2 ∧ tvSlc Try.prog 24 = 0 ∧ tvStr Try.prog 24 = false ∧ tvMap Try.prog 24 = none ∧ tvLd Try.prog 24 = some (2, true) ∧ tvZero Try.prog 24 = .agg [.int .i64 0, .nils] ∧ tvFld Try.prog 24 0 = some (0, 1, 3) ∧ tvFld Try.prog 24 1 = some (1, 1, 22) ∧ tvArr Try.prog 24 = none ∧ tvBuild Try.prog 24 = true ∧ tvNil Try.prog 24 = [(1, 50)] := by
 refine ⟨?_, ?_, ?_, ?_, ?_, ?_, ?_, ?_, ?_, ?_, ?_⟩ <;> kernel_rfl
theorem ty25 : Try.prog.cellsOf 25 = 1 ∧ tvSlc Try.prog 25 = 3 ∧ tvElem Try.prog 25 = 56 ∧ tvStr Try.prog 25 = false ∧ tvMap Try.prog 25 = none ∧ tvLd Try.prog 25 = some (1, false) ∧ tvZero Try.prog 25 = .nils ∧ tvNil Try.prog 25 = [(0, 3)] := by
 refine ⟨?_, ?_, ?_, ?_, ?_, ?_, ?_, ?_⟩ <;> kernel_rfl
theorem ty27 : Try.prog.cellsOf 27 = 5 ∧ tvSlc Try.prog 27 = 0 ∧ tvStr Try.prog 27 = false ∧ tvMap Try.prog 27 = none ∧ tvLd Try.prog 27 = some (5, true) ∧ tvZero Try.prog 27 = .agg [.int .i64 0, .int .i64 0, .int .i64 0, .int .i64 0, .int .i64 0] ∧ tvFld Try.prog 27 0 = some (0, 1, 3) ∧ tvFld Try.prog 27 1 = some (1, 1, 3) ∧ tvFld Try.prog 27 2 = some (2, 1, 3) ∧ tvFld Try.prog 27 3 = some (3, 1, 3) ∧ tvFld Try.prog 27 4 = some (4, 1, 3) ∧ tvArr Try.prog 27 = none ∧ tvBuild Try.prog 27 = true ∧ tvNil Try.prog 27 = [] := by
 refine ⟨?_, ?_, ?_, ?_, ?_, ?_, ?_, ?_, ?_, ?_, ?_, ?_, ?_, ?_⟩ <;> kernel_rfl
theorem ty46 : Try.prog.cellsOf 46 = 1 ∧ tvSlc Try.prog 46 = 1 ∧ tvElem Try.prog 46 = 3 ∧ tvStr Try.prog 46 = false ∧ tvMap Try.prog 46 = none ∧ tvLd Try.prog 46 = some (1, false) ∧ tvZero Try.prog 46 = .nils ∧ tvNil Try.prog 46 = [(0, 1)] := by
 refine ⟨?_, ?_, ?_, ?_, ?_, ?_, ?_, ?_⟩ <;> kernel_rfl
theorem ty47 : Try.prog.cellsOf 47 = 24 ∧ tvSlc Try.prog 47 = 0 ∧ tvStr Try.prog 47 = false ∧ tvMap Try.prog 47 = none ∧ tvLd Try.prog 47 = some (24, true) ∧ tvZero Try.prog 47 = .agg [.int .i64 0, .int .i64 0, .int .i64 0, .int .i64 0, .int .i64 0, .int .i64 0, .int .i64 0, .int .i64 0, .int .i64 0, .int .i64 0, .int .i64 0, .int .i64 0, .int .i64 0, .int .i64 0, .int .i64 0, .int .i64 0, .int .i64 0, .int .i64 0, .int .i64 0, .int .i64 0, .int .i64 0, .int .i64 0, .int .i64 0, .int .i64 0] ∧ tvArr Try.prog 47 = some (24, 1) ∧ tvArrE Try.prog 47 = some (24, 3) ∧ tvBuild Try.prog 47 = true ∧ tvNil Try.prog 47 = [] := by
 refine ⟨?_, ?_, ?_, ?_, ?_, ?_, ?_, ?_, ?_, ?_⟩ <;> kernel_rfl
theorem ty49 : Try.prog.cellsOf 49 = 50 ∧ tvSlc Try.prog 49 = 0 ∧ tvStr Try.prog 49 = false ∧ tvMap Try.prog 49 = none ∧ tvLd Try.prog 49 = some (50, true) ∧ tvZero Try.prog 49 = .agg [.int .i64 0, .int .i64 0, .int .i64 0, .int .i64 0, .int .i64 0, .int .i64 0, .int .i64 0, .int .i64 0, .int .i64 0, .int .i64 0, .int .i64 0, .int .i64 0, .int .i64 0, .int .i64 0, .int .i64 0, .int .i64 0, .int .i64 0, .int .i64 0, .int .i64 0, .int .i64 0, .int .i64 0, .int .i64 0, .int .i64 0, .int .i64 0, .int .i64 0, .int .i64 0, .int .i64 0, .int .i64 0, .int .i64 0, .int .i64 0, .int .i64 0, .int .i64 0, .int .i64 0, .int .i64 0, .int .i64 0, .int .i64 0, .int .i64 0, .int .i64 0, .int .i64 0, .int .i64 0, .int .i64 0, .int .i64 0, .int .i64 0, .int .i64 0, .int .i64 0, .int .i64 0, .int .i64 0, .int .i64 0, .int .i64 0, .int .i64 0] ∧ tvFld Try.prog 49 0 = some (0, 1, 3) ∧ tvFld Try.prog 49 1 = some (1, 1, 3) ∧ tvFld Try.prog 49 2 = some (2, 24, 47) ∧ tvFld Try.prog 49 3 = some (26, 24, 47) ∧ tvArr Try.prog 49 = none ∧ tvBuild Try.prog 49 = true ∧ tvNil Try.prog 49 = [] := by
 refine ⟨?_, ?_, ?_, ?_, ?_, ?_, ?_, ?_, ?_, ?_, ?_, ?_, ?_⟩ <;> kernel_rfl
theorem ty56 : Try.prog.cellsOf 56 = 3 ∧ tvSlc Try.prog 56 = 0 ∧ tvStr Try.prog 56 = false ∧ tvMap Try.prog 56 = none ∧ tvLd Try.prog 56 = some (3, true) ∧ tvZero Try.prog 56 = .agg [.int .i64 0, .int .i64 0, .int .i64 0] ∧ tvFld Try.prog 56 0 = some (0, 1, 3) ∧ tvFld Try.prog 56 1 = some (1, 1, 3) ∧ tvFld Try.prog 56 2 = some (2, 1, 3) ∧ tvArr Try.prog 56 = none ∧ tvBuild Try.prog 56 = true ∧ tvNil Try.prog 56 = [] := by
 refine ⟨?_, ?_, ?_, ?_, ?_, ?_, ?_, ?_, ?_, ?_, ?_, ?_⟩ <;> kernel_rfl
theorem ty59 : Try.prog.cellsOf 59 = 1 ∧ tvSlc Try.prog 59 = 0 ∧ tvStr Try.prog 59 = false ∧ tvMap Try.prog 59 = none ∧ tvLd Try.prog 59 = some (1, false) ∧ tvZero Try.prog 59 = .nilp ∧ tvNil Try.prog 59 = [] := by
 refine ⟨?_, ?_, ?_, ?_, ?_, ?_, ?_⟩ <;> kernel_rfl
theorem ty64 : Try.prog.cellsOf 64 = 1 ∧ tvSlc Try.prog 64 = 0 ∧ tvStr Try.prog 64 = false ∧ tvMap Try.prog 64 = none ∧ tvLd Try.prog 64 = some (1, false) ∧ tvZero Try.prog 64 = .nilf ∧ tvNil Try.prog 64 = [] := by
 refine ⟨?_, ?_, ?_, ?_, ?_, ?_, ?_⟩ <;> kernel_rfl
theorem ty65 : Try.prog.cellsOf 65 = 1 ∧ tvSlc Try.prog 65 = 4 ∧ tvElem Try.prog 65 = 70 ∧ tvStr Try.prog 65 = false ∧ tvMap Try.prog 65 = none ∧ tvLd Try.prog 65 = some (1, false) ∧ tvZero Try.prog 65 = .nils ∧ tvNil Try.prog 65 = [(0, 4)] := by
 refine ⟨?_, ?_, ?_, ?_, ?_, ?_, ?_, ?_⟩ <;> kernel_rfl
theorem ty66 : Try.prog.cellsOf 66 = 1 ∧ tvSlc Try.prog 66 = 1 ∧ tvElem Try.prog 66 = 46 ∧ tvStr Try.prog 66 = false ∧ tvMap Try.prog 66 = none ∧ tvLd Try.prog 66 = some (1, false) ∧ tvZero Try.prog 66 = .nils ∧ tvNil Try.prog 66 = [(0, 1)] := by
 refine ⟨?_, ?_, ?_, ?_, ?_, ?_, ?_, ?_⟩ <;> kernel_rfl
theorem ty68 : Try.prog.cellsOf 68 = 3 ∧ tvSlc Try.prog 68 = 0 ∧ tvStr Try.prog 68 = false ∧ tvMap Try.prog 68 = none ∧ tvLd Try.prog 68 = some (3, true) ∧ tvZero Try.prog 68 = .agg [.nils, .nils, .nils] ∧ tvFld Try.prog 68 0 = some (0, 1, 65) ∧ tvFld Try.prog 68 1 = some (1, 1, 66) ∧ tvFld Try.prog 68 2 = some (2, 1, 46) ∧ tvArr Try.prog 68 = none ∧ tvBuild Try.prog 68 = true ∧ tvNil Try.prog 68 = [(0, 4), (1, 1), (2, 1)] := by
 refine ⟨?_, ?_, ?_, ?_, ?_, ?_, ?_, ?_, ?_, ?_, ?_, ?_⟩ <;> kernel_rfl
theorem ty70 : Try.prog.cellsOf 70 = 4 ∧ tvSlc Try.prog 70 = 0 ∧ tvStr Try.prog 70 = false ∧ tvMap Try.prog 70 = none ∧ tvLd Try.prog 70 = some (4, true) ∧ tvZero Try.prog 70 = .agg [.int .i64 0, .int .i64 0, .int .i64 0, .int .i64 0] ∧ tvFld Try.prog 70 0 = some (0, 1, 3) ∧ tvFld Try.prog 70 1 = some (1, 1, 3) ∧ tvFld Try.prog 70 2 = some (2, 1, 3) ∧ tvFld Try.prog 70 3 = some (3, 1, 3) ∧ tvArr Try.prog 70 = none ∧ tvBuild Try.prog 70 = true ∧ tvNil Try.prog 70 = [] := by
 refine ⟨?_, ?_, ?_, ?_, ?_, ?_, ?_, ?_, ?_, ?_, ?_, ?_, ?_⟩ <;> kernel_rfl
theorem ty85 : Try.prog.cellsOf 85 = 1 ∧ tvSlc Try.prog 85 = 0 ∧ tvStr Try.prog 85 = false ∧ tvMap Try.prog 85 = none ∧ tvInt Try.prog 85 = some .u64 ∧ tvLd Try.prog 85 = some (1, false) ∧ tvZero Try.prog 85 = .int .u64 0 ∧ tvNil Try.prog 85 = [] := by
 refine ⟨?_, ?_, ?_, ?_, ?_, ?_, ?_, ?_⟩ <;> kernel_rfl
theorem ty94 : Try.prog.cellsOf 94 = 2 ∧ tvSlc Try.prog 94 = 0 ∧ tvStr Try.prog 94 = false ∧ tvMap Try.prog 94 = none ∧ tvLd Try.prog 94 = some (2, true) ∧ tvZero Try.prog 94 = .agg [.int .i64 0, .int .i64 0] ∧ tvArr Try.prog 94 = some (2, 1) ∧ tvArrE Try.prog 94 = some (2, 3) ∧ tvBuild Try.prog 94 = true ∧ tvNil Try.prog 94 = [] := by
 refine ⟨?_, ?_, ?_, ?_, ?_, ?_, ?_, ?_, ?_, ?_⟩ <;> kernel_rfl
theorem ty95 : Try.prog.cellsOf 95 = 1 ∧ tvSlc Try.prog 95 = 0 ∧ tvStr Try.prog 95 = false ∧ tvMap Try.prog 95 = some (.ints 2, .int .i64 0) ∧ tvLd Try.prog 95 = some (1, false) ∧ tvZero Try.prog 95 = .nilm ∧ tvNil Try.prog 95 = [] := by
 refine ⟨?_, ?_, ?_, ?_, ?_, ?_, ?_⟩ <;> kernel_rfl
theorem ty100 : Try.prog.cellsOf 100 = 1 ∧ tvSlc Try.prog 100 = 1 ∧ tvElem Try.prog 100 = 4 ∧ tvStr Try.prog 100 = false ∧ tvMap Try.prog 100 = none ∧ tvLd Try.prog 100 = some (1, false) ∧ tvZero Try.prog 100 = .nils ∧ tvNil Try.prog 100 = [(0, 1)] := by
 refine ⟨?_, ?_, ?_, ?_, ?_, ?_, ?_, ?_⟩ <;> kernel_rfl
theorem ty102 : Try.prog.cellsOf 102 = 1 ∧ tvSlc Try.prog 102 = 0 ∧ tvStr Try.prog 102 = false ∧ tvMap Try.prog 102 = none ∧ tvLd Try.prog 102 = some (1, false) ∧ tvZero Try.prog 102 = .nilp ∧ tvMth Try.prog 102 "Len" = some (55, false, 106) ∧ tvMth Try.prog 102 "Less" = some (79, false, 106) ∧ tvMth Try.prog 102 "Pop" = some (80, true, 106) ∧ tvMth Try.prog 102 "Push" = some (81, true, 106) ∧ tvMth Try.prog 102 "Swap" = some (82, false, 106) ∧ tvConc Try.prog 102 = true ∧ tvNil Try.prog 102 = [] := by
 refine ⟨?_, ?_, ?_, ?_, ?_, ?_, ?_, ?_, ?_, ?_, ?_, ?_, ?_⟩ <;> kernel_rfl
theorem ty104 : Try.prog.cellsOf 104 = 2 ∧ tvSlc Try.prog 104 = 0 ∧ tvStr Try.prog 104 = false ∧ tvMap Try.prog 104 = none ∧ tvLd Try.prog 104 = some (2, true) ∧ tvZero Try.prog 104 = .agg [.int .i64 0, .int .i64 0] ∧ tvFld Try.prog 104 0 = some (0, 1, 3) ∧ tvFld Try.prog 104 1 = some (1, 1, 3) ∧ tvArr Try.prog 104 = none ∧ tvBuild Try.prog 104 = true ∧ tvConc Try.prog 104 = true ∧ tvNil Try.prog 104 = [] := by
 refine ⟨?_, ?_, ?_, ?_, ?_, ?_, ?_, ?_, ?_, ?_, ?_, ?_⟩ <;> kernel_rfl
theorem ty106 : Try.prog.cellsOf 106 = 1 ∧ tvSlc Try.prog 106 = 2 ∧ tvElem Try.prog 106 = 104 ∧ tvStr Try.prog 106 = false ∧ tvMap Try.prog 106 = none ∧ tvLd Try.prog 106 = some (1, false) ∧ tvZero Try.prog 106 = .nils ∧ tvNil Try.prog 106 = [(0, 2)] := by
 refine ⟨?_, ?_, ?_, ?_, ?_, ?_, ?_, ?_⟩ <;> kernel_rfl
theorem ty115 : Try.prog.cellsOf 115 = 1 ∧ tvSlc Try.prog 115 = 0 ∧ tvStr Try.prog 115 = false ∧ tvMap Try.prog 115 = none ∧ tvLd Try.prog 115 = some (1, false) ∧ tvZero Try.prog 115 = .nili ∧ tvNil Try.prog 115 = [] := by
 refine ⟨?_, ?_, ?_, ?_, ?_, ?_, ?_⟩ <;> kernel_rfl
end Sim
