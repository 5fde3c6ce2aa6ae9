/- What functions of this seat compute, by values: contracts (lemmas of the statement's proof, under the conditions that each names). -/
import Derived.Test.YtoojbjfofokfjaaQT
namespace Sim
open Go Go.Proofs
set_option linter.unusedVariables false
set_option linter.unusedSimpArgs false
/-- A link: from, to, the capacity and the price at each hour. -/
abbrev Lnk := Int × Int × (Fin 24 → Int) × (Fin 24 → Int)
abbrev dL : Lnk := (0, 0, fun _ => 0, fun _ => 0)
def lkC (a : Lnk) : List PV := I a.1 :: I a.2.1 :: ((List.ofFn a.2.2.1).map (PV.int .i64) ++ (List.ofFn a.2.2.2).map (PV.int .i64))
abbrev lnkV (a : Lnk) : PV := .agg (lkC a)
abbrev lnks (l : List Lnk) : PV := .lits 50 (l.map lnkV)
abbrev Net := Int × List Lnk
abbrev netV (n : Net) : PV := .agg [I n.1, lnks n.2]
abbrev Snd := Int × Int × Int
abbrev dS : Snd := (0, 0, 0)
abbrev sndV (a : Snd) : PV := .agg [I a.1, I a.2.1, I a.2.2]
abbrev snds (l : List Snd) : PV := .lits 3 (l.map sndV)
abbrev lss (l : List (List Snd)) : PV := .lits 1 (l.map snds)
def capA (a : Lnk) (h : Nat) : Int := if g : h < 24 then a.2.2.1 ⟨h, g⟩ else 0
def priA (a : Lnk) (h : Nat) : Int := if g : h < 24 then a.2.2.2 ⟨h, g⟩ else 0
theorem ofFn_at {f : Fin 24 → Int} {h : Nat} (g : h < 24) : (List.ofFn f)[h]? = some (f ⟨h, g⟩) := by
  rw [List.getElem?_eq_getElem (by rw [List.length_ofFn]; exact g), List.getElem_ofFn]
theorem ofFn_inj {f g : Fin 24 → Int} (h : List.ofFn f = List.ofFn g) : f = g := funext fun i => by
  have h1 := ofFn_at (f := f) i.2
  have h2 := ofFn_at (f := g) i.2
  rw [h, h2] at h1
  exact (Option.some.inj h1).symm
theorem ofFn_len {f : Fin 24 → Int} : ((List.ofFn f).map (PV.int .i64)).length = 24 := by rw [List.length_map, List.length_ofFn]
theorem lkC_len {a : Lnk} : (lkC a).length = 50 := by simp [lkC]
theorem lkC_0 {a : Lnk} : (lkC a)[0]? = some (I a.1) := by simp [lkC]
theorem lkC_1 {a : Lnk} : (lkC a)[1]? = some (I a.2.1) := by simp [lkC]
theorem lkC_cap {a : Lnk} {h : Nat} (g : h < 24) : (lkC a)[2 + h]? = some (I (capA a h)) := by
  simp only [lkC, capA, g, dite_true]
  rw [show 2 + h = h + 1 + 1 by omega, List.getElem?_cons_succ, List.getElem?_cons_succ, List.getElem?_append_left (by rw [ofFn_len]; exact g), List.getElem?_map, ofFn_at g]; rfl
theorem lkC_pri {a : Lnk} {h : Nat} (g : h < 24) : (lkC a)[26 + h]? = some (I (priA a h)) := by
  simp only [lkC, priA, g, dite_true]
  rw [show 26 + h = (24 + h) + 1 + 1 by omega, List.getElem?_cons_succ, List.getElem?_cons_succ, List.getElem?_append_right (by rw [ofFn_len]; omega), ofFn_len, show 24 + h - 24 = h by omega, List.getElem?_map, ofFn_at g]; rfl
theorem lkC_take {a : Lnk} : List.take 50 (lkC a) = lkC a := List.take_of_length_le (by rw [lkC_len]; omega)
theorem lkC_inj {a b : Lnk} (h : lkC a = lkC b) : a = b := by
  simp only [lkC, List.cons.injEq, PV.int.injEq, true_and] at h
  obtain ⟨h1, h2, h3⟩ := h
  obtain ⟨h4, h5⟩ := List.append_inj h3 (by rw [ofFn_len, ofFn_len])
  have e : ∀ {f g : Fin 24 → Int}, (List.ofFn f).map (PV.int .i64) = (List.ofFn g).map (PV.int .i64) → f = g := fun h => ofFn_inj (map_inj' (fun x y h => by injection h) h)
  exact Prod.ext h1 (Prod.ext h2 (Prod.ext (e h4) (e h5)))
theorem pur_lkC {a : Lnk} : pursL (lkC a) = true := by
  have : ∀ {l : List Int} {r : List PV}, pursL r = true → pursL (l.map (PV.int .i64) ++ r) = true := by
    intro l r h
    induction l with
    | nil => exact h
    | cons a l ih => simp [pursL_cons, pur_int, ih]
  simp only [lkC, pursL_cons, pur_int, Bool.true_and]
  exact this (pur_ints)
theorem nth_lnks {l : List Lnk} {k : Nat} (h : k < l.length) : nth (l.map lnkV) k = .agg (lkC (l.getD k dL)) := nth_mapD dL h
theorem pur_lnks {l : List Lnk} : pursL (l.map lnkV) = true := pur_map fun x => by rw [pur_agg, pur_lkC]
theorem inj_lnks {l m : List Lnk} : (l.map lnkV = m.map lnkV) = (l = m) := inj_map fun x y h => by
  simp only [PV.agg.injEq] at h
  exact lkC_inj h
theorem nth_snds {l : List Snd} {k : Nat} (h : k < l.length) : nth (l.map sndV) k = .agg [I (l.getD k dS).1, I (l.getD k dS).2.1, I (l.getD k dS).2.2] := nth_mapD dS h
theorem pur_snds {l : List Snd} : pursL (l.map sndV) = true := pur_map fun x => by simp [pur_agg, pursL_cons, pur_int, pursL_nil]
theorem inj_snds {l m : List Snd} : (l.map sndV = m.map sndV) = (l = m) := inj_map fun x y h => by
  simp only [PV.agg.injEq, List.cons.injEq, true_and, and_true, PV.int.injEq] at h
  exact Prod.ext h.1 (Prod.ext h.2.1 h.2.2)
theorem nth_lss {l : List (List Snd)} {k : Nat} (h : k < l.length) : nth (l.map snds) k = .lits 3 ((l.getD k []).map sndV) := nth_mapD [] h
theorem pur_lss {l : List (List Snd)} : pursL (l.map snds) = true := pur_map fun x => by rw [pur_lits, pur_snds]
theorem inj_lss {l m : List (List Snd)} : (l.map snds = m.map snds) = (l = m) := inj_map fun x y h => by
  simp only [PV.lits.injEq, true_and, inj_snds] at h
  exact h
end Sim
