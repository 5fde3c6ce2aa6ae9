/- What functions of this seat compute, by values: contracts (lemmas of the statement's proof, under the conditions that each names). -/
import Derived.Test.YtmgklnbhbomlnaaQV
namespace Sim
open Go Go.Proofs
set_option linter.unusedVariables false
set_option linter.unusedSimpArgs false
/-- A tariff: keep, read, audit. -/
abbrev Tar := Int × Int × Int
abbrev dT : Tar := (0, 0, 0)
abbrev tarV (a : Tar) : PV := .agg [I a.1, I a.2.1, I a.2.2]
abbrev tars (l : List Tar) : PV := .lits 3 (l.map tarV)
theorem nth_tars {l : List Tar} {k : Nat} (h : k < l.length) : nth (l.map tarV) k = .agg [I (l.getD k dT).1, I (l.getD k dT).2.1, I (l.getD k dT).2.2] := nth_mapD dT h
theorem pur_tars {l : List Tar} : pursL (l.map tarV) = true := pur_map fun x => by simp [pur_agg, pursL_cons, pur_int, pursL_nil]
theorem inj_tars {l m : List Tar} : (l.map tarV = m.map tarV) = (l = m) := inj_map fun x y h => by
  simp only [PV.agg.injEq, List.cons.injEq, true_and, and_true, PV.int.injEq] at h
  exact Prod.ext h.1 (Prod.ext h.2.1 h.2.2)
/-- A send: link, tick, bytes. -/
abbrev Snd := Int × Int × Int
abbrev dS : Snd := (0, 0, 0)
abbrev sndV (a : Snd) : PV := .agg [I a.1, I a.2.1, I a.2.2]
abbrev snds (l : List Snd) : PV := .lits 3 (l.map sndV)
theorem nth_snds {l : List Snd} {k : Nat} (h : k < l.length) : nth (l.map sndV) k = .agg [I (l.getD k dS).1, I (l.getD k dS).2.1, I (l.getD k dS).2.2] := nth_mapD dS h
theorem pur_snds {l : List Snd} : pursL (l.map sndV) = true := pur_map fun x => by simp [pur_agg, pursL_cons, pur_int, pursL_nil]
theorem inj_snds {l m : List Snd} : (l.map sndV = m.map sndV) = (l = m) := inj_map fun x y h => by
  simp only [PV.agg.injEq, List.cons.injEq, true_and, and_true, PV.int.injEq] at h
  exact Prod.ext h.1 (Prod.ext h.2.1 h.2.2)
/-- A use: kind, house, customer, bytes, from, to, count, sends. -/
abbrev Use := Int × Int × Int × Int × Int × Int × Int × List Snd
abbrev dU : Use := (0, 0, 0, 0, 0, 0, 0, [])
abbrev useV (a : Use) : PV := .agg [I a.1, I a.2.1, I a.2.2.1, I a.2.2.2.1, I a.2.2.2.2.1, I a.2.2.2.2.2.1, I a.2.2.2.2.2.2.1, snds a.2.2.2.2.2.2.2]
abbrev uses (l : List Use) : PV := .lits 8 (l.map useV)
theorem nth_uses {l : List Use} {k : Nat} (h : k < l.length) : nth (l.map useV) k = .agg [I (l.getD k dU).1, I (l.getD k dU).2.1, I (l.getD k dU).2.2.1, I (l.getD k dU).2.2.2.1, I (l.getD k dU).2.2.2.2.1, I (l.getD k dU).2.2.2.2.2.1, I (l.getD k dU).2.2.2.2.2.2.1, snds (l.getD k dU).2.2.2.2.2.2.2] := nth_mapD dU h
theorem pur_uses {l : List Use} : pursL (l.map useV) = true := pur_map fun x => by simp [pur_agg, pursL_cons, pur_int, pur_lits, pur_snds, pursL_nil]
theorem inj_uses {l m : List Use} : (l.map useV = m.map useV) = (l = m) := inj_map fun x y h => by
  simp only [PV.agg.injEq, List.cons.injEq, true_and, and_true, PV.int.injEq, PV.lits.injEq, inj_snds] at h
  exact Prod.ext h.1 (Prod.ext h.2.1 (Prod.ext h.2.2.1 (Prod.ext h.2.2.2.1 (Prod.ext h.2.2.2.2.1 (Prod.ext h.2.2.2.2.2.1 (Prod.ext h.2.2.2.2.2.2.1 h.2.2.2.2.2.2.2))))))
/-- A rest: customer, house, kind, milli. -/
abbrev Rst := Int × Int × Int × Int
abbrev dR : Rst := (0, 0, 0, 0)
abbrev rstV (a : Rst) : PV := .agg [I a.1, I a.2.1, I a.2.2.1, I a.2.2.2]
abbrev rsts (l : List Rst) : PV := .lits 4 (l.map rstV)
theorem nth_rsts {l : List Rst} {k : Nat} (h : k < l.length) : nth (l.map rstV) k = .agg [I (l.getD k dR).1, I (l.getD k dR).2.1, I (l.getD k dR).2.2.1, I (l.getD k dR).2.2.2] := nth_mapD dR h
theorem pur_rsts {l : List Rst} : pursL (l.map rstV) = true := pur_map fun x => by simp [pur_agg, pursL_cons, pur_int, pursL_nil]
theorem inj_rsts {l m : List Rst} : (l.map rstV = m.map rstV) = (l = m) := inj_map fun x y h => by
  simp only [PV.agg.injEq, List.cons.injEq, true_and, and_true, PV.int.injEq] at h
  exact Prod.ext h.1 (Prod.ext h.2.1 (Prod.ext h.2.2.1 h.2.2.2))
/-- A key: customer, house, kind. -/
abbrev Key := Int × Int × Int
abbrev dK : Key := (0, 0, 0)
abbrev keyV (a : Key) : PV := .agg [I a.1, I a.2.1, I a.2.2]
theorem nth_keys {l : List Key} {k : Nat} (h : k < l.length) : nth (l.map keyV) k = .agg [I (l.getD k dK).1, I (l.getD k dK).2.1, I (l.getD k dK).2.2] := nth_mapD dK h
theorem pur_keys {l : List Key} : pursL (l.map keyV) = true := pur_map fun x => by simp [pur_agg, pursL_cons, pur_int, pursL_nil]
/-- A net: houses, links (from, to, the capacity and the price at each hour). -/
abbrev Lnk := Int × Int × (Fin 24 → Int) × (Fin 24 → Int)
abbrev dL : Lnk := (0, 0, fun _ => 0, fun _ => 0)
def lkC (a : Lnk) : List PV := I a.1 :: I a.2.1 :: ((List.ofFn a.2.2.1).map (PV.int .i64) ++ (List.ofFn a.2.2.2).map (PV.int .i64))
abbrev lnkV (a : Lnk) : PV := .agg (lkC a)
abbrev lnks (l : List Lnk) : PV := .lits 50 (l.map lnkV)
def capA (a : Lnk) (h : Nat) : Int := if g : h < 24 then a.2.2.1 ⟨h, g⟩ else 0
def priA (a : Lnk) (h : Nat) : Int := if g : h < 24 then a.2.2.2 ⟨h, g⟩ else 0
theorem ofFn_at {f : Fin 24 → Int} {h : Nat} (g : h < 24) : (List.ofFn f)[h]? = some (f ⟨h, g⟩) := by
  rw [List.getElem?_eq_getElem (by rw [List.length_ofFn]; exact g), List.getElem_ofFn]
theorem ofFn_inj {f g : Fin 24 → Int} (h : List.ofFn f = List.ofFn g) : f = g := funext fun i => by
  have h1 := ofFn_at (f := f) i.2
  have h2 := ofFn_at (f := g) i.2
  rw [h, h2] at h1
  exact (Option.some.inj h1).symm
theorem ofFn_len {f : Fin 24 → Int} : ((List.ofFn f).map (PV.int .i64)).length = 24 := by rw [List.length_map, List.length_ofFn]
theorem lkC_len {a : Lnk} : (lkC a).length = 50 := by simp [lkC]
theorem lkC_0 {a : Lnk} : (lkC a)[0]? = some (I a.1) := by simp [lkC]
theorem lkC_1 {a : Lnk} : (lkC a)[1]? = some (I a.2.1) := by simp [lkC]
theorem lkC_cap {a : Lnk} {h : Nat} (g : h < 24) : (lkC a)[2 + h]? = some (I (capA a h)) := by
  simp only [lkC, capA, g, dite_true]
  rw [show 2 + h = h + 1 + 1 by omega, List.getElem?_cons_succ, List.getElem?_cons_succ, List.getElem?_append_left (by rw [ofFn_len]; exact g), List.getElem?_map, ofFn_at g]; rfl
theorem lkC_pri {a : Lnk} {h : Nat} (g : h < 24) : (lkC a)[26 + h]? = some (I (priA a h)) := by
  simp only [lkC, priA, g, dite_true]
  rw [show 26 + h = (24 + h) + 1 + 1 by omega, List.getElem?_cons_succ, List.getElem?_cons_succ, List.getElem?_append_right (by rw [ofFn_len]; omega), ofFn_len, show 24 + h - 24 = h by omega, List.getElem?_map, ofFn_at g]; rfl
theorem lkC_take {a : Lnk} : List.take 50 (lkC a) = lkC a := List.take_of_length_le (by rw [lkC_len]; omega)
theorem lkC_inj {a b : Lnk} (h : lkC a = lkC b) : a = b := by
  simp only [lkC, List.cons.injEq, PV.int.injEq, true_and] at h
  obtain ⟨h1, h2, h3⟩ := h
  obtain ⟨h4, h5⟩ := List.append_inj h3 (by rw [ofFn_len, ofFn_len])
  have e : ∀ {f g : Fin 24 → Int}, (List.ofFn f).map (PV.int .i64) = (List.ofFn g).map (PV.int .i64) → f = g := fun h => ofFn_inj (map_inj' (fun x y h => by injection h) h)
  exact Prod.ext h1 (Prod.ext h2 (Prod.ext (e h4) (e h5)))
theorem pur_lkC {a : Lnk} : pursL (lkC a) = true := by
  have : ∀ {l : List Int} {r : List PV}, pursL r = true → pursL (l.map (PV.int .i64) ++ r) = true := by
    intro l r h
    induction l with
    | nil => exact h
    | cons a l ih => simp [pursL_cons, pur_int, ih]
  simp only [lkC, pursL_cons, pur_int, Bool.true_and]
  exact this (pur_ints)
theorem nth_lnks {l : List Lnk} {k : Nat} (h : k < l.length) : nth (l.map lnkV) k = .agg (lkC (l.getD k dL)) := nth_mapD dL h
theorem pur_lnks {l : List Lnk} : pursL (l.map lnkV) = true := pur_map fun x => by rw [pur_agg, pur_lkC]
theorem inj_lnks {l m : List Lnk} : (l.map lnkV = m.map lnkV) = (l = m) := inj_map fun x y h => by
  simp only [PV.agg.injEq] at h
  exact lkC_inj h
end Sim
