/- What functions of this seat compute, by values: contracts (lemmas of the statement's proof, under the conditions that each names). -/
import Derived.Test.YtpaaaaijebdphaaQR
import Derived.Test.YtpaaaaijebdphaaQU
import Derived.Test.YtpaaaaijebdphaaSimW
import Derived.Test.YtpaaaaijebdphaaQV
namespace Sim
open Go Go.Proofs
set_option maxRecDepth 10000
set_option maxHeartbeats 2000000
set_option linter.unusedVariables false
set_option linter.unusedSimpArgs false
attribute [local congr] opsIf_congr condC_congr guardC_congr grd_congr pick3_congr obind_congr omap_congr nilC_congr opsV_congr
end Sim

namespace Sim
open Go Go.Proofs
set_option maxRecDepth 100000
set_option linter.unusedVariables false
set_option linter.unusedSimpArgs false
def decI : List PV → Option (List Int)
  | [] => some []
  | .int .i64 a :: l => (decI l).map fun rs => a :: rs
  | _ => none
theorem decI_ok : ∀ {l : List PV} {rs : List Int}, decI l = some rs → l = rs.map (PV.int .i64)
  | [], rs, h => by simp only [decI, Option.some.injEq] at h; subst h; rfl
  | p :: l, rs, h => by
    unfold decI at h
    split at h
    · rename_i e; cases e
    · rename_i a l' e
      cases e
      simp only [Option.map_eq_some_iff] at h
      obtain ⟨rs', h1, rfl⟩ := h
      rw [decI_ok h1]; rfl
    · cases h
def decP : List PV → Option (List Pst)
  | [] => some []
  | .agg [.int .i64 a, .int .i64 b, .int .i64 c, .int .i64 d, .int .i64 e, .int .i64 f] :: l => (decP l).map fun rs => (a, b, c, d, e, f) :: rs
  | _ => none
theorem decP_ok : ∀ {l : List PV} {rs : List Pst}, decP l = some rs → l = rs.map pstV
  | [], rs, h => by simp only [decP, Option.some.injEq] at h; subst h; rfl
  | p :: l, rs, h => by
    unfold decP at h
    split at h
    · rename_i e; cases e
    · rename_i a b c d e f l' e
      cases e
      simp only [Option.map_eq_some_iff] at h
      obtain ⟨rs', h1, rfl⟩ := h
      rw [decP_ok h1]; rfl
    · cases h
def decY : List PV → Option (List Pay)
  | [] => some []
  | .agg [.int .i64 a, .int .i64 b, .int .i64 c] :: l => (decY l).map fun rs => (a, b, c) :: rs
  | _ => none
theorem decY_ok : ∀ {l : List PV} {rs : List Pay}, decY l = some rs → l = rs.map payV
  | [], rs, h => by simp only [decY, Option.some.injEq] at h; subst h; rfl
  | p :: l, rs, h => by
    unfold decY at h
    split at h
    · rename_i e; cases e
    · rename_i a b c l' e
      cases e
      simp only [Option.map_eq_some_iff] at h
      obtain ⟨rs', h1, rfl⟩ := h
      rw [decY_ok h1]; rfl
    · cases h
def ext (f : FuncId) (args : List PV) : Option PV :=
  match args with
  | [.lits 1 l] => (decI l).bind fun b => if f = 14 then some (.tuple [I (leastN b), I (openE b)]) else if f = 16 then some (.tuple [pays (payM b), I (openE b)]) else none
  | [.lits 1 l, .lits 3 y] => (decI l).bind fun b => (decY y).bind fun y => if f = 17 ∧ b.length ≤ 100000 then some (B (settM b y)) else none
  | [.lits 6 o, .lits 6 m] => (decP o).bind fun o => (decP m).bind fun m => if f = 11 then some (.tuple [gaps (dspL o m), I (dspE o m)]) else none
  | [.agg [.int .i64 n, .lits 6 p], .int .i64 t] => (decP p).bind fun ps => if f = 19 then some (.tuple [ints (balsL n ps t), I (balsE n ps t)]) else none
  | [.agg [.int .i64 n, .lits 6 p], .lits 3 y, .int .i64 t] => (decP p).bind fun ps => (decY y).bind fun y => if f = 21 then some (.tuple [.agg [I (clearN n ps y t), psts (clearL n ps y t)], I (clearE n ps y t)]) else none
  | _ => none
theorem ext_ok : ∀ f args r, ext f args = some r → VC Try.prog f args r := by
  intro f args r h
  unfold ext at h
  split at h
  · simp only [Option.bind_eq_some_iff] at h
    obtain ⟨b, h1, h⟩ := h
    rw [decI_ok h1]
    split at h
    · rename_i e; subst e; cases h; exact c_least b
    · split at h
      · rename_i e; subst e; cases h; exact c_pay b
      · cases h
  · simp only [Option.bind_eq_some_iff] at h
    obtain ⟨b, h1, y, h2, h⟩ := h
    rw [decI_ok h1, decY_ok h2]
    split at h
    · rename_i e; obtain ⟨rfl, e⟩ := e; cases h; exact c_settles b y e
    · cases h
  · simp only [Option.bind_eq_some_iff] at h
    obtain ⟨o, h1, m, h2, h⟩ := h
    rw [decP_ok h1, decP_ok h2]
    split at h
    · rename_i e; subst e; cases h; exact c_dispute o m
    · cases h
  · simp only [Option.bind_eq_some_iff] at h
    obtain ⟨ps, h1, h⟩ := h
    rw [decP_ok h1]
    split at h
    · rename_i e; subst e; cases h; exact c_bals _ ps _
    · cases h
  · simp only [Option.bind_eq_some_iff] at h
    obtain ⟨ps, h1, y, h2, h⟩ := h
    rw [decP_ok h1, decY_ok h2]
    split at h
    · rename_i e; subst e; cases h; exact c_clear _ ps y _
    · cases h
  · cases h
def cf (f : FuncId) : List Nat × List Nat := if f = 10 then ([94], [44, 93]) else ([], [])
theorem t_sanity : evX Try.prog 130 400 cf ext 8 10 [] = some (.bool true) := by kernel_rfl
theorem sanity_ok : VC Try.prog 10 [] (.bool true) := evX_sound mixed ext_ok _ _ _ _ t_sanity
noncomputable def A_sanity : Unit → List PV := fun _ => []
noncomputable def R_sanity : Unit → PV := fun _ => B true
def H_sanity : Unit → Prop := fun _ => True
noncomputable def e_sanity : Nat × Ent := (10, .v (specOf A_sanity R_sanity H_sanity))
theorem j_sanity : ∀ i j, A_sanity i = A_sanity j → i = j := by
  rintro _ _ h
  rfl
theorem s_sanity  : specOf A_sanity R_sanity H_sanity [] = some (B true) := specOf_app j_sanity (i := ()) trivial
def C_sanity : Prop := VC Try.prog 10 [] (B true)
def O_sanity : Prop := EntOK Try.prog e_sanity.1 e_sanity.2
theorem k_sanity (c : C_sanity) : O_sanity := specOf_ok fun _ h => c 
theorem o_sanity : O_sanity := k_sanity sanity_ok
end Sim

namespace Sim
open Go Go.Proofs
set_option maxRecDepth 10000
set_option linter.unusedVariables false
set_option linter.unusedSimpArgs false
theorem spec_mem {o c : List Pst} (hr : ∀ p ∈ o ++ c, rgtO p) : AscG (specL o c) ∧ ∀ z, z ∈ specL o c ↔ ∃ p ∈ o ++ c, z = gapP o c p ∧ ¬ z.2.2.2.1 = z.2.2.2.2 := by
  obtain ⟨h1, h2⟩ := spec_ok (o := o) (c := c) hr (o ++ c).length (Nat.le_refl _)
  refine ⟨h1, fun z => (h2 z).trans ?_⟩
  constructor
  · rintro ⟨j, hj, h⟩
    exact ⟨(o ++ c).getD j dP, by have := at_mem_take (l := o ++ c) hj hj; rwa [List.take_length] at this, h⟩
  · rintro ⟨p, hp, h⟩
    obtain ⟨j, hj, rfl⟩ := List.getElem_of_mem hp
    have e : (o ++ c).getD j dP = (o ++ c)[j] := by rw [List.getD_eq_getElem?_getD, List.getElem?_eq_getElem hj]; rfl
    exact ⟨j, hj, by rw [e]; exact h⟩
theorem spec_self {o : List Pst} (hr : ∀ p ∈ o ++ o, rgtO p) : specL o o = [] := by
  obtain ⟨_, m1⟩ := spec_mem hr
  cases h : specL o o with
  | nil => rfl
  | cons x l =>
    rw [h] at m1
    obtain ⟨p, _, rfl, hn⟩ := (m1 x).1 (by simp)
    exact absurd rfl hn
theorem dspL_zero {o c : List Pst} (h : dspE o c = 0) : dspL o c = specL o c := if_pos h
theorem sum_perm {l m : List Int} (h : l.Perm m) : l.sum = m.sum := by
  induction h with
  | nil => rfl
  | cons x _ ih => simp [ih]
  | swap x y l => simp only [List.sum_cons]; omega
  | trans _ _ h1 h2 => rw [h1, h2]
end Sim

namespace Sim
open Go Go.Proofs
set_option linter.unusedVariables false
set_option linter.unusedSimpArgs false
/-- A tariff: keep, read, audit. -/
abbrev Tar := Int × Int × Int
abbrev dT : Tar := (0, 0, 0)
abbrev tarV (a : Tar) : PV := .agg [I a.1, I a.2.1, I a.2.2]
abbrev tars (l : List Tar) : PV := .lits 3 (l.map tarV)
theorem nth_tars {l : List Tar} {k : Nat} (h : k < l.length) : nth (l.map tarV) k = .agg [I (l.getD k dT).1, I (l.getD k dT).2.1, I (l.getD k dT).2.2] := nth_mapD dT h
theorem pur_tars {l : List Tar} : pursL (l.map tarV) = true := pur_map fun x => by simp [pur_agg, pursL_cons, pur_int, pursL_nil]
theorem inj_tars {l m : List Tar} : (l.map tarV = m.map tarV) = (l = m) := inj_map fun x y h => by
  simp only [PV.agg.injEq, List.cons.injEq, true_and, and_true, PV.int.injEq] at h
  exact Prod.ext h.1 (Prod.ext h.2.1 h.2.2)
/-- A send: link, tick, bytes. -/
abbrev Snd := Int × Int × Int
abbrev dS : Snd := (0, 0, 0)
abbrev sndV (a : Snd) : PV := .agg [I a.1, I a.2.1, I a.2.2]
abbrev snds (l : List Snd) : PV := .lits 3 (l.map sndV)
theorem nth_snds {l : List Snd} {k : Nat} (h : k < l.length) : nth (l.map sndV) k = .agg [I (l.getD k dS).1, I (l.getD k dS).2.1, I (l.getD k dS).2.2] := nth_mapD dS h
theorem pur_snds {l : List Snd} : pursL (l.map sndV) = true := pur_map fun x => by simp [pur_agg, pursL_cons, pur_int, pursL_nil]
theorem inj_snds {l m : List Snd} : (l.map sndV = m.map sndV) = (l = m) := inj_map fun x y h => by
  simp only [PV.agg.injEq, List.cons.injEq, true_and, and_true, PV.int.injEq] at h
  exact Prod.ext h.1 (Prod.ext h.2.1 h.2.2)
/-- A use: kind, house, customer, bytes, from, to, count, sends. -/
abbrev Use := Int × Int × Int × Int × Int × Int × Int × List Snd
abbrev dU : Use := (0, 0, 0, 0, 0, 0, 0, [])
abbrev useV (a : Use) : PV := .agg [I a.1, I a.2.1, I a.2.2.1, I a.2.2.2.1, I a.2.2.2.2.1, I a.2.2.2.2.2.1, I a.2.2.2.2.2.2.1, snds a.2.2.2.2.2.2.2]
abbrev uses (l : List Use) : PV := .lits 8 (l.map useV)
theorem nth_uses {l : List Use} {k : Nat} (h : k < l.length) : nth (l.map useV) k = .agg [I (l.getD k dU).1, I (l.getD k dU).2.1, I (l.getD k dU).2.2.1, I (l.getD k dU).2.2.2.1, I (l.getD k dU).2.2.2.2.1, I (l.getD k dU).2.2.2.2.2.1, I (l.getD k dU).2.2.2.2.2.2.1, snds (l.getD k dU).2.2.2.2.2.2.2] := nth_mapD dU h
theorem pur_uses {l : List Use} : pursL (l.map useV) = true := pur_map fun x => by simp [pur_agg, pursL_cons, pur_int, pur_lits, pur_snds, pursL_nil]
theorem inj_uses {l m : List Use} : (l.map useV = m.map useV) = (l = m) := inj_map fun x y h => by
  simp only [PV.agg.injEq, List.cons.injEq, true_and, and_true, PV.int.injEq, PV.lits.injEq, inj_snds] at h
  exact Prod.ext h.1 (Prod.ext h.2.1 (Prod.ext h.2.2.1 (Prod.ext h.2.2.2.1 (Prod.ext h.2.2.2.2.1 (Prod.ext h.2.2.2.2.2.1 (Prod.ext h.2.2.2.2.2.2.1 h.2.2.2.2.2.2.2))))))
/-- A rest: customer, house, kind, milli. -/
abbrev Rst := Int × Int × Int × Int
abbrev dR : Rst := (0, 0, 0, 0)
abbrev rstV (a : Rst) : PV := .agg [I a.1, I a.2.1, I a.2.2.1, I a.2.2.2]
abbrev rsts (l : List Rst) : PV := .lits 4 (l.map rstV)
theorem nth_rsts {l : List Rst} {k : Nat} (h : k < l.length) : nth (l.map rstV) k = .agg [I (l.getD k dR).1, I (l.getD k dR).2.1, I (l.getD k dR).2.2.1, I (l.getD k dR).2.2.2] := nth_mapD dR h
theorem pur_rsts {l : List Rst} : pursL (l.map rstV) = true := pur_map fun x => by simp [pur_agg, pursL_cons, pur_int, pursL_nil]
theorem inj_rsts {l m : List Rst} : (l.map rstV = m.map rstV) = (l = m) := inj_map fun x y h => by
  simp only [PV.agg.injEq, List.cons.injEq, true_and, and_true, PV.int.injEq] at h
  exact Prod.ext h.1 (Prod.ext h.2.1 (Prod.ext h.2.2.1 h.2.2.2))
/-- A key: customer, house, kind. -/
abbrev Key := Int × Int × Int
abbrev dK : Key := (0, 0, 0)
abbrev keyV (a : Key) : PV := .agg [I a.1, I a.2.1, I a.2.2]
abbrev keys (l : List Key) : PV := .lits 3 (l.map keyV)
theorem nth_keys {l : List Key} {k : Nat} (h : k < l.length) : nth (l.map keyV) k = .agg [I (l.getD k dK).1, I (l.getD k dK).2.1, I (l.getD k dK).2.2] := nth_mapD dK h
theorem pur_keys {l : List Key} : pursL (l.map keyV) = true := pur_map fun x => by simp [pur_agg, pursL_cons, pur_int, pursL_nil]
/-- A net: houses, links (from, to, the capacity and the price at each hour). -/
abbrev Lnk := Int × Int × (Fin 24 → Int) × (Fin 24 → Int)
abbrev dL : Lnk := (0, 0, fun _ => 0, fun _ => 0)
def lkC (a : Lnk) : List PV := I a.1 :: I a.2.1 :: ((List.ofFn a.2.2.1).map (PV.int .i64) ++ (List.ofFn a.2.2.2).map (PV.int .i64))
abbrev lnkV (a : Lnk) : PV := .agg (lkC a)
abbrev lnks (l : List Lnk) : PV := .lits 50 (l.map lnkV)
theorem ofFn_at {f : Fin 24 → Int} {h : Nat} (g : h < 24) : (List.ofFn f)[h]? = some (f ⟨h, g⟩) := by
  rw [List.getElem?_eq_getElem (by rw [List.length_ofFn]; exact g), List.getElem_ofFn]
theorem ofFn_inj {f g : Fin 24 → Int} (h : List.ofFn f = List.ofFn g) : f = g := funext fun i => by
  have h1 := ofFn_at (f := f) i.2
  have h2 := ofFn_at (f := g) i.2
  rw [h, h2] at h1
  exact (Option.some.inj h1).symm
theorem ofFn_len {f : Fin 24 → Int} : ((List.ofFn f).map (PV.int .i64)).length = 24 := by rw [List.length_map, List.length_ofFn]
theorem lkC_inj {a b : Lnk} (h : lkC a = lkC b) : a = b := by
  simp only [lkC, List.cons.injEq, PV.int.injEq, true_and] at h
  obtain ⟨h1, h2, h3⟩ := h
  obtain ⟨h4, h5⟩ := List.append_inj h3 (by rw [ofFn_len, ofFn_len])
  have e : ∀ {f g : Fin 24 → Int}, (List.ofFn f).map (PV.int .i64) = (List.ofFn g).map (PV.int .i64) → f = g := fun h => ofFn_inj (map_inj' (fun x y h => by injection h) h)
  exact Prod.ext h1 (Prod.ext h2 (Prod.ext (e h4) (e h5)))
theorem pur_lkC {a : Lnk} : pursL (lkC a) = true := by
  have : ∀ {l : List Int} {r : List PV}, pursL r = true → pursL (l.map (PV.int .i64) ++ r) = true := by
    intro l r h
    induction l with
    | nil => exact h
    | cons a l ih => simp [pursL_cons, pur_int, ih]
  simp only [lkC, pursL_cons, pur_int, Bool.true_and]
  exact this (pur_ints)
theorem nth_lnks {l : List Lnk} {k : Nat} (h : k < l.length) : nth (l.map lnkV) k = .agg (lkC (l.getD k dL)) := nth_mapD dL h
theorem pur_lnks {l : List Lnk} : pursL (l.map lnkV) = true := pur_map fun x => by rw [pur_agg, pur_lkC]
theorem inj_lnks {l m : List Lnk} : (l.map lnkV = m.map lnkV) = (l = m) := inj_map fun x y h => by
  simp only [PV.agg.injEq] at h
  exact lkC_inj h
end Sim
