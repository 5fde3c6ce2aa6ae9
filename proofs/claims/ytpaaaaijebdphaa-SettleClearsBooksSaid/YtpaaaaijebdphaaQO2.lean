/- What functions of this seat compute, by values: contracts (lemmas of the statement's proof, under the conditions that each names). -/
import Derived.Test.YtpaaaaijebdphaaQR
import Derived.Test.YtpaaaaijebdphaaQU
import Derived.Test.YtpaaaaijebdphaaSimZ
import Derived.Test.YtpaaaaijebdphaaQH
namespace Sim
open Go Go.Proofs
set_option maxRecDepth 10000
set_option maxHeartbeats 2000000
set_option linter.unusedVariables false
set_option linter.unusedSimpArgs false
attribute [local congr] opsIf_congr condC_congr guardC_congr grd_congr pick3_congr obind_congr omap_congr nilC_congr opsV_congr
end Sim

namespace Sim
open Go Go.Proofs
set_option maxRecDepth 100000
set_option linter.unusedVariables false
set_option linter.unusedSimpArgs false
def decI : List PV → Option (List Int)
  | [] => some []
  | .int .i64 a :: l => (decI l).map fun rs => a :: rs
  | _ => none
theorem decI_ok : ∀ {l : List PV} {rs : List Int}, decI l = some rs → l = rs.map (PV.int .i64)
  | [], rs, h => by simp only [decI, Option.some.injEq] at h; subst h; rfl
  | p :: l, rs, h => by
    unfold decI at h
    split at h
    · rename_i e; cases e
    · rename_i a l' e
      cases e
      simp only [Option.map_eq_some_iff] at h
      obtain ⟨rs', h1, rfl⟩ := h
      rw [decI_ok h1]; rfl
    · cases h
def decP : List PV → Option (List Pst)
  | [] => some []
  | .agg [.int .i64 a, .int .i64 b, .int .i64 c, .int .i64 d, .int .i64 e, .int .i64 f] :: l => (decP l).map fun rs => (a, b, c, d, e, f) :: rs
  | _ => none
theorem decP_ok : ∀ {l : List PV} {rs : List Pst}, decP l = some rs → l = rs.map pstV
  | [], rs, h => by simp only [decP, Option.some.injEq] at h; subst h; rfl
  | p :: l, rs, h => by
    unfold decP at h
    split at h
    · rename_i e; cases e
    · rename_i a b c d e f l' e
      cases e
      simp only [Option.map_eq_some_iff] at h
      obtain ⟨rs', h1, rfl⟩ := h
      rw [decP_ok h1]; rfl
    · cases h
def decY : List PV → Option (List Pay)
  | [] => some []
  | .agg [.int .i64 a, .int .i64 b, .int .i64 c] :: l => (decY l).map fun rs => (a, b, c) :: rs
  | _ => none
theorem decY_ok : ∀ {l : List PV} {rs : List Pay}, decY l = some rs → l = rs.map payV
  | [], rs, h => by simp only [decY, Option.some.injEq] at h; subst h; rfl
  | p :: l, rs, h => by
    unfold decY at h
    split at h
    · rename_i e; cases e
    · rename_i a b c l' e
      cases e
      simp only [Option.map_eq_some_iff] at h
      obtain ⟨rs', h1, rfl⟩ := h
      rw [decY_ok h1]; rfl
    · cases h
def ext (f : FuncId) (args : List PV) : Option PV :=
  match args with
  | [.lits 1 l] => (decI l).bind fun b => if f = 14 then some (.tuple [I (leastN b), I (openE b)]) else if f = 16 then some (.tuple [pays (payM b), I (openE b)]) else none
  | [.lits 1 l, .lits 3 y] => (decI l).bind fun b => (decY y).bind fun y => if f = 17 ∧ b.length ≤ 100000 then some (B (settM b y)) else none
  | [.lits 6 o, .lits 6 m] => (decP o).bind fun o => (decP m).bind fun m => if f = 11 then some (.tuple [gaps (dspL o m), I (dspE o m)]) else none
  | [.agg [.int .i64 n, .lits 6 p], .int .i64 t] => (decP p).bind fun ps => if f = 19 then some (.tuple [ints (balsL n ps t), I (balsE n ps t)]) else none
  | [.agg [.int .i64 n, .lits 6 p], .lits 3 y, .int .i64 t] => (decP p).bind fun ps => (decY y).bind fun y => if f = 21 then some (.tuple [.agg [I (clearN n ps y t), psts (clearL n ps y t)], I (clearE n ps y t)]) else none
  | _ => none
theorem ext_ok : ∀ f args r, ext f args = some r → VC Try.prog f args r := by
  intro f args r h
  unfold ext at h
  split at h
  · simp only [Option.bind_eq_some_iff] at h
    obtain ⟨b, h1, h⟩ := h
    rw [decI_ok h1]
    split at h
    · rename_i e; subst e; cases h; exact c_least b
    · split at h
      · rename_i e; subst e; cases h; exact c_pay b
      · cases h
  · simp only [Option.bind_eq_some_iff] at h
    obtain ⟨b, h1, y, h2, h⟩ := h
    rw [decI_ok h1, decY_ok h2]
    split at h
    · rename_i e; obtain ⟨rfl, e⟩ := e; cases h; exact c_settles b y e
    · cases h
  · simp only [Option.bind_eq_some_iff] at h
    obtain ⟨o, h1, m, h2, h⟩ := h
    rw [decP_ok h1, decP_ok h2]
    split at h
    · rename_i e; subst e; cases h; exact c_dispute o m
    · cases h
  · simp only [Option.bind_eq_some_iff] at h
    obtain ⟨ps, h1, h⟩ := h
    rw [decP_ok h1]
    split at h
    · rename_i e; subst e; cases h; exact c_bals _ ps _
    · cases h
  · simp only [Option.bind_eq_some_iff] at h
    obtain ⟨ps, h1, y, h2, h⟩ := h
    rw [decP_ok h1, decY_ok h2]
    split at h
    · rename_i e; subst e; cases h; exact c_clear _ ps y _
    · cases h
  · cases h
def cf (f : FuncId) : List Nat × List Nat := if f = 10 then ([94], [44, 93]) else ([], [])
theorem t_sanity : evX Try.prog 130 400 cf ext 8 10 [] = some (.bool true) := by kernel_rfl
theorem sanity_ok : VC Try.prog 10 [] (.bool true) := evX_sound mixed ext_ok _ _ _ _ t_sanity
noncomputable def A_sanity : Unit → List PV := fun _ => []
noncomputable def R_sanity : Unit → PV := fun _ => B true
def H_sanity : Unit → Prop := fun _ => True
noncomputable def e_sanity : Nat × Ent := (10, .v (specOf A_sanity R_sanity H_sanity))
theorem j_sanity : ∀ i j, A_sanity i = A_sanity j → i = j := by
  rintro _ _ h
  rfl
theorem s_sanity  : specOf A_sanity R_sanity H_sanity [] = some (B true) := specOf_app j_sanity (i := ()) trivial
def C_sanity : Prop := VC Try.prog 10 [] (B true)
def O_sanity : Prop := EntOK Try.prog e_sanity.1 e_sanity.2
theorem k_sanity (c : C_sanity) : O_sanity := specOf_ok fun _ h => c 
theorem o_sanity : O_sanity := k_sanity sanity_ok
end Sim

namespace Sim
open Go Go.Proofs
set_option maxRecDepth 10000
set_option linter.unusedVariables false
set_option linter.unusedSimpArgs false
structure GPart (l : List Int) (L : List (List Int)) : Prop where
  perm : L.flatten.Perm l
  good : ∀ g ∈ L, g ≠ [] ∧ g.sum = 0
def els (n s : Nat) : List Nat := (List.range n).filter fun k => s.testBit k
theorem els_mem {n s k : Nat} : k ∈ els n s ↔ k < n ∧ s.testBit k = true := by simp [els]
theorem els_nodup {n s : Nat} : (els n s).Nodup := List.Pairwise.filter _ List.nodup_range
theorem els_dif {n s k : Nat} (hs : s < 4611686018427387904) (hk : k ≤ 60) (hkn : k < n) (hb : s.testBit k = true) : (els n s).Perm (k :: els n (dif s (2 ^ k))) := by
  have h1 := List.perm_cons_erase (els_mem.2 ⟨hkn, hb⟩)
  rw [List.Nodup.erase_eq_filter els_nodup] at h1
  have e : List.filter (fun x => x != k) (els n s) = els n (dif s (2 ^ k)) := by
    unfold els
    rw [List.filter_filter]
    refine List.filter_congr fun i _ => ?_
    rw [dif_bit hs hk]
    by_cases c : i = k
    · subst c; simp
    · have c2 : ¬ k = i := fun e => c e.symm
      simp [c, c2]
  rw [e] at h1
  exact h1
theorem els_zero {n : Nat} : els n 0 = [] := by simp [els]
theorem els_full {n : Nat} : els n (2 ^ n - 1) = List.range n := by
  unfold els
  rw [List.filter_eq_self]
  intro k hk
  rw [Nat.testBit_two_pow_sub_one]
  simpa using hk
theorem smB_els {v : Nat → Int} {s : Nat} : ∀ n, smB v s n = ((els n s).map v).sum
  | 0 => by simp [smB, els]
  | n + 1 => by
    have ih := smB_els (v := v) (s := s) n
    simp only [smB, els] at ih ⊢
    rw [List.range_succ, List.filter_append, List.map_append, List.sum_append, ih]
    congr 1
    by_cases h : s.testBit n = true <;> simp [List.filter_cons, h]
theorem nv_nz {b : List Int} : ∀ k, nvK b k = (nzK b k).map fun i => b.getD i.toNat 0
  | 0 => rfl
  | k + 1 => by
    simp only [nvK, nzK]
    split
    · exact nv_nz k
    · rw [List.map_append, nv_nz k]; rfl
theorem nv_sum {b : List Int} : ∀ k, sumK b k = (nvK b k).sum
  | 0 => rfl
  | k + 1 => by
    have ih := nv_sum (b := b) k
    simp only [nvK, sumK]
    split
    · omega
    · rw [List.sum_append, ← ih]; simp
theorem range_map {b l : List Int} : (List.range l.length).map (valK b l) = l.map fun i => b.getD i.toNat 0 := by
  apply List.ext_getElem
  · simp
  · intro i h1 h2
    simp only [List.getElem_map, List.getElem_range, valK]
    rw [List.getD_eq_getElem?_getD (l := l), List.getElem?_eq_getElem (by simpa using h1)]
    rfl
theorem open_zero {b : List Int} (h : openE b = 0) : openL b = nzK b b.length ∧ openV b = nvK b b.length := by
  unfold openL openV
  rw [if_pos h, if_pos h]; exact ⟨rfl, rfl⟩
theorem open_full {b : List Int} (h : openE b = 0) : smB (valK b (openL b)) (2 ^ (openL b).length - 1) (openL b).length = 0 := by
  rw [smB_els, els_full, range_map, (open_zero h).1, ← nv_nz, ← nv_sum]
  exact (open_ok h).2.2.1
end Sim

namespace Sim
open Go Go.Proofs
set_option maxRecDepth 10000
set_option linter.unusedVariables false
set_option linter.unusedSimpArgs false
theorem sum_add {g : List Nat} {f h : Nat → Int} : (g.map fun i => f i + h i).sum = (g.map f).sum + (g.map h).sum := by
  induction g with
  | nil => rfl
  | cons x g ih => simp only [List.map_cons, List.sum_cons, ih]; omega
theorem sum_got {p : Pay} {u v : Nat} (hu : (u : Int) = p.1) (hv : (v : Int) = p.2.1) : ∀ g : List Nat, (g.map fun i : Nat => gotP p (i : Int)).sum = p.2.2 * ((g.count u : Nat) : Int) - p.2.2 * ((g.count v : Nat) : Int)
  | [] => by simp
  | x :: g => by
    have ih := sum_got hu hv g
    rw [List.map_cons, List.sum_cons, ih, List.count_cons, List.count_cons]
    unfold gotP
    rw [← hu, ← hv]
    have e1 : ((x == u) = true) ↔ ((u : Int) = (x : Int)) := by simp only [beq_iff_eq]; omega
    have e2 : ((x == v) = true) ↔ ((v : Int) = (x : Int)) := by simp only [beq_iff_eq]; omega
    generalize p.2.2 = a
    generalize g.count u = c
    generalize g.count v = d
    by_cases c1 : (u : Int) = (x : Int) <;> by_cases c2 : (v : Int) = (x : Int)
    · rw [if_pos c1, if_pos c2, if_pos (e1.2 c1), if_pos (e2.2 c2)]; simp only [Int.natCast_add, Int.mul_add]; omega
    · rw [if_pos c1, if_neg c2, if_pos (e1.2 c1), if_neg (fun h => c2 (e2.1 h))]; simp only [Int.natCast_add, Int.mul_add]; omega
    · rw [if_neg c1, if_pos c2, if_neg (fun h => c1 (e1.1 h)), if_pos (e2.2 c2)]; simp only [Int.natCast_add, Int.mul_add]; omega
    · rw [if_neg c1, if_neg c2, if_neg (fun h => c1 (e1.1 h)), if_neg (fun h => c2 (e2.1 h))]; simp only [Int.natCast_add, Int.mul_add]; omega
structure Comp (n : Nat) (l : List Pay) (k : Nat) (L : List (List Nat)) : Prop where
  perm : L.flatten.Perm (List.range n)
  good : ∀ g ∈ L, g ≠ [] ∧ (g.map fun i : Nat => gotT l (i : Int) k).sum = 0
  many : n ≤ L.length + k
theorem sett_parts {b : List Int} {l : List Pay} (h : settM b l = true) : l.length ≤ 200 ∧ (∀ p ∈ l, payOK b.length p) ∧ ∀ i, i < b.length → b.getD i 0 = - gotT l (i : Int) l.length := by
  unfold settM at h
  simp only [Bool.and_eq_true, decide_eq_true_eq] at h
  obtain ⟨⟨⟨h1, h2⟩, h3⟩, h4⟩ := h
  refine ⟨h1, h3, fun i hi => ?_⟩
  have e := leftL_at (b := b) (l := l) (k := l.length) hi
  have hm : (leftL b l l.length).getD i 0 ∈ leftL b l l.length := by
    rw [List.getD_eq_getElem?_getD, List.getElem?_eq_getElem (by rw [leftL_len]; exact hi)]
    exact List.getElem_mem _
  have := h4 _ hm
  omega
end Sim
