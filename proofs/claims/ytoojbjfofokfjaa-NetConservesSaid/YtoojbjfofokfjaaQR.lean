/- What functions of this seat compute, by values: contracts (lemmas of the statement's proof, under the conditions that each names). -/
import Derived.Test.YtoojbjfofokfjaaQQ
import Derived.Test.YtoojbjfofokfjaaSimZ
namespace Sim
open Go Go.Proofs
set_option maxRecDepth 100000
set_option linter.unusedVariables false
set_option linter.unusedSimpArgs false
def decI : List PV → Option (List Int)
  | [] => some []
  | .int .i64 a :: l => (decI l).map fun rs => a :: rs
  | _ => none
theorem decI_ok : ∀ {l : List PV} {rs : List Int}, decI l = some rs → l = rs.map (PV.int .i64)
  | [], rs, h => by simp only [decI, Option.some.injEq] at h; subst h; rfl
  | p :: l, rs, h => by
    unfold decI at h
    split at h
    · rename_i e; cases e
    · rename_i a l' e
      cases e
      simp only [Option.map_eq_some_iff] at h
      obtain ⟨rs', h1, rfl⟩ := h
      rw [decI_ok h1]; rfl
    · cases h
def lkI (a : Lnk) : List Int := a.1 :: a.2.1 :: (List.ofFn a.2.2.1 ++ List.ofFn a.2.2.2)
def mkL (xs : List Int) : Lnk := (xs.getD 0 0, xs.getD 1 0, fun i => xs.getD (2 + i.1) 0, fun i => xs.getD (26 + i.1) 0)
theorem lkI_C (a : Lnk) : lkC a = (lkI a).map (PV.int .i64) := by simp [lkC, lkI]
def decL : List PV → Option (List Lnk)
  | [] => some []
  | .agg cs :: l => (decI cs).bind fun xs => if lkI (mkL xs) = xs then (decL l).map fun rs => mkL xs :: rs else none
  | _ => none
theorem decL_ok : ∀ {l : List PV} {rs : List Lnk}, decL l = some rs → l = rs.map lnkV
  | [], rs, h => by simp only [decL, Option.some.injEq] at h; subst h; rfl
  | p :: l, rs, h => by
    unfold decL at h
    split at h
    · rename_i e; cases e
    · rename_i cs l' e
      cases e
      simp only [Option.bind_eq_some_iff] at h
      obtain ⟨xs, h1, h⟩ := h
      split at h
      · rename_i hx
        simp only [Option.map_eq_some_iff] at h
        obtain ⟨rs', h2, rfl⟩ := h
        rw [decL_ok h2, decI_ok h1, List.map_cons, lnkV, lkI_C, hx]
      · cases h
    · cases h
def decS : List PV → Option (List Snd)
  | [] => some []
  | .agg [.int .i64 a, .int .i64 b, .int .i64 c] :: l => (decS l).map fun rs => (a, b, c) :: rs
  | _ => none
theorem decS_ok : ∀ {l : List PV} {rs : List Snd}, decS l = some rs → l = rs.map sndV
  | [], rs, h => by simp only [decS, Option.some.injEq] at h; subst h; rfl
  | p :: l, rs, h => by
    unfold decS at h
    split at h
    · rename_i e; cases e
    · rename_i a b c l' e
      cases e
      simp only [Option.map_eq_some_iff] at h
      obtain ⟨rs', h1, rfl⟩ := h
      rw [decS_ok h1]; rfl
    · cases h
def decLs : List PV → Option (List (List Snd))
  | [] => some []
  | .lits 3 s :: l => (decS s).bind fun x => (decLs l).map fun rs => x :: rs
  | _ => none
theorem decLs_ok : ∀ {l : List PV} {rs : List (List Snd)}, decLs l = some rs → l = rs.map snds
  | [], rs, h => by simp only [decLs, Option.some.injEq] at h; subst h; rfl
  | p :: l, rs, h => by
    unfold decLs at h
    split at h
    · rename_i e; cases e
    · rename_i s l' e
      cases e
      simp only [Option.bind_eq_some_iff, Option.map_eq_some_iff] at h
      obtain ⟨x, h1, rs', h2, rfl⟩ := h
      rw [decLs_ok h2, decS_ok h1]; rfl
    · cases h
def ext (f : FuncId) (args : List PV) : Option PV :=
  match args with
  | [.agg [.int .i64 hn, .lits 50 n]] => (decL n).bind fun ls => if f = 21 then some (I (checkM hn ls)) else none
  | [.agg [.int .i64 hn, .lits 50 n], .lits 3 l] => (decL n).bind fun ls => (decS l).bind fun l => if f = 11 then some (.tuple [I (costM hn ls l), I (rightM hn ls l)]) else if f = 17 then some (I (fitM hn ls l)) else none
  | [.agg [.int .i64 hn, .lits 50 n], .lits 1 l] => (decL n).bind fun ls => (decLs l).bind fun L => if f = 19 ∧ L.length ≤ 400 then some (.tuple [snds (joinM hn ls L), I (joinE hn ls L)]) else none
  | [.agg [.int .i64 hn, .lits 50 n], .lits 3 l, .int .i64 a, .int .i64 b] => (decL n).bind fun ls => (decS l).bind fun l => if f = 13 then some (.tuple [I (leftM hn ls l a b).1, I (leftM hn ls l a b).2]) else none
  | [.agg [.int .i64 hn, .lits 50 n], .lits 3 l, .agg [.int .i64 p, .int .i64 q, .int .i64 r, .int .i64 s, .int .i64 t]] => (decL n).bind fun ls => (decS l).bind fun l =>
    if f = 24 then some (I (servesM hn ls l (p, q, r, s, t))) else if f = 26 then some (.tuple [I (arrM hn ls l (p, q, r, s, t)).1, I (arrM hn ls l (p, q, r, s, t)).2]) else none
  | [.agg [.int .i64 hn, .lits 50 n], .lits 3 l, .agg [.int .i64 p, .int .i64 q, .int .i64 r, .int .i64 s, .int .i64 t], .int .i64 a, .int .i64 b] => (decL n).bind fun ls => (decS l).bind fun l =>
    if f = 25 then some (.tuple [I (stockM hn ls l (p, q, r, s, t) a b).1, I (stockM hn ls l (p, q, r, s, t) a b).2]) else none
  | _ => none
theorem ext_ok : ∀ f args r, ext f args = some r → VC Try.prog f args r := by
  intro f args r h
  unfold ext at h
  split at h
  · simp only [Option.bind_eq_some_iff] at h
    obtain ⟨ls, h1, h⟩ := h
    rw [decL_ok h1]
    split at h
    · rename_i e; subst e; cases h; exact c_check _ ls
    · cases h
  · simp only [Option.bind_eq_some_iff] at h
    obtain ⟨ls, h1, l, h2, h⟩ := h
    rw [decL_ok h1, decS_ok h2]
    split at h
    · rename_i e; subst e; cases h; exact c_cost _ ls l
    · split at h
      · rename_i e; subst e; cases h; exact c_fits _ ls l
      · cases h
  · simp only [Option.bind_eq_some_iff] at h
    obtain ⟨ls, h1, l, h2, h⟩ := h
    rw [decL_ok h1, decLs_ok h2]
    split at h
    · rename_i e; obtain ⟨rfl, e⟩ := e; cases h; exact c_join _ ls l e
    · cases h
  · simp only [Option.bind_eq_some_iff] at h
    obtain ⟨ls, h1, l, h2, h⟩ := h
    rw [decL_ok h1, decS_ok h2]
    split at h
    · rename_i e; subst e; cases h; exact c_left _ ls l _ _
    · cases h
  · simp only [Option.bind_eq_some_iff] at h
    obtain ⟨ls, h1, l, h2, h⟩ := h
    rw [decL_ok h1, decS_ok h2]
    split at h
    · rename_i e; subst e; cases h; exact c_serves _ ls l (_, _, _, _, _)
    · split at h
      · rename_i e; subst e; cases h; exact c_arrives _ ls l (_, _, _, _, _)
      · cases h
  · simp only [Option.bind_eq_some_iff] at h
    obtain ⟨ls, h1, l, h2, h⟩ := h
    rw [decL_ok h1, decS_ok h2]
    split at h
    · rename_i e; subst e; cases h; exact c_Stock _ ls l (_, _, _, _, _) _ _
    · cases h
  · cases h
def cf (f : FuncId) : List Nat × List Nat := ([], [])
theorem t_sanity : evX Try.prog 83 400 cf ext 8 10 [] = some (.bool true) := by kernel_rfl
theorem sanity_ok : VC Try.prog 10 [] (.bool true) := evX_sound mixed ext_ok _ _ _ _ t_sanity
end Sim
