/- What functions of this seat compute, by values: contracts (lemmas of the statement's proof, under the conditions that each names). -/
import Derived.Test.YtmgklnbhbomlnaaQT
namespace Sim
open Go Go.Proofs
set_option linter.unusedVariables false
set_option linter.unusedSimpArgs false
/-- A posting: debit, credit, amount, tick, why, ref. -/
abbrev Pst := Int × Int × Int × Int × Int × Int
abbrev dP : Pst := (0, 0, 0, 0, 0, 0)
abbrev pstV (a : Pst) : PV := .agg [I a.1, I a.2.1, I a.2.2.1, I a.2.2.2.1, I a.2.2.2.2.1, I a.2.2.2.2.2]
abbrev psts (l : List Pst) : PV := .lits 6 (l.map pstV)
theorem nth_psts {l : List Pst} {k : Nat} (h : k < l.length) : nth (l.map pstV) k = .agg [I (l.getD k dP).1, I (l.getD k dP).2.1, I (l.getD k dP).2.2.1, I (l.getD k dP).2.2.2.1, I (l.getD k dP).2.2.2.2.1, I (l.getD k dP).2.2.2.2.2] := nth_mapD dP h
theorem pur_psts {l : List Pst} : pursL (l.map pstV) = true := pur_map fun x => by simp [pur_agg, pursL_cons, pur_int, pursL_nil]
theorem inj_psts {l m : List Pst} : (l.map pstV = m.map pstV) = (l = m) := inj_map fun x y h => by
  simp only [PV.agg.injEq, List.cons.injEq, true_and, and_true, PV.int.injEq] at h
  exact Prod.ext h.1 (Prod.ext h.2.1 (Prod.ext h.2.2.1 (Prod.ext h.2.2.2.1 (Prod.ext h.2.2.2.2.1 h.2.2.2.2.2))))
end Sim
