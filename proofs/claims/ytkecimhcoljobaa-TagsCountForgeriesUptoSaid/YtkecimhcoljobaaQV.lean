/- What functions of this seat compute, by values: contracts (lemmas of the statement's proof, under the conditions that each names). -/
import Derived.Test.YtkecimhcoljobaaQT
namespace Sim
open Go Go.Proofs
abbrev ansV (a : List Int × Int) : PV := .agg [ints a.1, I a.2]
abbrev askV (a : Int × Int) : PV := .agg [I a.1, I a.2]
abbrev anss (l : List (List Int × Int)) : PV := .lits 2 (l.map ansV)
abbrev asks (l : List (Int × Int)) : PV := .lits 2 (l.map askV)
theorem nth_ans {l : List (List Int × Int)} {k : Nat} (h : k < l.length) : nth (l.map ansV) k = .agg [ints (l.getD k ([], 0)).1, I (l.getD k ([], 0)).2] := nth_mapD ([], 0) h
theorem nth_asks {l : List (Int × Int)} {k : Nat} (h : k < l.length) : nth (l.map askV) k = .agg [I (l.getD k (0, 0)).1, I (l.getD k (0, 0)).2] := nth_mapD (0, 0) h
theorem pur_ans {l : List (List Int × Int)} : pursL (l.map ansV) = true := pur_map fun x => by simp [pur_agg, pursL_cons, pur_lits, pur_ints, pur_int, pursL_nil]
theorem pur_asks {l : List (Int × Int)} : pursL (l.map askV) = true := pur_map fun x => by simp [pur_agg, pursL_cons, pur_int, pursL_nil]
theorem inj_ans {l m : List (List Int × Int)} : (l.map ansV = m.map ansV) = (l = m) := inj_map fun x y h => by
  simp only [PV.agg.injEq, List.cons.injEq, PV.lits.injEq, true_and, and_true, inj_ints, PV.int.injEq] at h
  exact Prod.ext h.1 h.2
theorem inj_asks {l m : List (Int × Int)} : (l.map askV = m.map askV) = (l = m) := inj_map fun x y h => by
  simp only [PV.agg.injEq, List.cons.injEq, true_and, and_true, PV.int.injEq] at h
  exact Prod.ext h.1 h.2
end Sim
