/- Operations, shape by shape. -/
import Derived.Test.YtbojbamchaohpaaSimP
namespace Sim
open Go
set_option linter.unusedVariables false
set_option linter.unusedSimpArgs false
theorem ev_tmp {ρ : Nat → PV} {n : Nat} : evalP ρ (.tmp n) = ρ n := nrfl rfl
theorem ev_int {ρ : Nat → PV} {k : IntKind} {n : Int} : evalP ρ (.const (.int k n)) = .int k n := nrfl rfl
theorem ev_bool {ρ : Nat → PV} {b : Bool} : evalP ρ (.const (.bool b)) = .bool b := nrfl rfl
theorem ev_nils {ρ : Nat → PV} : evalP ρ (.const (.slice none 0 0)) = .nils := nrfl rfl
theorem ev_nilp {ρ : Nat → PV} : evalP ρ (.const (.pointer none)) = .nilp := nrfl rfl
theorem ev_nilf {ρ : Nat → PV} : evalP ρ (.const .nilFunc) = .nilf := nrfl rfl
theorem ev_nili {ρ : Nat → PV} : evalP ρ (.const .nilIface) = .nili := nrfl rfl
theorem ev_func {ρ : Nat → PV} {f : FuncId} : evalP ρ (.func f) = .func (.func f) [] [] := nrfl rfl
def grd (o : Option Nat) (ρ : Nat → PV) : PV := match o with | some d => ρ d | none => .bad
theorem guardP_eq {ops : Array Oper} {ρ : Nat → PV} {j : Nat} : guardP ops ρ j = grd ((ops[j]?).bind (·.dst)) ρ := nrfl rfl
theorem grd_some {d : Nat} {ρ : Nat → PV} : grd (some d) ρ = ρ d := nrfl rfl
section
variable {X : Cfg} {d : Nat} {ρ : Operand → PV} {st : Store}
theorem iop_move {x : Operand} : iop X d (.move x) ρ st = some (ρ x, st) := nrfl rfl
theorem iop_assign {x : Operand} : iop X d (.assign x) ρ st = some (ρ x, st) := nrfl rfl
def pick3 (c a b : PV) (st : Store) : Option (PV × Store) := match c with | .bool v => some (if v then a else b, st) | _ => none
theorem pick3_bool {v : Bool} {a b : PV} : pick3 (.bool v) a b st = some (if v = true then a else b, st) := nrfl rfl
theorem iop_pick {c a b : Operand} : iop X d (.pick c a b) ρ st = pick3 (ρ c) (ρ a) (ρ b) st := nrfl rfl
theorem iop_alloc {t : TypeId} (h : X.num d = 0) : iop X d (.alloc t) ρ st = if 0 < X.P.cellsOf t ∧ (tvZero X.P t).cells.length = X.P.cellsOf t then some (.ptr st.next 0 0 0, st.new (.arr 0 (X.P.cellsOf t) [tvZero X.P t])) else none := by simp [iop, h]
theorem iop_alloc_re {t : TypeId} {k : Nat} (h : X.num d = k + 1) : iop X d (.alloc t) ρ st = if 0 < X.P.cellsOf t ∧ (tvZero X.P t).cells.length = X.P.cellsOf t then st.reP (k + 1) (X.P.cellsOf t) (tvZero X.P t) else none := by simp [iop, h]
def boxP (X : Cfg) (d : Nat) (cells : List PV) (p : PV) (st : Store) : Option (PV × Store) :=
 if 0 < cells.length then (if X.muts d then some (.ptr st.next 0 0 0, st.new (.arr 0 cells.length [p])) else some (.vptr cells 0, st)) else none
theorem iop_box {t : TypeId} {x : Operand} : iop X d (.box t x) ρ st = boxP X d (ρ x).cells (ρ x) st := nrfl rfl
theorem boxP_eq {cells : List PV} {p : PV} : boxP X d cells p st = if 0 < cells.length then (if X.muts d = true then some (.ptr st.next 0 0 0, st.new (.arr 0 cells.length [p])) else some (.vptr cells 0, st)) else none := nrfl rfl
def evp (ρ : Operand → PV) : List (Nat × Operand) → List (Nat × PV)
 | [] => []
 | x :: l => (x.1, ρ x.2) :: evp ρ l
theorem evp_cons {i : Nat} {x : Operand} {l : List (Nat × Operand)} : evp ρ ((i, x) :: l) = (i, ρ x) :: evp ρ l := nrfl rfl
theorem evp_nil : evp ρ [] = [] := nrfl rfl
theorem evp_eq {l : List (Nat × Operand)} : (l.map fun (i, x) => (i, ρ x)) = evp ρ l := by
 induction l with
 | nil => rfl
 | cons x l ih => simp only [List.map_cons, evp, ih]
theorem iop_build {t : TypeId} {parts : List (Nat × Operand)} : iop X d (.build t parts.toArray) ρ st = (buildP X.P t (evp ρ parts)).map fun v => (v, st) := by rw [← evp_eq]; rfl
def bslP (X : Cfg) (d : Nat) (t : TypeId) (len : Nat) (o : Option (List PV)) (st : Store) : Option (PV × Store) :=
 if 0 < tvSlc X.P t ∧ len * tvSlc X.P t ≤ 16777216 then o.bind fun l => if X.muts d then (if X.num d = 0 then some (.ref st.next 0 0 len, st.new (.arr 0 (tvSlc X.P t) l)) else st.re (X.num d) (tvSlc X.P t) l len) else some (.lits (tvSlc X.P t) l, st) else none
theorem iop_buildSlice {t : TypeId} {len : Nat} {parts : List (Nat × Operand)} : iop X d (.buildSlice t len parts.toArray) ρ st = bslP X d t len (buildElems (tvSlc X.P t) (List.replicate len (tvZero X.P (tvElem X.P t))) (evp ρ parts)) st := by rw [← evp_eq]; rfl
theorem bslP_eq {t : TypeId} {len : Nat} {l : List PV} : bslP X d t len (some l) st = if 0 < tvSlc X.P t ∧ len * tvSlc X.P t ≤ 16777216 then (if X.muts d = true then (if X.num d = 0 then some (.ref st.next 0 0 len, st.new (.arr 0 (tvSlc X.P t) l)) else st.re (X.num d) (tvSlc X.P t) l len) else some (.lits (tvSlc X.P t) l, st)) else none := by
 simp only [bslP, Option.bind_some]
theorem iop_load {t : TypeId} {x : Operand} : iop X d (.load t x) ρ st = (tvLd X.P t).bind fun q => (loadP (X.see d st) q.1 q.2 (ρ x)).map fun v => (v, st) := nrfl rfl
theorem iop_store {t : TypeId} {a x : Operand} : iop X d (.store t a x) ρ st = if (X.frz (800000 + tmpNo a) = true ∧ softS st (ρ a) (ρ x) = false) ∨ (X.frz (900000 + tmpNo a) = true ∧ heldS (X.num (tmpNo a)) (ρ a) = false) then none else (storeP st (X.P.cellsOf t) (ρ a) (ρ x)).map fun st' => (.bad, st') := nrfl rfl
theorem tmpNo_tmp {n : Nat} : tmpNo (.tmp n) = n := nrfl rfl
theorem heldS_ptr {k id gen i o : Nat} : heldS k (.ptr id gen i o) = (id == k - 1) := nrfl rfl
theorem softS_ptr {id gen i o : Nat} {v : PV} : softS st (.ptr id gen i o) v = (v.isInt1 && match st.arr? id gen with | some q => decide (q.1 ≤ 2) && q.2.all PV.isInt | none => false) := nrfl rfl
def nilCk (p : PV) (st : Store) : Option (PV × Store) := match p with | .vptr c o => some (.vptr c o, st) | .ptr i g x o => (st.arr? i g).map fun _ => (.ptr i g x o, st) | _ => none
theorem iop_nilCheck {x : Operand} : iop X d (.nilCheck x) ρ st = (nilCk (ρ x) (X.see d st)).map fun q => (q.1, st) := by
 simp only [iop]; cases ρ x <;> simp [nilCk]; rfl
theorem nilCk_ptr {i g x o : Nat} : nilCk (.ptr i g x o) st = (st.arr? i g).map fun _ => (.ptr i g x o, st) := nrfl rfl
theorem iop_binOp {op : BinOp} {t : TypeId} {x y : Operand} {z : TypeId} : iop X d (.binOp op t x y z) ρ st = (binP X.P op t (ρ x) (ρ y)).map fun v => (v, st) := nrfl rfl
theorem iop_unOp {op : UnOp} {t : TypeId} {x : Operand} : iop X d (.unOp op t x) ρ st = (unP op (ρ x)).map fun v => (v, st) := nrfl rfl
theorem iop_convert {s t : TypeId} {x : Operand} : iop X d (.convert s t x) ρ st = (convP X.P s t (ρ x)).map fun v => (v, st) := nrfl rfl
def evs (ρ : Operand → PV) : List Operand → List PV
 | [] => []
 | x :: l => ρ x :: evs ρ l
theorem evs_cons {x : Operand} {l : List Operand} : evs ρ (x :: l) = ρ x :: evs ρ l := nrfl rfl
theorem evs_nil : evs ρ [] = [] := nrfl rfl
theorem evs_eq {l : List Operand} : l.map ρ = evs ρ l := by
 induction l with
 | nil => rfl
 | cons x l ih => simp only [List.map_cons, evs, ih]
theorem iop_makeFunc {fn : Fn} {a b : List Operand} : iop X d (.makeFunc fn a.toArray b.toArray) ρ st = some (.func fn (evs ρ a) (evs ρ b), st) := by rw [← evs_eq, ← evs_eq]; rfl
def mkSl (X : Cfg) (d : Nat) (t : TypeId) (a b : PV) (st : Store) : Option (PV × Store) :=
 match a, b with
 | .int .i64 n, .int .i64 m => if 0 ≤ n ∧ n ≤ m ∧ m ≤ 4294967296 ∧ 0 < tvSlc X.P t then (if X.num d = 0 then (if X.frz d = true then some (.lits (tvSlc X.P t) (List.replicate n.toNat (tvZero X.P (tvElem X.P t))), st) else some (.ref st.next 0 0 n.toNat, st.new (.arr 0 (tvSlc X.P t) (List.replicate n.toNat (tvZero X.P (tvElem X.P t)))))) else st.re (X.num d) (tvSlc X.P t) (List.replicate n.toNat (tvZero X.P (tvElem X.P t))) n.toNat) else none
 | _, _ => none
theorem iop_makeSlice {t : TypeId} {l c : Operand} : iop X d (.makeSlice t l c) ρ st = mkSl X d t (ρ l) (ρ c) st := by
 simp only [iop, mkSl]
 cases ρ l <;> try rfl
theorem mkSl_int {t : TypeId} {n m : Int} (h : X.num d = 0) (hf : X.frz d = false) : mkSl X d t (.int .i64 n) (.int .i64 m) st = if 0 ≤ n ∧ n ≤ m ∧ m ≤ 4294967296 ∧ 0 < tvSlc X.P t then some (.ref st.next 0 0 n.toNat, st.new (.arr 0 (tvSlc X.P t) (List.replicate n.toNat (tvZero X.P (tvElem X.P t))))) else none := by simp [mkSl, h, hf]
theorem mkSl_re {t : TypeId} {n m : Int} {k : Nat} (h : X.num d = k + 1) : mkSl X d t (.int .i64 n) (.int .i64 m) st = if 0 ≤ n ∧ n ≤ m ∧ m ≤ 4294967296 ∧ 0 < tvSlc X.P t then st.re (k + 1) (tvSlc X.P t) (List.replicate n.toNat (tvZero X.P (tvElem X.P t))) n.toNat else none := by simp [mkSl, h]
def slcP (X : Cfg) (d : Nat) (t : TypeId) (p : PV) (l h : Option (Option Int)) (st : Store) : Option (PV × Store) :=
 if X.muts d = true then (match l, h with | none, none => fixP X.P st t p | _, _ => none) else
 match l, h with
 | some none, _ | _, some none => none
 | l, h => (sliceP (X.see d st) (tvSlc X.P t) (tvStr X.P t) (tvArr X.P t) p (l.bind id) (h.bind id)).map fun v => (v, st)
theorem iop_slice {t : TypeId} {x : Operand} {lo hi : Option Operand} : iop X d (.slice t x lo hi none) ρ st = slcP X d t (ρ x) (lo.map fun o => intOfP (ρ o)) (hi.map fun o => intOfP (ρ o)) st := by
 cases lo <;> cases hi <;> rfl
theorem intOfP_int {k : IntKind} {n : Int} : intOfP (.int k n) = some n := nrfl rfl
theorem slcP_ft {t : TypeId} {p : PV} {m : Int} : slcP X d t p none (some (some m)) st = if X.muts d = true then none else (sliceP (X.see d st) (tvSlc X.P t) (tvStr X.P t) (tvArr X.P t) p none (some m)).map fun v => (v, st) := nrfl rfl
theorem iop_fieldAddr {t : TypeId} {x : Operand} {f : Nat} : iop X d (.fieldAddr t x f) ρ st = (tvFld X.P t f).bind fun q => if 0 < q.2.1 then (fieldP (X.see d st) (ρ x) q.1).map fun v => (v, st) else none := nrfl rfl
theorem see_eq {e : Nat} : X.see e st = if X.frz e = true then ⟨fun _ => none, 0⟩ else if X.frz (600000 + e) = true then st.past (X.num e) else if X.frz (700000 + e) = true then st.hard else st := nrfl rfl
theorem hard_eq : st.hard = ⟨fun i => (st.obj i).bind fun o => if softO o = true then none else some o, st.next⟩ := nrfl rfl
theorem soft_arr {g z : Nat} {es : List PV} : softO (.arr g z es) = (decide (z ≤ 2) && es.all PV.isInt) := nrfl rfl
theorem isInt1_int {k : IntKind} {n : Int} : PV.isInt1 (.int k n) = true := nrfl rfl
theorem isInt1_ref {i g s n : Nat} : PV.isInt1 (.ref i g s n) = false := nrfl rfl
theorem isInt_ref {i g s n : Nat} : PV.isInt (.ref i g s n) = false := nrfl rfl
theorem isInt_agg {cs : List PV} : PV.isInt (.agg cs) = cs.all PV.isInt1 := nrfl rfl
theorem softA_ref {id gen s n z : Nat} {l : List PV} : softA st (.ref id gen s n) (.lits z l) = (l.all PV.isInt && match st.arr? id gen with | some q => decide (q.1 ≤ 2) && q.2.all PV.isInt | none => false) := nrfl rfl
theorem isInt_int {k : IntKind} {n : Int} : PV.isInt (.int k n) = true := nrfl rfl
theorem all_ints {l : List Int} {k : IntKind} : (l.map (PV.int k)).all PV.isInt = true := by simp [PV.isInt]
theorem iop_calli {x : Operand} {m : String} {as : List Operand} {ts : List TypeId} : iop X d (.call ⟨.invoke x m, as.toArray, ts.toArray⟩) ρ st = (mthP X.P st (ρ x) m).bind fun q => callP X d (.func (.func q.1) [q.2] []) (tsOf X d ts) (evs ρ as) st := by rw [← evs_eq]; rfl
theorem mthP_iface {P : Program} {t : TypeId} {v : PV} {m : String} : mthP P st (.iface t v) m = (tvMth P t m).bind fun q => if q.2.1 = true then some (q.1, v) else (tvLd P q.2.2).bind fun r => (loadP st r.1 r.2 v).map fun r => (q.1, r) := nrfl rfl
def tvConc (P : Program) (t : TypeId) : Bool := !tvIface P t && (P.underlying t).isSome
theorem iop_makeInterface {t : TypeId} {x : Operand} (h : tvConc X.P t = true) : iop X d (.makeInterface t x) ρ st = some (.iface t (ρ x), st) := by
 simp only [tvConc, Bool.and_eq_true, Bool.not_eq_true'] at h
 simp only [iop, h, and_self, if_true]
def asT (t : TypeId) (p : PV) (st : Store) : Option (PV × Store) := match p with | .iface t' v => if t' = t then some (v, st) else none | _ => none
theorem iop_typeAssert {x : Operand} {xt t : TypeId} (h : tvConc X.P t = true) : iop X d (.typeAssert x xt t false) ρ st = asT t (ρ x) st := by
 simp only [tvConc, Bool.and_eq_true, Bool.not_eq_true'] at h
 simp only [iop, h, and_true, asT]
 cases ρ x <;> rfl
theorem asT_same {t : TypeId} {v : PV} : asT t (.iface t v) st = some (v, st) := by simp [asT]
theorem past_eq {k : Nat} : st.past k = ⟨fun i => if i < k then none else st.obj i, st.next⟩ := nrfl rfl
def fldV (X : Cfg) (t : TypeId) (p : PV) (f : Nat) (st : Store) : Option (PV × Store) := match p with | .agg cs => (tvFld X.P t f).bind fun (o, _, u) => (tvLd X.P u).bind fun (z, ag) => (pickP cs o z ag).map fun v => (v, st) | _ => none
theorem iop_field {t : TypeId} {x : Operand} {f : Nat} : iop X d (.field t x f) ρ st = fldV X t (ρ x) f st := nrfl rfl
theorem fldV_agg {t : TypeId} {cs : List PV} {f : Nat} : fldV X t (.agg cs) f st = (tvFld X.P t f).bind fun q => (tvLd X.P q.2.2).bind fun r => (pickP cs q.1 r.1 r.2).map fun v => (v, st) := nrfl rfl
def idxA (X : Cfg) (d : Nat) (t : TypeId) (p i : PV) (st : Store) : Option (PV × Store) := match i with | .int _ n => (indexP X.P (X.see d st) t p n).map fun v => (v, st) | _ => none
theorem iop_indexAddr {t : TypeId} {x i : Operand} : iop X d (.indexAddr t x i) ρ st = idxA X d t (ρ x) (ρ i) st := nrfl rfl
theorem idxA_int {t : TypeId} {p : PV} {k : IntKind} {n : Int} : idxA X d t p (.int k n) st = (indexP X.P (X.see d st) t p n).map fun v => (v, st) := nrfl rfl
def extr (p : PV) (i : Nat) (st : Store) : Option (PV × Store) := match p with | .tuple vs => (vs[i]?).map fun v => (v, st) | _ => none
theorem iop_extract {x : Operand} {i : Nat} : iop X d (.extract x i) ρ st = extr (ρ x) i st := nrfl rfl
theorem extr_tuple {vs : List PV} {i : Nat} : extr (.tuple vs) i st = (vs[i]?).map fun v => (v, st) := nrfl rfl
theorem iop_callv {f : Operand} {as : List Operand} {ts : List TypeId} : iop X d (.call ⟨.value f, as.toArray, ts.toArray⟩) ρ st = callP X d (ρ f) (tsOf X d ts) (evs ρ as) st := by rw [← evs_eq]; rfl
theorem iop_callb {b : Builtin} {as : List Operand} {ts : List TypeId} : iop X d (.call ⟨.builtin b, as.toArray, ts.toArray⟩) ρ st = builtinP X d b ts (evs ρ as) st := by rw [← evs_eq]; rfl
def frzP (X : Cfg) (f : Nat) (l : List PV) (st : Store) : Option (PV × Store) := (rdAll (st.only (idsOf l)) l).bind fun as => X.tab f as (st.without (idsOf l))
def frzQ (X : Cfg) (f : Nat) (l : List PV) (st : Store) : Option (PV × Store) := (rdAll (st.only (idsOf l)) l).bind fun as => X.tab f as (st.seal (idsOf l))
def frzL (X : Cfg) (f k : Nat) (l : List PV) (st : Store) : Option (PV × Store) := if (idsOf l).all (fun i => i == k) = true then (rdAll (st.only [k]) l).bind fun as => X.tab f as (st.again k) else none
theorem callP_eq {f : Nat} {a b : List PV} {ts : List TypeId} {args : List PV} : callP X d (.func (.func f) a b) ts args st = if X.frz d = true then (if X.num d = 0 then frzP X f (a ++ nrmAll X.P ts args ++ b) st else if X.muts d = true then frzL X f (X.num d - 1) (a ++ nrmAll X.P ts args ++ b) st else frzQ X f (a ++ nrmAll X.P ts args ++ b) st) else if X.muts d = true ∧ pursL (a ++ nrmAll X.P ts args ++ b) = false then none else X.tab f (a ++ nrmAll X.P ts args ++ b) st := by
 simp only [callP, frzP, frzQ, frzL]
 by_cases h1 : X.frz d = true <;> by_cases h2 : X.num d = 0 <;> by_cases h3 : X.muts d = true <;> simp [h1, h2, h3]
theorem tsOf_eq {ts : List TypeId} : tsOf X d ts = if X.frz (400000 + d) = true then [] else ts := nrfl rfl
theorem nrmAll_cons {P : Program} {t : TypeId} {ts : List TypeId} {p : PV} {l : List PV} : nrmAll P (t :: ts) (p :: l) = nrm (tvNil P t) p :: nrmAll P ts l := nrfl rfl
theorem nrmAll_nil {P : Program} {l : List PV} : nrmAll P [] l = l := by simp [nrmAll]
def lenM (st : Store) (q : Option (MK × PV)) (L : Option Int) (x : PV) : Option Int := match q with | some q => mapLen st (some q) x | none => L
theorem bi_len {t : TypeId} {x : PV} : builtinP X d .len [t] [x] st = (lenM st (tvMap X.P t) (lenP st (tvSlc X.P t) (tvStr X.P t) x) x).map fun n => (.int .i64 n, st) := by simp only [builtinP, lenM]; cases tvMap X.P t <;> rfl
theorem lenM_none {L : Option Int} {x : PV} : lenM st none L x = L := nrfl rfl
theorem bi_append {t u : TypeId} {x y : PV} (h : X.num d = 0) : builtinP X d .append [t, u] [x, y] st = if tvSlc X.P u ≠ 0 ∨ tvStr X.P u = true then (if X.frz (700000 + d) = true ∧ softA st x y = false then none else (elemsP st (tvSlc X.P t) y).bind fun ys => appendP st (tvSlc X.P t) x ys) else none := by
 simp only [builtinP, h]
 by_cases h1 : tvSlc X.P u ≠ 0 ∨ tvStr X.P u = true <;> by_cases h2 : X.frz (700000 + d) = true <;> cases h3 : softA st x y <;> simp [h1, h2]
theorem bi_min {ts : List TypeId} {x y : Int} {k : IntKind} : builtinP X d .min ts [.int k x, .int k y] st = some (.int k (if y < x then y else x), st) := by
 cases ts with
 | nil => simp [builtinP, minMaxP]
 | cons t ts => cases ts <;> simp [builtinP, minMaxP]
theorem bi_max {ts : List TypeId} {x y : Int} {k : IntKind} : builtinP X d .max ts [.int k x, .int k y] st = some (.int k (if x < y then y else x), st) := by
 cases ts with
 | nil => simp [builtinP, minMaxP]
 | cons t ts => cases ts <;> simp [builtinP, minMaxP]
end
theorem nrm_agg {m : List (Nat × Nat)} {cs : List PV} : nrm m (.agg cs) = .agg (nrmL m 0 cs) := nrfl rfl
theorem nrmL_cons {m : List (Nat × Nat)} {i : Nat} {c : PV} {l : List PV} : nrmL m i (c :: l) = nrm1 (m.lookup i) c :: nrmL m (i + 1) l := nrfl rfl
theorem nrmL_nil {m : List (Nat × Nat)} {i : Nat} : nrmL m i [] = [] := nrfl rfl
theorem nrm_nils {m : List (Nat × Nat)} : nrm m .nils = nrm1 (m.lookup 0) .nils := nrfl rfl
theorem nrm1_some {z : Nat} : nrm1 (some z) .nils = .lits z [] := nrfl rfl
theorem nrm1_no {p : PV} : nrm1 none p = p := by cases p <;> rfl
theorem nrm_no {p : PV} : nrm [] p = p := by
 cases p <;> try rfl
 rename_i cs
 simp only [nrm, PV.agg.injEq]
 have : ∀ (l : List PV) (i : Nat), nrmL [] i l = l := by
  intro l; induction l with
  | nil => intro i; rfl
  | cons c l ih => intro i; simp only [nrmL, ih, List.lookup_nil, nrm1_no]
 exact this cs 0
theorem nrm_int {m : List (Nat × Nat)} {k : IntKind} {n : Int} : nrm m (.int k n) = .int k n := nrfl rfl
theorem nrm_bool {m : List (Nat × Nat)} {b : Bool} : nrm m (.bool b) = .bool b := nrfl rfl
theorem nrm_lits {m : List (Nat × Nat)} {z : Nat} {l : List PV} : nrm m (.lits z l) = .lits z l := nrfl rfl
theorem nrm_ref {m : List (Nat × Nat)} {i g s n : Nat} : nrm m (.ref i g s n) = .ref i g s n := nrfl rfl
theorem nrm_func {m : List (Nat × Nat)} {f : Fn} {a b : List PV} : nrm m (.func f a b) = .func f a b := nrfl rfl
theorem nrm_ptr {m : List (Nat × Nat)} {i g x o : Nat} : nrm m (.ptr i g x o) = .ptr i g x o := nrfl rfl
theorem nrm1_int {m : Option Nat} {k : IntKind} {n : Int} : nrm1 m (.int k n) = .int k n := nrfl rfl
theorem nrm1_lits {m : Option Nat} {z : Nat} {l : List PV} : nrm1 m (.lits z l) = .lits z l := nrfl rfl
section
variable {st : Store}
def arrB (o : Option IObj) (gen : Nat) : Option (Nat × List PV) := match o with | some (.arr g z es) => if gen = g then some (z, es) else none | _ => none
theorem arr_eq {id g : Nat} : st.arr? id g = arrB (st.obj id) g := nrfl rfl
theorem arrB_some {g h z : Nat} {es : List PV} : arrB (some (.arr h z es)) g = if g = h then some (z, es) else none := nrfl rfl
theorem pickP_f {cells : List PV} {off sz : Nat} : pickP cells off sz false = cells[off]? := nrfl rfl
theorem pickP_t {cells : List PV} {off sz : Nat} : pickP cells off sz true = if off + sz ≤ cells.length then some (.agg ((cells.drop off).take sz)) else none := nrfl rfl
theorem loadP_vptr {sz off : Nat} {ag : Bool} {cells : List PV} : loadP st sz ag (.vptr cells off) = pickP cells off sz ag := nrfl rfl
theorem loadP_ptr {sz off id gen idx : Nat} {ag : Bool} : loadP st sz ag (.ptr id gen idx off) = (st.arr? id gen).bind fun q => pickP (nth q.2 idx).cells off sz ag := nrfl rfl
theorem setCells_agg {cs vs : List PV} {o : Nat} : setCells (.agg cs) o vs = .agg (splice cs o vs) := nrfl rfl
theorem setCells_int {k : IntKind} {n : Int} {v : PV} {o : Nat} : setCells (.int k n) o [v] = v := nrfl rfl
theorem setCells_bool {b : Bool} {v : PV} {o : Nat} : setCells (.bool b) o [v] = v := nrfl rfl
theorem setCells_nils {v : PV} {o : Nat} : setCells .nils o [v] = v := nrfl rfl
theorem setCells_ref {i g s n : Nat} {v : PV} {o : Nat} : setCells (.ref i g s n) o [v] = v := nrfl rfl
theorem storeP_ptr {sz id gen idx off : Nat} {v : PV} : storeP st sz (.ptr id gen idx off) v = (st.arr? id gen).bind fun q => if v.cells.length = sz ∧ 0 < sz ∧ idx < q.2.length ∧ off + sz ≤ q.1 then some (st.set id (.arr gen q.1 (q.2.set idx (setCells (nth q.2 idx) off v.cells)))) else none := nrfl rfl
theorem fieldP_vptr {cells : List PV} {off o : Nat} : fieldP st (.vptr cells off) o = some (.vptr cells (off + o)) := nrfl rfl
theorem fieldP_ptr {id gen idx off o : Nat} : fieldP st (.ptr id gen idx off) o = (st.arr? id gen).map fun _ => .ptr id gen idx (off + o) := nrfl rfl
variable {P : Program} {t : TypeId} {i : Int}
theorem indexP_lits {z : Nat} {l : List PV} : indexP P st t (.lits z l) i = if 0 ≤ i ∧ i < l.length ∧ z = tvSlc P t ∧ 0 < z then some (.vptr (nth l i.toNat).cells 0) else none := nrfl rfl
theorem indexP_ref {id gen s n : Nat} : indexP P st t (.ref id gen s n) i = (st.arr? id gen).bind fun q => if 0 ≤ i ∧ i < n ∧ s + n ≤ q.2.length ∧ q.1 = tvSlc P t then some (.ptr id gen (s + i.toNat) 0) else none := nrfl rfl
theorem indexP_vptr {cells : List PV} {off : Nat} : indexP P st t (.vptr cells off) i = (tvArr P t).bind fun q => if 0 ≤ i ∧ i < q.1 ∧ 0 < q.2 then some (.vptr cells (off + i.toNat * q.2)) else none := nrfl rfl
theorem indexP_ptr {id gen idx off : Nat} : indexP P st t (.ptr id gen idx off) i = (st.arr? id gen).bind fun _ => (tvArr P t).bind fun q => if 0 ≤ i ∧ i < q.1 ∧ 0 < q.2 then some (.ptr id gen idx (off + i.toNat * q.2)) else none := nrfl rfl
variable {z : Nat} {sb : Bool}
theorem lenP_nils : lenP st z sb .nils = if 0 < z then some 0 else none := nrfl rfl
theorem lenP_lits {y : Nat} {l : List PV} : lenP st z sb (.lits y l) = if 0 < z then some (l.length : Int) else none := nrfl rfl
theorem lenP_ref {id g s n : Nat} : lenP st z sb (.ref id g s n) = (st.arr? id g).bind fun _ => if 0 < z then some (n : Int) else none := nrfl rfl
theorem elemsP_lits {y : Nat} {l : List PV} : elemsP st z (.lits y l) = if y = z then some l else none := nrfl rfl
theorem sliceP_lits {y : Nat} {l : List PV} {lo hi : Option Int} {ar : Option (Nat × Nat)} : sliceP st z sb ar (.lits y l) lo hi = if 0 ≤ lo.getD 0 ∧ lo.getD 0 ≤ hi.getD l.length ∧ hi.getD l.length ≤ l.length ∧ y = z ∧ 0 < z then some (.lits z ((l.drop (lo.getD 0).toNat).take ((hi.getD l.length).toNat - (lo.getD 0).toNat))) else none := nrfl rfl
theorem sliceP_ref {id gen s n : Nat} {lo hi : Option Int} {ar : Option (Nat × Nat)} : sliceP st z sb ar (.ref id gen s n) lo hi = (st.arr? id gen).bind fun q => if 0 ≤ lo.getD 0 ∧ lo.getD 0 ≤ hi.getD n ∧ hi.getD n ≤ (q.2.length : Int) - s ∧ s ≤ q.2.length ∧ q.1 = z then some (.ref id gen (s + (lo.getD 0).toNat) ((hi.getD n).toNat - (lo.getD 0).toNat)) else none := nrfl rfl
theorem appendP_ref {id gen s n : Nat} {ys : List PV} : appendP st z (.ref id gen s n) ys = (st.arr? id gen).bind fun q =>
   if s + n ≤ q.2.length ∧ q.1 = z ∧ n + ys.length ≤ 2147483648 then
    if s + n + ys.length ≤ q.2.length then
     some (.ref id gen s (n + ys.length), st.set id (.arr gen z (q.2.take (s + n) ++ ys ++ q.2.drop (s + n + ys.length))))
    else some (.ref id (gen + 1) 0 (n + ys.length), st.set id (.arr (gen + 1) z ((q.2.drop s).take n ++ ys)))
   else none := rfl
end
section
variable {P : Program} {t : TypeId} {k k' : IntKind} {a b : Int}
theorem b_add : binP P .add t (.int k a) (.int k b) = some (.int k (k.wrap (a + b))) := by simp [binP, intB, binI]
theorem b_sub : binP P .sub t (.int k a) (.int k b) = some (.int k (k.wrap (a - b))) := by simp [binP, intB, binI]
theorem b_mul : binP P .mul t (.int k a) (.int k b) = some (.int k (k.wrap (a * b))) := by simp [binP, intB, binI]
theorem b_quo : binP P .quo t (.int k a) (.int k b) = if b = 0 then none else some (.int k (k.wrap (a.tdiv b))) := by simp [binP, intB, binI]
theorem b_rem : binP P .rem t (.int k a) (.int k b) = if b = 0 then none else some (.int k (a.tmod b)) := by simp [binP, intB, binI]
theorem b_xor : binP P .xor t (.int k a) (.int k b) = (intBitsP .xor k a b).map (.int k) := by simp [binP, intB, binI]
theorem b_eql : binP P .eql t (.int k a) (.int k b) = some (.bool (decide (a = b))) := by simp [binP, intB, binI]
theorem b_neq : binP P .neq t (.int k a) (.int k b) = some (.bool (decide (¬ a = b))) := by simp [binP, intB, binI]
theorem b_lss : binP P .lss t (.int k a) (.int k b) = some (.bool (decide (a < b))) := by simp [binP, intB, binI]
theorem b_leq : binP P .leq t (.int k a) (.int k b) = some (.bool (decide (a ≤ b))) := by simp [binP, intB, binI]
theorem b_gtr : binP P .gtr t (.int k a) (.int k b) = some (.bool (decide (b < a))) := by simp [binP, intB, binI]
theorem b_geq : binP P .geq t (.int k a) (.int k b) = some (.bool (decide (b ≤ a))) := by simp [binP, intB, binI]
theorem b_shr : binP P .shr t (.int k a) (.int k' b) = if b < 0 then none else some (.int k (a.fdiv (2 ^ (min b.toNat k.bits)))) := nrfl rfl
variable {s u : List UInt8}
variable {x y : Bool}
theorem bb_neq : binP P .neq t (.bool x) (.bool y) = if tvBool P t = true then some (.bool (!(x == y))) else none := nrfl rfl
theorem u_neg : unP .neg (.int k a) = some (.int k (k.wrap (0 - a))) := nrfl rfl
theorem u_not : unP .not (.bool x) = some (.bool (!x)) := nrfl rfl
theorem cv_int {src dst : TypeId} : convP P src dst (.int k a) = (tvInt P dst).bind fun k => (tvInt P src).bind fun _ => some (.int k (k.wrap a)) := nrfl rfl
end
theorem fill_nil {place : Nat → Option (Nat × Nat)} {cells : List PV} : fillP place cells [] = some cells := nrfl rfl
def fill1 (place : Nat → Option (Nat × Nat)) (cells vs : List PV) (rest : List (Nat × PV)) (o : Option (Nat × Nat)) : Option (List PV) :=
 match o with | none => none | some q => if vs.length = q.2 ∧ q.1 + q.2 ≤ cells.length ∧ 0 < q.2 then fillP place (splice cells q.1 vs) rest else none
theorem fill_cons {place : Nat → Option (Nat × Nat)} {cells : List PV} {i : Nat} {v : PV} {rest : List (Nat × PV)} : fillP place cells ((i, v) :: rest) = fill1 place cells v.cells rest (place i) := by
 simp only [fillP, fill1]; cases place i <;> rfl
theorem fill1_some {place : Nat → Option (Nat × Nat)} {cells vs : List PV} {rest : List (Nat × PV)} {q : Nat × Nat} : fill1 place cells vs rest (some q) = if vs.length = q.2 ∧ q.1 + q.2 ≤ cells.length ∧ 0 < q.2 then fillP place (splice cells q.1 vs) rest else none := nrfl rfl
def bldA (P : Program) (t : TypeId) (cells : List PV) (parts : List (Nat × PV)) (o : Option (Nat × Nat)) : Option PV :=
 match o with
 | some q => (fillP (fun i => some (i * q.2, q.2)) cells parts).map .agg
 | none => (fillP (fun i => (tvFld P t i).map fun q => (q.1, q.2.1)) cells parts).map .agg
theorem buildP_eq {P : Program} {t : TypeId} {parts : List (Nat × PV)} : buildP P t parts = if tvBuild P t = true then bldA P t (tvZero P t).cells parts (tvArr P t) else none := by
 simp only [buildP, bldA]; cases tvArr P t <;> rfl
theorem bldA_none {P : Program} {t : TypeId} {cells : List PV} {parts : List (Nat × PV)} : bldA P t cells parts none = (fillP (fun i => (tvFld P t i).map fun q => (q.1, q.2.1)) cells parts).map .agg := nrfl rfl
theorem bldA_some {P : Program} {t : TypeId} {cells : List PV} {parts : List (Nat × PV)} {q : Nat × Nat} : bldA P t cells parts (some q) = (fillP (fun i => some (i * q.2, q.2)) cells parts).map .agg := nrfl rfl
theorem bel_nil {z : Nat} {l : List PV} : buildElems z l [] = some l := nrfl rfl
theorem bel_cons {z i : Nat} {l : List PV} {v : PV} {rest : List (Nat × PV)} : buildElems z l ((i, v) :: rest) = if i < l.length ∧ v.cells.length = z then buildElems z (l.set i v) rest else none := nrfl rfl
theorem splice_eq {cells vs : List PV} {off : Nat} : splice cells off vs = cells.take off ++ vs ++ cells.drop (off + vs.length) := nrfl rfl
theorem env0_eq {args : List PV} {t : Nat} : env0 args t = args.getD t .bad := nrfl rfl
def iresL : Option (List PV) → Option PV
 | some [p] => some p
 | some ps => some (.tuple ps)
 | none => none
theorem ires_eq {P : Program} {rs : List ResultVar} {s : IState} : ires P rs s = iresL (iresAll P s rs) := by
 unfold ires; cases iresAll P s rs with
 | none => rfl
 | some l => cases l with
  | nil => rfl
  | cons a l => cases l <;> rfl
theorem iresL_1 {p : PV} : iresL (some [p]) = some p := nrfl rfl
theorem iresL_2 {p q : PV} {l : List PV} : iresL (some (p :: q :: l)) = some (.tuple (p :: q :: l)) := nrfl rfl
theorem iresAll_nil {P : Program} {s : IState} : iresAll P s [] = some [] := nrfl rfl
theorem iresAll_cons {P : Program} {s : IState} {r : ResultVar} {l : List ResultVar} : iresAll P s (r :: l) = (iresOne P s r).bind fun p => (iresAll P s l).map fun ps => p :: ps := nrfl rfl
theorem iresOne_tmp {P : Program} {s : IState} {t : Nat} : iresOne P s (.tmp t) = some (s.env t) := nrfl rfl
theorem iresOne_cell {P : Program} {s : IState} {a : Nat} {t : TypeId} : iresOne P s (.cell a t) = (tvLd P t).bind fun q => loadP s.st q.1 q.2 (s.env a) := nrfl rfl
theorem obind_congr {α β : Type} {x y : Option α} {f : α → Option β} (h : x = y) : x.bind f = y.bind f := by rw [h]
theorem omap_congr {α β : Type} {x y : Option α} {f : α → β} (h : x = y) : x.map f = y.map f := by rw [h]
theorem valT_eq {spec : List PV → Option PV} {args : List PV} {st : Store} : valT spec args st = if pursL args = true then (spec args).map fun r => (r, st) else (rdAll st args).bind fun as => (spec as).bind fun r => if r.scal = true then some (r, st) else none := nrfl rfl
theorem pursL_cons {c : PV} {l : List PV} : pursL (c :: l) = (c.pur && pursL l) := by simp only [pursL]
theorem pursL_nil : pursL [] = true := by simp only [pursL]
end Sim
namespace Sim
open Go
set_option linter.unusedVariables false
set_option linter.unusedSimpArgs false
def undraw : Code → Code
 | .region id ops _ => .region id ops false
 | .seq a b => .seq (undraw a) (undraw b)
 | .cond c a b => .cond c (undraw a) (undraw b)
 | .block id c => .block id (undraw c)
 | .loop c => .loop (undraw c)
 | c => c
def drawsOk (X : Cfg) : Code → Bool
 | .region _ ops dr => !dr || drawOk X ops
 | .seq a b => drawsOk X a && drawsOk X b
 | .cond _ a b => drawsOk X a && drawsOk X b
 | .block _ c => drawsOk X c
 | .loop c => drawsOk X c
 | _ => true
theorem wpC_undraw {G : WP} (hG : G.Mono) {X : Cfg} (hm : HookMono X) {N : Nat} {c : Code} : ∀ {Q : IExit → IState → Prop} {s : IState}, drawsOk X c = true → wpC G X N (undraw c) Q s → wpC G X N c Q s := by
 induction c with
 | skip => intro Q s hd hs; exact hs
 | region id ops dr =>
  intro Q s hd hs
  refine ⟨fun h => ?_, hs.2⟩
  subst h
  simpa [drawsOk] using hd
 | seq a b iha ihb =>
  intro Q s hd hs
  simp only [drawsOk, Bool.and_eq_true] at hd
  refine iha hd.1 (wpC_mono hG X N _ _ _ _ hm (fun e s' he => ?_) hs)
  cases e with
  | normal => exact ihb hd.2 he
  | exit i => exact he
  | ret => exact he
 | cond c a b iha ihb =>
  intro Q s hd hs
  simp only [drawsOk, Bool.and_eq_true] at hd
  simp only [undraw, wpC] at hs ⊢
  split at hs
  ·exact ⟨fun hv => iha hd.1 (hs.1 hv), fun hv => ihb hd.2 (hs.2 hv)⟩
  ·exact hs.elim
 | block id c ih => intro Q s hd hs; exact ih hd hs
 | loop c ih =>
  intro Q s hd hs
  obtain ⟨J, n, h0, hr⟩ := hs
  exact ⟨J, n, h0, fun m s' hs' => ih hd (hr m s' hs')⟩
 | exit id => intro Q s hd hs; exact hs
 | ret => intro Q s hd hs; exact hs
 | rangeFunc => intro Q s hd hs; exact hs
 | scope => intro Q s hd hs; exact hs
 | label => intro Q s hd hs; exact hs
 | goto => intro Q s hd hs; exact hs
 | refuse => intro Q s hd hs; exact hs
theorem wpI_undraw {X : Cfg} (hm : HookMono X) {N : Nat} {c : Code} {Q : IExit → IState → Prop} {s : IState} (hd : drawsOk X c = true) (h : wpI X N (undraw c) Q s) : wpI X N c Q s := wpC_undraw (gen_mono X.dep) hm hd h
section
variable {X : Cfg} {N : Nat} {Q : IExit → IState → Prop} {ks : List Kf} {s : IState}
theorem ur_skip : run X N Q (undraw .skip) ks s = cont X N Q ks s := nrfl rfl
theorem ur_seq {a b : Code} : run X N Q (undraw (.seq a b)) ks s = run X N Q (undraw a) (.seq (undraw b) :: ks) s := run_seq
theorem ur_block {id : Nat} {c : Code} : run X N Q (undraw (.block id c)) ks s = run X N Q (undraw c) (.blk id :: ks) s := run_block
theorem ur_exit {id : Nat} : run X N Q (undraw (.exit id)) ks s = leave X N Q ks id s := nrfl rfl
theorem ur_ret : run X N Q (undraw .ret) ks s = done X N Q ks s := nrfl rfl
theorem ur_region {id : Nat} {l : List Oper} {dr : Bool} : run X N Q (undraw (.region id l.toArray dr)) ks s = ops X N Q l.toArray l ks s := run_region
theorem ur_cond {c : Operand} {a b : Code} : run X N Q (undraw (.cond c a b)) ks s = condC (evalP s.env c) (run X N Q (undraw a) ks s) (run X N Q (undraw b) ks s) := run_cond
theorem ur_range {g : Operand} {ps : Array Tmp} {a b : Code} : run X N Q (undraw (.rangeFunc g ps a b)) ks s = run X N Q (.rangeFunc g ps a b) ks s := nrfl rfl
end
theorem vc_ofU {P : Program} (hmix : P.follows .mixedOrders = true) {l : Entries} (hl : EntriesOK P l) (muts : List Nat) (frz : List Nat) {f : FuncId} {fn : Func} {c : Code} (hf : P.funcs[f]? = some fn) (hb : fn.body = some c)
  (hname : (fn.name == "runtime.NumGoroutine") = false) {args : List PV} {N : Nat} (hN : fn.ntmps = N) (hn : args.length ≤ N) {rs : List ResultVar} (hrs : fn.results.toList = rs) (hd : drawsOk (cfg P l muts frz) c = true) {r : PV}
  (h : smallL args → run (cfg P l muts frz) N (endQ P rs (fun p st => DRx st p r)) (undraw c) [] ⟨env0 args, st0⟩) : VC P f args r :=
 vc_of hmix hl muts frz hf hb hname hN hn hrs 0 fun hs => wpI_undraw (hookMono_none rfl) hd (by
  have e : stR 0 = st0 := by simp [stR, st0]
  rw [e]; exact h hs)
theorem vc_ofR {P : Program} (hmix : P.follows .mixedOrders = true) {l : Entries} (hl : EntriesOK P l) (muts : List Nat) (frz : List Nat) (n : Nat) {f : FuncId} {fn : Func} {c : Code} (hf : P.funcs[f]? = some fn) (hb : fn.body = some c)
  (hname : (fn.name == "runtime.NumGoroutine") = false) {args : List PV} {N : Nat} (hN : fn.ntmps = N) (hn : args.length ≤ N) {rs : List ResultVar} (hrs : fn.results.toList = rs) (hd : drawsOk (cfg P l muts frz) c = true) {r : PV}
  (h : smallL args → run (cfg P l muts frz) N (endQ P rs (fun p st => DRx st p r)) (undraw c) [] ⟨env0 args, ⟨fun i => if i < n then some (.arr 0 1 []) else none, n⟩⟩) : VC P f args r :=
 vc_of hmix hl muts frz hf hb hname hN hn hrs n fun hs => wpI_undraw (hookMono_none rfl) hd (h hs)
theorem vc_ofD {P : Program} (hmix : P.follows .mixedOrders = true) {l : Entries} (hl : EntriesOK P l) (muts : List Nat) (frz : List Nat) (n dep : Nat) {f : FuncId} {fn : Func} {c : Code} (hf : P.funcs[f]? = some fn) (hb : fn.body = some c)
  (hname : (fn.name == "runtime.NumGoroutine") = false) {args : List PV} {N : Nat} (hN : fn.ntmps = N) (hn : args.length ≤ N) {rs : List ResultVar} (hrs : fn.results.toList = rs) (hd : drawsOk (cfg P l muts frz dep) c = true) {r : PV}
  (h : smallL args → run (cfg P l muts frz dep) N (endQ P rs (fun p st => DRx st p r)) (undraw c) [] ⟨env0 args, ⟨fun i => if i < n then some (.arr 0 1 []) else none, n⟩⟩) : VC P f args r :=
 vc_of hmix hl muts frz hf hb hname hN hn hrs n (dep := dep) fun hs => wpI_undraw (hookMono_none rfl) hd (h hs)
theorem ixc_ofD {P : Program} (hmix : P.follows .mixedOrders = true) {l : Entries} (hl : EntriesOK P l) (muts : List Nat) (frz : List Nat) (dep : Nat) {f : FuncId} {fn : Func} {c : Code} (hf : P.funcs[f]? = some fn) (hb : fn.body = some c)
  (hname : (fn.name == "runtime.NumGoroutine") = false) {args : List PV} {N : Nat} (hN : fn.ntmps = N) (hn : args.length ≤ N) {rs : List ResultVar} (hrs : fn.results.toList = rs) (hd : drawsOk (cfg P l muts frz dep) c = true) {st : Store} {Q : PV → Store → Prop}
  (h : run (cfg P l muts frz dep) N (endQ P rs Q) (undraw c) [] ⟨env0 args, st⟩) : IXC P f args st Q :=
 ixc_of' hmix hl muts frz hf hb hname hN hn hrs (dep := dep) (wpI_undraw (hookMono_none rfl) hd h)
theorem vca_ofD {P : Program} (hmix : P.follows .mixedOrders = true) {l : Entries} (hl : EntriesOK P l) (muts : List Nat) (frz : List Nat) (n dep : Nat) {f : FuncId} {fn : Func} {c : Code} (hf : P.funcs[f]? = some fn) (hb : fn.body = some c)
  (hname : (fn.name == "runtime.NumGoroutine") = false) {args : List PV} {N : Nat} (hN : fn.ntmps = N) (hn : args.length ≤ N) {rs : List ResultVar} (hrs : fn.results.toList = rs) (hd : drawsOk (cfg P l muts frz dep) c = true) {z : Nat} {es : List PV}
  (hs : ∀ e ∈ es, e.scal = true)
  (h : run (cfg P l muts frz dep) N (endQ P rs (fun p st => (∃ id g, p = .ref id g 0 es.length ∧ st.obj id = some (.arr g z es)) ∨ (es = [] ∧ 0 < z ∧ p = .nils))) (undraw c) [] ⟨env0 args, ⟨fun i => if i < n then some (.arr 0 1 []) else none, n⟩⟩) : VCA P f args z es :=
 vca_of' hmix hl muts frz hf hb hname hN hn hrs n (dep := dep) hs (wpI_undraw (hookMono_none rfl) hd h)
theorem set_int {k : IntKind} {l : List Int} {i : Nat} {n : Int} : (l.map (PV.int k)).set i (PV.int k n) = (l.set i n).map (PV.int k) := by simp
theorem nth_mapD {α : Type} {f : α → PV} {l : List α} {i : Nat} (d : α) (h : i < l.length) : nth (l.map f) i = f (l.getD i d) := by simp [nth, h]
theorem pur_map {α : Type} {f : α → PV} {l : List α} (h : ∀ x, (f x).pur = true) : pursL (l.map f) = true := pursL_map h
theorem inj_map {α : Type} {f : α → PV} {l m : List α} (h : ∀ x y, f x = f y → x = y) : (l.map f = m.map f) = (l = m) := propext ⟨map_inj' h, fun h => by rw [h]⟩
theorem guardC_fd {p : Prop} [Decidable p] {A B : Prop} : guardC (.bool (decide p)) false A B = ((¬ p → A) ∧ (p → B)) := by simp [guardC]
theorem condC_d {p : Prop} [Decidable p] {A B : Prop} : condC (.bool (decide p)) A B = ((p → A) ∧ (¬ p → B)) := by simp [condC]
theorem bb_neq' {P : Program} {t : TypeId} {x y : Bool} : binP P .neq t (.bool x) (.bool y) = if tvBool P t = true then some (.bool (decide (¬ x = y))) else none := by rw [bb_neq]; cases x <;> cases y <;> rfl
theorem grd_congr {o o' : Option Nat} {ρ : Nat → PV} (h : o = o') : grd o ρ = grd o' ρ := by rw [h]
theorem pick3_congr {c c' a b : PV} {st : Store} (h : c = c') : pick3 c a b st = pick3 c' a b st := by rw [h]
theorem agree_havoc_sub {W W2 : List Nat} {ρ0 ρ1 ρ : Nat → PV} (h : (W2.all fun t => W.contains t) = true) : agree W ρ0 (havoc W2 ρ1 ρ) = agree W ρ0 ρ1 := by
 refine propext ⟨fun g u hu => ?_, fun g u hu => ?_⟩
 all_goals
  have hn : W2.contains u = false := by
   cases hc : W2.contains u with
   | false => rfl
   | true =>
    have := List.all_eq_true.1 h u (List.contains_iff_mem.1 hc)
    rw [this] at hu; cases hu
  have e : havoc W2 ρ1 ρ u = ρ1 u := havoc_out hn
 ·rw [← e]; exact g u hu
 ·rw [e]; exact g u hu
theorem bits_u64 : IntKind.u64.bits = 64 := nrfl rfl
end Sim
