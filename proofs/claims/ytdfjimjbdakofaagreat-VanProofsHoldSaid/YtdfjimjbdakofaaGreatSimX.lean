/- Operations, shape by shape. -/
import Derived.Test.YtdfjimjbdakofaaGreatSimP
set_option linter.unusedVariables false
set_option linter.unusedSimpArgs false
namespace Sim
open Go
section
variable {ρ:Nat→PV}
theorem Agk {n:Nat}:AA ρ (.tmp n)=ρ n:=nrfl rfl
theorem Agl {k:IntKind} {n:Int}:AA ρ (.const (.int k n))=.int k n:=nrfl rfl
theorem yP {b:Bool}:AA ρ (.const (.bool b))=.bool b:=nrfl rfl
theorem Agm {s:ByteArray}:AA ρ (.const (.string s))=if s.data.toList.length≤9223372036854775807 then .str s.data.toList else .bad:=nrfl rfl
theorem yQ:AA ρ (.const (.slice none 0 0))=.nils:=nrfl rfl
theorem yR:AA ρ (.const (.pointer none))=.nilp:=nrfl rfl
theorem yS:AA ρ (.const .nilFunc)=.nilf:=nrfl rfl
theorem yT:AA ρ (.const .nilIface)=.nili:=nrfl rfl
theorem Agn {cs:Array Value}:AA ρ (.const (.agg cs))=if (cs.toList.map C7).all PV.isCell then .agg (cs.toList.map C7)else .bad:=nrfl rfl
theorem yU {f:FuncId}:AA ρ (.func f)=.func (.func f) [] []:=nrfl rfl
end
theorem Ago {k:IntKind} {n:Int}:C7 (.int k n)=.int k n:=nrfl rfl
theorem yV {b:Bool}:C7 (.bool b)=.bool b:=nrfl rfl
theorem yW:C7 (.slice none 0 0)=.nils:=nrfl rfl
theorem Agp {s:ByteArray}:C7 (.string s)=if s.data.toList.length≤9223372036854775807 then .str s.data.toList else .bad:=nrfl rfl
def grd (o:Option Nat) (ρ:Nat→PV):PV:=match o with | some d=>ρ d | none=>.bad
theorem dC {ops:Array Oper} {ρ:Nat→PV} {j:Nat}:DD ops ρ j=grd ((ops[j]?).bind (·.dst)) ρ:=nrfl rfl
theorem nJ {d:Nat} {ρ:Nat→PV}:grd (some d) ρ=ρ d:=nrfl rfl
section
variable {X:Cfg} {d:Nat} {ρ:Operand→PV} {st:Store}
theorem nK {x:Operand}:iop X d (.move x) ρ st=some (ρ x,st):=nrfl rfl
theorem Xf {x:Operand}:iop X d (.assign x) ρ st=some (ρ x,st):=nrfl rfl
def QM (c a b:PV) (st:Store):Option (PV×Store):=match c with | .bool v=>some (if v then a else b,st) | _=>none
theorem Xg {v:Bool} {a b:PV}:QM (.bool v) a b st=some (if v=true then a else b,st):=nrfl rfl
theorem Xh {a b:PV}:QM (.bool true) a b st=some (a,st):=nrfl rfl
theorem UE {a b:PV}:QM (.bool false) a b st=some (b,st):=nrfl rfl
theorem nL {c a b:Operand}:iop X d (.pick c a b) ρ st=QM (ρ c) (ρ a) (ρ b) st:=nrfl rfl
theorem dD {t:TypeId} (h:X.num d=0):iop X d (.alloc t) ρ st=if 0<X.P.cellsOf t∧(Az X.P t).cells.length=X.P.cellsOf t then some (.ptr st.next 0 0 0,st.new (.arr 0 (X.P.cellsOf t) [Az X.P t]))else none:=by simp[iop,h]
theorem Hq {t:TypeId} {k:Nat} (h:X.num d=k+1):iop X d (.alloc t) ρ st=if 0<X.P.cellsOf t∧(Az X.P t).cells.length=X.P.cellsOf t then st.reP (k+1) (X.P.cellsOf t) (Az X.P t)else none:=by simp[iop,h]
def Ak7 (X:Cfg) (d:Nat) (cells:List PV) (p:PV) (st:Store):Option (PV×Store) :=
 if 0<cells.length then (if X.muts d then some (.ptr st.next 0 0 0,st.new (.arr 0 cells.length [p]))else some (.vptr cells 0,st))else none
theorem yX {t:TypeId} {x:Operand}:iop X d (.box t x) ρ st=Ak7 X d (ρ x).cells (ρ x) st:=nrfl rfl
theorem yY {cells:List PV} {p:PV}:Ak7 X d cells p st=if 0<cells.length then (if X.muts d=true then some (.ptr st.next 0 0 0,st.new (.arr 0 cells.length [p]))else some (.vptr cells 0,st))else none:=nrfl rfl
def evp (ρ:Operand→PV):List (Nat×Operand)→List (Nat×PV)
 | [] => []
 | x::l=>(x.1,ρ x.2)::evp ρ l
theorem nN {i:Nat} {x:Operand} {l:List (Nat×Operand)}:evp ρ ((i,x)::l)=(i,ρ x)::evp ρ l:=nrfl rfl
theorem yZ:evp ρ [] = []:=nrfl rfl
theorem nO {l:List (Nat×Operand)}:(l.map fun (i,x)=>(i,ρ x))=evp ρ l:=by
 induction l with
 | nil=>rfl
 | cons x l ih=>simp only[List.map_cons,evp,ih]
theorem dE {t:TypeId} {parts:List (Nat×Operand)}:iop X d (.build t parts.toArray) ρ st=(L3 X.P t (evp ρ parts)).map fun v=>(v,st):=by rw[←nO];rfl
def Agq (X:Cfg) (d:Nat) (t:TypeId) (len:Nat) (o:Option (List PV)) (st:Store):Option (PV×Store) :=
 if 0<Ae X.P t∧len*Ae X.P t≤16777216 then o.bind fun l=>if X.muts d then (if X.num d=0 then some (.ref st.next 0 0 len,st.new (.arr 0 (Ae X.P t) l))else st.re (X.num d) (Ae X.P t) l len)else some (.lits (Ae X.P t) l,st)else none
theorem Oy {t:TypeId} {len:Nat} {parts:List (Nat×Operand)}:iop X d (.buildSlice t len parts.toArray) ρ st=Agq X d t len (Cy (Ae X.P t) (List.replicate len (Az X.P (BO X.P t))) (evp ρ parts)) st:=by rw[←nO];rfl
theorem zA {t:TypeId} {len:Nat} {l:List PV}:Agq X d t len (some l) st=if 0<Ae X.P t∧len*Ae X.P t≤16777216 then (if X.muts d=true then (if X.num d=0 then some (.ref st.next 0 0 len,st.new (.arr 0 (Ae X.P t) l))else st.re (X.num d) (Ae X.P t) l len)else some (.lits (Ae X.P t) l,st))else none:=by
 simp only[Agq,Option.bind_some]
theorem Agr {ob:Nat→Option IObj} {nx k z n g z0:Nat} {l es:List PV} (h:ob k=some (.arr g z0 es)):Store.re ⟨ob,nx⟩ (k+1) z l n=some (.ref k (g+1) 0 n,Store.set ⟨ob,nx⟩ k (.arr (g+1) z l)):=by simp[Store.re,h]
theorem P7 {k id g s n z:Nat} {l:List PV}:ED k (.ref id g s n) (.lits z l)=(id==k-1):=nrfl rfl
theorem P8 {k id g s n:Nat}:ED k (.ref id g s n) .nils=(id==k-1):=nrfl rfl
theorem nP {t:TypeId} {x:Operand}:iop X d (.load t x) ρ st=(Bu X.P t).bind fun q=>(Dl (X.see d st) q.1 q.2 (ρ x)).map fun v=>(v,st):=nrfl rfl
theorem dF {t:TypeId} {a x:Operand}:iop X d (.store t a x) ρ st=if (X.frz (800000+Dm a)=true∧Qr st (ρ a) (ρ x)=false)∨(X.frz (900000+Dm a)=true∧Qs (X.num (Dm a)) (ρ a)=false)then none else (Fw st (X.P.cellsOf t) (ρ a) (ρ x)).map fun st'=>(.bad,st'):=nrfl rfl
theorem dG {n:Nat}:Dm (.tmp n)=n:=nrfl rfl
theorem dH {k id gen i o:Nat}:Qs k (.ptr id gen i o)=(id==k-1):=nrfl rfl
theorem dJ {id gen i o:Nat} {v:PV}:Qr st (.ptr id gen i o) v=(v.isInt1&&match st.arr? id gen with | some q=>decide (q.1≤2)&&q.2.all PV.isInt | none=>false):=nrfl rfl
def YX (p:PV) (st:Store):Option (PV×Store):=match p with | .vptr c o=>some (.vptr c o,st) | .ptr i g x o=>(st.arr? i g).map fun _=>(.ptr i g x o,st) | _=>none
theorem R4 {x:Operand}:iop X d (.nilCheck x) ρ st=(YX (ρ x) (X.see d st)).map fun q=>(q.1,st):=by
 simp only[iop];cases ρ x <;> simp[YX];rfl
theorem Xi {c:List PV} {o:Nat}:YX (.vptr c o) st=some (.vptr c o,st):=nrfl rfl
theorem dK {i g x o:Nat}:YX (.ptr i g x o) st=(st.arr? i g).map fun _=>(.ptr i g x o,st):=nrfl rfl
theorem dM {op:BinOp} {t:TypeId} {x y:Operand} {z:TypeId}:iop X d (.binOp op t x y z) ρ st=(BU X.P op t (ρ x) (ρ y)).map fun v=>(v,st):=nrfl rfl
theorem nQ {op:UnOp} {t:TypeId} {x:Operand}:iop X d (.unOp op t x) ρ st=(unP op (ρ x)).map fun v=>(v,st):=nrfl rfl
theorem UF {s t:TypeId} {x:Operand}:iop X d (.convert s t x) ρ st=(Qq X.P s t (ρ x)).map fun v=>(v,st):=nrfl rfl
def evs (ρ:Operand→PV):List Operand→List PV
 | [] => []
 | x::l=>ρ x::evs ρ l
theorem nR {x:Operand} {l:List Operand}:evs ρ (x::l)=ρ x::evs ρ l:=nrfl rfl
theorem zB:evs ρ [] = []:=nrfl rfl
theorem Kg {l:List Operand}:l.map ρ=evs ρ l:=by
 induction l with
 | nil=>rfl
 | cons x l ih=>simp only[List.map_cons,evs,ih]
theorem R5 {fn:Fn} {a b:List Operand}:iop X d (.makeFunc fn a.toArray b.toArray) ρ st=some (.func fn (evs ρ a) (evs ρ b),st):=by rw[←Kg,←Kg];rfl
def UG (X:Cfg) (d:Nat) (t:TypeId) (a b:PV) (st:Store):Option (PV×Store) :=
 match a,b with
 | .int .i64 n,.int .i64 m=>if 0≤n∧n≤m∧m≤4294967296∧0<Ae X.P t then (if X.num d=0 then (if X.frz d=true then some (.lits (Ae X.P t) (List.replicate n.toNat (Az X.P (BO X.P t))),st)else some (.ref st.next 0 0 n.toNat,st.new (.arr 0 (Ae X.P t) (List.replicate n.toNat (Az X.P (BO X.P t))))))else st.re (X.num d) (Ae X.P t) (List.replicate n.toNat (Az X.P (BO X.P t))) n.toNat)else none
 | _,_=>none
section
variable {t:TypeId}
theorem P9 {l c:Operand}:iop X d (.makeSlice t l c) ρ st=UG X d t (ρ l) (ρ c) st:=by
 simp only[iop,UG]
 cases ρ l <;> try rfl
theorem nS {n m:Int} (h:X.num d=0) (hf:X.frz d=false):UG X d t (.int .i64 n) (.int .i64 m) st=if 0≤n∧n≤m∧m≤4294967296∧0<Ae X.P t then some (.ref st.next 0 0 n.toNat,st.new (.arr 0 (Ae X.P t) (List.replicate n.toNat (Az X.P (BO X.P t)))))else none:=by simp[UG,h,hf]
theorem nT {n m:Int} (h:X.num d=0) (hf:X.frz d=true):UG X d t (.int .i64 n) (.int .i64 m) st=if 0≤n∧n≤m∧m≤4294967296∧0<Ae X.P t then some (.lits (Ae X.P t) (List.replicate n.toNat (Az X.P (BO X.P t))),st)else none:=by simp[UG,h,hf]
theorem zC {n m:Int} {k:Nat} (h:X.num d=k+1):UG X d t (.int .i64 n) (.int .i64 m) st=if 0≤n∧n≤m∧m≤4294967296∧0<Ae X.P t then st.re (k+1) (Ae X.P t) (List.replicate n.toNat (Az X.P (BO X.P t))) n.toNat else none:=by simp[UG,h]
def nU (X:Cfg) (d:Nat) (t:TypeId) (p:PV) (l h:Option (Option Int)) (st:Store):Option (PV×Store) :=
 if X.muts d=true then (match l,h with | none,none=>aR X.P st t p | _,_=>none)else
 match l,h with
 | some none,_ | _,some none=>none
 | l,h=>(Cx (X.see d st) (Ae X.P t) (AR X.P t) (Bz X.P t) p (l.bind id) (h.bind id)).map fun v=>(v,st)
theorem dN {x:Operand} {lo hi:Option Operand}:iop X d (.slice t x lo hi none) ρ st=nU X d t (ρ x) (lo.map fun o=>Da (ρ o)) (hi.map fun o=>Da (ρ o)) st:=by
 cases lo <;> cases hi <;> rfl
end
theorem Xj {k:IntKind} {n:Int}:Da (.int k n)=some n:=nrfl rfl
section
variable {t:TypeId} {p:PV}
theorem zD:nU X d t p none none st=if X.muts d=true then aR X.P st t p else (Cx (X.see d st) (Ae X.P t) (AR X.P t) (Bz X.P t) p none none).map fun v=>(v,st):=nrfl rfl
theorem zE {n:Int}:nU X d t p (some (some n)) none st=if X.muts d=true then none else (Cx (X.see d st) (Ae X.P t) (AR X.P t) (Bz X.P t) p (some n) none).map fun v=>(v,st):=nrfl rfl
theorem zF {m:Int}:nU X d t p none (some (some m)) st=if X.muts d=true then none else (Cx (X.see d st) (Ae X.P t) (AR X.P t) (Bz X.P t) p none (some m)).map fun v=>(v,st):=nrfl rfl
theorem zG {n m:Int}:nU X d t p (some (some n)) (some (some m)) st=if X.muts d=true then none else (Cx (X.see d st) (Ae X.P t) (AR X.P t) (Bz X.P t) p (some n) (some m)).map fun v=>(v,st):=nrfl rfl
end
theorem Qa {t:TypeId} {x:Operand} {f:Nat}:iop X d (.fieldAddr t x f) ρ st=(A2 X.P t f).bind fun q=>if 0<q.2.1 then (C8 (X.see d st) (ρ x) q.1).map fun v=>(v,st)else none:=nrfl rfl
theorem Ags {e:Nat}:X.see e st=if X.frz e=true then⟨fun _=>none,0⟩else if X.frz (600000+e)=true then st.past (X.num e)else if X.frz (700000+e)=true then st.hard else st:=nrfl rfl
theorem zH:st.hard=⟨fun i=>(st.obj i).bind fun o=>if H6 o=true then none else some o,st.next⟩:=nrfl rfl
theorem nV {g z:Nat} {es:List PV}:H6 (.arr g z es)=(decide (z≤2)&&es.all PV.isInt):=nrfl rfl
theorem Xk {k:IntKind} {n:Int}:PV.isInt1 (.int k n)=true:=nrfl rfl
theorem Xl {i g s n:Nat}:PV.isInt1 (.ref i g s n)=false:=nrfl rfl
theorem dO {i g s n:Nat}:PV.isInt (.ref i g s n)=false:=nrfl rfl
theorem dQ {cs:List PV}:PV.isInt (.agg cs)=cs.all PV.isInt1:=nrfl rfl
theorem dR {id gen s n z:Nat} {l:List PV}:N5 st (.ref id gen s n) (.lits z l)=(l.all PV.isInt&&match st.arr? id gen with | some q=>decide (q.1≤2)&&q.2.all PV.isInt | none=>false):=nrfl rfl
theorem dU {k:IntKind} {n:Int}:PV.isInt (.int k n)=true:=nrfl rfl
theorem nW {l:List Int} {k:IntKind}:(l.map (PV.int k)).all PV.isInt=true:=by simp[PV.isInt]
theorem dV {x:Operand} {m:String} {as:List Operand} {ts:List TypeId}:iop X d (.call ⟨.invoke x m,as.toArray,ts.toArray⟩) ρ st=(kA X.P st (ρ x) m).bind fun q=>DJ X d (.func (.func q.1) [q.2] []) (Ru X d ts) (evs ρ as) st:=by rw[←Kg];rfl
theorem Xm {P:Program} {t:TypeId} {v:PV} {m:String}:kA P st (.iface t v) m=(KP P t m).bind fun q=>if q.2.1=true then some (q.1,v)else (Bu P q.2.2).bind fun r=>(Dl st r.1 r.2 v).map fun r=>(q.1,r):=nrfl rfl
def Mf (P:Program) (t:TypeId):Bool := !KM P t&&(P.underlying t).isSome
theorem K5 {t:TypeId} {x:Operand} (h:Mf X.P t=true):iop X d (.makeInterface t x) ρ st=some (.iface t (ρ x),st):=by
 simp only[Mf,Bool.and_eq_true,Bool.not_eq_true']at h
 simp only[iop,h,and_self,if_true]
def asT (t:TypeId) (p:PV) (st:Store):Option (PV×Store):=match p with | .iface t' v=>if t'=t then some (v,st)else none | _=>none
theorem Oz {x:Operand} {xt t:TypeId} (h:Mf X.P t=true):iop X d (.typeAssert x xt t false) ρ st=asT t (ρ x) st:=by
 simp only[Mf,Bool.and_eq_true,Bool.not_eq_true']at h
 simp only[iop,h,and_true,asT]
 cases ρ x <;> rfl
theorem nX {t:TypeId} {v:PV}:asT t (.iface t v) st=some (v,st):=by simp[asT]
theorem zI {k:Nat}:st.past k=⟨fun i=>if i<k then none else st.obj i,st.next⟩:=nrfl rfl
def Ak8 (X:Cfg) (t:TypeId) (p:PV) (f:Nat) (st:Store):Option (PV×Store):=match p with | .agg cs=>(A2 X.P t f).bind fun (o,_,u)=>(Bu X.P u).bind fun (z,ag)=>(CL cs o z ag).map fun v=>(v,st) | _=>none
section
variable {t:TypeId}
theorem dW {x:Operand} {f:Nat}:iop X d (.field t x f) ρ st=Ak8 X t (ρ x) f st:=nrfl rfl
theorem nY {cs:List PV} {f:Nat}:Ak8 X t (.agg cs) f st=(A2 X.P t f).bind fun q=>(Bu X.P q.2.2).bind fun r=>(CL cs q.1 r.1 r.2).map fun v=>(v,st):=nrfl rfl
def Ak9 (X:Cfg) (d:Nat) (t:TypeId) (p i:PV) (st:Store):Option (PV×Store):=match i with | .int _ n=>(CC X.P (X.see d st) t p n).map fun v=>(v,st) | _=>none
theorem Qb {x i:Operand}:iop X d (.indexAddr t x i) ρ st=Ak9 X d t (ρ x) (ρ i) st:=nrfl rfl
theorem nZ {p:PV} {k:IntKind} {n:Int}:Ak9 X d t p (.int k n) st=(CC X.P (X.see d st) t p n).map fun v=>(v,st):=nrfl rfl
def Ala (X:Cfg) (t:TypeId) (p i:PV) (st:Store):Option (PV×Store):=match i with | .int _ n=>(JZ X.P t p n).map fun v=>(v,st) | _=>none
theorem dX {x i:Operand}:iop X d (.index t x i) ρ st=Ala X t (ρ x) (ρ i) st:=nrfl rfl
theorem oA {p:PV} {k:IntKind} {n:Int}:Ala X t p (.int k n) st=(JZ X.P t p n).map fun v=>(v,st):=nrfl rfl
end
def Alb (p:PV) (i:Nat) (st:Store):Option (PV×Store):=match p with | .tuple vs=>(vs[i]?).map fun v=>(v,st) | _=>none
theorem UH {x:Operand} {i:Nat}:iop X d (.extract x i) ρ st=Alb (ρ x) i st:=nrfl rfl
theorem Xn {vs:List PV} {i:Nat}:Alb (.tuple vs) i st=(vs[i]?).map fun v=>(v,st):=nrfl rfl
theorem Mg {f:Operand} {as:List Operand} {ts:List TypeId}:iop X d (.call ⟨.value f,as.toArray,ts.toArray⟩) ρ st=DJ X d (ρ f) (Ru X d ts) (evs ρ as) st:=by rw[←Kg];rfl
theorem dY {b:Builtin} {as:List Operand} {ts:List TypeId}:iop X d (.call ⟨.builtin b,as.toArray,ts.toArray⟩) ρ st=Bk X d b ts (evs ρ as) st:=by rw[←Kg];rfl
def Agt (X:Cfg) (f:Nat) (l:List PV) (st:Store):Option (PV×Store):=(B8 (st.only (DZ l)) l).bind fun as=>X.tab f as (st.without (DZ l))
def Agu (X:Cfg) (f:Nat) (l:List PV) (st:Store):Option (PV×Store):=(B8 (st.only (DZ l)) l).bind fun as=>X.tab f as (st.seal (DZ l))
def Agv (X:Cfg) (f k:Nat) (l:List PV) (st:Store):Option (PV×Store):=if (DZ l).all (fun i=>i==k)=true then (B8 (st.only [k]) l).bind fun as=>X.tab f as (st.again k)else none
theorem oB {f:Nat} {a b:List PV} {ts:List TypeId} {args:List PV}:DJ X d (.func (.func f) a b) ts args st=if X.frz d=true then (if X.num d=0 then Agt X f (a++nrmAll X.P ts args++b) st else if X.muts d=true then Agv X f (X.num d-1) (a++nrmAll X.P ts args++b) st else Agu X f (a++nrmAll X.P ts args++b) st)else if X.muts d=true∧(AT (a++nrmAll X.P ts args++b)=false∨(X.frz (1200000+d)=true∧X.quiet f=false))then none else X.tab f (a++nrmAll X.P ts args++b) st:=by
 simp only[DJ,Agt,Agu,Agv]
 by_cases h1:X.frz d=true <;> by_cases h2:X.num d=0 <;> by_cases h3:X.muts d=true <;> simp[h1,h2,h3]
theorem zJ {ts:List TypeId}:Ru X d ts=if X.frz (400000+d)=true then []else ts:=nrfl rfl
theorem UI {P:Program} {t:TypeId} {ts:List TypeId} {p:PV} {l:List PV}:nrmAll P (t::ts) (p::l)=nrm (Bp P t) p::nrmAll P ts l:=nrfl rfl
theorem Xo {P:Program} {l:List PV}:nrmAll P [] l=l:=by simp[nrmAll]
def dZ (st:Store) (q:Option (MK×PV)) (L:Option Int) (x:PV):Option Int:=match q with | some q=>Is st (some q) x | none=>L
theorem Agw {t:TypeId} {x:PV}:Bk X d .len [t] [x] st=(dZ st (AV X.P t) (KN (X.see d st) (Ae X.P t) (AR X.P t) x) x).map fun n=>(.int .i64 n,st):=by simp only[Bk,dZ];cases AV X.P t <;> rfl
theorem eC {L:Option Int} {x:PV}:dZ st none L x=L:=nrfl rfl
section
variable {t u:TypeId} {x y:PV}
theorem zK:Bk X d .copy [t,u] [x,y] st=(TE st (Ae X.P t) x y).map fun q=>(.int .i64 q.1,q.2):=nrfl rfl
theorem eD (h:X.num d=0):Bk X d .append [t,u] [x,y] st=if Ae X.P u≠0∨AR X.P u=true then (if X.frz (700000+d)=true∧N5 st x y=false then none else (Cw st (Ae X.P t) y).bind fun ys=>CB st (Ae X.P t) x ys)else none:=by
 simp only[Bk,h]
 by_cases h1:Ae X.P u≠0∨AR X.P u=true <;> by_cases h2:X.frz (700000+d)=true <;> cases h3:N5 st x y <;> simp[h1,h2]
theorem R6 {k:Nat} (h:X.num d=k+1):Bk X d .append [t,u] [x,y] st=if ED (k+1) x y=true then (if Ae X.P u≠0∨AR X.P u=true then (if X.frz (700000+d)=true then none else (Cw st (Ae X.P t) y).bind fun ys=>CB st (Ae X.P t) x ys)else none)else none:=by
 simp only[Bk,h]
 by_cases h1:ED (k+1) x y=true <;> by_cases h2:Ae X.P u≠0∨AR X.P u=true <;> by_cases h3:X.frz (700000+d)=true <;> simp[h1,h2,h3]
end
section
variable {ts:List TypeId} {x y:Int} {k:IntKind}
theorem Agx:Bk X d .min ts [.int k x,.int k y] st=some (.int k (if y<x then y else x),st):=by
 cases ts with
 | nil=>simp[Bk,Gh]
 | cons t ts=>cases ts <;> simp[Bk,Gh]
theorem Agy:Bk X d .max ts [.int k x,.int k y] st=some (.int k (if x<y then y else x),st):=by
 cases ts with
 | nil=>simp[Bk,Gh]
 | cons t ts=>cases ts <;> simp[Bk,Gh]
end
end
section
variable {m:List (Nat×Nat)}
theorem zL {cs:List PV}:nrm m (.agg cs)=.agg (KO m 0 cs):=nrfl rfl
theorem eG {i:Nat} {c:PV} {l:List PV}:KO m i (c::l)=nrm1 (m.lookup i) c::KO m (i+1) l:=nrfl rfl
theorem oC {i:Nat}:KO m i [] = []:=nrfl rfl
theorem oD:nrm m .nils=nrm1 (m.lookup 0) .nils:=nrfl rfl
end
theorem eH {z:Nat}:nrm1 (some z) .nils=.lits z []:=nrfl rfl
theorem eJ:nrm1 none .nils=.nils:=nrfl rfl
theorem zM {p:PV}:nrm1 none p=p:=by cases p <;> rfl
theorem Agz {p:PV}:nrm [] p=p:=by
 cases p <;> try rfl
 rename_i cs
 simp only[nrm,PV.agg.injEq]
 have : ∀(l:List PV) (i:Nat),KO [] i l=l:=by
  intro l;induction l with
  | nil=>intro i;rfl
  | cons c l ih=>intro i;simp only[KO,ih,List.lookup_nil,zM]
 exact this cs 0
section
variable {m:List (Nat×Nat)}
theorem zN {k:IntKind} {n:Int}:nrm m (.int k n)=.int k n:=nrfl rfl
theorem zO {s:List UInt8}:nrm m (.str s)=.str s:=nrfl rfl
theorem oE {b:Bool}:nrm m (.bool b)=.bool b:=nrfl rfl
theorem oF {z:Nat} {l:List PV}:nrm m (.lits z l)=.lits z l:=nrfl rfl
theorem zP {i g s n:Nat}:nrm m (.ref i g s n)=.ref i g s n:=nrfl rfl
theorem oG {f:Fn} {a b:List PV}:nrm m (.func f a b)=.func f a b:=nrfl rfl
theorem oI {cs:List PV} {o:Nat}:nrm m (.vptr cs o)=.vptr cs o:=nrfl rfl
theorem zQ {i g x o:Nat}:nrm m (.ptr i g x o)=.ptr i g x o:=nrfl rfl
end
section
variable {m:Option Nat}
theorem oJ {k:IntKind} {n:Int}:nrm1 m (.int k n)=.int k n:=nrfl rfl
theorem oK {s:List UInt8}:nrm1 m (.str s)=.str s:=nrfl rfl
theorem eM {b:Bool}:nrm1 m (.bool b)=.bool b:=nrfl rfl
theorem eN {z:Nat} {l:List PV}:nrm1 m (.lits z l)=.lits z l:=nrfl rfl
theorem oM {i g s n:Nat}:nrm1 m (.ref i g s n)=.ref i g s n:=nrfl rfl
end
section
variable {st:Store}
def Ag0 (o:Option IObj) (gen:Nat):Option (Nat×List PV):=match o with | some (.arr g z es)=>if gen=g then some (z,es)else none | _=>none
theorem Ag1 {id g:Nat}:st.arr? id g=Ag0 (st.obj id) g:=nrfl rfl
theorem eO {g h z:Nat} {es:List PV}:Ag0 (some (.arr h z es)) g=if g=h then some (z,es)else none:=nrfl rfl
section
variable {cells:List PV} {off sz:Nat}
theorem zR:CL cells off sz false=cells[off]?:=nrfl rfl
theorem zS:CL cells off sz true=if off+sz≤cells.length then some (.agg ((cells.drop off).take sz))else none:=nrfl rfl
end
theorem Xp {sz off:Nat} {ag:Bool} {cells:List PV}:Dl st sz ag (.vptr cells off)=CL cells off sz ag:=nrfl rfl
theorem eQ {sz off id gen idx:Nat} {ag:Bool}:Dl st sz ag (.ptr id gen idx off)=(st.arr? id gen).bind fun q=>CL (nth q.2 idx).cells off sz ag:=nrfl rfl
theorem R7 {cs vs:List PV} {o:Nat}:Bj (.agg cs) o vs=.agg (DC cs o vs):=nrfl rfl
theorem R8 {k:IntKind} {n:Int} {v:PV} {o:Nat}:Bj (.int k n) o [v]=v:=nrfl rfl
theorem Qc {b:Bool} {v:PV} {o:Nat}:Bj (.bool b) o [v]=v:=nrfl rfl
theorem Qd {v:PV} {o:Nat}:Bj .nils o [v]=v:=nrfl rfl
theorem R9 {i g s n:Nat} {v:PV} {o:Nat}:Bj (.ref i g s n) o [v]=v:=nrfl rfl
theorem Xq {sz id gen idx off:Nat} {v:PV}:Fw st sz (.ptr id gen idx off) v=(st.arr? id gen).bind fun q=>if v.cells.length=sz∧0<sz∧idx<q.2.length∧off+sz≤q.1 then some (st.set id (.arr gen q.1 (q.2.set idx (Bj (nth q.2 idx) off v.cells))))else none:=nrfl rfl
theorem UJ {cells:List PV} {off o:Nat}:C8 st (.vptr cells off) o=some (.vptr cells (off+o)):=nrfl rfl
theorem Xr {id gen idx off o:Nat}:C8 st (.ptr id gen idx off) o=(st.arr? id gen).map fun _=>.ptr id gen idx (off+o):=nrfl rfl
variable {P:Program} {t:TypeId} {i:Int}
theorem UK {z:Nat} {l:List PV}:CC P st t (.lits z l) i=if 0≤i∧i<l.length∧z=Ae P t∧0<z then some (.vptr (nth l i.toNat).cells 0)else none:=nrfl rfl
theorem Xs {id gen s n:Nat}:CC P st t (.ref id gen s n) i=(st.arr? id gen).bind fun q=>if 0≤i∧i<n∧s+n≤q.2.length∧q.1=Ae P t then some (.ptr id gen (s+i.toNat) 0)else none:=nrfl rfl
theorem UL {cells:List PV} {off:Nat}:CC P st t (.vptr cells off) i=(Bz P t).bind fun q=>if 0≤i∧i<q.1∧0<q.2 then some (.vptr cells (off+i.toNat*q.2))else none:=nrfl rfl
theorem Xt {id gen idx off:Nat}:CC P st t (.ptr id gen idx off) i=(st.arr? id gen).bind fun _=>(Bz P t).bind fun q=>if 0≤i∧i<q.1∧0<q.2 then some (.ptr id gen idx (off+i.toNat*q.2))else none:=nrfl rfl
theorem Xu {s:List UInt8}:JZ P t (.str s) i=if 0≤i∧i<s.length∧AR P t=true then some (.int .u8 (s.getD i.toNat 0).toNat)else none:=nrfl rfl
theorem Xv {cs:List PV}:JZ P t (.agg cs) i=(Iq P t).bind fun q=>(Bu P q.2).bind fun r=>if 0≤i∧i<q.1 then CL cs (i.toNat*r.1) r.1 r.2 else none:=nrfl rfl
variable {z:Nat} {sb:Bool}
theorem eR:KN st z sb .nils=if 0<z then some 0 else none:=nrfl rfl
theorem eS {y:Nat} {l:List PV}:KN st z sb (.lits y l)=if 0<z then some (l.length:Int)else none:=nrfl rfl
theorem oN {id g s n:Nat}:KN st z sb (.ref id g s n)=(st.arr? id g).bind fun _=>if 0<z then some (n:Int)else none:=nrfl rfl
theorem oO {s:List UInt8}:KN st z sb (.str s)=if sb=true then some (s.length:Int)else none:=nrfl rfl
theorem UM:Cw st z .nils=some []:=nrfl rfl
theorem UN {y:Nat} {l:List PV}:Cw st z (.lits y l)=if y=z then some l else none:=nrfl rfl
theorem Xw {id gen s n:Nat}:Cw st z (.ref id gen s n)=(st.arr? id gen).bind fun q=>if s+n≤q.2.length∧q.1=z then some ((q.2.drop s).take n)else none:=nrfl rfl
theorem Xx {s:List UInt8}:Cw st z (.str s)=if z=1 then some (s.map fun b=>.int .u8 b.toNat)else none:=nrfl rfl
theorem UO {lo hi:Option Int} {ar:Option (Nat×Nat)}:Cx st z sb ar .nils lo hi=if lo.getD 0=0∧hi.getD 0=0∧0<z then some .nils else none:=nrfl rfl
theorem UP {y:Nat} {l:List PV} {lo hi:Option Int} {ar:Option (Nat×Nat)}:Cx st z sb ar (.lits y l) lo hi=if 0≤lo.getD 0∧lo.getD 0≤hi.getD l.length∧hi.getD l.length≤l.length∧y=z∧0<z then some (.lits z ((l.drop (lo.getD 0).toNat).take ((hi.getD l.length).toNat-(lo.getD 0).toNat)))else none:=nrfl rfl
theorem Xy {id gen s n:Nat} {lo hi:Option Int} {ar:Option (Nat×Nat)}:Cx st z sb ar (.ref id gen s n) lo hi=(st.arr? id gen).bind fun q=>if 0≤lo.getD 0∧lo.getD 0≤hi.getD n∧hi.getD n≤(q.2.length:Int)-s∧s≤q.2.length∧q.1=z then some (.ref id gen (s+(lo.getD 0).toNat) ((hi.getD n).toNat-(lo.getD 0).toNat))else none:=nrfl rfl
theorem UQ {cs:List PV} {off:Nat} {lo hi:Option Int} {ar:Option (Nat×Nat)}:Cx st z sb ar (.vptr cs off) lo hi=ar.bind fun a=>if a.2=1∧lo=none∧hi=none∧off+a.1≤cs.length∧0<a.1∧a.1≤65536 then some (.lits 1 ((cs.drop off).take a.1))else none:=nrfl rfl
theorem oP {P:Program} {t:TypeId} {id gen idx off:Nat}:aR P st t (.ptr id gen idx off)=(st.arr? id gen).bind fun q=>(Bz P t).bind fun a=>if a.2=1∧idx<q.2.length∧AT q.2=true∧off+a.1≤(nth q.2 idx).cells.length∧0<a.1∧a.1≤65536 then some (.lits 1 (((nth q.2 idx).cells.drop off).take a.1),st.without [id])else none:=nrfl rfl
theorem Xz {s:List UInt8} {lo hi:Option Int} {ar:Option (Nat×Nat)}:Cx st z sb ar (.str s) lo hi=if 0≤lo.getD 0∧lo.getD 0≤hi.getD s.length∧hi.getD s.length≤s.length∧sb=true then some (.str ((s.drop (lo.getD 0).toNat).take ((hi.getD s.length).toNat-(lo.getD 0).toNat)))else none:=nrfl rfl
theorem Sa {ys:List PV}:CB st z .nils ys=if 0<z∧ys.length≤2147483648 then (if ys.length=0 then some (.nils,st)else some (.ref st.next 0 0 ys.length,st.new (.arr 0 z ys)))else none:=nrfl rfl
theorem UR {id gen s n:Nat} {ys:List PV}:CB st z (.ref id gen s n) ys=(st.arr? id gen).bind fun q =>
   if s+n≤q.2.length∧q.1=z∧n+ys.length≤2147483648 then
    if s+n+ys.length≤q.2.length then
     some (.ref id gen s (n+ys.length),st.set id (.arr gen z (q.2.take (s+n)++ys++q.2.drop (s+n+ys.length))))
    else some (.ref id (gen+1) 0 (n+ys.length),st.set id (.arr (gen+1) z ((q.2.drop s).take n++ys)))
   else none:=rfl
end
section
variable {P:Program} {t:TypeId} {k k':IntKind} {a b:Int}
theorem Alc:BU P .add t (.int k a) (.int k b)=some (.int k (k.wrap (a+b))):=by simp[BU,Ii,Ih]
theorem Ald:BU P .sub t (.int k a) (.int k b)=some (.int k (k.wrap (a-b))):=by simp[BU,Ii,Ih]
theorem Ale:BU P .mul t (.int k a) (.int k b)=some (.int k (k.wrap (a*b))):=by simp[BU,Ii,Ih]
theorem Alf:BU P .quo t (.int k a) (.int k b)=if b=0 then none else some (.int k (k.wrap (a.tdiv b))):=by simp[BU,Ii,Ih]
theorem Alg:BU P .rem t (.int k a) (.int k b)=if b=0 then none else some (.int k (a.tmod b)):=by simp[BU,Ii,Ih]
theorem Alh:BU P .and t (.int k a) (.int k b)=(Cq .and k a b).map (.int k):=by simp[BU,Ii,Ih]
theorem Am5:BU P .or t (.int k a) (.int k b)=(Cq .or k a b).map (.int k):=by simp[BU,Ii,Ih]
theorem Ali:BU P .xor t (.int k a) (.int k b)=(Cq .xor k a b).map (.int k):=by simp[BU,Ii,Ih]
theorem oQ:BU P .andNot t (.int k a) (.int k b)=(Cq .andNot k a b).map (.int k):=by simp[BU,Ii,Ih]
theorem Alj:BU P .eql t (.int k a) (.int k b)=some (.bool (decide (a=b))):=by simp[BU,Ii,Ih]
theorem Alk:BU P .neq t (.int k a) (.int k b)=some (.bool (decide (¬a=b))):=by simp[BU,Ii,Ih]
theorem All:BU P .lss t (.int k a) (.int k b)=some (.bool (decide (a<b))):=by simp[BU,Ii,Ih]
theorem Alm:BU P .leq t (.int k a) (.int k b)=some (.bool (decide (a≤b))):=by simp[BU,Ii,Ih]
theorem Aln:BU P .gtr t (.int k a) (.int k b)=some (.bool (decide (b<a))):=by simp[BU,Ii,Ih]
theorem Alo:BU P .geq t (.int k a) (.int k b)=some (.bool (decide (b≤a))):=by simp[BU,Ii,Ih]
theorem Alp:BU P .shl t (.int k a) (.int k' b)=if b<0 then none else some (.int k (k.wrap (a*2 ^ (min b.toNat k.bits)))):=nrfl rfl
theorem Alq:BU P .shr t (.int k a) (.int k' b)=if b<0 then none else some (.int k (a.fdiv (2 ^ (min b.toNat k.bits)))):=nrfl rfl
variable {s u:List UInt8}
theorem Ag2:BU P .add t (.str s) (.str u)=if s.length+u.length≤2147483648 then some (.str (s++u))else none:=nrfl rfl
theorem Ag3:BU P .eql t (.str s) (.str u)=some (.bool (decide (s=u))):=nrfl rfl
theorem Ag4:BU P .neq t (.str s) (.str u)=some (.bool (decide (¬s=u))):=nrfl rfl
theorem Ag5:BU P .lss t (.str s) (.str u)=some (.bool (Op.bytesLess s u)):=nrfl rfl
theorem Ag6:BU P .leq t (.str s) (.str u)=some (.bool (Op.bytesLess s u||decide (s=u))):=nrfl rfl
theorem Ag7:BU P .gtr t (.str s) (.str u)=some (.bool !(Op.bytesLess s u||decide (s=u))):=nrfl rfl
theorem Ag8:BU P .geq t (.str s) (.str u)=some (.bool !(Op.bytesLess s u)):=nrfl rfl
variable {x y:Bool}
theorem Ag9:BU P .eql t (.bool x) (.bool y)=if Ir P t=true then some (.bool (x==y))else none:=nrfl rfl
theorem Aha:BU P .neq t (.bool x) (.bool y)=if Ir P t=true then some (.bool (!(x==y)))else none:=nrfl rfl
theorem Alr:unP .neg (.int k a)=some (.int k (k.wrap (0-a))):=nrfl rfl
theorem Als:unP .not (.bool x)=some (.bool (!x)):=nrfl rfl
theorem Ahb {src dst:TypeId}:Qq P src dst (.int k a)=(Gg P dst).bind fun k=>(Gg P src).bind fun _=>some (.int k (k.wrap a)):=nrfl rfl
theorem Ahc {src dst:TypeId}:Qq P src dst (.str s)=if AR P src=true∧AR P dst=true then some (.str s)else none:=nrfl rfl
end
section
variable {place:Nat→Option (Nat×Nat)}
theorem oR {cells:List PV}:Fy place cells []=some cells:=nrfl rfl
def oS (place:Nat→Option (Nat×Nat)) (cells vs:List PV) (rest:List (Nat×PV)) (o:Option (Nat×Nat)):Option (List PV) :=
 match o with | none=>none | some q=>if vs.length=q.2∧q.1+q.2≤cells.length∧0<q.2 then Fy place (DC cells q.1 vs) rest else none
theorem eV {cells:List PV} {i:Nat} {v:PV} {rest:List (Nat×PV)}:Fy place cells ((i,v)::rest)=oS place cells v.cells rest (place i):=by
 simp only[Fy,oS];cases place i <;> rfl
theorem XA {cells vs:List PV} {rest:List (Nat×PV)} {q:Nat×Nat}:oS place cells vs rest (some q)=if vs.length=q.2∧q.1+q.2≤cells.length∧0<q.2 then Fy place (DC cells q.1 vs) rest else none:=nrfl rfl
end
def zT (P:Program) (t:TypeId) (cells:List PV) (parts:List (Nat×PV)) (o:Option (Nat×Nat)):Option PV :=
 match o with
 | some q=>(Fy (fun i=>some (i*q.2,q.2)) cells parts).map .agg
 | none=>(Fy (fun i=>(A2 P t i).map fun q=>(q.1,q.2.1)) cells parts).map .agg
section
variable {P:Program} {t:TypeId}
theorem eW {parts:List (Nat×PV)}:L3 P t parts=if B0 P t=true then zT P t (Az P t).cells parts (Bz P t)else none:=by
 simp only[L3,zT];cases Bz P t <;> rfl
theorem eY {cells:List PV} {parts:List (Nat×PV)}:zT P t cells parts none=(Fy (fun i=>(A2 P t i).map fun q=>(q.1,q.2.1)) cells parts).map .agg:=nrfl rfl
theorem eZ {cells:List PV} {parts:List (Nat×PV)} {q:Nat×Nat}:zT P t cells parts (some q)=(Fy (fun i=>some (i*q.2,q.2)) cells parts).map .agg:=nrfl rfl
end
theorem zU {z:Nat} {l:List PV}:Cy z l []=some l:=nrfl rfl
theorem oT {z i:Nat} {l:List PV} {v:PV} {rest:List (Nat×PV)}:Cy z l ((i,v)::rest)=if i<l.length∧v.cells.length=z then Cy z (l.set i v) rest else none:=nrfl rfl
theorem fA {cells vs:List PV} {off:Nat}:DC cells off vs=cells.take off++vs++cells.drop (off+vs.length):=nrfl rfl
theorem zV {args:List PV} {t:Nat}:GK args t=args.getD t .bad:=nrfl rfl
def oU:Option (List PV)→Option PV
 | some [p]=>some p
 | some ps=>some (.tuple ps)
 | none=>none
theorem zW {P:Program} {rs:List ResultVar} {s:IState}:RS P rs s=oU (Dz P s rs):=by
 unfold RS;cases Dz P s rs with
 | none=>rfl
 | some l=>cases l with
  | nil=>rfl
  | cons a l=>cases l <;> rfl
theorem zX {p:PV}:oU (some [p])=some p:=nrfl rfl
theorem zY {p q:PV} {l:List PV}:oU (some (p::q::l))=some (.tuple (p::q::l)):=nrfl rfl
section
variable {P:Program} {s:IState}
theorem US:Dz P s []=some []:=nrfl rfl
theorem Sb {r:ResultVar} {l:List ResultVar}:Dz P s (r::l)=(Hm P s r).bind fun p=>(Dz P s l).map fun ps=>p::ps:=nrfl rfl
theorem UT {t:Nat}:Hm P s (.tmp t)=some (s.env t):=nrfl rfl
theorem Sc {a:Nat} {t:TypeId}:Hm P s (.cell a t)=(Bu P t).bind fun q=>Dl s.st q.1 q.2 (s.env a):=nrfl rfl
end
section
variable {α β:Type} {x y:Option α}
theorem Al {f:α→Option β} (h:x=y):x.bind f=y.bind f:=by rw[h]
theorem Aq {f:α→β} (h:x=y):x.map f=y.map f:=by rw[h]
end
theorem zZ {X:Cfg} {f k:Nat} {l:List PV} {st:Store}:Agv X f k l st=if (DZ l).all (fun i=>i==k)=true then (B8 (st.only [k]) l).bind fun as=>X.tab f as (st.again k)else none:=nrfl rfl
theorem oV {ob:Nat→Option IObj} {n k:Nat}:Store.again ⟨ob,n⟩ k=⟨Ab ob k ((ob k).bind Cz),n⟩:=nrfl rfl
theorem Aaa {X:Cfg} {f:Nat} {l:List PV} {st:Store}:Agu X f l st=(B8 (st.only (DZ l)) l).bind fun as=>X.tab f as (st.seal (DZ l)):=nrfl rfl
section
variable {st:Store} {ids:List Nat}
theorem oW {i:Nat}:(st.seal ids).obj i=if ids.contains i=true then (st.obj i).bind Cz else (st.obj i).map (TG (st.only ids)):=nrfl rfl
theorem fB:(st.seal ids).next=st.next:=nrfl rfl
end
theorem XB {g z:Nat} {es:List PV}:Cz (.arr g z es)=some (.arr (g+1) z []):=nrfl rfl
section
variable {st:Store}
theorem fC {g z:Nat} {es:List PV}:TG st (.arr g z es)=.arr g z (es.map (MY st)):=nrfl rfl
theorem fD {cs:List PV}:MY st (.agg cs)=.agg (cs.map (sealC st)):=nrfl rfl
theorem fE {k:IntKind} {n:Int}:MY st (.int k n)=.int k n:=nrfl rfl
theorem fF {k:IntKind} {n:Int}:sealC st (.int k n)=.int k n:=nrfl rfl
theorem XC {b:Bool}:sealC st (.bool b)=.bool b:=nrfl rfl
theorem XD {z:Nat} {l:List PV}:sealC st (.lits z l)=.lits z l:=nrfl rfl
theorem XE:sealC st .nils=.nils:=nrfl rfl
theorem fG {id g s n:Nat}:sealC st (.ref id g s n)=((st.arr? id g).bind fun q=>if s+n≤q.2.length∧AT q.2=true then some (.lits q.1 ((q.2.drop s).take n))else none).getD (.ref id g s n):=nrfl rfl
end
theorem Aab {X:Cfg} {f:Nat} {l:List PV} {st:Store}:Agt X f l st=(B8 (st.only (DZ l)) l).bind fun as=>X.tab f as (st.without (DZ l)):=nrfl rfl
section
variable {st:Store}
theorem XF {c:PV} {l:List PV}:B8 st (c::l)=(rdP st c).bind fun d=>(B8 st l).map fun ds=>d::ds:=by simp only[B8]
theorem fH:B8 st []=some []:=by simp only[B8]
theorem oX {c:PV} {l:List PV}:rdL st (c::l)=(rdC st c).bind fun d=>(rdL st l).map fun ds=>d::ds:=by simp only[rdL]
theorem Aac:rdL st []=some []:=by simp only[rdL]
end
theorem Aad {spec:List PV→Option PV} {args:List PV} {st:Store}:cA spec args st=if AT args=true then (spec args).map fun r=>(r,st)else (B8 st args).bind fun as=>(spec as).bind fun r=>if r.scal=true then some (r,st)else none:=nrfl rfl
theorem CO {c:PV} {l:List PV}:AT (c::l)=(c.pur&&AT l):=by simp only[AT]
theorem Em:AT []=true:=by simp only[AT]
def Bo:Code→Code
 | .region id ops _=>.region id ops false
 | .seq a b=>.seq (Bo a) (Bo b)
 | .cond c a b=>.cond c (Bo a) (Bo b)
 | .block id c=>.block id (Bo c)
 | .loop c=>.loop (Bo c)
 | .scope c=>.scope (Bo c)
 | c=>c
def Bs (X:Cfg):Code→Bool
 | .region _ ops dr => !dr||Kb X ops
 | .seq a b=>Bs X a&&Bs X b
 | .cond _ a b=>Bs X a&&Bs X b
 | .block _ c=>Bs X c
 | .loop c=>Bs X c
 | .scope c=>Bs X c
 | _=>true
theorem FH {G:WP} (hG:G.Mono) {X:Cfg} (hm:Bl X) {N:Nat} {c:Code}:∀ {Q:IExit→IState→Prop} {s:IState},Bs X c=true→wpC G X N (Bo c) Q s→wpC G X N c Q s:=by
 induction c with
 | skip=>intro Q s hd hs;exact hs
 | region id ops dr =>
  intro Q s hd hs
  rcases hs with hs | hs
  ·refine .inl ⟨fun h=>?_,hs.2⟩
   subst h
   simpa [Bs]using hd
  ·cases hs.1
 | seq a b iha ihb =>
  intro Q s hd hs
  simp only[Bs,Bool.and_eq_true]at hd
  refine iha hd.1 (CR hG X N _ _ _ _ hm (fun e s' he=>?_) hs)
  cases e with
  | normal=>exact ihb hd.2 he
  | exit i=>exact he
  | ret=>exact he
 | cond c a b iha ihb =>
  intro Q s hd hs
  simp only[Bs,Bool.and_eq_true]at hd
  simp only[Bo,wpC]at hs ⊢
  split at hs
  ·exact ⟨fun hv=>iha hd.1 (hs.1 hv),fun hv=>ihb hd.2 (hs.2 hv)⟩
  ·exact hs.elim
 | block id c ih=>intro Q s hd hs;exact ih hd hs
 | loop c ih =>
  intro Q s hd hs
  obtain ⟨J,n,h0,hr⟩:=hs
  exact ⟨J,n,h0,fun m s' hs'=>ih hd (hr m s' hs')⟩
 | exit id=>intro Q s hd hs;exact hs
 | ret=>intro Q s hd hs;exact hs
 | rangeFunc=>intro Q s hd hs;exact hs
 | scope c ih=>intro Q s hd hs;exact ih hd hs
 | label=>intro Q s hd hs;exact hs
 | goto=>intro Q s hd hs;exact hs
 | refuse=>intro Q s hd hs;exact hs
theorem Dc {X:Cfg} (hm:Bl X) {N:Nat} {c:Code} {Q:IExit→IState→Prop} {s:IState} (hd:Bs X c=true) (h:wpI X N (Bo c) Q s):wpI X N c Q s:=FH (EF X.dep) hm hd h
section
variable {X:Cfg} {N:Nat} {Q:IExit→IState→Prop} {ks:List Kf} {s:IState}
theorem Aae:run X N Q (Bo .skip) ks s=Hi X N Q ks s:=nrfl rfl
theorem Ahd {a b:Code}:run X N Q (Bo (.seq a b)) ks s=run X N Q (Bo a) (.seq (Bo b)::ks) s:=RI
theorem oY {id:Nat} {c:Code}:run X N Q (Bo (.block id c)) ks s=run X N Q (Bo c) (.blk id::ks) s:=Ma
theorem Aaf {id:Nat}:run X N Q (Bo (.exit id)) ks s=H9 X N Q ks id s:=nrfl rfl
theorem Ahe:run X N Q (Bo .ret) ks s=done X N Q ks s:=nrfl rfl
theorem fI {id:Nat} {l:List Oper} {dr:Bool}:run X N Q (Bo (.region id l.toArray dr)) ks s=ops X N Q l.toArray l ks s:=Kd
theorem Aag {c:Operand} {a b:Code}:run X N Q (Bo (.cond c a b)) ks s=Ia (AA s.env c) (run X N Q (Bo a) ks s) (run X N Q (Bo b) ks s):=Ol
theorem oZ {g:Operand} {ps:Array Tmp} {a b:Code}:run X N Q (Bo (.rangeFunc g ps a b)) ks s=run X N Q (.rangeFunc g ps a b) ks s:=nrfl rfl
end
section
variable {P:Program}
theorem Bc (hmix:P.follows .mixedOrders=true) {l:AW} (hl:Bv P l) (muts:List Nat) (frz:List Nat) {f:FuncId} {fn:Func} {c:Code} (hf:P.funcs[f]?=some fn) (hb:fn.body=some c)
  (hname : (fn.name == "runtime.NumGoroutine") = false) {args : List PV} {N : Nat} (hN : fn.ntmps = N) (hn : args.length ≤ N) {rs : List ResultVar} (hrs : fn.results.toList = rs) (hd : Bs (cfg P l muts frz) c = true) {r : PV}
  (h : AK args→run (cfg P l muts frz) N (Ao P rs (fun p st=>DRx st p r)) (Bo c) [] ⟨GK args,st0⟩):VC P f args r :=
 Afo hmix hl muts frz hf hb hname hN hn hrs 0 fun hs=>Dc (A7 rfl) hd (by
  have e:stR 0=st0:=by simp[stR,st0]
  rw [e];exact h hs)
theorem XG (hmix:P.follows .mixedOrders=true) {l:AW} (hl:Bv P l) (muts:List Nat) (frz:List Nat) (n dep:Nat) {f:FuncId} {fn:Func} {c:Code} (hf:P.funcs[f]?=some fn) (hb:fn.body=some c)
  (hname : (fn.name == "runtime.NumGoroutine") = false) {args : List PV} {N : Nat} (hN : fn.ntmps = N) (hn : args.length ≤ N) {rs : List ResultVar} (hrs : fn.results.toList = rs) (hd : Bs (cfg P l muts frz dep) c = true) {r : PV}
  (h : AK args→run (cfg P l muts frz dep) N (Ao P rs (fun p st=>DRx st p r)) (Bo c) [] ⟨GK args,⟨fun i=>if i<n then some (.arr 0 1 [])else none,n⟩⟩):VC P f args r :=
 Afo hmix hl muts frz hf hb hname hN hn hrs n (dep:=dep) fun hs=>Dc (A7 rfl) hd (h hs)
theorem BT (hmix:P.follows .mixedOrders=true) {l:AW} (hl:Bv P l) (muts:List Nat) (frz:List Nat) (dep:Nat) {f:FuncId} {fn:Func} {c:Code} (hf:P.funcs[f]?=some fn) (hb:fn.body=some c)
  (hname : (fn.name == "runtime.NumGoroutine") = false) {args : List PV} {N : Nat} (hN : fn.ntmps = N) (hn : args.length ≤ N) {rs : List ResultVar} (hrs : fn.results.toList = rs) (hd : Bs (cfg P l muts frz dep) c = true) {st : Store} {Q : PV → Store → Prop}
  (h : run (cfg P l muts frz dep) N (Ao P rs Q) (Bo c) [] ⟨GK args,st⟩):IXC P f args st Q :=
 xT hmix hl muts frz hf hb hname hN hn hrs (dep:=dep) (Dc (A7 rfl) hd h)
theorem Nw (hmix:P.follows .mixedOrders=true) {l:AW} (hl:Bv P l) (muts:List Nat) (frz:List Nat) (n dep:Nat) {f:FuncId} {fn:Func} {c:Code} (hf:P.funcs[f]?=some fn) (hb:fn.body=some c)
  (hname : (fn.name == "runtime.NumGoroutine") = false) {args : List PV} {N : Nat} (hN : fn.ntmps = N) (hn : args.length ≤ N) {rs : List ResultVar} (hrs : fn.results.toList = rs) (hd : Bs (cfg P l muts frz dep) c = true) {z : Nat} {es : List PV}
  (hs : ∀e∈es,e.scal=true)
  (h : run (cfg P l muts frz dep) N (Ao P rs (fun p st=>(∃id g,p=.ref id g 0 es.length∧st.obj id=some (.arr g z es))∨(es = []∧0<z∧p=.nils))) (Bo c) [] ⟨GK args,⟨fun i=>if i<n then some (.arr 0 1 [])else none,n⟩⟩):VCA P f args z es :=
 xU hmix hl muts frz hf hb hname hN hn hrs n (dep:=dep) hs (Dc (A7 rfl) hd h)
end
theorem fJ {X:Cfg} {N:Nat} {Q:IExit→IState→Prop} {ks:List Kf} {s:IState} {all:Array Oper} {l:List Oper} {d:Option Nat} {c:Prop} [Decidable c] {x y:PV×Store}:Bq X N Q all l ks d s (if c then some x else some y)=((c→Bq X N Q all l ks d s (some x))∧(¬c→Bq X N Q all l ks d s (some y))):=by
 by_cases h:c <;> simp[h]
theorem Aah {k:IntKind} {l:List Int} {i:Nat} {n:Int}:(l.map (PV.int k)).set i (PV.int k n)=(l.set i n).map (PV.int k):=by simp
section
variable {α:Type} {f:α→PV}
theorem B9 {l:List α} {i:Nat} (d:α) (h:i<l.length):nth (l.map f) i=f (l.getD i d):=by simp[nth,h]
theorem Gm {l:List α} (h:∀x,(f x).pur=true):AT (l.map f)=true:=L6 h
theorem Gn {l m:List α} (h:∀x y,f x=f y→x=y):(l.map f=m.map f)=(l=m):=propext ⟨GN h,fun h=>by rw[h]⟩
end
theorem fK {p:Prop} [Decidable p] {A B:Prop}:BW (.bool (decide p)) true A B=((p→A)∧(¬p→B)):=by simp[BW]
theorem fL {p:Prop} [Decidable p] {A B:Prop}:BW (.bool (decide p)) false A B=((¬p→A)∧(p→B)):=by simp[BW]
theorem Aai {p:Prop} [Decidable p] {A B:Prop}:Ia (.bool (decide p)) A B=((p→A)∧(¬p→B)):=by simp[Ia]
section
variable {P:Program} {t:TypeId} {x y:Bool}
theorem Aaj:BU P .eql t (.bool x) (.bool y)=if Ir P t=true then some (.bool (decide (x=y)))else none:=by rw[Ag9];cases x <;> cases y <;> rfl
theorem Aak:BU P .neq t (.bool x) (.bool y)=if Ir P t=true then some (.bool (decide (¬x=y)))else none:=by rw[Aha];cases x <;> cases y <;> rfl
end
theorem At {o o':Option Nat} {ρ:Nat→PV} (h:o=o'):grd o ρ=grd o' ρ:=by rw[h]
theorem Am {c c' a b:PV} {st:Store} (h:c=c'):QM c a b st=QM c' a b st:=by rw[h]
section
variable {st:Store} {ids:List Nat}
theorem pA {i:Nat}:(st.only ids).obj i=if ids.contains i=true then st.obj i else none:=nrfl rfl
theorem fM:(st.only ids).next=st.next:=nrfl rfl
theorem UU {i:Nat}:(st.without ids).obj i=if ids.contains i=true then none else st.obj i:=nrfl rfl
theorem Sd:(st.without ids).next=st.next:=nrfl rfl
end
theorem XH {p:PV} {l:List PV}:DZ (p::l)=idC p++DZ l:=nrfl rfl
theorem fN:DZ [] = []:=nrfl rfl
theorem Aal {i g s n:Nat}:idC (.ref i g s n) = [i]:=nrfl rfl
theorem Aam {k:IntKind} {n:Int}:idC (.int k n) = []:=nrfl rfl
theorem pB {b:Bool}:idC (.bool b) = []:=nrfl rfl
theorem Aan {b:List UInt8}:idC (.str b) = []:=nrfl rfl
theorem pC:idC .nils = []:=nrfl rfl
theorem pE {z:Nat} {l:List PV}:idC (.lits z l) = []:=nrfl rfl
def idE:PV→List Nat | .ref id _ _ _ => [id] | _ => []
def idL:List PV→List Nat | [] => [] | c::l=>idE c++idL l
theorem Aao {cs:List PV}:idC (.agg cs)=idL cs:=by
 induction cs with
 | nil=>rfl
 | cons c l ih=>simp only[idC,List.flatMap_cons]at ih ⊢;rw[ih];cases c <;> rfl
theorem pF {c:PV} {l:List PV}:idL (c::l)=idE c++idL l:=nrfl rfl
theorem Aap:idL [] = []:=nrfl rfl
theorem Aaq {i g s n:Nat}:idE (.ref i g s n) = [i]:=nrfl rfl
theorem Aar {k:IntKind} {n:Int}:idE (.int k n) = []:=nrfl rfl
theorem pG {b:Bool}:idE (.bool b) = []:=nrfl rfl
theorem Aas {b:List UInt8}:idE (.str b) = []:=nrfl rfl
theorem pI:idE .nils = []:=nrfl rfl
theorem pJ {z:Nat} {l:List PV}:idE (.lits z l) = []:=nrfl rfl
theorem AL {W W2:List Nat} {ρ0 ρ1 ρ:Nat→PV} (h:(W2.all fun t=>W.contains t)=true):Ic W ρ0 (JW W2 ρ1 ρ)=Ic W ρ0 ρ1:=by
 refine propext ⟨fun g u hu=>?_,fun g u hu=>?_⟩
 all_goals
  have hn:W2.contains u=false:=by
   cases hc:W2.contains u with
   | false=>rfl
   | true =>
    have := List.all_eq_true.1 h u (List.contains_iff_mem.1 hc)
    rw [this]at hu;cases hu
  have e:JW W2 ρ1 ρ u=ρ1 u:=Ja hn
 ·rw [←e];exact g u hu
 ·rw [e];exact g u hu
theorem pK:IntKind.i64.bits=64:=nrfl rfl
theorem pM:IntKind.u64.bits=64:=nrfl rfl
theorem pN:IntKind.u32.bits=32:=nrfl rfl
theorem Aat:IntKind.u8.bits=8:=nrfl rfl
def orI (a b:Int):Int:=IntKind.i64.wrap (BitVec.ofInt 64 a ||| BitVec.ofInt 64 b).toNat
theorem Ahf {a b:Int}:Cq .or .i64 a b=some (orI a b):=nrfl rfl
section
variable {X:Cfg} {d:Nat} {ρ:Operand→PV} {st:Store}
section
variable {t:TypeId}
theorem UV:iop X d (.makeMap t none) ρ st=(AV X.P t).bind fun q=>some (.mref st.next 0,st.new (.map 0 q.1 [])):=nrfl rfl
theorem Se {r:Operand}:iop X d (.makeMap t (some r)) ρ st=(AV X.P t).bind fun q=>(Da (ρ r)).map fun _=>(.mref st.next 0,st.new (.map 0 q.1 [])):=nrfl rfl
theorem XI {m k v:Operand}:iop X d (.insert t m k v) ρ st=(J0 st (AV X.P t) (ρ m) (ρ k) (ρ v)).map fun st'=>(.bad,st'):=nrfl rfl
theorem Qe {m k v:Operand}:iop X d (.mapUpdate t m k v) ρ st=(J0 st (AV X.P t) (ρ m) (ρ k) (ρ v)).map fun st'=>(.bad,st'):=nrfl rfl
theorem XJ {m k:Operand} {ok:Bool}:iop X d (.lookup t m k ok) ρ st=(CN st (AV X.P t) (ρ m) (ρ k) ok).map fun v=>(v,st):=nrfl rfl
theorem fO {m:Operand}:iop X d (.range t m) ρ st=Fx st (AV X.P t) (ρ m):=nrfl rfl
end
theorem fP {x:Operand}:iop X d (.entry x) ρ st=(mapEntry st (ρ x)).map fun v=>(v,st):=nrfl rfl
def Mh (o:Option IObj) (gen:Nat):Option (MK×List (PV×PV)):=match o with | some (.map g mk es)=>if gen=g then some (mk,es)else none | _=>none
theorem fQ {g h:Nat} {mk:MK} {es:List (PV×PV)}:Mh (some (.map h mk es)) g=if g=h then some (mk,es)else none:=nrfl rfl
section
variable {mk:MK}
theorem UW {z:PV} {id gen:Nat} {k v:PV}:J0 st (some (mk,z)) (.mref id gen) k v=(Mh (st.obj id) gen).bind fun q=>if mk=q.1∧BM q.1 k=true then some (st.set id (.map gen q.1 (CH q.2 k v)))else none:=by
 simp only[J0,Mh]
 cases st.obj id with
 | none=>rfl
 | some o =>
  cases o <;> try rfl
  rename_i g mk' es
  by_cases h:gen=g
  ·subst h;simp
  ·simp [h]
def OA (mk:MK) (z:PV) (k:PV) (ok:Bool) (q:MK×List (PV×PV)):Option PV:=if q.1=mk then (match B7 q.2 k with
    | some v=>some (if ok then .tuple [v,.bool true]else v)
    | none=>some (if ok then .tuple [z,.bool false]else z))else none
theorem UX {z:PV} {id gen:Nat} {k:PV} {ok:Bool}:CN st (some (mk,z)) (.mref id gen) k ok=if BM mk k=true then (Mh (st.obj id) gen).bind (OA mk z k ok)else none:=by
 simp only[CN,Mh,Option.bind_some]
 split
 ·cases st.obj id with
  | none=>rfl
  | some o =>
   cases o <;> try rfl
   rename_i g mk' es
   by_cases h:gen=g
   ·subst h
    by_cases hm:mk'=mk
    ·simp [OA,hm];cases B7 es k <;> rfl
    ·simp [OA,hm]
   ·simp [h]
 ·rfl
theorem pO {z k:PV} {es:List (PV×PV)}:OA mk z k true (mk,es)=some (.tuple [(B7 es k).getD z,.bool (B7 es k).isSome]):=by
 cases h:B7 es k <;> simp[OA,h]
theorem pP {z k:PV} {es:List (PV×PV)}:OA mk z k false (mk,es)=some ((B7 es k).getD z):=by
 cases h:B7 es k <;> simp[OA,h]
theorem UY {z k:PV} {ok:Bool}:CN st (some (mk,z)) .nilm k ok=if BM mk k=true then some (if ok then .tuple [z,.bool false]else z)else none:=nrfl rfl
end
section
variable {q:MK×PV}
theorem Qf {id gen:Nat}:Fx st (some q) (.mref id gen)=(Mh (st.obj id) gen).bind fun r=>some (.iter st.next 0,st.new (.it (some (id,gen)) r.2.length [])):=by
 simp only[Fx,Mh,Option.bind_some]
 cases st.obj id with
 | none=>rfl
 | some o =>
  cases o <;> try rfl
  rename_i g mk' es
  by_cases h:gen=g
  ·subst h;simp
  ·simp [h]
theorem Qg:Fx st (some q) .nilm=some (.iter st.next 0,st.new (.it none 0 [])):=nrfl rfl
theorem fR {L:Option Int} {id gen:Nat}:dZ st (some q) L (.mref id gen)=(Mh (st.obj id) gen).bind fun r=>some (r.2.length:Int):=by
 simp only[dZ,Is,Mh,Option.bind_some]
 cases st.obj id with
 | none=>rfl
 | some o =>
  cases o <;> try rfl
  rename_i g mk' es
  by_cases h:gen=g
  ·subst h;simp
  ·simp [h]
theorem fS {L:Option Int}:dZ st (some q) L .nilm=some 0:=nrfl rfl
end
theorem fT {k k':IntKind} {n:Int}:BM (.int k) (.int k' n)=decide (k=k'):=nrfl rfl
theorem fU {s:List UInt8}:BM .str (.str s)=true:=nrfl rfl
theorem XK {b:Bool}:BM .bool (.bool b)=true:=nrfl rfl
theorem fV {z id gen s n:Nat} {y:PV}:TE st z (.ref id gen s n) y=(Ag0 (st.obj id) gen).bind fun q=>if s+n≤q.2.length∧q.1=z∧0<z∧y.isStr=false then (Cw st z y).bind fun ys=>some (min ys.length n,st.set id (.arr gen z (q.2.take s++ys.take (min ys.length n)++q.2.drop (s+min ys.length n))))else none:=nrfl rfl
theorem fW {i g s n:Nat}:PV.isStr (.ref i g s n)=false:=nrfl rfl
theorem XL {z:Nat} {l:List PV}:PV.isStr (.lits z l)=false:=nrfl rfl
theorem XM:PV.isStr .nils=false:=nrfl rfl
theorem Sf {t:TypeId} {m k:Operand}:iop X d (.mapEntry t m k) ρ st=Ey st (AV X.P t) (ρ m) (ρ k):=nrfl rfl
theorem OB {t:TypeId} {m s x:Operand}:iop X d (.entryStore t m s x) ρ st=(GG st (ρ m) (ρ s) (ρ x)).map fun st'=>(.bad,st'):=nrfl rfl
theorem Sg {mk:MK} {z:PV} {id gen:Nat} {k:PV}:Ey st (some (mk,z)) (.mref id gen) k=(Mh (st.obj id) gen).bind fun q=>if q.1=mk∧BM q.1 k=true then some (.tuple [(B7 q.2 k).getD z,.int .i64 (PS q.2 k)],st.set id (.map gen q.1 (CH q.2 k ((B7 q.2 k).getD z))))else none:=by
 simp only[Ey,Mh,Option.bind_some]
 cases st.obj id with
 | none=>rfl
 | some o =>
  cases o <;> try rfl
  rename_i g mk' es
  by_cases h:gen=g
  ·subst h;simp
  ·simp [h]
def Aau (es:List (PV×PV)) (n:Nat) (x:PV):Option (List (PV×PV)):=(es[n]?).map fun e=>es.set n (e.1,x)
theorem Aav {es:List (PV×PV)} {k v x:PV}:Aau (CH es k v) (PS es k) x=some (CH es k x):=by
 induction es with
 | nil=>rfl
 | cons e es ih =>
  simp only[CH,PS]
  split
  ·rfl
  ·simp only[Aau,List.getElem?_cons_succ,List.set_cons_succ]at ih ⊢
   simp only[Option.map_eq_some_iff]at ih ⊢
   obtain ⟨a,h1,h2⟩:=ih
   exact ⟨a,h1,by rw[h2]⟩
theorem Qh {id gen:Nat} {ik:IntKind} {n:Int} {x:PV}:GG st (.mref id gen) (.int ik n) x=(Mh (st.obj id) gen).bind fun q=>if 0≤n then (Aau q.2 n.toNat x).map fun es=>st.set id (.map gen q.1 es)else none:=by
 simp only[GG,Mh]
 cases st.obj id with
 | none=>rfl
 | some o =>
  cases o <;> try rfl
  rename_i g mk' es
  by_cases h:gen=g
  ·subst h
   by_cases hn:0≤n
   ·simp [hn,Aau,Option.map_map,Function.comp_def]
   ·simp [hn]
  ·simp [h]
theorem UZ {a b:Int}:BM (.ints 2) (.agg [.int .i64 a,.int .i64 b])=decide ((-9223372036854775808≤a∧a≤9223372036854775807)∧(-9223372036854775808≤b∧b≤9223372036854775807)):=by
 simp [BM,JP]
section
variable {id m g n:Nat} {seen:List Nat}
theorem XN {mk:MK} {es:List (PV×PV)} (h1:st.obj id=some (.it (some (m,g)) n seen)) (h2:st.obj m=some (.map g mk es)) {K:PV→Store→Prop} :
  Ez st (.iter id 0) K=(es.length=n∧(seen.length=n→K (.tuple [.bool false]) st)∧(∀i k v,es[i]?=some (k,v)→i ∉ seen→K (.tuple [.bool true,k,v]) (st.set id (.it (some (m,g)) n (seen ++ [i]))))):=by
 simp [Ez,h1,h2]
theorem U0 {i:Nat} {mk:MK} {es:List (PV×PV)} {k v:PV} (h1:st.obj id=some (.it (some (m,g)) n (seen ++ [i]))) (h2:st.obj m=some (.map g mk es)) (h3:es.length=n) (h4:es[i]?=some (k,v)) :
  mapEntry st (.iter id 0)=some (.tuple [k,v]):=by
 simp [mapEntry,h1,h2,h3,h4]
end
end
section
variable {X:Cfg} {N:Nat} {Q:IExit→IState→Prop} {ks:List Kf} {s:IState}
section
variable {all:Array Oper} {rest:List Oper} {dst:Option Nat} {op:Op} {ty:TypeId} {pos:String} {after:Array Edge}
theorem fX (hn:BV X op=true) :
  ops X N Q all (⟨dst,op,ty,pos,after,none⟩::rest) ks s=Bq X N Q all rest ks dst s (iop X (dst.getD 0) op (AA s.env) s.st):=Om (RG hn)
theorem XO {j:Nat} {want:Bool} (hn:BV X op=true) :
  ops X N Q all (⟨dst,op,ty,pos,after,some (j,want)⟩::rest) ks s =
   BW (DD all s.env j) want (Bq X N Q all rest ks dst s (iop X (dst.getD 0) op (AA s.env) s.st)) (Bq X N Q all rest ks dst s (some (.tuple [],s.st))):=QD (RG hn)
end
theorem IK {all:Array Oper} {l:List Oper} {o:Oper} {r:PV×Store}:(∃s',Hg N o s r=some s'∧ops X N Q all l ks s')=Bq X N Q all l ks o.dst s (some r):=by
 simp only[Hg,Bq]
 cases o.dst with
 | none=>simp
 | some d =>
  by_cases hd:d<N
  ·simp [hd]
  ·simp [hd]
def Mi (p:PV) (l:Nat) (A B:Prop):Prop:=match p with | .func (.yield l') [] []=>if l'=l then B else A | _=>A
theorem Hr {p p':PV} {l:Nat} {A B:Prop} (h:p=p'):Mi p l A B=Mi p' l A B:=by rw[h]
theorem fY {f l:Nat} {a b:List PV} {A B:Prop}:Mi (.func (.func f) a b) l A B=A:=nrfl rfl
theorem Kh {l:Nat} {A B:Prop}:Mi (.func (.yield l) [] []) l A B=B:=by simp[Mi]
theorem fZ {l:Nat} {H:Gx} (hy:X.yl=some (l,H)) {all:Array Oper} {rest:List Oper} {dst:Option Nat} {f:Operand} {as:List Operand} {ts:List TypeId} {ty:TypeId} {pos:String} {after:Array Edge} :
  ops X N Q all (⟨dst,.call ⟨.value f,as.toArray,ts.toArray⟩,ty,pos,after,none⟩::rest) ks s =
   Mi (AA s.env f) l (Bq X N Q all rest ks dst s (DJ X (dst.getD 0) (AA s.env f) (Ru X (dst.getD 0) ts) (evs (AA s.env) as) s.st)) (H (evs (AA s.env) as) s.st fun b st'=>Bq X N Q all rest ks dst s (some (.bool b,st'))):=by
 by_cases h:AA s.env f=.func (.yield l) [] []
 ·rw [h,Kh]
  simp only[ops,EE,DM,Dy,if_true,yOf,hy,h]
  simp only[Kg]
  have : (fun (b:Bool) (st':Store)=>∃s',Hg N ⟨dst,.call ⟨.value f,as.toArray,ts.toArray⟩,ty,pos,after,none⟩ s (.bool b,st')=some s'∧EE X N all rest s' (Hi X N Q ks))=fun b st'=>Bq X N Q all rest ks dst s (some (.bool b,st')):=by
   funext b st';exact IK (o:=⟨dst,.call ⟨.value f,as.toArray,ts.toArray⟩,ty,pos,after,none⟩)
  rw [this]
 ·have hn:yOf X (.call ⟨.value f,as.toArray,ts.toArray⟩) (AA s.env)=none:=by
   simp only[yOf,hy]
   split
   ·rename_i l' hl
    split
    ·rename_i e;subst e;exact absurd hl h
    ·rfl
   ·rfl
  rw [Om hn,Mg]
  have : ∀A B:Prop,Mi (AA s.env f) l A B=A:=fun A B=>by
   unfold Mi
   split
   ·rename_i l' hl
    split
    ·rename_i e;subst e;exact absurd hl h
    ·rfl
   ·rfl
  rw [this]
theorem XP {l:Nat} {H:Gx} (hy:X.yl=some (l,H)) {all:Array Oper} {rest:List Oper} {dst:Option Nat} {f:Operand} {as:List Operand} {ts:List TypeId} {ty:TypeId} {pos:String} {after:Array Edge} {j:Nat} {want:Bool} :
  ops X N Q all (⟨dst,.call ⟨.value f,as.toArray,ts.toArray⟩,ty,pos,after,some (j,want)⟩::rest) ks s =
   BW (DD all s.env j) want (Mi (AA s.env f) l (Bq X N Q all rest ks dst s (DJ X (dst.getD 0) (AA s.env f) (Ru X (dst.getD 0) ts) (evs (AA s.env) as) s.st)) (H (evs (AA s.env) as) s.st fun b st'=>Bq X N Q all rest ks dst s (some (.bool b,st'))))
    (Bq X N Q all rest ks dst s (some (.tuple [],s.st))):=by
 by_cases h:AA s.env f=.func (.yield l) [] []
 ·rw [h,Kh]
  have skip:Dy all ⟨dst,.call ⟨.value f,as.toArray,ts.toArray⟩,ty,pos,after,some (j,want)⟩ s.env=false→ops X N Q all (⟨dst,.call ⟨.value f,as.toArray,ts.toArray⟩,ty,pos,after,some (j,want)⟩::rest) ks s=∃s',stepG X N all ⟨dst,.call ⟨.value f,as.toArray,ts.toArray⟩,ty,pos,after,some (j,want)⟩ s=some s'∧ops X N Q all rest ks s':=fun hg=>by
   simp only[ops,EE,DM,hg,Bool.false_eq_true,if_false]
  have out:(∃s',(Option.bind (some (PV.tuple [],s.st)) (Hg N ⟨dst,.call ⟨.value f,as.toArray,ts.toArray⟩,ty,pos,after,some (j,want)⟩ s))=some s'∧ops X N Q all rest ks s')=Bq X N Q all rest ks dst s (some (.tuple [],s.st)):=IK (o:=⟨dst,.call ⟨.value f,as.toArray,ts.toArray⟩,ty,pos,after,some (j,want)⟩)
  cases hg:DD all s.env j with
  | bool b =>
   by_cases hb:b=want
   ·subst hb
    have h1:ops X N Q all (⟨dst,.call ⟨.value f,as.toArray,ts.toArray⟩,ty,pos,after,some (j,b)⟩::rest) ks s=H (evs (AA s.env) as) s.st fun b' st'=>Bq X N Q all rest ks dst s (some (.bool b',st')):=by
     have e1:Dy all ⟨dst,.call ⟨.value f,as.toArray,ts.toArray⟩,ty,pos,after,some (j,b)⟩ s.env=true:=by simp[Dy,hg]
     simp only[ops,EE,DM,e1,if_true,yOf,hy,h]
     simp only[Kg]
     have : (fun (b':Bool) (st':Store)=>∃s',Hg N ⟨dst,.call ⟨.value f,as.toArray,ts.toArray⟩,ty,pos,after,some (j,b)⟩ s (.bool b',st')=some s'∧EE X N all rest s' (Hi X N Q ks))=fun b' st'=>Bq X N Q all rest ks dst s (some (.bool b',st')):=by
      funext b' st';exact IK (o:=⟨dst,.call ⟨.value f,as.toArray,ts.toArray⟩,ty,pos,after,some (j,b)⟩)
     rw [this]
    rw [h1]
    cases b <;> simp[BW]
   ·rw [skip (by simp[Dy,hg,hb])]
    simp only[stepG,Bw,hg,if_neg hb]
    rw [out]
    cases b <;> cases want <;> simp[BW]at hb ⊢
  | tuple t =>
   rw [skip (by simp[Dy,hg])]
   cases t with
   | nil =>
    simp only[stepG,Bw,hg]
    rw [out,T4]
   | cons a t=>simp[stepG,Bw,hg,BW]
  | _ =>
   rw [skip (by simp[Dy,hg])]
   simp [stepG,Bw,hg,BW]
 ·have hn:yOf X (.call ⟨.value f,as.toArray,ts.toArray⟩) (AA s.env)=none:=by
   simp only[yOf,hy]
   split
   ·rename_i l' hl
    split
    ·rename_i e;subst e;exact absurd hl h
    ·rfl
   ·rfl
  rw [QD hn,Mg]
  have : ∀A B:Prop,Mi (AA s.env f) l A B=A:=fun A B=>by
   unfold Mi
   split
   ·rename_i l' hl
    split
    ·rename_i e;subst e;exact absurd hl h
    ·rfl
   ·rfl
  rw [this]
theorem gD {all:Array Oper} {rest:List Oper} {dst:Option Nat} {x:Operand} {ty:TypeId} {pos:String} {after:Array Edge} :
  ops X N Q all (⟨dst,.next x false,ty,pos,after,none⟩::rest) ks s=Ez s.st (AA s.env x) fun r st'=>Bq X N Q all rest ks dst s (some (r,st')):=by
 simp only[ops,EE,DM,Dy,if_true,yOf]
 have : (fun (r:PV) (st':Store)=>∃s',Hg N ⟨dst,.next x false,ty,pos,after,none⟩ s (r,st')=some s'∧EE X N all rest s' (Hi X N Q ks))=fun r st'=>Bq X N Q all rest ks dst s (some (r,st')):=by
  funext r st';exact IK (o:=⟨dst,.next x false,ty,pos,after,none⟩)
 rw [this]
end
def Sh (p:PV) (op:BinOp) (ok:Bool) (A:Prop) (K:PV→Prop):Prop:=match p with | .lits _ []=>∃p q,GH op ok true=some p∧GH op ok false=some q∧K p∧K q | _=>A
section
variable {op:BinOp} {ok:Bool} {A:Prop} {K:PV→Prop}
theorem gE:Sh .nils op ok A K=A:=nrfl rfl
theorem gF {z:Nat} {x:PV} {l:List PV}:Sh (.lits z (x::l)) op ok A K=A:=nrfl rfl
end
section
variable {A:Prop} {K:PV→Prop} {z:Nat}
theorem pQ:Sh (.lits z []) .eql true A K=(K (.bool true)∧K (.bool false)):=by simp[Sh,GH]
theorem gG:Sh (.lits z []) .neq true A K=(K (.bool false)∧K (.bool true)):=by simp[Sh,GH]
end
section
variable {P:Program} {t:TypeId}
theorem pR {z:Nat} {x:PV} {l:List PV}:BU P .eql t (.lits z (x::l)) .nils=if (Ae P t != 0)=true then some (.bool false)else none:=by
 simp [BU,GH]
theorem Ahg {z:Nat} {x:PV} {l:List PV}:BU P .neq t (.lits z (x::l)) .nils=if (Ae P t != 0)=true then some (.bool true)else none:=by
 simp [BU,GH]
theorem Aaw:BU P .eql t .nils .nils=if (Ae P t != 0)=true then some (.bool true)else none:=by
 simp [BU,GH]
theorem Aax:BU P .neq t .nils .nils=if (Ae P t != 0)=true then some (.bool false)else none:=by
 simp [BU,GH]
end
section
variable {X:Cfg}
theorem gH {N:Nat} {Q:IExit→IState→Prop} {ks:List Kf} {s:IState} {all:Array Oper} {rest:List Oper} {dst:Option Nat} {op:BinOp} {t u:TypeId} {x:Operand} {ty:TypeId} {pos:String} {after:Array Edge} :
  ops X N Q all (⟨dst,.binOp op t x (.const (.slice none 0 0)) u,ty,pos,after,none⟩::rest) ks s=Sh (AA s.env x) op (Ae X.P t != 0) (Bq X N Q all rest ks dst s (iop X (dst.getD 0) (.binOp op t x (.const (.slice none 0 0)) u) (AA s.env) s.st)) (fun p=>Bq X N Q all rest ks dst s (some (p,s.st))):=by
 have ex:∀r:PV×Store,(∃s',Hg N ⟨dst,.binOp op t x (.const (.slice none 0 0)) u,ty,pos,after,none⟩ s r=some s'∧EE X N all rest s' (Hi X N Q ks))=Bq X N Q all rest ks dst s (some r):=fun r=>IK (o:=⟨dst,.binOp op t x (.const (.slice none 0 0)) u,ty,pos,after,none⟩)
 generalize hp:AA s.env x=p
 have rest_:yOf X (.binOp op t x (.const (.slice none 0 0)) u) (AA s.env)=none→ops X N Q all (⟨dst,.binOp op t x (.const (.slice none 0 0)) u,ty,pos,after,none⟩::rest) ks s=Bq X N Q all rest ks dst s (iop X (dst.getD 0) (.binOp op t x (.const (.slice none 0 0)) u) (AA s.env) s.st):=fun h=>Om h
 unfold Sh
 split
 ·simp only[ops,EE,DM,Dy,if_true,yOf]
  rw [if_pos (show Nr (.const (.slice none 0 0))=true from rfl)]
  simp only[hp]
  have := ex
  simp only[ex]
 ·rename_i hne
  apply rest_
  simp only[yOf]
  rw [if_pos (show Nr (.const (.slice none 0 0))=true from rfl)]
  split
  ·rename_i he;exact absurd (hp.symm.trans he) (hne _)
  ·rfl
theorem Aay:∀a0,BV X (.move a0)=true:=by intros;exact nrfl rfl
theorem gI:∀a0,BV X (.assign a0)=true:=by intros;exact nrfl rfl
theorem Aaz:∀a0 a1 a2,BV X (.pick a0 a1 a2)=true:=by intros;exact nrfl rfl
theorem pS:∀a0,BV X (.alloc a0)=true:=by intros;exact nrfl rfl
theorem Ahh:∀a0 a1,BV X (.box a0 a1)=true:=by intros;exact nrfl rfl
theorem pT:∀a0 a1,BV X (.build a0 a1)=true:=by intros;exact nrfl rfl
theorem Qi:∀a0 a1 a2,BV X (.buildSlice a0 a1 a2)=true:=by intros;exact nrfl rfl
theorem gJ:∀a0 a1 a2 a3,BV X (.insert a0 a1 a2 a3)=true:=by intros;exact nrfl rfl
theorem Aa0:∀a0 a1,BV X (.load a0 a1)=true:=by intros;exact nrfl rfl
theorem pU:∀a0 a1 a2,BV X (.store a0 a1 a2)=true:=by intros;exact nrfl rfl
theorem U2:∀a0,BV X (.nilCheck a0)=true:=by intros;exact nrfl rfl
theorem pV:∀a0 a1 a2 a3 a4,BV X (.binOp a0 a1 a2 a3 a4) = !Nr a3:=by intros;exact nrfl rfl
end
theorem pW {t:Nat}:Nr (.tmp t)=false:=nrfl rfl
theorem pX {k:IntKind} {n:Int}:Nr (.const (.int k n))=false:=nrfl rfl
theorem gL {b:Bool}:Nr (.const (.bool b))=false:=nrfl rfl
theorem pY {s:ByteArray}:Nr (.const (.string s))=false:=nrfl rfl
theorem pZ {a:Option Addr}:Nr (.const (.pointer a))=false:=nrfl rfl
theorem XQ:Nr (.const .nilIface)=false:=nrfl rfl
section
variable {X:Cfg}
theorem Aa1:∀a0 a1 a2,BV X (.unOp a0 a1 a2)=true:=by intros;exact nrfl rfl
theorem XR:∀a0 a1 a2,BV X (.convert a0 a1 a2)=true:=by intros;exact nrfl rfl
theorem Mj:∀a0 a1,BV X (.makeInterface a0 a1)=true:=by intros;exact nrfl rfl
theorem U3:∀a0 a1 a2,BV X (.makeFunc a0 a1 a2)=true:=by intros;exact nrfl rfl
theorem XS:∀a0 a1,BV X (.makeMap a0 a1)=true:=by intros;exact nrfl rfl
theorem Si:∀a0 a1 a2,BV X (.makeSlice a0 a1 a2)=true:=by intros;exact nrfl rfl
theorem qA:∀a0 a1 a2 a3 a4,BV X (.slice a0 a1 a2 a3 a4)=true:=by intros;exact nrfl rfl
theorem Sj:∀a0 a1 a2,BV X (.fieldAddr a0 a1 a2)=true:=by intros;exact nrfl rfl
theorem qB:∀a0 a1 a2,BV X (.field a0 a1 a2)=true:=by intros;exact nrfl rfl
theorem Sk:∀a0 a1 a2,BV X (.indexAddr a0 a1 a2)=true:=by intros;exact nrfl rfl
theorem qC:∀a0 a1 a2,BV X (.index a0 a1 a2)=true:=by intros;exact nrfl rfl
theorem gM:∀a0 a1 a2 a3,BV X (.lookup a0 a1 a2 a3)=true:=by intros;exact nrfl rfl
theorem Sl:∀a0 a1 a2 a3,BV X (.mapUpdate a0 a1 a2 a3)=true:=by intros;exact nrfl rfl
theorem U4:∀a0 a1 a2,BV X (.mapEntry a0 a1 a2)=true:=by intros;exact nrfl rfl
theorem Qj:∀a0 a1 a2 a3,BV X (.entryStore a0 a1 a2 a3)=true:=by intros;exact nrfl rfl
theorem qD:∀a0 a1,BV X (.range a0 a1)=true:=by intros;exact nrfl rfl
theorem qE:∀a0,BV X (.entry a0)=true:=by intros;exact nrfl rfl
theorem Qk:∀a0 a1 a2 a3,BV X (.typeAssert a0 a1 a2 a3)=true:=by intros;exact nrfl rfl
theorem XT:∀a0 a1,BV X (.extract a0 a1)=true:=by intros;exact nrfl rfl
theorem qF:∀a0,BV X (.panic a0)=true:=by intros;exact nrfl rfl
theorem qG {f:FuncId} {a:Array Operand} {b:Array TypeId}:BV X (.call ⟨.value (.func f),a,b⟩)=true:=nrfl rfl
theorem qH {f:Builtin} {a:Array Operand} {b:Array TypeId}:BV X (.call ⟨.builtin f,a,b⟩)=true:=nrfl rfl
theorem qI {r:Operand} {m:String} {a:Array Operand} {b:Array TypeId}:BV X (.call ⟨.invoke r m,a,b⟩)=true:=nrfl rfl
theorem qJ {t:Nat} {a:Array Operand} {b:Array TypeId}:BV X (.call ⟨.value (.tmp t),a,b⟩)=X.yl.isNone:=nrfl rfl
end
theorem U5 {α:Type}:(none:Option α).isNone=true:=nrfl rfl
section
variable {P:Program} {E:AW} {m f:List Nat} {dp:Nat} {rd:Bool} {l:Nat} {H:Gx} {N:Nat} {Q:IExit→IState→Prop} {ks:List Kf} {s:IState} {all:Array Oper} {rest:List Oper} {dst:Option Nat} {t:Nat} {as:List Operand} {ts:List TypeId} {ty:TypeId} {pos:String} {after:Array Edge}
theorem XU:
  ops (cfg P E m f dp (some (l,H)) rd) N Q all (⟨dst,.call ⟨.value (.tmp t),as.toArray,ts.toArray⟩,ty,pos,after,none⟩::rest) ks s =
   Mi (AA s.env (.tmp t)) l (Bq (cfg P E m f dp (some (l,H)) rd) N Q all rest ks dst s (DJ (cfg P E m f dp (some (l,H)) rd) (dst.getD 0) (AA s.env (.tmp t)) (Ru (cfg P E m f dp (some (l,H)) rd) (dst.getD 0) ts) (evs (AA s.env) as) s.st))
    (H (evs (AA s.env) as) s.st fun b st'=>Bq (cfg P E m f dp (some (l,H)) rd) N Q all rest ks dst s (some (.bool b,st'))):=fZ rfl
theorem U6 {j:Nat} {want:Bool} :
  ops (cfg P E m f dp (some (l,H)) rd) N Q all (⟨dst,.call ⟨.value (.tmp t),as.toArray,ts.toArray⟩,ty,pos,after,some (j,want)⟩::rest) ks s =
   BW (DD all s.env j) want (Mi (AA s.env (.tmp t)) l (Bq (cfg P E m f dp (some (l,H)) rd) N Q all rest ks dst s (DJ (cfg P E m f dp (some (l,H)) rd) (dst.getD 0) (AA s.env (.tmp t)) (Ru (cfg P E m f dp (some (l,H)) rd) (dst.getD 0) ts) (evs (AA s.env) as) s.st))
    (H (evs (AA s.env) as) s.st fun b st'=>Bq (cfg P E m f dp (some (l,H)) rd) N Q all rest ks dst s (some (.bool b,st'))))
    (Bq (cfg P E m f dp (some (l,H)) rd) N Q all rest ks dst s (some (.tuple [],s.st))):=XP rfl
end
section
variable {P:Program} {l:AW} {m f:List Nat} {dp:Nat} {yl:Option (Nat×Gx)} {rnd:Bool}
theorem Ahi:(cfg P l m f dp yl rnd).yl=yl:=nrfl rfl
theorem qK:DX (cfg P l m f dp yl rnd)=cfg P l m f dp yl true:=nrfl rfl
end
theorem gQ {X:Cfg} {N:Nat} {Q:IExit→IState→Prop} {i:Nat} {s:IState}:H9 X N Q [] i s=Q (.exit i) s:=nrfl rfl
section
variable {i g:Nat}
theorem XV:(PV.mref i g).cells = [.mref i g]:=nrfl rfl
theorem XW:(PV.iter i g).cells = [.iter i g]:=nrfl rfl
theorem U7:(PV.mref i g).isCell=true:=nrfl rfl
theorem U8:(PV.iter i g).isCell=true:=nrfl rfl
end
theorem Ql {v:PV}:Bj .nilm 0 [v]=v:=nrfl rfl
theorem Qm {i g:Nat} {v:PV}:Bj (.mref i g) 0 [v]=v:=nrfl rfl
theorem XX {ρ:Nat→PV} {p:Nat} {ps:List Nat} {v:PV} {vs:List PV}:Gl ρ (p::ps) (v::vs)=Gl (upd ρ p v) ps vs:=nrfl rfl
theorem gR {ρ:Nat→PV} {vs:List PV}:Gl ρ [] vs=ρ:=nrfl rfl
def Later (st st':Store):Prop:=st.next≤st'.next∧∀x o,x<st.next→st.obj x=some o→(∀r,o≠.lp r)→st'.obj x=some o
theorem Later.refl (st:Store):Later st st:=⟨Nat.le_refl _,fun _ _ _ h _=>h⟩
def Stays (J:Store→Prop):Prop:=∀st st',J st→Later st st'→J st'
theorem Stays.obj {x:Nat} {o:IObj} (h:∀r,o≠.lp r):Stays fun st=>st.obj x=some o∧x<st.next:=fun st st' ⟨h1,h2⟩ hl=>⟨hl.2 x o h2 h1 h,Nat.lt_of_lt_of_le h2 hl.1⟩
theorem Stays.and {J K:Store→Prop} (h:Stays J) (g:Stays K):Stays fun st=>J st∧K st:=fun st st' ⟨a,b⟩ hl=>⟨h st st' a hl,g st st' b hl⟩
theorem Stays.const {P:Prop}:Stays fun _=>P:=fun _ _ h _=>h
theorem Stays.ex {α:Type} {J:α→Store→Prop} (h:∀a,Stays (J a)):Stays fun st=>∃a,J a st:=fun st st' ⟨a,g⟩ hl=>⟨a,h a st st' g hl⟩
def CD (id:Nat) (rb:Loop) (J1:Store→Prop) (Ex:IExit→Store→Prop):IExit→IState→Prop:=fun e s2 =>
 s2.st.obj id=some (.lp rb)∧id<s2.st.next∧match e with | .normal=>J1 s2.st | e=>Ex e s2.st
def GC (X:Cfg) (N id:Nat) (r:Loop) (J1:Store→Prop) (Ex:IExit→Store→Prop) (body:Code):IExit→IState→Prop:=fun e s1 =>
 e = .normal∧s1.st.obj id=some (.lp r)∧∀rb,run (DX X) N (CD id rb J1 Ex) (Bo body) [] ⟨s1.env,s1.st.set id (.lp rb)⟩
theorem Cp {st:Store} {id:Nat} {r r':Loop} (h:st.obj id=some (.lp r)):Later st (st.set id (.lp r')):=by
 refine ⟨Nat.le_refl _,fun x o hx ho hl=>?_⟩
 have hne:x≠id:=fun e=>by subst e;rw[h]at ho;cases ho;exact hl r rfl
 simp [Store.set,Ab,hne,ho]
theorem QN {st:Store} {o:IObj}:Later st (st.new o):=by
 refine ⟨by simp[Store.new],fun x o' hx ho _=>?_⟩
 have : x≠st.next:=by omega
 simp [Store.new,Ab,this,ho]
def Keep (base:Nat) (st st':Store):Prop:=st.next≤st'.next∧∀x,base≤x→x<st.next→(∀r,st.obj x≠some (.lp r))→st'.obj x=st.obj x
theorem Keep.mono {b b':Nat} {st st':Store} (h:Keep b st st') (hb:b≤b'):Keep b' st st':=⟨h.1,fun x hx=>h.2 x (by omega)⟩
def Sn (P:Program) (d:Nat) (f:FuncId) (first captured:List PV) (ys:List (List PV)):Prop :=
 ∃ fn c, P.funcs[f]? = some fn ∧ fn.body = some c ∧ (fn.name == "runtime.NumGoroutine") = false ∧ fn.results.toList = [] ∧ first.length + 1 + captured.length ≤ fn.ntmps ∧
  ∀ (l:Nat) (H:Gx) (J:Nat→Store→Prop) (E:Store→Prop) (st:Store) (X:Cfg),X.P=P→X.yl=some (l,H)→X.rnd=false→Bl X→J 0 st →
   (∀ i st st',J i st→st.next≤st'.next→(∀x,x<st.next→st'.obj x=st.obj x)→J i st') →
   (∀ i y st1,ys[i]?=some y→J i st1→H y st1 fun b st'=>if b=true then J (i+1) st'∧Keep st.next st1 st' else E st') →
   gen (d+1) X fn.ntmps c (fun e s=>(e=.normal∨e=.ret)∧(J ys.length s.st∨E s.st)) ⟨GK (first++.func (.yield l) [] []::captured),st⟩
theorem XY {P:Program} {l:AW} (hl:Bv P l) (muts frz:List Nat) (dep:Nat) {f:FuncId} {fn:Func} {c:Code} (hf:P.funcs[f]?=some fn) (hb:fn.body=some c)
  (hname : (fn.name == "runtime.NumGoroutine") = false) (hrs : fn.results.toList = []) {first captured : List PV} {N : Nat} (hN : fn.ntmps = N) (hn : first.length + 1 + captured.length ≤ N)
  (hd : ∀y,Bs (cfg P l muts frz dep (some y)) c=true) {ys:List (List PV)}
  (h : ∀(y:Nat) (H:Gx) (J:Nat→Store→Prop) (E:Store→Prop) (st:Store),Bl (cfg P l muts frz dep (some (y,H)))→J 0 st →
   (∀ i st st',J i st→st.next≤st'.next→(∀x,x<st.next→st'.obj x=st.obj x)→J i st') →
   (∀ i v st1 (K:Bool→Store→Prop),ys[i]?=some v→J i st1→(∀st',J (i+1) st'→Keep st.next st1 st'→K true st')→(∀st',E st'→K false st')→H v st1 K) →
   run (cfg P l muts frz dep (some (y,H))) N (fun e s=>(e=.normal∨e=.ret)∧(J ys.length s.st∨E s.st)) (Bo c) [] ⟨GK (first++.func (.yield y) [] []::captured),st⟩) :
  Sn P dep f first captured ys:=by
 subst hN
 refine ⟨fn,c,hf,hb,hname,hrs,hn,fun y H J E st X hP hyl hrnd hm h0 hst hH=>⟨cfg P l muts frz dep (some (y,H)),hP.symm,hyl.symm,hrnd.symm,rfl,GL hl,DO hl,?_⟩⟩
 have hm':Bl (cfg P l muts frz dep (some (y,H))):=fun l' H' he=>hm l' H' (by rw[hyl];exact he)
 have := h y H J E st hm' h0 hst (fun i v st K hv hJ ht hf=>hm' y H rfl _ _ _ _ (fun b st' hb=>by
  cases b
  ·exact hf st' (by simpa using hb)
  ·have :=(show _∧_ by simpa using hb);exact ht st' this.1 this.2) (hH i v st hv hJ))
 exact Dc hm' (hd _) this
theorem XZ {X:Cfg} {N:Nat} {Q:IExit→IState→Prop} {ks:List Kf} {ρ:Nat→PV} {st:Store} {g:Operand} {ps:Array Tmp} {assign body:Code} {d:Nat} {f:FuncId} {first captured:List PV} {ys:List (List PV)}
  (hr : X.rnd=false) (hd:X.dep=d+1) (hm:Bl X) (hg:AA ρ g=.func (.func f) first captured) (hy:Sn X.P d f first captured ys) (hps:(ps.toList.all fun p=>decide (p<N))=true) (hlen:∀y∈ys,y.length=ps.size)
  (ha : Bs (DX X) assign=true) (hb:Bs (DX X) body=true)
  (J : Nat→Store→Prop) (Ex:IExit→Store→Prop) (hJ:∀i,Stays (J i)) (hE:∀e,Stays (Ex e)) (h0:J 0 st)
  (hround : ∀i y st1 id r,ys[i]?=some y→id<st1.next→st1.obj id=some (.lp r)→st.next≤id→J i st1→run (DX X) N (GC X N id r (fun st'=>J (i+1) st'∧Keep st.next st1 st') Ex body) (Bo assign) [] ⟨Gl ρ ps.toList y,st1⟩)
  (hend : ∀st,J ys.length st→Hi X N Q ks ⟨ρ,st⟩) (hex:∀i st,Ex (.exit i) st→H9 X N Q ks i ⟨ρ,st⟩) (hret:∀st,Ex .ret st→done X N Q ks ⟨ρ,st⟩) :
  run X N Q (.rangeFunc g ps assign body) ks ⟨ρ,st⟩:=by
 have hmr:Bl (DX X):=hm
 simp only[run,wpI,wpC]
 refine ⟨_,.refl _,hr,?_⟩
 rw [hg]
 obtain ⟨fn,c,h1,h2,h3,h4,h5,h6⟩:=hy
 refine ⟨fn,c,h1,h2,h3,h4,h5,hps,fun l r hr1 hr2=>?_⟩
 have hgm:=EF X.dep
 generalize hH:(fun (args:List PV) (st1:Store) (K:Bool→Store→Prop)=>st1.obj st.next=some (IObj.lp r)∧args.length=ps.size ∧
       wpC (gen X.dep) (DX X) N assign (fun e s1=>e=.normal∧s1.st.obj st.next=some (.lp r) ∧
        wpC (gen X.dep) (DX X) N body (fun e s2=>s2.st.obj st.next=some (.lp { r with state:=.busy }) ∧
         match e with
         | .normal=>K true (s2.st.set st.next (.lp r))
         | .ret=>K false (s2.st.set st.next (.lp { r with state:=.done,pending:=some .ret }))
         | .exit i=>K false (s2.st.set st.next (.lp { r with state:=.done,pending:=some (.exit i) })))
         ⟨s1.env, s1.st.set st.next (.lp { r with state:=.busy })⟩)
        ⟨Gl ρ ps.toList args,st1⟩)=H
 have hHm:Bl (Oj X (l,H)):=by
  intro l' H' he args st K K' hk hh
  simp only[Oj,Option.some.injEq,Prod.mk.injEq]at he
  obtain ⟨rfl,rfl⟩:=he
  subst hH
  obtain ⟨g1,g2,g3⟩:=hh
  refine ⟨g1,g2,CR hgm (DX X) N assign _ _ _ hmr (fun e s1 he=>⟨he.1,he.2.1,CR hgm (DX X) N body _ _ _ hmr (fun e s2 he2=>⟨he2.1,?_⟩) he.2.2⟩) g3⟩
  cases e with
  | normal=>exact hk _ _ he2.2
  | exit i=>exact hk _ _ he2.2
  | ret=>exact hk _ _ he2.2
 have key:=h6 l H (fun i st1=>st1.obj st.next=some (.lp r)∧st.next<st1.next∧J i st1)
  (fun st1=>(st1.obj st.next=some (.lp { r with state:=.done,pending:=some .ret })∧Ex .ret st1)∨∃i,st1.obj st.next=some (.lp { r with state:=.done,pending:=some (.exit i) })∧Ex (.exit i) st1)
  (st.new (.lp r)) (Oj X (l,H)) rfl rfl rfl hHm ⟨by simp[Store.new,Ab],by simp[Store.new],hJ 0 _ _ h0 QN⟩
  (fun i s1 s2 ⟨a1,a2,a3⟩ hn ho=>⟨by rw[ho _ a2];exact a1,by omega,hJ i _ _ a3 ⟨hn,fun x o hx hox _=>by rw[ho x hx];exact hox⟩⟩)
  (fun i y s1 hy' ⟨a1,a2,a3⟩=>by
   subst hH
   refine ⟨a1,hlen y (List.mem_of_getElem? hy'),?_⟩
   have hrn:=FH hgm hmr ha (hround i y s1 st.next r hy' a2 a1 (Nat.le_refl _) a3)
   refine CR hgm (DX X) N assign _ _ _ hmr (fun e t1 he=>?_) hrn
   obtain ⟨rfl,b2,b3⟩:=he
   refine ⟨rfl,b2,?_⟩
   have hrb:=FH hgm hmr hb (b3 { r with state:=.busy })
   refine CR hgm (DX X) N body _ _ _ hmr (fun e t2 he=>?_) hrb
   obtain ⟨c1,c2,c3⟩:=he
   refine ⟨c1,?_⟩
   cases e with
   | normal =>
    obtain ⟨c3,c4,c5⟩:=c3
    simp only[if_true]
    refine ⟨⟨by simp[Store.set,Ab],c2,hJ (i+1) _ _ c3 (Cp c1)⟩,c4,fun x hx hlt hlp=>?_⟩
    have hne:x≠st.next:=fun e=>by subst e;exact hlp r a1
    rw [←c5 x (by simp[Store.new]at hx;omega) hlt hlp]
    simp [Store.set,Ab,hne]
   | ret=>simp only[Bool.false_eq_true,if_false];exact .inl ⟨by simp[Store.set,Ab],hE _ _ _ c3 (Cp c1)⟩
   | exit j=>simp only[Bool.false_eq_true,if_false];exact .inr ⟨j,by simp[Store.set,Ab],hE _ _ _ c3 (Cp c1)⟩)
 rw [←hd]at key
 refine EF X.dep _ _ _ _ _ _ hHm (fun e s1 he=>⟨he.1,?_⟩) key
 rcases he.2 with ⟨a1,a2,a3⟩ | ⟨a1,a2⟩ | ⟨i,a1,a2⟩
 ·exact .inl ⟨a1,hend _ (hJ _ _ _ a3 (Cp a1))⟩
 ·exact .inr (.inl ⟨a1,hret _ (hE _ _ _ a2 (Cp a1))⟩)
 ·exact .inr (.inr ⟨i,a1,hex i _ (hE _ _ _ a2 (Cp a1))⟩)
noncomputable def A8 {ι:Type} (A:ι→List PV) (H:ι→Store→Prop) (R:ι→Store→PV×Store):List PV→Store→Option (PV×Store):=fun args st =>
 @dite _ (∃i,A i=args∧H i st) (Classical.propDecidable _) (fun h=>some (R h.choose st)) (fun _=>none)
theorem Ba {ι:Type} {A:ι→List PV} {H:ι→Store→Prop} {R:ι→Store→PV×Store} (hj:∀i j st,A i=A j→H i st→H j st→R i st=R j st) {i:ι} {st:Store} (hi:H i st):A8 A H R (A i) st=some (R i st):=by
 unfold A8
 have h:∃j,A j=A i∧H j st:=⟨i,rfl,hi⟩
 rw [dif_pos h]
 exact congrArg some (hj _ _ _ h.choose_spec.1 h.choose_spec.2 hi)
def Left (r:PV) (st':Store) (p:PV) (st1:Store):Prop :=
 ∃ ids:List Nat,(p=r∨rdP (st1.only ids) p=some r)∧(∀i o,st'.obj i=some o→ids.contains i=false∧st1.obj i=some o)∧st1.next≤st'.next
theorem Inv.skip {C:Ctx} {st:Store} {w:World} (h:Inv C st w) {n:Nat} (hn:st.next≤n):Inv C ⟨st.obj,n⟩ w where
 os := h.os
 out := h.out
 hB := h.hB
 old := h.old
 imm := h.imm
 next := fun id hid=>h.next id (Nat.le_trans hn hid)
 none_ := h.none_
 obj := h.obj
 sep := h.sep
 keep := h.keep
theorem IXC.left {P:Program} {f:FuncId} {args:List PV} {st:Store} {r:PV} {st':Store} (h:IXC P f args st (Left r st')):IXC P f args st fun r' st''=>r'=r∧st''=st':=by
 refine ⟨h.1,fun C w vals hi hv=>Calls.mono (h.2 C w vals hi hv) fun e w' he=>?_⟩
 obtain ⟨v,C1,p,st1,rfl,hle,hi1,hvr,ids,hp,ho,hn⟩:=he
 obtain ⟨a1,a2,_⟩:=hi1.without ids
 have hv2:VR (C1.closeIn ids w') v r:=by
  rcases hp with rfl | hp
  ·exact hvr.mono a1
  ·exact VR.freeze hi1 ids hp hvr
 obtain ⟨b1,b2,_⟩:=a2.without ((List.range st1.next).filter fun i=>(st'.obj i).isNone)
 have e:((st1.without ids).without ((List.range st1.next).filter fun i=>(st'.obj i).isNone)).obj=st'.obj:=by
  funext i
  unfold Store.without
  dsimp only
  cases hs:st'.obj i with
  | some o =>
   obtain ⟨g1,g2⟩:=ho i o hs
   rw [if_neg (by simp[hs]),if_neg (by rw[g1];exact Bool.false_ne_true),g2]
  | none =>
   by_cases c:i<st1.next
   ·rw [if_pos (by simp[hs,c])]
   ·rw [if_neg (by simp[c])]
    cases hs1:st1.obj i with
    | none=>split <;> rfl
    | some o=>exact absurd (hi1.obj i o hs1).1 (hi1.next i (by omega))
 refine ⟨v,_,r,st',rfl,(hle.trans a1).trans b1,?_,hv2.mono b1,rfl,rfl⟩
 have := b2.skip (n:=st'.next) (by show st1.next≤_;exact hn)
 rw [e]at this
 exact this
theorem Left.refl {r:PV} {st:Store}:Left r st r st:=⟨[],.inl rfl,fun i o h=>⟨rfl,h⟩,Nat.le_refl _⟩
theorem Left.same {r p:PV} {st st':Store} (h:p=r) (ho:∀i o,st'.obj i=some o→st.obj i=some o) (hn:st.next≤st'.next):Left r st' p st:=⟨[],.inl h,fun i o g=>⟨rfl,ho i o g⟩,hn⟩
theorem Ca {ι:Type} {P:Program} {f:FuncId} {A:ι→List PV} {H:ι→Store→Prop} {R:ι→Store→PV×Store} (h:∀i st,H i st→IXC P f (A i) st (Left (R i st).1 (R i st).2)):AM P f (.x (A8 A H R)):=by
 intro args st r st' hs
 unfold A8 at hs
 split at hs
 ·rename_i hc
  have e:=Option.some.inj hs
  have h1:=hc.choose_spec
  have :=(h hc.choose st h1.2).left
  rw [h1.1,e]at this
  exact this
 ·cases hs
inductive PV.In (K:Nat→Prop):PV→Prop where
 | bad:PV.In K .bad
 | bool (b:Bool):PV.In K (.bool b)
 | int (k:IntKind) (n:Int):PV.In K (.int k n)
 | str (s:List UInt8):PV.In K (.str s)
 | nilp:PV.In K .nilp
 | ptr (id gen idx off:Nat) (h:K id):PV.In K (.ptr id gen idx off)
 | vptr (cells:List PV) (off:Nat) (h:∀c∈cells,PV.In K c):PV.In K (.vptr cells off)
 | nils:PV.In K .nils
 | lits (z:Nat) (l:List PV) (h:∀e∈l,∀c∈e.cells,PV.In K c):PV.In K (.lits z l)
 | ref (id gen s n:Nat) (h:K id):PV.In K (.ref id gen s n)
 | func (fn:Fn) (a b:List PV) (h1:∀c∈a,PV.In K c) (h2:∀c∈b,PV.In K c):PV.In K (.func fn a b)
 | nilf:PV.In K .nilf
 | iface (t:TypeId) (v:PV) (h:PV.In K v):PV.In K (.iface t v)
 | nili:PV.In K .nili
 | agg (l:List PV) (h:∀c∈l,PV.In K c):PV.In K (.agg l)
 | tuple (l:List PV) (h:∀c∈l,PV.In K c):PV.In K (.tuple l)
 | nilm:PV.In K .nilm
 | mref (id gen:Nat) (h:K id):PV.In K (.mref id gen)
 | iter (id gen:Nat) (h:K id):PV.In K (.iter id gen)
def OIn (K:Nat→Prop):IObj→Prop
 | .arr _ _ es=>∀e∈es,∀c∈e.cells,c.In K
 | .map _ _ es=>∀e∈es,e.1.In K∧e.2.In K
 | .it m _ _=>∀id g,m=some (id,g)→K id
 | .lp _=>True
theorem PV.In.mono {K K':Nat→Prop} (hk:∀i,K i→K' i) {p:PV} (h:p.In K):p.In K':=by
 induction h with
 | bad=>exact .bad
 | bool b=>exact .bool b
 | int k n=>exact .int k n
 | str s=>exact .str s
 | nilp=>exact .nilp
 | ptr id gen idx off h=>exact .ptr id gen idx off (hk _ h)
 | vptr cells off h ih=>exact .vptr cells off ih
 | nils=>exact .nils
 | lits z l h ih=>exact .lits z l ih
 | ref id gen s n h=>exact .ref id gen s n (hk _ h)
 | func fn a b h1 h2 ih1 ih2=>exact .func fn a b ih1 ih2
 | nilf=>exact .nilf
 | iface t v h ih=>exact .iface t v ih
 | nili=>exact .nili
 | agg l h ih=>exact .agg l ih
 | tuple l h ih=>exact .tuple l ih
 | nilm=>exact .nilm
 | mref id gen h=>exact .mref id gen (hk _ h)
 | iter id gen h=>exact .iter id gen (hk _ h)
theorem OIn.mono {K K':Nat→Prop} (hk:∀i,K i→K' i) {o:IObj} (h:OIn K o):OIn K' o:=by
 cases o with
 | arr g z es=>exact fun e he c hc=>(h e he c hc).mono hk
 | map g mk es=>exact fun e he=>⟨(h e he).1.mono hk,(h e he).2.mono hk⟩
 | it m n s=>exact fun id g e=>hk _ (h id g e)
 | lp r=>trivial
theorem Hs {α:Type} {l:List α} {P:α→Prop} (h:∀(j:Nat) (c:α),l[j]?=some c→P c):∀c∈l,P c:=fun c hc=>by
 obtain ⟨j,hj⟩:=List.mem_iff_getElem?.1 hc
 exact h j c hj
theorem VR.born {C:Ctx} {v:Value} {p:PV} (h:VR C v p):p.In C.born:=by
 induction h with
 | bad v=>exact .bad
 | bool b=>exact .bool b
 | int k n=>exact .int k n
 | str s l h hm=>exact .str l
 | nilp=>exact .nilp
 | ptr v id g i o hv hb hg h=>exact .ptr id g i o hb
 | vptr b o off cells hc hi h ih=>exact .vptr cells off (Hs ih)
 | nils=>exact .nils
 | lits b o size cap l hcap hmax hsz hl hi h ih=>exact .lits size l (Hs fun i e hi=>Hs fun j c hj=>ih i j e c hi hj)
 | lits0 a cap z=>exact .lits z [] fun e he=>by simp at he
 | ref v id g s n hv hb hg h=>exact .ref id g s n hb
 | func fn first captured pf pc hf hc h1 h2 ih1 ih2=>exact .func fn pf pc (Hs ih1) (Hs ih2)
 | nilf=>exact .nilf
 | iface t v p h ih=>exact .iface t p ih
 | nili=>exact .nili
 | agg cs l hn hc h ih=>exact .agg l (Hs ih)
 | tuple cs l hn h ih=>exact .tuple l (Hs ih)
 | nilm=>exact .nilm
 | mref v id g hv hb hg h=>exact .mref id g hb
 | iter v id g hv hb hg h=>exact .iter id g hb
def Ctx.lower (C:Ctx) (K:Nat→Prop):Ctx:={ C with born:=fun i=>C.born i∧K i }
theorem VR.lower {C:Ctx} {K:Nat→Prop} {v:Value} {p:PV} (h:VR C v p):p.In K→VR (C.lower K) v p:=by
 induction h with
 | bad v=>exact fun _=>.bad v
 | bool b=>exact fun _=>.bool b
 | int k n=>exact fun _=>.int k n
 | str s l h hm=>exact fun _=>.str s l h hm
 | nilp=>exact fun _=>.nilp
 | ptr v id g i o hv hb hg h=>intro hk;cases hk with | ptr _ _ _ _ hk=>exact .ptr v id g i o hv ⟨hb,hk⟩ hg h
 | vptr b o off cells hc hi h ih=>intro hk;cases hk with | vptr _ _ hk=>exact .vptr b o off cells hc hi fun j c hj=>ih j c hj (hk c (List.mem_of_getElem? hj))
 | nils=>exact fun _=>.nils
 | lits b o size cap l hcap hmax hsz hl hi h ih=>intro hk;cases hk with | lits _ _ hk=>exact .lits b o size cap l hcap hmax hsz hl hi fun i j e c he hc=>ih i j e c he hc (hk e (List.mem_of_getElem? he) c (List.mem_of_getElem? hc))
 | lits0 a cap z=>exact fun _=>.lits0 a cap z
 | ref v id g s n hv hb hg h=>intro hk;cases hk with | ref _ _ _ _ hk=>exact .ref v id g s n hv ⟨hb,hk⟩ hg h
 | func fn first captured pf pc hf hc h1 h2 ih1 ih2=>intro hk;cases hk with | func _ _ _ k1 k2=>exact .func fn first captured pf pc hf hc (fun i p hp=>ih1 i p hp (k1 p (List.mem_of_getElem? hp))) (fun i p hp=>ih2 i p hp (k2 p (List.mem_of_getElem? hp)))
 | nilf=>exact fun _=>.nilf
 | iface t v p h ih=>intro hk;cases hk with | iface _ _ hk=>exact .iface t v p (ih hk)
 | nili=>exact fun _=>.nili
 | agg cs l hn hc h ih=>intro hk;cases hk with | agg _ hk=>exact .agg cs l hn hc fun i p hp=>ih i p hp (hk p (List.mem_of_getElem? hp))
 | tuple cs l hn h ih=>intro hk;cases hk with | tuple _ hk=>exact .tuple cs l hn fun i p hp=>ih i p hp (hk p (List.mem_of_getElem? hp))
 | nilm=>exact fun _=>.nilm
 | mref v id g hv hb hg h=>intro hk;cases hk with | mref _ _ hk=>exact .mref v id g hv ⟨hb,hk⟩ hg h
 | iter v id g hv hb hg h=>intro hk;cases hk with | iter _ _ hk=>exact .iter v id g hv ⟨hb,hk⟩ hg h
theorem ObjAt.born {C:Ctx} {w:World} {L:Loc} {o:IObj} (h:ObjAt C w L o):OIn C.born o:=by
 cases o with
 | arr gen z es =>
  obtain ⟨h1,h1',h2,h3,h4⟩:=h
  intro e he c hc
  obtain ⟨i,hi⟩:=List.mem_iff_getElem?.1 he
  have hlt:i<es.length:=(List.getElem?_eq_some_iff.1 hi).1
  obtain ⟨h5,h6,cs,T,h7,h8,h9⟩:=h4 (by omega)
  obtain ⟨j,hj⟩:=List.mem_iff_getElem?.1 hc
  exact ((h9 i e hi).2.2 j c hj).born
 | map gen mk es =>
  obtain ⟨h1,h2,h3,h4,ces,h5,h6,h7⟩:=h
  intro e he
  obtain ⟨i,hi⟩:=List.mem_iff_getElem?.1 he
  obtain ⟨x,g1,g2,g3,g4,g5⟩:=h7 i e.1 e.2 hi
  exact ⟨g2.born,g3.born⟩
 | it m n seen =>
  obtain ⟨h1,h2,h3,h4,h5,h6,h7⟩:=h
  intro id g e
  subst e
  exact h7.1
 | lp r=>trivial
theorem ObjAt.lower {C:Ctx} {w:World} {L:Loc} {o:IObj} {K:Nat→Prop} (h:ObjAt C w L o) (hk:OIn K o):ObjAt (C.lower K) w L o:=by
 cases o with
 | arr gen z es =>
  obtain ⟨h1,h1',h2,h3,h4⟩:=h
  refine ⟨h1,h1',h2,h3,fun hc=>?_⟩
  obtain ⟨h5,h6,cs,T,h7,h8,h9⟩:=h4 hc
  exact ⟨h5,h6,cs,T,h7,h8,fun i e he=>⟨(h9 i e he).1,(h9 i e he).2.1,fun j c hj=>((h9 i e he).2.2 j c hj).lower (hk e (List.mem_of_getElem? he) c (List.mem_of_getElem? hj))⟩⟩
 | map gen mk es =>
  obtain ⟨h1,h2,h3,h4,ces,h5,h6,h7⟩:=h
  refine ⟨h1,h2,h3,h4,ces,h5,h6,fun i k v he=>?_⟩
  obtain ⟨e,g1,g2,g3,g4,g5⟩:=h7 i k v he
  have := hk _ (List.mem_of_getElem? he)
  exact ⟨e,g1,g2.lower this.1,g3.lower this.2,g4,g5⟩
 | it m n seen =>
  obtain ⟨h1,h2,h3,h4,h5,h6,h7⟩:=h
  refine ⟨h1,h2,h3,h4,h5,h6,?_⟩
  cases m with
  | none=>exact h7
  | some q =>
   obtain ⟨g1,g2,mb,g3,g4⟩:=h7
   exact ⟨⟨g1,hk _ _ rfl⟩,g2,mb,g3,g4⟩
 | lp r=>exact h
theorem Inv.lower {C:Ctx} {st:Store} {w:World} (h:Inv C st w) {n:Nat} (hk:∀i o,st.obj i=some o→i<n∧OIn (· < n) o):Inv (C.lower (· < n)) ⟨st.obj,n⟩ w where
 os := h.os
 out := h.out
 hB := h.hB
 old := h.old
 imm := h.imm
 next := fun id hid hb=>Nat.lt_irrefl _ (Nat.lt_of_lt_of_le hb.2 hid)
 none_ := h.none_
 obj := fun id o ho=>by
  obtain ⟨a1,L,a2,a3⟩:=h.obj id o ho
  obtain ⟨b1,b2⟩:=hk id o ho
  exact ⟨⟨a1,b1⟩,L,a2,a3.lower b2⟩
 sep := h.sep
 keep := h.keep
theorem Ctx.le.lower {C C':Ctx} (h:C.le C') {K:Nat→Prop} (hk:∀i,C.born i→K i):C.le (C'.lower K) :=
 ⟨h.imm, h.old,fun id hb=>⟨h.born id hb,hk id hb⟩,h.loc,h.B,h.h,h.os,h.out,h.keep,h.caller⟩
def OC (st0:Store) (r:PV) (st':Store) (p:PV) (st1:Store):Prop :=
 ∃ ids:List Nat,(p=r∨rdP (st1.only ids) p=some r)∧(∀i o,st'.obj i=some o→i<st'.next∧ids.contains i=false∧st1.obj i=some o∧(st0.obj i=some o∨OIn (· < st'.next) o))∧st0.next≤st'.next∧r.In (· < st'.next)
theorem IXC.left0 {P:Program} {f:FuncId} {args:List PV} {st:Store} {r:PV} {st':Store} (h:IXC P f args st (OC st r st')):IXC P f args st fun r' st''=>r'=r∧st''=st':=by
 refine ⟨h.1,fun C w vals hi hv=>Calls.mono (h.2 C w vals hi hv) fun e w' he=>?_⟩
 obtain ⟨v,C1,p,st1,rfl,hle,hi1,hvr,ids,hp,ho,hn,hr⟩:=he
 obtain ⟨a1,a2,_⟩:=hi1.without ids
 have hv2:VR (C1.closeIn ids w') v r:=by
  rcases hp with rfl | hp
  ·exact hvr.mono a1
  ·exact VR.freeze hi1 ids hp hvr
 obtain ⟨b1,b2,_⟩:=a2.without ((List.range st1.next).filter fun i=>(st'.obj i).isNone)
 have e:((st1.without ids).without ((List.range st1.next).filter fun i=>(st'.obj i).isNone)).obj=st'.obj:=by
  funext i
  unfold Store.without
  dsimp only
  cases hs:st'.obj i with
  | some o =>
   obtain ⟨_,g1,g2,_⟩:=ho i o hs
   rw [if_neg (by simp[hs]),if_neg (by rw[g1];exact Bool.false_ne_true),g2]
  | none =>
   by_cases c:i<st1.next
   ·rw [if_pos (by simp[hs,c])]
   ·rw [if_neg (by simp[c])]
    cases hs1:st1.obj i with
    | none=>split <;> rfl
    | some o=>exact absurd (hi1.obj i o hs1).1 (hi1.next i (by omega))
 have hborn:∀i,C.born i→i<st'.next:=fun i hb=>by
  rcases Nat.lt_or_ge i st.next with c | c
  ·exact Nat.lt_of_lt_of_le c hn
  ·exact absurd hb (hi.next i c)
 have hlow:=b2.lower (n:=st'.next) (fun i o hio=>by
  rw [e]at hio
  obtain ⟨g0,g1,g2,g3⟩:=ho i o hio
  refine ⟨g0,?_⟩
  rcases g3 with g3 | g3
  ·obtain ⟨_,L,_,hat⟩:=hi.obj i o g3
   exact hat.born.mono hborn
  ·exact g3)
 rw [e]at hlow
 exact ⟨v,_,r,st',rfl,((hle.trans a1).trans b1).lower hborn,hlow,(hv2.mono b1).lower hr,rfl,rfl⟩
theorem Ft {ι:Type} {P:Program} {f:FuncId} {A:ι→List PV} {H:ι→Store→Prop} {R:ι→Store→PV×Store} (h:∀i st,H i st→IXC P f (A i) st (OC st (R i st).1 (R i st).2)):AM P f (.x (A8 A H R)):=by
 intro args st r st' hs
 unfold A8 at hs
 split at hs
 ·rename_i hc
  have e:=Option.some.inj hs
  have h1:=hc.choose_spec
  have :=(h hc.choose st h1.2).left0
  rw [h1.1,e]at this
  exact this
 ·cases hs
theorem IXC.of_wf {P:Program} {f:FuncId} {args:List PV} {st:Store} {Q:PV→Store→Prop} (hen:Dx P f) (h:WF st→IXC P f args st Q):IXC P f args st Q :=
 ⟨hen, fun C w vals hi hv=>(h hi.wf).2 C w vals hi hv⟩
def Nx (G:Store→Prop) (P:Program) (d:Nat) (f:FuncId) (first captured:List PV) (ys:List (List PV)):Prop :=
 ∃ fn c, P.funcs[f]? = some fn ∧ fn.body = some c ∧ (fn.name == "runtime.NumGoroutine") = false ∧ fn.results.toList = [] ∧ first.length + 1 + captured.length ≤ fn.ntmps ∧
  ∀ (l:Nat) (H:Gx) (J:Nat→Store→Prop) (E:Store→Prop) (st:Store) (X:Cfg),X.P=P→X.yl=some (l,H)→X.rnd=false→Bl X→J 0 st →
   (∀ i st st',J i st→st.next≤st'.next→(∀x,x<st.next→st'.obj x=st.obj x)→J i st')→(∀i st,J i st→G st) →
   (∀ i y st,ys[i]?=some y→J i st→H y st fun b st'=>if b=true then J (i+1) st' else E st') →
   gen (d+1) X fn.ntmps c (fun e s=>(e=.normal∨e=.ret)∧(J ys.length s.st∨E s.st)) ⟨GK (first++.func (.yield l) [] []::captured),st⟩
theorem OD (G:Store→Prop) {P:Program} {l:AW} (hl:Bv P l) (muts frz:List Nat) (dep:Nat) {f:FuncId} {fn:Func} {c:Code} (hf:P.funcs[f]?=some fn) (hb:fn.body=some c)
  (hname : (fn.name == "runtime.NumGoroutine") = false) (hrs : fn.results.toList = []) {first captured : List PV} {N : Nat} (hN : fn.ntmps = N) (hn : first.length + 1 + captured.length ≤ N)
  (hd : ∀y,Bs (cfg P l muts frz dep (some y)) c=true) {ys:List (List PV)}
  (h : ∀(y:Nat) (H:Gx) (J:Nat→Store→Prop) (E:Store→Prop) (st:Store),Bl (cfg P l muts frz dep (some (y,H)))→J 0 st →
   (∀ i st st',J i st→st.next≤st'.next→(∀x,x<st.next→st'.obj x=st.obj x)→J i st')→(∀i st,J i st→G st) →
   (∀ i v st (K:Bool→Store→Prop),ys[i]?=some v→J i st→(∀st',J (i+1) st'→K true st')→(∀st',E st'→K false st')→H v st K) →
   run (cfg P l muts frz dep (some (y,H))) N (fun e s=>(e=.normal∨e=.ret)∧(J ys.length s.st∨E s.st)) (Bo c) [] ⟨GK (first++.func (.yield y) [] []::captured),st⟩) :
  Nx G P dep f first captured ys:=by
 subst hN
 refine ⟨fn,c,hf,hb,hname,hrs,hn,fun y H J E st X hP hyl hrnd hm h0 hst hG hH=>⟨cfg P l muts frz dep (some (y,H)),hP.symm,hyl.symm,hrnd.symm,rfl,GL hl,DO hl,?_⟩⟩
 have hm':Bl (cfg P l muts frz dep (some (y,H))):=fun l' H' he=>hm l' H' (by rw[hyl];exact he)
 have := h y H J E st hm' h0 hst hG (fun i v st K hv hJ ht hf=>hm' y H rfl _ _ _ _ (fun b st' hb=>by
  cases b
  ·exact hf st' (by simpa using hb)
  ·exact ht st' (by simpa using hb)) (hH i v st hv hJ))
 exact Dc hm' (hd _) this
theorem Ht {G:Store→Prop} {X:Cfg} {N:Nat} {Q:IExit→IState→Prop} {ks:List Kf} {ρ:Nat→PV} {st:Store} {g:Operand} {ps:Array Tmp} {assign body:Code} {d:Nat} {f:FuncId} {first captured:List PV} {ys:List (List PV)}
  (hr : X.rnd=false) (hd:X.dep=d+1) (hm:Bl X) (hg:AA ρ g=.func (.func f) first captured) (hy:Nx G X.P d f first captured ys) (hps:(ps.toList.all fun p=>decide (p<N))=true) (hlen:∀y∈ys,y.length=ps.size)
  (ha : Bs (DX X) assign=true) (hb:Bs (DX X) body=true)
  (J : Nat→Store→Prop) (Ex:IExit→Store→Prop) (hJ:∀i,Stays (J i)) (hE:∀e,Stays (Ex e)) (h0:J 0 st) (hG:∀i st,J i st→G st)
  (hround : ∀i y st id r,ys[i]?=some y→id<st.next→st.obj id=some (.lp r)→J i st→run (DX X) N (GC X N id r (J (i+1)) Ex body) (Bo assign) [] ⟨Gl ρ ps.toList y,st⟩)
  (hend : ∀st,J ys.length st→Hi X N Q ks ⟨ρ,st⟩) (hex:∀i st,Ex (.exit i) st→H9 X N Q ks i ⟨ρ,st⟩) (hret:∀st,Ex .ret st→done X N Q ks ⟨ρ,st⟩) :
  run X N Q (.rangeFunc g ps assign body) ks ⟨ρ,st⟩:=by
 have hmr:Bl (DX X):=hm
 simp only[run,wpI,wpC]
 refine ⟨_,.refl _,hr,?_⟩
 rw [hg]
 obtain ⟨fn,c,h1,h2,h3,h4,h5,h6⟩:=hy
 refine ⟨fn,c,h1,h2,h3,h4,h5,hps,fun l r hr1 hr2=>?_⟩
 have hgm:=EF X.dep
 generalize hH:(fun (args:List PV) (st1:Store) (K:Bool→Store→Prop)=>st1.obj st.next=some (IObj.lp r)∧args.length=ps.size ∧
       wpC (gen X.dep) (DX X) N assign (fun e s1=>e=.normal∧s1.st.obj st.next=some (.lp r) ∧
        wpC (gen X.dep) (DX X) N body (fun e s2=>s2.st.obj st.next=some (.lp { r with state:=.busy }) ∧
         match e with
         | .normal=>K true (s2.st.set st.next (.lp r))
         | .ret=>K false (s2.st.set st.next (.lp { r with state:=.done,pending:=some .ret }))
         | .exit i=>K false (s2.st.set st.next (.lp { r with state:=.done,pending:=some (.exit i) })))
         ⟨s1.env, s1.st.set st.next (.lp { r with state:=.busy })⟩)
        ⟨Gl ρ ps.toList args,st1⟩)=H
 have hHm:Bl (Oj X (l,H)):=by
  intro l' H' he args st K K' hk hh
  simp only[Oj,Option.some.injEq,Prod.mk.injEq]at he
  obtain ⟨rfl,rfl⟩:=he
  subst hH
  obtain ⟨g1,g2,g3⟩:=hh
  refine ⟨g1,g2,CR hgm (DX X) N assign _ _ _ hmr (fun e s1 he=>⟨he.1,he.2.1,CR hgm (DX X) N body _ _ _ hmr (fun e s2 he2=>⟨he2.1,?_⟩) he.2.2⟩) g3⟩
  cases e with
  | normal=>exact hk _ _ he2.2
  | exit i=>exact hk _ _ he2.2
  | ret=>exact hk _ _ he2.2
 have key:=h6 l H (fun i st1=>st1.obj st.next=some (.lp r)∧st.next<st1.next∧J i st1)
  (fun st1=>(st1.obj st.next=some (.lp { r with state:=.done,pending:=some .ret })∧Ex .ret st1)∨∃i,st1.obj st.next=some (.lp { r with state:=.done,pending:=some (.exit i) })∧Ex (.exit i) st1)
  (st.new (.lp r)) (Oj X (l,H)) rfl rfl rfl hHm ⟨by simp[Store.new,Ab],by simp[Store.new],hJ 0 _ _ h0 QN⟩
  (fun i s1 s2 ⟨a1,a2,a3⟩ hn ho=>⟨by rw[ho _ a2];exact a1,by omega,hJ i _ _ a3 ⟨hn,fun x o hx hox _=>by rw[ho x hx];exact hox⟩⟩)
  (fun i s1 ⟨_,_,a3⟩=>hG i s1 a3)
  (fun i y s1 hy' ⟨a1,a2,a3⟩=>by
   subst hH
   refine ⟨a1,hlen y (List.mem_of_getElem? hy'),?_⟩
   have hrn:=FH hgm hmr ha (hround i y s1 st.next r hy' a2 a1 a3)
   refine CR hgm (DX X) N assign _ _ _ hmr (fun e t1 he=>?_) hrn
   obtain ⟨rfl,b2,b3⟩:=he
   refine ⟨rfl,b2,?_⟩
   have hrb:=FH hgm hmr hb (b3 { r with state:=.busy })
   refine CR hgm (DX X) N body _ _ _ hmr (fun e t2 he=>?_) hrb
   obtain ⟨c1,c2,c3⟩:=he
   refine ⟨c1,?_⟩
   cases e with
   | normal =>
    simp only[if_true]
    exact ⟨by simp[Store.set,Ab],c2,hJ (i+1) _ _ c3 (Cp c1)⟩
   | ret=>simp only[Bool.false_eq_true,if_false];exact .inl ⟨by simp[Store.set,Ab],hE _ _ _ c3 (Cp c1)⟩
   | exit j=>simp only[Bool.false_eq_true,if_false];exact .inr ⟨j,by simp[Store.set,Ab],hE _ _ _ c3 (Cp c1)⟩)
 rw [←hd]at key
 refine EF X.dep _ _ _ _ _ _ hHm (fun e s1 he=>⟨he.1,?_⟩) key
 rcases he.2 with ⟨a1,a2,a3⟩ | ⟨a1,a2⟩ | ⟨i,a1,a2⟩
 ·exact .inl ⟨a1,hend _ (hJ _ _ _ a3 (Cp a1))⟩
 ·exact .inr (.inl ⟨a1,hret _ (hE _ _ _ a2 (Cp a1))⟩)
 ·exact .inr (.inr ⟨i,a1,hex i _ (hE _ _ _ a2 (Cp a1))⟩)
def Dp (P:Program) (l:AW) (muts frz:List Nat) (base:Nat):Cfg:={ cfg P l muts frz with num:=fun d=>if K3 frz d=0 then 0 else base+K3 frz d }
section
variable {P:Program} {l:AW} {m f:List Nat}
theorem Hu {b:Nat}:(Dp P l m f b).P=P:=nrfl rfl
theorem U9 {b:Nat}:(Dp P l m f b).tab=Fa l:=nrfl rfl
theorem Mk {b d:Nat}:(Dp P l m f b).muts d=m.contains d:=nrfl rfl
theorem OE {b d:Nat}:(Dp P l m f b).num d=if K3 f d=0 then 0 else b+K3 f d:=nrfl rfl
theorem GQ {b d:Nat}:(Dp P l m f b).frz d=f.contains d:=nrfl rfl
theorem YY {b:Nat}:(Dp P l m f b).yl=none:=nrfl rfl
theorem gT {b:Nat} {c:Code}:Bs (Dp P l m f b) c=Bs (cfg P l m f) c:=by
 induction c <;> simp only[Bs]
 case region id ops dr =>
  cases dr
  ·rfl
  have h1:∀op,BV (Dp P l m f b) op=BV (cfg P l m f) op:=fun _=>rfl
  have h2:∀o,Hh (Dp P l m f b) o=Hh (cfg P l m f) o:=fun _=>rfl
  have h3:∀o,Og (Dp P l m f b) o=Og (cfg P l m f) o:=fun _=>rfl
  have h4:∀o,Oh (Dp P l m f b) o=Oh (cfg P l m f) o:=fun _=>rfl
  have h5:∀o,E9 (Dp P l m f b) o=E9 (cfg P l m f) o:=fun _=>rfl
  have hn:∀d,(Dp P l m f b).num d=if (cfg P l m f).num d=0 then 0 else b+(cfg P l m f).num d:=fun _=>rfl
  have hz:∀d,((Dp P l m f b).num d==0)=((cfg P l m f).num d==0):=fun d=>by
   rw [hn]
   by_cases e:(cfg P l m f).num d=0
   ·rw [if_pos e,e]
   ·rw [if_neg e]
    have e2:¬b+(cfg P l m f).num d=0:=by omega
    rw [beq_eq_false_iff_ne.2 e,beq_eq_false_iff_ne.2 e2]
  have hz2:∀d,((Dp P l m f b).num d != 0)=((cfg P l m f).num d != 0):=fun d=>by simp only[bne,hz]
  have h6:∀o,FC (Dp P l m f b) o=FC (cfg P l m f) o:=fun o=>by
   unfold FC
   simp only[hz]
   rfl
  have h7:∀o,BD (Dp P l m f b) o=BD (cfg P l m f) o:=fun o=>by
   unfold BD
   rw [hz2]
   rfl
  have h9:∀o,Oi (Dp P l m f b) o=Oi (cfg P l m f) o:=fun _=>rfl
  have h8:∀o,EU (Dp P l m f b) o=EU (cfg P l m f) o:=fun o=>by
   unfold EU
   rw [hz]
   rfl
  have loc0:∀o,BD (cfg P l m f) o=true→(Dp P l m f b).num (o.dst.getD 0)=b+(cfg P l m f).num (o.dst.getD 0)∧0<(cfg P l m f).num (o.dst.getD 0):=fun o ho=>by
   unfold BD at ho
   simp only[Bool.and_eq_true,bne_iff_ne]at ho
   rw [hn,if_neg ho.1]
   exact ⟨rfl,by omega⟩
  have hc:∀(x y:Oper),FE (Dp P l m f b) ops x y=FE (cfg P l m f) ops x y:=fun x y=>by
   unfold FE
   simp only[h1,h2,h3,h4,h5,h6,h7,h8,h9]
   have e1:(BD (cfg P l m f) x&&BD (cfg P l m f) y&&((Dp P l m f b).num (x.dst.getD 0)-1 !=(Dp P l m f b).num (y.dst.getD 0)-1))=(BD (cfg P l m f) x&&BD (cfg P l m f) y&&((cfg P l m f).num (x.dst.getD 0)-1 !=(cfg P l m f).num (y.dst.getD 0)-1)):=by
    cases hx:BD (cfg P l m f) x with
    | false=>rfl
    | true =>
     cases hy:BD (cfg P l m f) y with
     | false=>rfl
     | true =>
      obtain ⟨a1,a2⟩:=loc0 x hx
      obtain ⟨b1,b2⟩:=loc0 y hy
      rw [a1,b1]
      simp only[Bool.true_and]
      rw [Bool.eq_iff_iff,bne_iff_ne,bne_iff_ne]
      omega
   have e0:∀(x y:Oper),(E9 (cfg P l m f) x&&BD (cfg P l m f) y&&decide ((Dp P l m f b).num (y.dst.getD 0)-1<(Dp P l m f b).num (x.dst.getD 0)))=(E9 (cfg P l m f) x&&BD (cfg P l m f) y&&decide ((cfg P l m f).num (y.dst.getD 0)-1<(cfg P l m f).num (x.dst.getD 0))):=fun x y=>by
    cases hx:E9 (cfg P l m f) x with
    | false=>rfl
    | true =>
     cases hy:BD (cfg P l m f) y with
     | false=>rfl
     | true =>
      obtain ⟨b1,b2⟩:=loc0 y hy
      rw [b1,hn (x.dst.getD 0)]
      simp only[Bool.true_and]
      rw [Bool.eq_iff_iff,decide_eq_true_eq,decide_eq_true_eq]
      split <;> omega
   have e4:∀(x y:Oper),(BD (cfg P l m f) x&&E9 (cfg P l m f) y&&decide ((Dp P l m f b).num (x.dst.getD 0)-1<(Dp P l m f b).num (y.dst.getD 0)))=(BD (cfg P l m f) x&&E9 (cfg P l m f) y&&decide ((cfg P l m f).num (x.dst.getD 0)-1<(cfg P l m f).num (y.dst.getD 0))):=fun x y=>by
    rw [Bool.and_comm (BD (cfg P l m f) x),e0 y x]
   have e6:∀x,KY (Dp P l m f b) x=KY (cfg P l m f) x:=fun x=>rfl
   have e5:Nh (Dp P l m f b) x y=Nh (cfg P l m f) x y:=by
    unfold Nh
    rw [h5]
    cases hx:E9 (cfg P l m f) x with
    | false=>rfl
    | true =>
     simp only[Bool.true_and]
     split
     ·rename_i t a v _
      have hf:(Dp P l m f b).frz (900000+Dm a)=(cfg P l m f).frz (900000+Dm a):=rfl
      rw [hf,hz2]
      cases hk:((cfg P l m f).num (Dm a) != 0)with
      | false=>simp
      | true =>
       simp only[Bool.and_true]
       congr 1
       have hk0:¬(cfg P l m f).num (Dm a)=0:=by simpa using hk
       rw [hn (Dm a),if_neg hk0,hn (x.dst.getD 0),decide_eq_decide]
       split <;> omega
     ·rfl
   rw [e1,e0,e4,e5,e6,e6]
  simp only[Kb,hc]
 case seq a b iha ihb=>rw[iha,ihb]
 case cond iha ihb=>rw[iha,ihb]
 case block ih=>rw[ih]
 case loop ih=>rw[ih]
 case scope ih=>rw[ih]
end
def stB (st:Store) (n:Nat):Store:=⟨fun i=>if st.next≤i∧i<st.next+n then some (.arr 0 1 [])else st.obj i,st.next+n⟩
theorem QO {ρ:Nat→PV} {st:Store}:∀n,Ghost ⟨ρ,st⟩ ⟨ρ,stB st n⟩
 | 0=>by
  have : stB st 0=st:=by
   unfold stB
   congr 1
   funext i
   rw [if_neg (by omega)]
  rw [this];exact .refl _
 | n+1=>by
  refine .trans (QO n) ?_
  have : stB st (n+1)=(stB st n).new (.arr 0 1 []):=by
   simp only[stB,Store.new]
   congr 1
   funext i
   simp only[Ab]
   by_cases h:i=st.next+n
   ·rw [if_pos (by omega),if_pos h]
   ·rw [if_neg h]
    by_cases h2:st.next≤i∧i<st.next+n
    ·rw [if_pos h2,if_pos (by omega)]
    ·rw [if_neg h2,if_neg (by omega)]
  rw [this]
  exact .res _ 1 (by omega)
theorem Aa2 {P:Program} (hmix:P.follows .mixedOrders=true) {l:AW} (hl:Bv P l) (muts:List Nat) (frz:List Nat) (n:Nat) {f:FuncId} {fn:Func} {c:Code} (hf:P.funcs[f]?=some fn) (hb:fn.body=some c)
  (hname : (fn.name == "runtime.NumGoroutine") = false) {args : List PV} {N : Nat} (hN : fn.ntmps = N) (hn : args.length ≤ N) {rs : List ResultVar} (hrs : fn.results.toList = rs) (hd : Bs (cfg P l muts frz) c = true) {st : Store} {Q : PV → Store → Prop}
  (h : run (Dp P l muts frz st.next) N (Ao P rs Q) (Bo c) [] ⟨GK args,stB st n⟩):IXC P f args st Q:=by
 subst hN;subst hrs
 exact Hn (X:=Dp P l muts frz st.next) rfl (GL hl) (DO hl) hmix hf hb hname hn (QO n) (Dc (A7 rfl) (by rw[gT];exact hd) h)
end Sim
