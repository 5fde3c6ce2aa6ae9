/- Operations, shape by shape. -/
import Derived.Test.YtppljhpecoeakaaSimP
set_option linter.unusedVariables false
set_option linter.unusedSimpArgs false
namespace Sim
open Go
theorem Abo {ρ:Nat→PV} {n:Nat}:AB ρ (.tmp n)=ρ n:=nrfl rfl
theorem Abp {ρ:Nat→PV} {k:IntKind} {n:Int}:AB ρ (.const (.int k n))=.int k n:=nrfl rfl
theorem sX {ρ:Nat→PV} {b:Bool}:AB ρ (.const (.bool b))=.bool b:=nrfl rfl
theorem Abq {ρ:Nat→PV} {s:ByteArray}:AB ρ (.const (.string s))=if s.data.toList.length≤9223372036854775807 then .str s.data.toList else .bad:=nrfl rfl
theorem sY {ρ:Nat→PV}:AB ρ (.const (.slice none 0 0))=.nils:=nrfl rfl
theorem sZ {ρ:Nat→PV}:AB ρ (.const (.pointer none))=.nilp:=nrfl rfl
theorem tA {ρ:Nat→PV}:AB ρ (.const .nilFunc)=.nilf:=nrfl rfl
theorem tB {ρ:Nat→PV}:AB ρ (.const .nilIface)=.nili:=nrfl rfl
theorem Abr {ρ:Nat→PV} {cs:Array Value}:AB ρ (.const (.agg cs))=if (cs.toList.map CR).all PV.isCell then .agg (cs.toList.map CR)else .bad:=nrfl rfl
theorem tC {ρ:Nat→PV} {f:FuncId}:AB ρ (.func f)=.func (.func f) [] []:=nrfl rfl
theorem Abs {k:IntKind} {n:Int}:CR (.int k n)=.int k n:=nrfl rfl
theorem tD {b:Bool}:CR (.bool b)=.bool b:=nrfl rfl
theorem tE:CR (.slice none 0 0)=.nils:=nrfl rfl
theorem Abt {s:ByteArray}:CR (.string s)=if s.data.toList.length≤9223372036854775807 then .str s.data.toList else .bad:=nrfl rfl
def grd (o:Option Nat) (ρ:Nat→PV):PV:=match o with | some d=>ρ d | none=>.bad
theorem Y2 {ops:Array Oper} {ρ:Nat→PV} {j:Nat}:Ds ops ρ j=grd ((ops[j]?).bind (·.dst)) ρ:=nrfl rfl
theorem fF {d:Nat} {ρ:Nat→PV}:grd (some d) ρ=ρ d:=nrfl rfl
section
variable {X:Cfg} {d:Nat} {ρ:Operand→PV} {st:Store}
theorem fG {x:Operand}:iop X d (.move x) ρ st=some (ρ x,st):=nrfl rfl
theorem Vb {x:Operand}:iop X d (.assign x) ρ st=some (ρ x,st):=nrfl rfl
def Og (c a b:PV) (st:Store):Option (PV×Store):=match c with | .bool v=>some (if v then a else b,st) | _=>none
theorem Vc {v:Bool} {a b:PV}:Og (.bool v) a b st=some (if v=true then a else b,st):=nrfl rfl
theorem Vd {a b:PV}:Og (.bool true) a b st=some (a,st):=nrfl rfl
theorem R9 {a b:PV}:Og (.bool false) a b st=some (b,st):=nrfl rfl
theorem fH {c a b:Operand}:iop X d (.pick c a b) ρ st=Og (ρ c) (ρ a) (ρ b) st:=nrfl rfl
theorem Y3 {t:TypeId} (h:X.num d=0):iop X d (.alloc t) ρ st=if 0<X.P.cellsOf t∧(AF X.P t).cells.length=X.P.cellsOf t then some (.ptr st.next 0 0 0,st.new (.arr 0 (X.P.cellsOf t) [AF X.P t]))else none:=by simp[iop,h]
def Agi (X:Cfg) (d:Nat) (cells:List PV) (p:PV) (st:Store):Option (PV×Store) :=
 if 0<cells.length then (if X.muts d then some (.ptr st.next 0 0 0,st.new (.arr 0 cells.length [p]))else some (.vptr cells 0,st))else none
theorem tF {t:TypeId} {x:Operand}:iop X d (.box t x) ρ st=Agi X d (ρ x).cells (ρ x) st:=nrfl rfl
theorem tG {cells:List PV} {p:PV}:Agi X d cells p st=if 0<cells.length then (if X.muts d=true then some (.ptr st.next 0 0 0,st.new (.arr 0 cells.length [p]))else some (.vptr cells 0,st))else none:=nrfl rfl
def evp (ρ:Operand→PV):List (Nat×Operand)→List (Nat×PV)
 | [] => []
 | x::l=>(x.1,ρ x.2)::evp ρ l
theorem fI {i:Nat} {x:Operand} {l:List (Nat×Operand)}:evp ρ ((i,x)::l)=(i,ρ x)::evp ρ l:=nrfl rfl
theorem tH:evp ρ [] = []:=nrfl rfl
theorem fJ {l:List (Nat×Operand)}:(l.map fun (i,x)=>(i,ρ x))=evp ρ l:=by
 induction l with
 | nil=>rfl
 | cons x l ih=>simp only[List.map_cons,evp,ih]
theorem Y5 {t:TypeId} {parts:List (Nat×Operand)}:iop X d (.build t parts.toArray) ρ st=(Ki X.P t (evp ρ parts)).map fun v=>(v,st):=by rw[←fJ];rfl
def Abu (X:Cfg) (d:Nat) (t:TypeId) (len:Nat) (o:Option (List PV)) (st:Store):Option (PV×Store) :=
 if 0<Ae X.P t∧len*Ae X.P t≤16777216 then o.bind fun l=>if X.muts d then (if X.num d=0 then some (.ref st.next 0 0 len,st.new (.arr 0 (Ae X.P t) l))else st.re (X.num d) (Ae X.P t) l len)else some (.lits (Ae X.P t) l,st)else none
theorem Mf {t:TypeId} {len:Nat} {parts:List (Nat×Operand)}:iop X d (.buildSlice t len parts.toArray) ρ st=Abu X d t len (Cj (Ae X.P t) (List.replicate len (AF X.P (BR X.P t))) (evp ρ parts)) st:=by rw[←fJ];rfl
theorem tI {t:TypeId} {len:Nat} {l:List PV}:Abu X d t len (some l) st=if 0<Ae X.P t∧len*Ae X.P t≤16777216 then (if X.muts d=true then (if X.num d=0 then some (.ref st.next 0 0 len,st.new (.arr 0 (Ae X.P t) l))else st.re (X.num d) (Ae X.P t) l len)else some (.lits (Ae X.P t) l,st))else none:=by
 simp only[Abu,Option.bind_some]
theorem Abv {ob:Nat→Option IObj} {nx k z n g z0:Nat} {l es:List PV} (h:ob k=some (.arr g z0 es)):Store.re ⟨ob,nx⟩ (k+1) z l n=some (.ref k (g+1) 0 n,Store.set ⟨ob,nx⟩ k (.arr (g+1) z l)):=by simp[Store.re,h]
theorem ND {k id g s n z:Nat} {l:List PV}:Ef k (.ref id g s n) (.lits z l)=(id==k-1):=nrfl rfl
theorem NE {k id g s n:Nat}:Ef k (.ref id g s n) .nils=(id==k-1):=nrfl rfl
theorem fK {t:TypeId} {x:Operand}:iop X d (.load t x) ρ st=(Bs X.P t).bind fun q=>(Df (X.see d st) q.1 q.2 (ρ x)).map fun v=>(v,st):=nrfl rfl
theorem Y6 {t:TypeId} {a x:Operand}:iop X d (.store t a x) ρ st=if (X.frz (800000+Dg a)=true∧NW st (ρ a) (ρ x)=false)∨(X.frz (900000+Dg a)=true∧NX (X.num (Dg a)) (ρ a)=false)then none else (EM st (X.P.cellsOf t) (ρ a) (ρ x)).map fun st'=>(.bad,st'):=nrfl rfl
theorem Y7 {n:Nat}:Dg (.tmp n)=n:=nrfl rfl
theorem Y8 {k id gen i o:Nat}:NX k (.ptr id gen i o)=(id==k-1):=nrfl rfl
theorem Y9 {id gen i o:Nat} {v:PV}:NW st (.ptr id gen i o) v=(v.isInt1&&match st.arr? id gen with | some q=>decide (q.1≤2)&&q.2.all PV.isInt | none=>false):=nrfl rfl
def WE (p:PV) (st:Store):Option (PV×Store):=match p with | .vptr c o=>some (.vptr c o,st) | .ptr i g x o=>(st.arr? i g).map fun _=>(.ptr i g x o,st) | _=>none
theorem PS {x:Operand}:iop X d (.nilCheck x) ρ st=(WE (ρ x) (X.see d st)).map fun q=>(q.1,st):=by
 simp only[iop];cases ρ x <;> simp[WE];rfl
theorem Ve {c:List PV} {o:Nat}:WE (.vptr c o) st=some (.vptr c o,st):=nrfl rfl
theorem Za {i g x o:Nat}:WE (.ptr i g x o) st=(st.arr? i g).map fun _=>(.ptr i g x o,st):=nrfl rfl
theorem Zb {op:BinOp} {t:TypeId} {x y:Operand} {z:TypeId}:iop X d (.binOp op t x y z) ρ st=(BJ X.P op t (ρ x) (ρ y)).map fun v=>(v,st):=nrfl rfl
theorem fL {op:UnOp} {t:TypeId} {x:Operand}:iop X d (.unOp op t x) ρ st=(unP op (ρ x)).map fun v=>(v,st):=nrfl rfl
theorem Sa {s t:TypeId} {x:Operand}:iop X d (.convert s t x) ρ st=(NV X.P s t (ρ x)).map fun v=>(v,st):=nrfl rfl
def evs (ρ:Operand→PV):List Operand→List PV
 | [] => []
 | x::l=>ρ x::evs ρ l
theorem fM {x:Operand} {l:List Operand}:evs ρ (x::l)=ρ x::evs ρ l:=nrfl rfl
theorem tJ:evs ρ [] = []:=nrfl rfl
theorem IP {l:List Operand}:l.map ρ=evs ρ l:=by
 induction l with
 | nil=>rfl
 | cons x l ih=>simp only[List.map_cons,evs,ih]
theorem PT {fn:Fn} {a b:List Operand}:iop X d (.makeFunc fn a.toArray b.toArray) ρ st=some (.func fn (evs ρ a) (evs ρ b),st):=by rw[←IP,←IP];rfl
def Sb (X:Cfg) (d:Nat) (t:TypeId) (a b:PV) (st:Store):Option (PV×Store) :=
 match a,b with
 | .int .i64 n,.int .i64 m=>if 0≤n∧n≤m∧m≤4294967296∧0<Ae X.P t then (if X.num d=0 then (if X.frz d=true then some (.lits (Ae X.P t) (List.replicate n.toNat (AF X.P (BR X.P t))),st)else some (.ref st.next 0 0 n.toNat,st.new (.arr 0 (Ae X.P t) (List.replicate n.toNat (AF X.P (BR X.P t))))))else st.re (X.num d) (Ae X.P t) (List.replicate n.toNat (AF X.P (BR X.P t))) n.toNat)else none
 | _,_=>none
theorem NF {t:TypeId} {l c:Operand}:iop X d (.makeSlice t l c) ρ st=Sb X d t (ρ l) (ρ c) st:=by
 simp only[iop,Sb]
 cases ρ l <;> try rfl
theorem fN {t:TypeId} {n m:Int} (h:X.num d=0) (hf:X.frz d=false):Sb X d t (.int .i64 n) (.int .i64 m) st=if 0≤n∧n≤m∧m≤4294967296∧0<Ae X.P t then some (.ref st.next 0 0 n.toNat,st.new (.arr 0 (Ae X.P t) (List.replicate n.toNat (AF X.P (BR X.P t)))))else none:=by simp[Sb,h,hf]
theorem fO {t:TypeId} {n m:Int} (h:X.num d=0) (hf:X.frz d=true):Sb X d t (.int .i64 n) (.int .i64 m) st=if 0≤n∧n≤m∧m≤4294967296∧0<Ae X.P t then some (.lits (Ae X.P t) (List.replicate n.toNat (AF X.P (BR X.P t))),st)else none:=by simp[Sb,h,hf]
theorem tK {t:TypeId} {n m:Int} {k:Nat} (h:X.num d=k+1):Sb X d t (.int .i64 n) (.int .i64 m) st=if 0≤n∧n≤m∧m≤4294967296∧0<Ae X.P t then st.re (k+1) (Ae X.P t) (List.replicate n.toNat (AF X.P (BR X.P t))) n.toNat else none:=by simp[Sb,h]
def fP (X:Cfg) (d:Nat) (t:TypeId) (p:PV) (l h:Option (Option Int)) (st:Store):Option (PV×Store) :=
 if X.muts d=true then (match l,h with | none,none=>X8 X.P st t p | _,_=>none)else
 match l,h with
 | some none,_ | _,some none=>none
 | l,h=>(Ci (X.see d st) (Ae X.P t) (AT X.P t) (BH X.P t) p (l.bind id) (h.bind id)).map fun v=>(v,st)
theorem Zc {t:TypeId} {x:Operand} {lo hi:Option Operand}:iop X d (.slice t x lo hi none) ρ st=fP X d t (ρ x) (lo.map fun o=>CT (ρ o)) (hi.map fun o=>CT (ρ o)) st:=by
 cases lo <;> cases hi <;> rfl
theorem Vf {k:IntKind} {n:Int}:CT (.int k n)=some n:=nrfl rfl
theorem tL {t:TypeId} {p:PV}:fP X d t p none none st=if X.muts d=true then X8 X.P st t p else (Ci (X.see d st) (Ae X.P t) (AT X.P t) (BH X.P t) p none none).map fun v=>(v,st):=nrfl rfl
theorem tM {t:TypeId} {p:PV} {n:Int}:fP X d t p (some (some n)) none st=if X.muts d=true then none else (Ci (X.see d st) (Ae X.P t) (AT X.P t) (BH X.P t) p (some n) none).map fun v=>(v,st):=nrfl rfl
theorem tO {t:TypeId} {p:PV} {m:Int}:fP X d t p none (some (some m)) st=if X.muts d=true then none else (Ci (X.see d st) (Ae X.P t) (AT X.P t) (BH X.P t) p none (some m)).map fun v=>(v,st):=nrfl rfl
theorem tP {t:TypeId} {p:PV} {n m:Int}:fP X d t p (some (some n)) (some (some m)) st=if X.muts d=true then none else (Ci (X.see d st) (Ae X.P t) (AT X.P t) (BH X.P t) p (some n) (some m)).map fun v=>(v,st):=nrfl rfl
theorem NG {t:TypeId} {x:Operand} {f:Nat}:iop X d (.fieldAddr t x f) ρ st=(A9 X.P t f).bind fun q=>if 0<q.2.1 then (CS (X.see d st) (ρ x) q.1).map fun v=>(v,st)else none:=nrfl rfl
theorem Abw {e:Nat}:X.see e st=if X.frz e=true then⟨fun _=>none,0⟩else if X.frz (600000+e)=true then st.past (X.num e)else if X.frz (700000+e)=true then st.hard else st:=nrfl rfl
theorem tQ:st.hard=⟨fun i=>(st.obj i).bind fun o=>if Gy o=true then none else some o,st.next⟩:=nrfl rfl
theorem fQ {g z:Nat} {es:List PV}:Gy (.arr g z es)=(decide (z≤2)&&es.all PV.isInt):=nrfl rfl
theorem Vg {k:IntKind} {n:Int}:PV.isInt1 (.int k n)=true:=nrfl rfl
theorem Vh {i g s n:Nat}:PV.isInt1 (.ref i g s n)=false:=nrfl rfl
theorem Zd {i g s n:Nat}:PV.isInt (.ref i g s n)=false:=nrfl rfl
theorem Ze {cs:List PV}:PV.isInt (.agg cs)=cs.all PV.isInt1:=nrfl rfl
theorem Zf {id gen s n z:Nat} {l:List PV}:LK st (.ref id gen s n) (.lits z l)=(l.all PV.isInt&&match st.arr? id gen with | some q=>decide (q.1≤2)&&q.2.all PV.isInt | none=>false):=nrfl rfl
theorem Zg {k:IntKind} {n:Int}:PV.isInt (.int k n)=true:=nrfl rfl
theorem fR {l:List Int} {k:IntKind}:(l.map (PV.int k)).all PV.isInt=true:=by simp[PV.isInt]
theorem Zh {x:Operand} {m:String} {as:List Operand} {ts:List TypeId}:iop X d (.call ⟨.invoke x m,as.toArray,ts.toArray⟩) ρ st=(cI X.P st (ρ x) m).bind fun q=>Dz X d (.func (.func q.1) [q.2] []) (Ph X d ts) (evs ρ as) st:=by rw[←IP];rfl
theorem Vi {P:Program} {t:TypeId} {v:PV} {m:String}:cI P st (.iface t v) m=(Jg P t m).bind fun q=>if q.2.1=true then some (q.1,v)else (Bs P q.2.2).bind fun r=>(Df st r.1 r.2 v).map fun r=>(q.1,r):=nrfl rfl
def Ku (P:Program) (t:TypeId):Bool := !Jd P t&&(P.underlying t).isSome
theorem Jx {t:TypeId} {x:Operand} (h:Ku X.P t=true):iop X d (.makeInterface t x) ρ st=some (.iface t (ρ x),st):=by
 simp only[Ku,Bool.and_eq_true,Bool.not_eq_true']at h
 simp only[iop,h,and_self,if_true]
def asT (t:TypeId) (p:PV) (st:Store):Option (PV×Store):=match p with | .iface t' v=>if t'=t then some (v,st)else none | _=>none
theorem Mg {x:Operand} {xt t:TypeId} (h:Ku X.P t=true):iop X d (.typeAssert x xt t false) ρ st=asT t (ρ x) st:=by
 simp only[Ku,Bool.and_eq_true,Bool.not_eq_true']at h
 simp only[iop,h,and_true,asT]
 cases ρ x <;> rfl
theorem fS {t:TypeId} {v:PV}:asT t (.iface t v) st=some (v,st):=by simp[asT]
theorem tR {k:Nat}:st.past k=⟨fun i=>if i<k then none else st.obj i,st.next⟩:=nrfl rfl
def Agj (X:Cfg) (t:TypeId) (p:PV) (f:Nat) (st:Store):Option (PV×Store):=match p with | .agg cs=>(A9 X.P t f).bind fun (o,_,u)=>(Bs X.P u).bind fun (z,ag)=>(CB cs o z ag).map fun v=>(v,st) | _=>none
theorem Zi {t:TypeId} {x:Operand} {f:Nat}:iop X d (.field t x f) ρ st=Agj X t (ρ x) f st:=nrfl rfl
theorem fT {t:TypeId} {cs:List PV} {f:Nat}:Agj X t (.agg cs) f st=(A9 X.P t f).bind fun q=>(Bs X.P q.2.2).bind fun r=>(CB cs q.1 r.1 r.2).map fun v=>(v,st):=nrfl rfl
def Agk (X:Cfg) (d:Nat) (t:TypeId) (p i:PV) (st:Store):Option (PV×Store):=match i with | .int _ n=>(Cr X.P (X.see d st) t p n).map fun v=>(v,st) | _=>none
theorem NH {t:TypeId} {x i:Operand}:iop X d (.indexAddr t x i) ρ st=Agk X d t (ρ x) (ρ i) st:=nrfl rfl
theorem fU {t:TypeId} {p:PV} {k:IntKind} {n:Int}:Agk X d t p (.int k n) st=(Cr X.P (X.see d st) t p n).map fun v=>(v,st):=nrfl rfl
def Agl (X:Cfg) (t:TypeId) (p i:PV) (st:Store):Option (PV×Store):=match i with | .int _ n=>(Iz X.P t p n).map fun v=>(v,st) | _=>none
theorem Zj {t:TypeId} {x i:Operand}:iop X d (.index t x i) ρ st=Agl X t (ρ x) (ρ i) st:=nrfl rfl
theorem fV {t:TypeId} {p:PV} {k:IntKind} {n:Int}:Agl X t p (.int k n) st=(Iz X.P t p n).map fun v=>(v,st):=nrfl rfl
def Agm (p:PV) (i:Nat) (st:Store):Option (PV×Store):=match p with | .tuple vs=>(vs[i]?).map fun v=>(v,st) | _=>none
theorem Sc {x:Operand} {i:Nat}:iop X d (.extract x i) ρ st=Agm (ρ x) i st:=nrfl rfl
theorem Vj {vs:List PV} {i:Nat}:Agm (.tuple vs) i st=(vs[i]?).map fun v=>(v,st):=nrfl rfl
theorem Kv {f:Operand} {as:List Operand} {ts:List TypeId}:iop X d (.call ⟨.value f,as.toArray,ts.toArray⟩) ρ st=Dz X d (ρ f) (Ph X d ts) (evs ρ as) st:=by rw[←IP];rfl
theorem Zk {b:Builtin} {as:List Operand} {ts:List TypeId}:iop X d (.call ⟨.builtin b,as.toArray,ts.toArray⟩) ρ st=Bd X d b ts (evs ρ as) st:=by rw[←IP];rfl
def Abx (X:Cfg) (f:Nat) (l:List PV) (st:Store):Option (PV×Store):=(BY (st.only (DM l)) l).bind fun as=>X.tab f as (st.without (DM l))
def Aby (X:Cfg) (f:Nat) (l:List PV) (st:Store):Option (PV×Store):=(BY (st.only (DM l)) l).bind fun as=>X.tab f as (st.seal (DM l))
def Abz (X:Cfg) (f k:Nat) (l:List PV) (st:Store):Option (PV×Store):=if (DM l).all (fun i=>i==k)=true then (BY (st.only [k]) l).bind fun as=>X.tab f as (st.again k)else none
theorem fW {f:Nat} {a b:List PV} {ts:List TypeId} {args:List PV}:Dz X d (.func (.func f) a b) ts args st=if X.frz d=true then (if X.num d=0 then Abx X f (a++nrmAll X.P ts args++b) st else if X.muts d=true then Abz X f (X.num d-1) (a++nrmAll X.P ts args++b) st else Aby X f (a++nrmAll X.P ts args++b) st)else if X.muts d=true∧(AU (a++nrmAll X.P ts args++b)=false∨(X.frz (1200000+d)=true∧X.quiet f=false))then none else X.tab f (a++nrmAll X.P ts args++b) st:=by
 simp only[Dz,Abx,Aby,Abz]
 by_cases h1:X.frz d=true <;> by_cases h2:X.num d=0 <;> by_cases h3:X.muts d=true <;> simp[h1,h2,h3]
theorem tS {ts:List TypeId}:Ph X d ts=if X.frz (400000+d)=true then []else ts:=nrfl rfl
theorem Sd {P:Program} {t:TypeId} {ts:List TypeId} {p:PV} {l:List PV}:nrmAll P (t::ts) (p::l)=nrm (Bt P t) p::nrmAll P ts l:=nrfl rfl
theorem Vk {P:Program} {l:List PV}:nrmAll P [] l=l:=by simp[nrmAll]
def Zl (st:Store) (q:Option (MK×PV)) (L:Option Int) (x:PV):Option Int:=match q with | some q=>GR st (some q) x | none=>L
theorem Ab0 {t:TypeId} {x:PV}:Bd X d .len [t] [x] st=(Zl st (A3 X.P t) (Je (X.see d st) (Ae X.P t) (AT X.P t) x) x).map fun n=>(.int .i64 n,st):=by simp only[Bd,Zl];cases A3 X.P t <;> rfl
theorem Zm {L:Option Int} {x:PV}:Zl st none L x=L:=nrfl rfl
theorem tT {t u:TypeId} {x y:PV}:Bd X d .copy [t,u] [x,y] st=(Q4 st (Ae X.P t) x y).map fun q=>(.int .i64 q.1,q.2):=nrfl rfl
theorem Zn {t u:TypeId} {x y:PV} (h:X.num d=0):Bd X d .append [t,u] [x,y] st=if Ae X.P u≠0∨AT X.P u=true then (if X.frz (700000+d)=true∧LK st x y=false then none else (Ch st (Ae X.P t) y).bind fun ys=>Cq st (Ae X.P t) x ys)else none:=by
 simp only[Bd,h]
 by_cases h1:Ae X.P u≠0∨AT X.P u=true <;> by_cases h2:X.frz (700000+d)=true <;> cases h3:LK st x y <;> simp[h1,h2]
theorem PU {t u:TypeId} {x y:PV} {k:Nat} (h:X.num d=k+1):Bd X d .append [t,u] [x,y] st=if Ef (k+1) x y=true then (if Ae X.P u≠0∨AT X.P u=true then (if X.frz (700000+d)=true then none else (Ch st (Ae X.P t) y).bind fun ys=>Cq st (Ae X.P t) x ys)else none)else none:=by
 simp only[Bd,h]
 by_cases h1:Ef (k+1) x y=true <;> by_cases h2:Ae X.P u≠0∨AT X.P u=true <;> by_cases h3:X.frz (700000+d)=true <;> simp[h1,h2,h3]
theorem Ab1 {ts:List TypeId} {x y:Int} {k:IntKind}:Bd X d .min ts [.int k x,.int k y] st=some (.int k (if y<x then y else x),st):=by
 cases ts with
 | nil=>simp[Bd,Fg]
 | cons t ts=>cases ts <;> simp[Bd,Fg]
theorem Ab2 {ts:List TypeId} {x y:Int} {k:IntKind}:Bd X d .max ts [.int k x,.int k y] st=some (.int k (if x<y then y else x),st):=by
 cases ts with
 | nil=>simp[Bd,Fg]
 | cons t ts=>cases ts <;> simp[Bd,Fg]
end
theorem tU {m:List (Nat×Nat)} {cs:List PV}:nrm m (.agg cs)=.agg (Jf m 0 cs):=nrfl rfl
theorem Zo {m:List (Nat×Nat)} {i:Nat} {c:PV} {l:List PV}:Jf m i (c::l)=nrm1 (m.lookup i) c::Jf m (i+1) l:=nrfl rfl
theorem fX {m:List (Nat×Nat)} {i:Nat}:Jf m i [] = []:=nrfl rfl
theorem fY {m:List (Nat×Nat)}:nrm m .nils=nrm1 (m.lookup 0) .nils:=nrfl rfl
theorem Zp {z:Nat}:nrm1 (some z) .nils=.lits z []:=nrfl rfl
theorem Zq:nrm1 none .nils=.nils:=nrfl rfl
theorem tV {p:PV}:nrm1 none p=p:=by cases p <;> rfl
theorem Ab3 {p:PV}:nrm [] p=p:=by
 cases p <;> try rfl
 rename_i cs
 simp only[nrm,PV.agg.injEq]
 have : ∀(l:List PV) (i:Nat),Jf [] i l=l:=by
  intro l;induction l with
  | nil=>intro i;rfl
  | cons c l ih=>intro i;simp only[Jf,ih,List.lookup_nil,tV]
 exact this cs 0
theorem tW {m:List (Nat×Nat)} {k:IntKind} {n:Int}:nrm m (.int k n)=.int k n:=nrfl rfl
theorem tX {m:List (Nat×Nat)} {s:List UInt8}:nrm m (.str s)=.str s:=nrfl rfl
theorem fZ {m:List (Nat×Nat)} {b:Bool}:nrm m (.bool b)=.bool b:=nrfl rfl
theorem gB {m:List (Nat×Nat)} {z:Nat} {l:List PV}:nrm m (.lits z l)=.lits z l:=nrfl rfl
theorem tY {m:List (Nat×Nat)} {i g s n:Nat}:nrm m (.ref i g s n)=.ref i g s n:=nrfl rfl
theorem gC {m:List (Nat×Nat)} {f:Fn} {a b:List PV}:nrm m (.func f a b)=.func f a b:=nrfl rfl
theorem gD {m:List (Nat×Nat)} {cs:List PV} {o:Nat}:nrm m (.vptr cs o)=.vptr cs o:=nrfl rfl
theorem tZ {m:List (Nat×Nat)} {i g x o:Nat}:nrm m (.ptr i g x o)=.ptr i g x o:=nrfl rfl
theorem gE {m:Option Nat} {k:IntKind} {n:Int}:nrm1 m (.int k n)=.int k n:=nrfl rfl
theorem gF {m:Option Nat} {s:List UInt8}:nrm1 m (.str s)=.str s:=nrfl rfl
theorem Zr {m:Option Nat} {b:Bool}:nrm1 m (.bool b)=.bool b:=nrfl rfl
theorem Zs {m:Option Nat} {z:Nat} {l:List PV}:nrm1 m (.lits z l)=.lits z l:=nrfl rfl
theorem gG {m:Option Nat} {i g s n:Nat}:nrm1 m (.ref i g s n)=.ref i g s n:=nrfl rfl
section
variable {st:Store}
def Ab4 (o:Option IObj) (gen:Nat):Option (Nat×List PV):=match o with | some (.arr g z es)=>if gen=g then some (z,es)else none | _=>none
theorem Ab5 {id g:Nat}:st.arr? id g=Ab4 (st.obj id) g:=nrfl rfl
theorem Zt {g h z:Nat} {es:List PV}:Ab4 (some (.arr h z es)) g=if g=h then some (z,es)else none:=nrfl rfl
theorem uA {cells:List PV} {off sz:Nat}:CB cells off sz false=cells[off]?:=nrfl rfl
theorem uB {cells:List PV} {off sz:Nat}:CB cells off sz true=if off+sz≤cells.length then some (.agg ((cells.drop off).take sz))else none:=nrfl rfl
theorem Vl {sz off:Nat} {ag:Bool} {cells:List PV}:Df st sz ag (.vptr cells off)=CB cells off sz ag:=nrfl rfl
theorem Zu {sz off id gen idx:Nat} {ag:Bool}:Df st sz ag (.ptr id gen idx off)=(st.arr? id gen).bind fun q=>CB (nth q.2 idx).cells off sz ag:=nrfl rfl
theorem PX {cs vs:List PV} {o:Nat}:A6 (.agg cs) o vs=.agg (Dr cs o vs):=nrfl rfl
theorem PY {k:IntKind} {n:Int} {v:PV} {o:Nat}:A6 (.int k n) o [v]=v:=nrfl rfl
theorem NI {b:Bool} {v:PV} {o:Nat}:A6 (.bool b) o [v]=v:=nrfl rfl
theorem NJ {v:PV} {o:Nat}:A6 .nils o [v]=v:=nrfl rfl
theorem PZ {i g s n:Nat} {v:PV} {o:Nat}:A6 (.ref i g s n) o [v]=v:=nrfl rfl
theorem Vm {sz id gen idx off:Nat} {v:PV}:EM st sz (.ptr id gen idx off) v=(st.arr? id gen).bind fun q=>if v.cells.length=sz∧0<sz∧idx<q.2.length∧off+sz≤q.1 then some (st.set id (.arr gen q.1 (q.2.set idx (A6 (nth q.2 idx) off v.cells))))else none:=nrfl rfl
theorem Se {cells:List PV} {off o:Nat}:CS st (.vptr cells off) o=some (.vptr cells (off+o)):=nrfl rfl
theorem Vn {id gen idx off o:Nat}:CS st (.ptr id gen idx off) o=(st.arr? id gen).map fun _=>.ptr id gen idx (off+o):=nrfl rfl
variable {P:Program} {t:TypeId} {i:Int}
theorem Sf {z:Nat} {l:List PV}:Cr P st t (.lits z l) i=if 0≤i∧i<l.length∧z=Ae P t∧0<z then some (.vptr (nth l i.toNat).cells 0)else none:=nrfl rfl
theorem Vo {id gen s n:Nat}:Cr P st t (.ref id gen s n) i=(st.arr? id gen).bind fun q=>if 0≤i∧i<n∧s+n≤q.2.length∧q.1=Ae P t then some (.ptr id gen (s+i.toNat) 0)else none:=nrfl rfl
theorem Sg {cells:List PV} {off:Nat}:Cr P st t (.vptr cells off) i=(BH P t).bind fun q=>if 0≤i∧i<q.1∧0<q.2 then some (.vptr cells (off+i.toNat*q.2))else none:=nrfl rfl
theorem Vp {id gen idx off:Nat}:Cr P st t (.ptr id gen idx off) i=(st.arr? id gen).bind fun _=>(BH P t).bind fun q=>if 0≤i∧i<q.1∧0<q.2 then some (.ptr id gen idx (off+i.toNat*q.2))else none:=nrfl rfl
theorem Vq {s:List UInt8}:Iz P t (.str s) i=if 0≤i∧i<s.length∧AT P t=true then some (.int .u8 (s.getD i.toNat 0).toNat)else none:=nrfl rfl
theorem Vr {cs:List PV}:Iz P t (.agg cs) i=(Kh P t).bind fun q=>(Bs P q.2).bind fun r=>if 0≤i∧i<q.1 then CB cs (i.toNat*r.1) r.1 r.2 else none:=nrfl rfl
variable {z:Nat} {sb:Bool}
theorem Zv:Je st z sb .nils=if 0<z then some 0 else none:=nrfl rfl
theorem Zw {y:Nat} {l:List PV}:Je st z sb (.lits y l)=if 0<z then some (l.length:Int)else none:=nrfl rfl
theorem gH {id g s n:Nat}:Je st z sb (.ref id g s n)=(st.arr? id g).bind fun _=>if 0<z then some (n:Int)else none:=nrfl rfl
theorem gI {s:List UInt8}:Je st z sb (.str s)=if sb=true then some (s.length:Int)else none:=nrfl rfl
theorem Sh:Ch st z .nils=some []:=nrfl rfl
theorem Si {y:Nat} {l:List PV}:Ch st z (.lits y l)=if y=z then some l else none:=nrfl rfl
theorem Vs {id gen s n:Nat}:Ch st z (.ref id gen s n)=(st.arr? id gen).bind fun q=>if s+n≤q.2.length∧q.1=z then some ((q.2.drop s).take n)else none:=nrfl rfl
theorem Vt {s:List UInt8}:Ch st z (.str s)=if z=1 then some (s.map fun b=>.int .u8 b.toNat)else none:=nrfl rfl
theorem Sj {lo hi:Option Int} {ar:Option (Nat×Nat)}:Ci st z sb ar .nils lo hi=if lo.getD 0=0∧hi.getD 0=0∧0<z then some .nils else none:=nrfl rfl
theorem Sk {y:Nat} {l:List PV} {lo hi:Option Int} {ar:Option (Nat×Nat)}:Ci st z sb ar (.lits y l) lo hi=if 0≤lo.getD 0∧lo.getD 0≤hi.getD l.length∧hi.getD l.length≤l.length∧y=z∧0<z then some (.lits z ((l.drop (lo.getD 0).toNat).take ((hi.getD l.length).toNat-(lo.getD 0).toNat)))else none:=nrfl rfl
theorem Vu {id gen s n:Nat} {lo hi:Option Int} {ar:Option (Nat×Nat)}:Ci st z sb ar (.ref id gen s n) lo hi=(st.arr? id gen).bind fun q=>if 0≤lo.getD 0∧lo.getD 0≤hi.getD n∧hi.getD n≤(q.2.length:Int)-s∧s≤q.2.length∧q.1=z then some (.ref id gen (s+(lo.getD 0).toNat) ((hi.getD n).toNat-(lo.getD 0).toNat))else none:=nrfl rfl
theorem Sl {cs:List PV} {off:Nat} {lo hi:Option Int} {ar:Option (Nat×Nat)}:Ci st z sb ar (.vptr cs off) lo hi=ar.bind fun a=>if a.2=1∧lo=none∧hi=none∧off+a.1≤cs.length∧0<a.1∧a.1≤65536 then some (.lits 1 ((cs.drop off).take a.1))else none:=nrfl rfl
theorem gJ {P:Program} {t:TypeId} {id gen idx off:Nat}:X8 P st t (.ptr id gen idx off)=(st.arr? id gen).bind fun q=>(BH P t).bind fun a=>if a.2=1∧idx<q.2.length∧AU q.2=true∧off+a.1≤(nth q.2 idx).cells.length∧0<a.1∧a.1≤65536 then some (.lits 1 (((nth q.2 idx).cells.drop off).take a.1),st.without [id])else none:=nrfl rfl
theorem Vv {s:List UInt8} {lo hi:Option Int} {ar:Option (Nat×Nat)}:Ci st z sb ar (.str s) lo hi=if 0≤lo.getD 0∧lo.getD 0≤hi.getD s.length∧hi.getD s.length≤s.length∧sb=true then some (.str ((s.drop (lo.getD 0).toNat).take ((hi.getD s.length).toNat-(lo.getD 0).toNat)))else none:=nrfl rfl
theorem P1 {ys:List PV}:Cq st z .nils ys=if 0<z∧ys.length≤2147483648 then (if ys.length=0 then some (.nils,st)else some (.ref st.next 0 0 ys.length,st.new (.arr 0 z ys)))else none:=nrfl rfl
theorem Sm {id gen s n:Nat} {ys:List PV}:Cq st z (.ref id gen s n) ys=(st.arr? id gen).bind fun q =>
   if s+n≤q.2.length∧q.1=z∧n+ys.length≤2147483648 then
    if s+n+ys.length≤q.2.length then
     some (.ref id gen s (n+ys.length),st.set id (.arr gen z (q.2.take (s+n)++ys++q.2.drop (s+n+ys.length))))
    else some (.ref id (gen+1) 0 (n+ys.length),st.set id (.arr (gen+1) z ((q.2.drop s).take n++ys)))
   else none:=rfl
end
section
variable {P:Program} {t:TypeId} {k k':IntKind} {a b:Int}
theorem Agn:BJ P .add t (.int k a) (.int k b)=some (.int k (k.wrap (a+b))):=by simp[BJ,GI,GH]
theorem Ago:BJ P .sub t (.int k a) (.int k b)=some (.int k (k.wrap (a-b))):=by simp[BJ,GI,GH]
theorem Agp:BJ P .mul t (.int k a) (.int k b)=some (.int k (k.wrap (a*b))):=by simp[BJ,GI,GH]
theorem Agq:BJ P .quo t (.int k a) (.int k b)=if b=0 then none else some (.int k (k.wrap (a.tdiv b))):=by simp[BJ,GI,GH]
theorem Agr:BJ P .rem t (.int k a) (.int k b)=if b=0 then none else some (.int k (a.tmod b)):=by simp[BJ,GI,GH]
theorem Ags:BJ P .and t (.int k a) (.int k b)=(Cs .and k a b).map (.int k):=by simp[BJ,GI,GH]
theorem Aig:BJ P .or t (.int k a) (.int k b)=(Cs .or k a b).map (.int k):=by simp[BJ,GI,GH]
theorem Agt:BJ P .xor t (.int k a) (.int k b)=(Cs .xor k a b).map (.int k):=by simp[BJ,GI,GH]
theorem gL:BJ P .andNot t (.int k a) (.int k b)=(Cs .andNot k a b).map (.int k):=by simp[BJ,GI,GH]
theorem Agu:BJ P .eql t (.int k a) (.int k b)=some (.bool (decide (a=b))):=by simp[BJ,GI,GH]
theorem Agv:BJ P .neq t (.int k a) (.int k b)=some (.bool (decide (¬a=b))):=by simp[BJ,GI,GH]
theorem Agw:BJ P .lss t (.int k a) (.int k b)=some (.bool (decide (a<b))):=by simp[BJ,GI,GH]
theorem Agx:BJ P .leq t (.int k a) (.int k b)=some (.bool (decide (a≤b))):=by simp[BJ,GI,GH]
theorem Agy:BJ P .gtr t (.int k a) (.int k b)=some (.bool (decide (b<a))):=by simp[BJ,GI,GH]
theorem Agz:BJ P .geq t (.int k a) (.int k b)=some (.bool (decide (b≤a))):=by simp[BJ,GI,GH]
theorem Ag0:BJ P .shl t (.int k a) (.int k' b)=if b<0 then none else some (.int k (k.wrap (a*2 ^ (min b.toNat k.bits)))):=nrfl rfl
theorem Ag1:BJ P .shr t (.int k a) (.int k' b)=if b<0 then none else some (.int k (a.fdiv (2 ^ (min b.toNat k.bits)))):=nrfl rfl
variable {s u:List UInt8}
theorem Ab6:BJ P .add t (.str s) (.str u)=if s.length+u.length≤2147483648 then some (.str (s++u))else none:=nrfl rfl
theorem Ab7:BJ P .eql t (.str s) (.str u)=some (.bool (decide (s=u))):=nrfl rfl
theorem Ab8:BJ P .neq t (.str s) (.str u)=some (.bool (decide (¬s=u))):=nrfl rfl
theorem Ab9:BJ P .lss t (.str s) (.str u)=some (.bool (Op.bytesLess s u)):=nrfl rfl
theorem Aca:BJ P .leq t (.str s) (.str u)=some (.bool (Op.bytesLess s u||decide (s=u))):=nrfl rfl
theorem Acb:BJ P .gtr t (.str s) (.str u)=some (.bool !(Op.bytesLess s u||decide (s=u))):=nrfl rfl
theorem Acc:BJ P .geq t (.str s) (.str u)=some (.bool !(Op.bytesLess s u)):=nrfl rfl
variable {x y:Bool}
theorem Acd:BJ P .eql t (.bool x) (.bool y)=if GQ P t=true then some (.bool (x==y))else none:=nrfl rfl
theorem Ace:BJ P .neq t (.bool x) (.bool y)=if GQ P t=true then some (.bool (!(x==y)))else none:=nrfl rfl
theorem Ag2:unP .neg (.int k a)=some (.int k (k.wrap (0-a))):=nrfl rfl
theorem Ag3:unP .not (.bool x)=some (.bool (!x)):=nrfl rfl
theorem Acf {src dst:TypeId}:NV P src dst (.int k a)=(Ff P dst).bind fun k=>(Ff P src).bind fun _=>some (.int k (k.wrap a)):=nrfl rfl
theorem Acg {src dst:TypeId}:NV P src dst (.str s)=if AT P src=true∧AT P dst=true then some (.str s)else none:=nrfl rfl
end
theorem gM {place:Nat→Option (Nat×Nat)} {cells:List PV}:EO place cells []=some cells:=nrfl rfl
def gQ (place:Nat→Option (Nat×Nat)) (cells vs:List PV) (rest:List (Nat×PV)) (o:Option (Nat×Nat)):Option (List PV) :=
 match o with | none=>none | some q=>if vs.length=q.2∧q.1+q.2≤cells.length∧0<q.2 then EO place (Dr cells q.1 vs) rest else none
theorem Zx {place:Nat→Option (Nat×Nat)} {cells:List PV} {i:Nat} {v:PV} {rest:List (Nat×PV)}:EO place cells ((i,v)::rest)=gQ place cells v.cells rest (place i):=by
 simp only[EO,gQ];cases place i <;> rfl
theorem Vw {place:Nat→Option (Nat×Nat)} {cells vs:List PV} {rest:List (Nat×PV)} {q:Nat×Nat}:gQ place cells vs rest (some q)=if vs.length=q.2∧q.1+q.2≤cells.length∧0<q.2 then EO place (Dr cells q.1 vs) rest else none:=nrfl rfl
def uC (P:Program) (t:TypeId) (cells:List PV) (parts:List (Nat×PV)) (o:Option (Nat×Nat)):Option PV :=
 match o with
 | some q=>(EO (fun i=>some (i*q.2,q.2)) cells parts).map .agg
 | none=>(EO (fun i=>(A9 P t i).map fun q=>(q.1,q.2.1)) cells parts).map .agg
theorem Zy {P:Program} {t:TypeId} {parts:List (Nat×PV)}:Ki P t parts=if Cd P t=true then uC P t (AF P t).cells parts (BH P t)else none:=by
 simp only[Ki,uC];cases BH P t <;> rfl
theorem Zz {P:Program} {t:TypeId} {cells:List PV} {parts:List (Nat×PV)}:uC P t cells parts none=(EO (fun i=>(A9 P t i).map fun q=>(q.1,q.2.1)) cells parts).map .agg:=nrfl rfl
theorem ZA {P:Program} {t:TypeId} {cells:List PV} {parts:List (Nat×PV)} {q:Nat×Nat}:uC P t cells parts (some q)=(EO (fun i=>some (i*q.2,q.2)) cells parts).map .agg:=nrfl rfl
theorem uD {z:Nat} {l:List PV}:Cj z l []=some l:=nrfl rfl
theorem gR {z i:Nat} {l:List PV} {v:PV} {rest:List (Nat×PV)}:Cj z l ((i,v)::rest)=if i<l.length∧v.cells.length=z then Cj z (l.set i v) rest else none:=nrfl rfl
theorem ZB {cells vs:List PV} {off:Nat}:Dr cells off vs=cells.take off++vs++cells.drop (off+vs.length):=nrfl rfl
theorem uE {args:List PV} {t:Nat}:Fv args t=args.getD t .bad:=nrfl rfl
def gT:Option (List PV)→Option PV
 | some [p]=>some p
 | some ps=>some (.tuple ps)
 | none=>none
theorem uF {P:Program} {rs:List ResultVar} {s:IState}:PG P rs s=gT (Do P s rs):=by
 unfold PG;cases Do P s rs with
 | none=>rfl
 | some l=>cases l with
  | nil=>rfl
  | cons a l=>cases l <;> rfl
theorem uG {p:PV}:gT (some [p])=some p:=nrfl rfl
theorem uH {p q:PV} {l:List PV}:gT (some (p::q::l))=some (.tuple (p::q::l)):=nrfl rfl
theorem Sn {P:Program} {s:IState}:Do P s []=some []:=nrfl rfl
theorem P3 {P:Program} {s:IState} {r:ResultVar} {l:List ResultVar}:Do P s (r::l)=(Gg P s r).bind fun p=>(Do P s l).map fun ps=>p::ps:=nrfl rfl
theorem So {P:Program} {s:IState} {t:Nat}:Gg P s (.tmp t)=some (s.env t):=nrfl rfl
theorem P4 {P:Program} {s:IState} {a:Nat} {t:TypeId}:Gg P s (.cell a t)=(Bs P t).bind fun q=>Df s.st q.1 q.2 (s.env a):=nrfl rfl
theorem Ar {α β:Type} {x y:Option α} {f:α→Option β} (h:x=y):x.bind f=y.bind f:=by rw[h]
theorem Av {α β:Type} {x y:Option α} {f:α→β} (h:x=y):x.map f=y.map f:=by rw[h]
theorem uI {X:Cfg} {f k:Nat} {l:List PV} {st:Store}:Abz X f k l st=if (DM l).all (fun i=>i==k)=true then (BY (st.only [k]) l).bind fun as=>X.tab f as (st.again k)else none:=nrfl rfl
theorem gU {ob:Nat→Option IObj} {n k:Nat}:Store.again ⟨ob,n⟩ k=⟨Aa ob k ((ob k).bind Ck),n⟩:=nrfl rfl
theorem uJ {X:Cfg} {f:Nat} {l:List PV} {st:Store}:Aby X f l st=(BY (st.only (DM l)) l).bind fun as=>X.tab f as (st.seal (DM l)):=nrfl rfl
theorem gV {st:Store} {ids:List Nat} {i:Nat}:(st.seal ids).obj i=if ids.contains i=true then (st.obj i).bind Ck else (st.obj i).map (Q6 (st.only ids)):=nrfl rfl
theorem ZC {st:Store} {ids:List Nat}:(st.seal ids).next=st.next:=nrfl rfl
theorem Vx {g z:Nat} {es:List PV}:Ck (.arr g z es)=some (.arr (g+1) z []):=nrfl rfl
theorem ZD {st:Store} {g z:Nat} {es:List PV}:Q6 st (.arr g z es)=.arr g z (es.map (K0 st)):=nrfl rfl
theorem ZE {st:Store} {cs:List PV}:K0 st (.agg cs)=.agg (cs.map (sealC st)):=nrfl rfl
theorem ZF {st:Store} {k:IntKind} {n:Int}:K0 st (.int k n)=.int k n:=nrfl rfl
theorem ZG {st:Store} {k:IntKind} {n:Int}:sealC st (.int k n)=.int k n:=nrfl rfl
theorem Vy {st:Store} {b:Bool}:sealC st (.bool b)=.bool b:=nrfl rfl
theorem Vz {st:Store} {z:Nat} {l:List PV}:sealC st (.lits z l)=.lits z l:=nrfl rfl
theorem VA {st:Store}:sealC st .nils=.nils:=nrfl rfl
theorem ZH {st:Store} {id g s n:Nat}:sealC st (.ref id g s n)=((st.arr? id g).bind fun q=>if s+n≤q.2.length∧AU q.2=true then some (.lits q.1 ((q.2.drop s).take n))else none).getD (.ref id g s n):=nrfl rfl
theorem uK {X:Cfg} {f:Nat} {l:List PV} {st:Store}:Abx X f l st=(BY (st.only (DM l)) l).bind fun as=>X.tab f as (st.without (DM l)):=nrfl rfl
theorem VB {st:Store} {c:PV} {l:List PV}:BY st (c::l)=(rdP st c).bind fun d=>(BY st l).map fun ds=>d::ds:=by simp only[BY]
theorem ZI {st:Store}:BY st []=some []:=by simp only[BY]
theorem gW {st:Store} {c:PV} {l:List PV}:rdL st (c::l)=(rdC st c).bind fun d=>(rdL st l).map fun ds=>d::ds:=by simp only[rdL]
theorem uL {st:Store}:rdL st []=some []:=by simp only[rdL]
theorem uM {spec:List PV→Option PV} {args:List PV} {st:Store}:YD spec args st=if AU args=true then (spec args).map fun r=>(r,st)else (BY st args).bind fun as=>(spec as).bind fun r=>if r.scal=true then some (r,st)else none:=nrfl rfl
theorem Dt {c:PV} {l:List PV}:AU (c::l)=(c.pur&&AU l):=by simp only[AU]
theorem FI:AU []=true:=by simp only[AU]
end Sim
namespace Sim
open Go
def Bj:Code→Code
 | .region id ops _=>.region id ops false
 | .seq a b=>.seq (Bj a) (Bj b)
 | .cond c a b=>.cond c (Bj a) (Bj b)
 | .block id c=>.block id (Bj c)
 | .loop c=>.loop (Bj c)
 | .scope c=>.scope (Bj c)
 | c=>c
def Bn (X:Cfg):Code→Bool
 | .region _ ops dr => !dr||IJ X ops
 | .seq a b=>Bn X a&&Bn X b
 | .cond _ a b=>Bn X a&&Bn X b
 | .block _ c=>Bn X c
 | .loop c=>Bn X c
 | .scope c=>Bn X c
 | _=>true
theorem ET {G:WP} (hG:G.Mono) {X:Cfg} (hm:Be X) {N:Nat} {c:Code}:∀ {Q:IExit→IState→Prop} {s:IState},Bn X c=true→wpC G X N (Bj c) Q s→wpC G X N c Q s:=by
 induction c with
 | skip=>intro Q s hd hs;exact hs
 | region id ops dr =>
  intro Q s hd hs
  rcases hs with hs | hs
  ·refine .inl ⟨fun h=>?_,hs.2⟩
   subst h
   simpa [Bn]using hd
  ·cases hs.1
 | seq a b iha ihb =>
  intro Q s hd hs
  simp only[Bn,Bool.and_eq_true]at hd
  refine iha hd.1 (CH hG X N _ _ _ _ hm (fun e s' he=>?_) hs)
  cases e with
  | normal=>exact ihb hd.2 he
  | exit i=>exact he
  | ret=>exact he
 | cond c a b iha ihb =>
  intro Q s hd hs
  simp only[Bn,Bool.and_eq_true]at hd
  simp only[Bj,wpC]at hs ⊢
  split at hs
  ·exact ⟨fun hv=>iha hd.1 (hs.1 hv),fun hv=>ihb hd.2 (hs.2 hv)⟩
  ·exact hs.elim
 | block id c ih=>intro Q s hd hs;exact ih hd hs
 | loop c ih =>
  intro Q s hd hs
  obtain ⟨J,n,h0,hr⟩:=hs
  exact ⟨J,n,h0,fun m s' hs'=>ih hd (hr m s' hs')⟩
 | exit id=>intro Q s hd hs;exact hs
 | ret=>intro Q s hd hs;exact hs
 | rangeFunc=>intro Q s hd hs;exact hs
 | scope c ih=>intro Q s hd hs;exact ih hd hs
 | label=>intro Q s hd hs;exact hs
 | goto=>intro Q s hd hs;exact hs
 | refuse=>intro Q s hd hs;exact hs
theorem CW {X:Cfg} (hm:Be X) {N:Nat} {c:Code} {Q:IExit→IState→Prop} {s:IState} (hd:Bn X c=true) (h:wpI X N (Bj c) Q s):wpI X N c Q s:=ET (DP X.dep) hm hd h
section
variable {X:Cfg} {N:Nat} {Q:IExit→IState→Prop} {ks:List Kf} {s:IState}
theorem uO:run X N Q (Bj .skip) ks s=Gd X N Q ks s:=nrfl rfl
theorem Ach {a b:Code}:run X N Q (Bj (.seq a b)) ks s=run X N Q (Bj a) (.seq (Bj b)::ks) s:=Pw
theorem gX {id:Nat} {c:Code}:run X N Q (Bj (.block id c)) ks s=run X N Q (Bj c) (.blk id::ks) s:=Ko
theorem uP {id:Nat}:run X N Q (Bj (.exit id)) ks s=GD X N Q ks id s:=nrfl rfl
theorem Aci:run X N Q (Bj .ret) ks s=done X N Q ks s:=nrfl rfl
theorem ZJ {id:Nat} {l:List Oper} {dr:Bool}:run X N Q (Bj (.region id l.toArray dr)) ks s=ops X N Q l.toArray l ks s:=IK
theorem uQ {c:Operand} {a b:Code}:run X N Q (Bj (.cond c a b)) ks s=GF (AB s.env c) (run X N Q (Bj a) ks s) (run X N Q (Bj b) ks s):=L4
theorem gY {g:Operand} {ps:Array Tmp} {a b:Code}:run X N Q (Bj (.rangeFunc g ps a b)) ks s=run X N Q (.rangeFunc g ps a b) ks s:=nrfl rfl
end
theorem A5 {P:Program} (hmix:P.follows .mixedOrders=true) {l:AV} (hl:Bm P l) (muts:List Nat) (frz:List Nat) {f:FuncId} {fn:Func} {c:Code} (hf:P.funcs[f]?=some fn) (hb:fn.body=some c)
  (hname : (fn.name == "runtime.NumGoroutine") = false) {args : List PV} {N : Nat} (hN : fn.ntmps = N) (hn : args.length ≤ N) {rs : List ResultVar} (hrs : fn.results.toList = rs) (hd : Bn (cfg P l muts frz) c = true) {r : PV}
  (h : AI args→run (cfg P l muts frz) N (Ah P rs (fun p st=>DRx st p r)) (Bj c) [] ⟨Fv args,st0⟩):VC P f args r :=
 Aan hmix hl muts frz hf hb hname hN hn hrs 0 fun hs=>CW (AZ rfl) hd (by
  have e:stR 0=st0:=by simp[stR,st0]
  rw [e];exact h hs)
theorem VD {P:Program} (hmix:P.follows .mixedOrders=true) {l:AV} (hl:Bm P l) (muts:List Nat) (frz:List Nat) (n dep:Nat) {f:FuncId} {fn:Func} {c:Code} (hf:P.funcs[f]?=some fn) (hb:fn.body=some c)
  (hname : (fn.name == "runtime.NumGoroutine") = false) {args : List PV} {N : Nat} (hN : fn.ntmps = N) (hn : args.length ≤ N) {rs : List ResultVar} (hrs : fn.results.toList = rs) (hd : Bn (cfg P l muts frz dep) c = true) {r : PV}
  (h : AI args→run (cfg P l muts frz dep) N (Ah P rs (fun p st=>DRx st p r)) (Bj c) [] ⟨Fv args,⟨fun i=>if i<n then some (.arr 0 1 [])else none,n⟩⟩):VC P f args r :=
 Aan hmix hl muts frz hf hb hname hN hn hrs n (dep:=dep) fun hs=>CW (AZ rfl) hd (h hs)
theorem Cf {P:Program} (hmix:P.follows .mixedOrders=true) {l:AV} (hl:Bm P l) (muts:List Nat) (frz:List Nat) (dep:Nat) {f:FuncId} {fn:Func} {c:Code} (hf:P.funcs[f]?=some fn) (hb:fn.body=some c)
  (hname : (fn.name == "runtime.NumGoroutine") = false) {args : List PV} {N : Nat} (hN : fn.ntmps = N) (hn : args.length ≤ N) {rs : List ResultVar} (hrs : fn.results.toList = rs) (hd : Bn (cfg P l muts frz dep) c = true) {st : Store} {Q : PV → Store → Prop}
  (h : run (cfg P l muts frz dep) N (Ah P rs Q) (Bj c) [] ⟨Fv args,st⟩):IXC P f args st Q :=
 WD hmix hl muts frz hf hb hname hN hn hrs (dep:=dep) (CW (AZ rfl) hd h)
theorem uR {P:Program} (hmix:P.follows .mixedOrders=true) {l:AV} (hl:Bm P l) (muts:List Nat) (frz:List Nat) (n dep:Nat) {f:FuncId} {fn:Func} {c:Code} (hf:P.funcs[f]?=some fn) (hb:fn.body=some c)
  (hname : (fn.name == "runtime.NumGoroutine") = false) {args : List PV} {N : Nat} (hN : fn.ntmps = N) (hn : args.length ≤ N) {rs : List ResultVar} (hrs : fn.results.toList = rs) (hd : Bn (cfg P l muts frz dep) c = true) {z : Nat} {es : List PV}
  (hs : ∀e∈es,e.scal=true)
  (h : run (cfg P l muts frz dep) N (Ah P rs (fun p st=>(∃id g,p=.ref id g 0 es.length∧st.obj id=some (.arr g z es))∨(es = []∧0<z∧p=.nils))) (Bj c) [] ⟨Fv args,⟨fun i=>if i<n then some (.arr 0 1 [])else none,n⟩⟩):VCA P f args z es :=
 sA hmix hl muts frz hf hb hname hN hn hrs n (dep:=dep) hs (CW (AZ rfl) hd h)
theorem ZK {X:Cfg} {N:Nat} {Q:IExit→IState→Prop} {ks:List Kf} {s:IState} {all:Array Oper} {l:List Oper} {d:Option Nat} {c:Prop} [Decidable c] {x y:PV×Store}:Bl X N Q all l ks d s (if c then some x else some y)=((c→Bl X N Q all l ks d s (some x))∧(¬c→Bl X N Q all l ks d s (some y))):=by
 by_cases h:c <;> simp[h]
theorem uS {k:IntKind} {l:List Int} {i:Nat} {n:Int}:(l.map (PV.int k)).set i (PV.int k n)=(l.set i n).map (PV.int k):=by simp
theorem Eh {α:Type} {f:α→PV} {l:List α} {i:Nat} (d:α) (h:i<l.length):nth (l.map f) i=f (l.getD i d):=by simp[nth,h]
theorem HW {α:Type} {f:α→PV} {l:List α} (h:∀x,(f x).pur=true):AU (l.map f)=true:=Kl h
theorem HX {α:Type} {f:α→PV} {l m:List α} (h:∀x y,f x=f y→x=y):(l.map f=m.map f)=(l=m):=propext ⟨FH h,fun h=>by rw[h]⟩
theorem ZL {p:Prop} [Decidable p] {A B:Prop}:BM (.bool (decide p)) true A B=((p→A)∧(¬p→B)):=by simp[BM]
theorem ZM {p:Prop} [Decidable p] {A B:Prop}:BM (.bool (decide p)) false A B=((¬p→A)∧(p→B)):=by simp[BM]
theorem uT {p:Prop} [Decidable p] {A B:Prop}:GF (.bool (decide p)) A B=((p→A)∧(¬p→B)):=by simp[GF]
theorem uU {P:Program} {t:TypeId} {x y:Bool}:BJ P .eql t (.bool x) (.bool y)=if GQ P t=true then some (.bool (decide (x=y)))else none:=by rw[Acd];cases x <;> cases y <;> rfl
theorem uV {P:Program} {t:TypeId} {x y:Bool}:BJ P .neq t (.bool x) (.bool y)=if GQ P t=true then some (.bool (decide (¬x=y)))else none:=by rw[Ace];cases x <;> cases y <;> rfl
theorem AC {o o':Option Nat} {ρ:Nat→PV} (h:o=o'):grd o ρ=grd o' ρ:=by rw[h]
theorem As {c c' a b:PV} {st:Store} (h:c=c'):Og c a b st=Og c' a b st:=by rw[h]
theorem gZ {st:Store} {ids:List Nat} {i:Nat}:(st.only ids).obj i=if ids.contains i=true then st.obj i else none:=nrfl rfl
theorem ZN {st:Store} {ids:List Nat}:(st.only ids).next=st.next:=nrfl rfl
theorem Sp {st:Store} {ids:List Nat} {i:Nat}:(st.without ids).obj i=if ids.contains i=true then none else st.obj i:=nrfl rfl
theorem P5 {st:Store} {ids:List Nat}:(st.without ids).next=st.next:=nrfl rfl
theorem VE {p:PV} {l:List PV}:DM (p::l)=idC p++DM l:=nrfl rfl
theorem ZO:DM [] = []:=nrfl rfl
theorem uW {i g s n:Nat}:idC (.ref i g s n) = [i]:=nrfl rfl
theorem uX {k:IntKind} {n:Int}:idC (.int k n) = []:=nrfl rfl
theorem hZ {b:Bool}:idC (.bool b) = []:=nrfl rfl
theorem uY {b:List UInt8}:idC (.str b) = []:=nrfl rfl
theorem iA:idC .nils = []:=nrfl rfl
theorem iB {z:Nat} {l:List PV}:idC (.lits z l) = []:=nrfl rfl
def idE:PV→List Nat | .ref id _ _ _ => [id] | _ => []
def idL:List PV→List Nat | [] => [] | c::l=>idE c++idL l
theorem uZ {cs:List PV}:idC (.agg cs)=idL cs:=by
 induction cs with
 | nil=>rfl
 | cons c l ih=>simp only[idC,List.flatMap_cons]at ih ⊢;rw[ih];cases c <;> rfl
theorem iC {c:PV} {l:List PV}:idL (c::l)=idE c++idL l:=nrfl rfl
theorem vA:idL [] = []:=nrfl rfl
theorem vB {i g s n:Nat}:idE (.ref i g s n) = [i]:=nrfl rfl
theorem vC {k:IntKind} {n:Int}:idE (.int k n) = []:=nrfl rfl
theorem iD {b:Bool}:idE (.bool b) = []:=nrfl rfl
theorem vD {b:List UInt8}:idE (.str b) = []:=nrfl rfl
theorem iE:idE .nils = []:=nrfl rfl
theorem iF {z:Nat} {l:List PV}:idE (.lits z l) = []:=nrfl rfl
theorem AG {W W2:List Nat} {ρ0 ρ1 ρ:Nat→PV} (h:(W2.all fun t=>W.contains t)=true):GG W ρ0 (Iu W2 ρ1 ρ)=GG W ρ0 ρ1:=by
 refine propext ⟨fun g u hu=>?_,fun g u hu=>?_⟩
 all_goals
  have hn:W2.contains u=false:=by
   cases hc:W2.contains u with
   | false=>rfl
   | true =>
    have := List.all_eq_true.1 h u (List.contains_iff_mem.1 hc)
    rw [this]at hu;cases hu
  have e:Iu W2 ρ1 ρ u=ρ1 u:=HV hn
 ·rw [←e];exact g u hu
 ·rw [e];exact g u hu
theorem iG:IntKind.i64.bits=64:=nrfl rfl
theorem iH:IntKind.u64.bits=64:=nrfl rfl
theorem iI:IntKind.u32.bits=32:=nrfl rfl
theorem vE:IntKind.u8.bits=8:=nrfl rfl
def orI (a b:Int):Int:=IntKind.i64.wrap (BitVec.ofInt 64 a ||| BitVec.ofInt 64 b).toNat
theorem Acj {a b:Int}:Cs .or .i64 a b=some (orI a b):=nrfl rfl
end Sim
