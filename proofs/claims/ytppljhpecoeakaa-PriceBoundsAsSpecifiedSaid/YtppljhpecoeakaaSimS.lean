/- Operations, shape by shape. -/
import Derived.Test.YtppljhpecoeakaaSimP
set_option linter.unusedVariables false
set_option linter.unusedSimpArgs false
namespace Sim
open Go
theorem Ab1 {ρ:Nat→PV} {n:Nat}:AB ρ (.tmp n)=ρ n:=nrfl rfl
theorem Ab2 {ρ:Nat→PV} {k:IntKind} {n:Int}:AB ρ (.const (.int k n))=.int k n:=nrfl rfl
theorem tK {ρ:Nat→PV} {b:Bool}:AB ρ (.const (.bool b))=.bool b:=nrfl rfl
theorem Ab3 {ρ:Nat→PV} {s:ByteArray}:AB ρ (.const (.string s))=if s.data.toList.length≤9223372036854775807 then .str s.data.toList else .bad:=nrfl rfl
theorem tL {ρ:Nat→PV}:AB ρ (.const (.slice none 0 0))=.nils:=nrfl rfl
theorem tM {ρ:Nat→PV}:AB ρ (.const (.pointer none))=.nilp:=nrfl rfl
theorem tO {ρ:Nat→PV}:AB ρ (.const .nilFunc)=.nilf:=nrfl rfl
theorem tP {ρ:Nat→PV}:AB ρ (.const .nilIface)=.nili:=nrfl rfl
theorem Ab4 {ρ:Nat→PV} {cs:Array Value}:AB ρ (.const (.agg cs))=if (cs.toList.map CU).all PV.isCell then .agg (cs.toList.map CU)else .bad:=nrfl rfl
theorem tQ {ρ:Nat→PV} {f:FuncId}:AB ρ (.func f)=.func (.func f) [] []:=nrfl rfl
theorem Ab5 {k:IntKind} {n:Int}:CU (.int k n)=.int k n:=nrfl rfl
theorem tR {b:Bool}:CU (.bool b)=.bool b:=nrfl rfl
theorem tS:CU (.slice none 0 0)=.nils:=nrfl rfl
theorem Ab6 {s:ByteArray}:CU (.string s)=if s.data.toList.length≤9223372036854775807 then .str s.data.toList else .bad:=nrfl rfl
def grd (o:Option Nat) (ρ:Nat→PV):PV:=match o with | some d=>ρ d | none=>.bad
theorem Zc {ops:Array Oper} {ρ:Nat→PV} {j:Nat}:Dr ops ρ j=grd ((ops[j]?).bind (·.dst)) ρ:=nrfl rfl
theorem fL {d:Nat} {ρ:Nat→PV}:grd (some d) ρ=ρ d:=nrfl rfl
section
variable {X:Cfg} {d:Nat} {ρ:Operand→PV} {st:Store}
theorem fM {x:Operand}:iop X d (.move x) ρ st=some (ρ x,st):=nrfl rfl
theorem Vp {x:Operand}:iop X d (.assign x) ρ st=some (ρ x,st):=nrfl rfl
def Og (c a b:PV) (st:Store):Option (PV×Store):=match c with | .bool v=>some (if v then a else b,st) | _=>none
theorem Vq {v:Bool} {a b:PV}:Og (.bool v) a b st=some (if v=true then a else b,st):=nrfl rfl
theorem Vr {a b:PV}:Og (.bool true) a b st=some (a,st):=nrfl rfl
theorem Sd {a b:PV}:Og (.bool false) a b st=some (b,st):=nrfl rfl
theorem fN {c a b:Operand}:iop X d (.pick c a b) ρ st=Og (ρ c) (ρ a) (ρ b) st:=nrfl rfl
theorem Zd {t:TypeId} (h:X.num d=0):iop X d (.alloc t) ρ st=if 0<X.P.cellsOf t∧(AG X.P t).cells.length=X.P.cellsOf t then some (.ptr st.next 0 0 0,st.new (.arr 0 (X.P.cellsOf t) [AG X.P t]))else none:=by simp[iop,h]
def Ags (X:Cfg) (d:Nat) (cells:List PV) (p:PV) (st:Store):Option (PV×Store) :=
 if 0<cells.length then (if X.muts d then some (.ptr st.next 0 0 0,st.new (.arr 0 cells.length [p]))else some (.vptr cells 0,st))else none
theorem tT {t:TypeId} {x:Operand}:iop X d (.box t x) ρ st=Ags X d (ρ x).cells (ρ x) st:=nrfl rfl
theorem tU {cells:List PV} {p:PV}:Ags X d cells p st=if 0<cells.length then (if X.muts d=true then some (.ptr st.next 0 0 0,st.new (.arr 0 cells.length [p]))else some (.vptr cells 0,st))else none:=nrfl rfl
def evp (ρ:Operand→PV):List (Nat×Operand)→List (Nat×PV)
 | [] => []
 | x::l=>(x.1,ρ x.2)::evp ρ l
theorem fO {i:Nat} {x:Operand} {l:List (Nat×Operand)}:evp ρ ((i,x)::l)=(i,ρ x)::evp ρ l:=nrfl rfl
theorem tV:evp ρ [] = []:=nrfl rfl
theorem fP {l:List (Nat×Operand)}:(l.map fun (i,x)=>(i,ρ x))=evp ρ l:=by
 induction l with
 | nil=>rfl
 | cons x l ih=>simp only[List.map_cons,evp,ih]
theorem Ze {t:TypeId} {parts:List (Nat×Operand)}:iop X d (.build t parts.toArray) ρ st=(Ki X.P t (evp ρ parts)).map fun v=>(v,st):=by rw[←fP];rfl
def Ab7 (X:Cfg) (d:Nat) (t:TypeId) (len:Nat) (o:Option (List PV)) (st:Store):Option (PV×Store) :=
 if 0<Ae X.P t∧len*Ae X.P t≤16777216 then o.bind fun l=>if X.muts d then (if X.num d=0 then some (.ref st.next 0 0 len,st.new (.arr 0 (Ae X.P t) l))else st.re (X.num d) (Ae X.P t) l len)else some (.lits (Ae X.P t) l,st)else none
theorem Mg {t:TypeId} {len:Nat} {parts:List (Nat×Operand)}:iop X d (.buildSlice t len parts.toArray) ρ st=Ab7 X d t len (Cl (Ae X.P t) (List.replicate len (AG X.P (BU X.P t))) (evp ρ parts)) st:=by rw[←fP];rfl
theorem tW {t:TypeId} {len:Nat} {l:List PV}:Ab7 X d t len (some l) st=if 0<Ae X.P t∧len*Ae X.P t≤16777216 then (if X.muts d=true then (if X.num d=0 then some (.ref st.next 0 0 len,st.new (.arr 0 (Ae X.P t) l))else st.re (X.num d) (Ae X.P t) l len)else some (.lits (Ae X.P t) l,st))else none:=by
 simp only[Ab7,Option.bind_some]
theorem Ab8 {ob:Nat→Option IObj} {nx k z n g z0:Nat} {l es:List PV} (h:ob k=some (.arr g z0 es)):Store.re ⟨ob,nx⟩ (k+1) z l n=some (.ref k (g+1) 0 n,Store.set ⟨ob,nx⟩ k (.arr (g+1) z l)):=by simp[Store.re,h]
theorem ND {k id g s n z:Nat} {l:List PV}:Ef k (.ref id g s n) (.lits z l)=(id==k-1):=nrfl rfl
theorem NE {k id g s n:Nat}:Ef k (.ref id g s n) .nils=(id==k-1):=nrfl rfl
theorem fQ {t:TypeId} {x:Operand}:iop X d (.load t x) ρ st=(Bu X.P t).bind fun q=>(Dg (X.see d st) q.1 q.2 (ρ x)).map fun v=>(v,st):=nrfl rfl
theorem Zf {t:TypeId} {a x:Operand}:iop X d (.store t a x) ρ st=if (X.frz (800000+Dh a)=true∧NW st (ρ a) (ρ x)=false)∨(X.frz (900000+Dh a)=true∧NX (X.num (Dh a)) (ρ a)=false)then none else (EN st (X.P.cellsOf t) (ρ a) (ρ x)).map fun st'=>(.bad,st'):=nrfl rfl
theorem Zg {n:Nat}:Dh (.tmp n)=n:=nrfl rfl
theorem Zh {k id gen i o:Nat}:NX k (.ptr id gen i o)=(id==k-1):=nrfl rfl
theorem Zi {id gen i o:Nat} {v:PV}:NW st (.ptr id gen i o) v=(v.isInt1&&match st.arr? id gen with | some q=>decide (q.1≤2)&&q.2.all PV.isInt | none=>false):=nrfl rfl
def WR (p:PV) (st:Store):Option (PV×Store):=match p with | .vptr c o=>some (.vptr c o,st) | .ptr i g x o=>(st.arr? i g).map fun _=>(.ptr i g x o,st) | _=>none
theorem PU {x:Operand}:iop X d (.nilCheck x) ρ st=(WR (ρ x) (X.see d st)).map fun q=>(q.1,st):=by
 simp only[iop];cases ρ x <;> simp[WR];rfl
theorem Vs {c:List PV} {o:Nat}:WR (.vptr c o) st=some (.vptr c o,st):=nrfl rfl
theorem Zj {i g x o:Nat}:WR (.ptr i g x o) st=(st.arr? i g).map fun _=>(.ptr i g x o,st):=nrfl rfl
theorem Zk {op:BinOp} {t:TypeId} {x y:Operand} {z:TypeId}:iop X d (.binOp op t x y z) ρ st=(BL X.P op t (ρ x) (ρ y)).map fun v=>(v,st):=nrfl rfl
theorem fR {op:UnOp} {t:TypeId} {x:Operand}:iop X d (.unOp op t x) ρ st=(unP op (ρ x)).map fun v=>(v,st):=nrfl rfl
theorem Se {s t:TypeId} {x:Operand}:iop X d (.convert s t x) ρ st=(NV X.P s t (ρ x)).map fun v=>(v,st):=nrfl rfl
def evs (ρ:Operand→PV):List Operand→List PV
 | [] => []
 | x::l=>ρ x::evs ρ l
theorem fS {x:Operand} {l:List Operand}:evs ρ (x::l)=ρ x::evs ρ l:=nrfl rfl
theorem tX:evs ρ [] = []:=nrfl rfl
theorem IV {l:List Operand}:l.map ρ=evs ρ l:=by
 induction l with
 | nil=>rfl
 | cons x l ih=>simp only[List.map_cons,evs,ih]
theorem PX {fn:Fn} {a b:List Operand}:iop X d (.makeFunc fn a.toArray b.toArray) ρ st=some (.func fn (evs ρ a) (evs ρ b),st):=by rw[←IV,←IV];rfl
def Sf (X:Cfg) (d:Nat) (t:TypeId) (a b:PV) (st:Store):Option (PV×Store) :=
 match a,b with
 | .int .i64 n,.int .i64 m=>if 0≤n∧n≤m∧m≤4294967296∧0<Ae X.P t then (if X.num d=0 then (if X.frz d=true then some (.lits (Ae X.P t) (List.replicate n.toNat (AG X.P (BU X.P t))),st)else some (.ref st.next 0 0 n.toNat,st.new (.arr 0 (Ae X.P t) (List.replicate n.toNat (AG X.P (BU X.P t))))))else st.re (X.num d) (Ae X.P t) (List.replicate n.toNat (AG X.P (BU X.P t))) n.toNat)else none
 | _,_=>none
theorem NF {t:TypeId} {l c:Operand}:iop X d (.makeSlice t l c) ρ st=Sf X d t (ρ l) (ρ c) st:=by
 simp only[iop,Sf]
 cases ρ l <;> try rfl
theorem fT {t:TypeId} {n m:Int} (h:X.num d=0) (hf:X.frz d=false):Sf X d t (.int .i64 n) (.int .i64 m) st=if 0≤n∧n≤m∧m≤4294967296∧0<Ae X.P t then some (.ref st.next 0 0 n.toNat,st.new (.arr 0 (Ae X.P t) (List.replicate n.toNat (AG X.P (BU X.P t)))))else none:=by simp[Sf,h,hf]
theorem fU {t:TypeId} {n m:Int} (h:X.num d=0) (hf:X.frz d=true):Sf X d t (.int .i64 n) (.int .i64 m) st=if 0≤n∧n≤m∧m≤4294967296∧0<Ae X.P t then some (.lits (Ae X.P t) (List.replicate n.toNat (AG X.P (BU X.P t))),st)else none:=by simp[Sf,h,hf]
theorem tY {t:TypeId} {n m:Int} {k:Nat} (h:X.num d=k+1):Sf X d t (.int .i64 n) (.int .i64 m) st=if 0≤n∧n≤m∧m≤4294967296∧0<Ae X.P t then st.re (k+1) (Ae X.P t) (List.replicate n.toNat (AG X.P (BU X.P t))) n.toNat else none:=by simp[Sf,h]
def fV (X:Cfg) (d:Nat) (t:TypeId) (p:PV) (l h:Option (Option Int)) (st:Store):Option (PV×Store) :=
 if X.muts d=true then (match l,h with | none,none=>Yh X.P st t p | _,_=>none)else
 match l,h with
 | some none,_ | _,some none=>none
 | l,h=>(Ck (X.see d st) (Ae X.P t) (AS X.P t) (BK X.P t) p (l.bind id) (h.bind id)).map fun v=>(v,st)
theorem Zl {t:TypeId} {x:Operand} {lo hi:Option Operand}:iop X d (.slice t x lo hi none) ρ st=fV X d t (ρ x) (lo.map fun o=>CW (ρ o)) (hi.map fun o=>CW (ρ o)) st:=by
 cases lo <;> cases hi <;> rfl
theorem Vt {k:IntKind} {n:Int}:CW (.int k n)=some n:=nrfl rfl
theorem tZ {t:TypeId} {p:PV}:fV X d t p none none st=if X.muts d=true then Yh X.P st t p else (Ck (X.see d st) (Ae X.P t) (AS X.P t) (BK X.P t) p none none).map fun v=>(v,st):=nrfl rfl
theorem uA {t:TypeId} {p:PV} {n:Int}:fV X d t p (some (some n)) none st=if X.muts d=true then none else (Ck (X.see d st) (Ae X.P t) (AS X.P t) (BK X.P t) p (some n) none).map fun v=>(v,st):=nrfl rfl
theorem uB {t:TypeId} {p:PV} {m:Int}:fV X d t p none (some (some m)) st=if X.muts d=true then none else (Ck (X.see d st) (Ae X.P t) (AS X.P t) (BK X.P t) p none (some m)).map fun v=>(v,st):=nrfl rfl
theorem uC {t:TypeId} {p:PV} {n m:Int}:fV X d t p (some (some n)) (some (some m)) st=if X.muts d=true then none else (Ck (X.see d st) (Ae X.P t) (AS X.P t) (BK X.P t) p (some n) (some m)).map fun v=>(v,st):=nrfl rfl
theorem NG {t:TypeId} {x:Operand} {f:Nat}:iop X d (.fieldAddr t x f) ρ st=(Ba X.P t f).bind fun q=>if 0<q.2.1 then (CV (X.see d st) (ρ x) q.1).map fun v=>(v,st)else none:=nrfl rfl
theorem Ab9 {e:Nat}:X.see e st=if X.frz e=true then⟨fun _=>none,0⟩else if X.frz (600000+e)=true then st.past (X.num e)else if X.frz (700000+e)=true then st.hard else st:=nrfl rfl
theorem uD:st.hard=⟨fun i=>(st.obj i).bind fun o=>if GF o=true then none else some o,st.next⟩:=nrfl rfl
theorem fW {g z:Nat} {es:List PV}:GF (.arr g z es)=(decide (z≤2)&&es.all PV.isInt):=nrfl rfl
theorem Vu {k:IntKind} {n:Int}:PV.isInt1 (.int k n)=true:=nrfl rfl
theorem Vv {i g s n:Nat}:PV.isInt1 (.ref i g s n)=false:=nrfl rfl
theorem Zm {i g s n:Nat}:PV.isInt (.ref i g s n)=false:=nrfl rfl
theorem Zn {cs:List PV}:PV.isInt (.agg cs)=cs.all PV.isInt1:=nrfl rfl
theorem Zo {id gen s n z:Nat} {l:List PV}:LL st (.ref id gen s n) (.lits z l)=(l.all PV.isInt&&match st.arr? id gen with | some q=>decide (q.1≤2)&&q.2.all PV.isInt | none=>false):=nrfl rfl
theorem Zp {k:IntKind} {n:Int}:PV.isInt (.int k n)=true:=nrfl rfl
theorem fX {l:List Int} {k:IntKind}:(l.map (PV.int k)).all PV.isInt=true:=by simp[PV.isInt]
theorem Zq {x:Operand} {m:String} {as:List Operand} {ts:List TypeId}:iop X d (.call ⟨.invoke x m,as.toArray,ts.toArray⟩) ρ st=(cO X.P st (ρ x) m).bind fun q=>Dx X d (.func (.func q.1) [q.2] []) (Pj X d ts) (evs ρ as) st:=by rw[←IV];rfl
theorem Vw {P:Program} {t:TypeId} {v:PV} {m:String}:cO P st (.iface t v) m=(Jl P t m).bind fun q=>if q.2.1=true then some (q.1,v)else (Bu P q.2.2).bind fun r=>(Dg st r.1 r.2 v).map fun r=>(q.1,r):=nrfl rfl
def Ku (P:Program) (t:TypeId):Bool := !Ji P t&&(P.underlying t).isSome
theorem JC {t:TypeId} {x:Operand} (h:Ku X.P t=true):iop X d (.makeInterface t x) ρ st=some (.iface t (ρ x),st):=by
 simp only[Ku,Bool.and_eq_true,Bool.not_eq_true']at h
 simp only[iop,h,and_self,if_true]
def asT (t:TypeId) (p:PV) (st:Store):Option (PV×Store):=match p with | .iface t' v=>if t'=t then some (v,st)else none | _=>none
theorem Mh {x:Operand} {xt t:TypeId} (h:Ku X.P t=true):iop X d (.typeAssert x xt t false) ρ st=asT t (ρ x) st:=by
 simp only[Ku,Bool.and_eq_true,Bool.not_eq_true']at h
 simp only[iop,h,and_true,asT]
 cases ρ x <;> rfl
theorem fY {t:TypeId} {v:PV}:asT t (.iface t v) st=some (v,st):=by simp[asT]
theorem uE {k:Nat}:st.past k=⟨fun i=>if i<k then none else st.obj i,st.next⟩:=nrfl rfl
def Agt (X:Cfg) (t:TypeId) (p:PV) (f:Nat) (st:Store):Option (PV×Store):=match p with | .agg cs=>(Ba X.P t f).bind fun (o,_,u)=>(Bu X.P u).bind fun (z,ag)=>(CE cs o z ag).map fun v=>(v,st) | _=>none
theorem Zr {t:TypeId} {x:Operand} {f:Nat}:iop X d (.field t x f) ρ st=Agt X t (ρ x) f st:=nrfl rfl
theorem fZ {t:TypeId} {cs:List PV} {f:Nat}:Agt X t (.agg cs) f st=(Ba X.P t f).bind fun q=>(Bu X.P q.2.2).bind fun r=>(CE cs q.1 r.1 r.2).map fun v=>(v,st):=nrfl rfl
def Agu (X:Cfg) (d:Nat) (t:TypeId) (p i:PV) (st:Store):Option (PV×Store):=match i with | .int _ n=>(Cs X.P (X.see d st) t p n).map fun v=>(v,st) | _=>none
theorem NH {t:TypeId} {x i:Operand}:iop X d (.indexAddr t x i) ρ st=Agu X d t (ρ x) (ρ i) st:=nrfl rfl
theorem gB {t:TypeId} {p:PV} {k:IntKind} {n:Int}:Agu X d t p (.int k n) st=(Cs X.P (X.see d st) t p n).map fun v=>(v,st):=nrfl rfl
def Agv (X:Cfg) (t:TypeId) (p i:PV) (st:Store):Option (PV×Store):=match i with | .int _ n=>(IF X.P t p n).map fun v=>(v,st) | _=>none
theorem Zs {t:TypeId} {x i:Operand}:iop X d (.index t x i) ρ st=Agv X t (ρ x) (ρ i) st:=nrfl rfl
theorem gC {t:TypeId} {p:PV} {k:IntKind} {n:Int}:Agv X t p (.int k n) st=(IF X.P t p n).map fun v=>(v,st):=nrfl rfl
def Agw (p:PV) (i:Nat) (st:Store):Option (PV×Store):=match p with | .tuple vs=>(vs[i]?).map fun v=>(v,st) | _=>none
theorem Sg {x:Operand} {i:Nat}:iop X d (.extract x i) ρ st=Agw (ρ x) i st:=nrfl rfl
theorem Vx {vs:List PV} {i:Nat}:Agw (.tuple vs) i st=(vs[i]?).map fun v=>(v,st):=nrfl rfl
theorem Kv {f:Operand} {as:List Operand} {ts:List TypeId}:iop X d (.call ⟨.value f,as.toArray,ts.toArray⟩) ρ st=Dx X d (ρ f) (Pj X d ts) (evs ρ as) st:=by rw[←IV];rfl
theorem Zt {b:Builtin} {as:List Operand} {ts:List TypeId}:iop X d (.call ⟨.builtin b,as.toArray,ts.toArray⟩) ρ st=Be X d b ts (evs ρ as) st:=by rw[←IV];rfl
def Aca (X:Cfg) (f:Nat) (l:List PV) (st:Store):Option (PV×Store):=(BZ (st.only (DK l)) l).bind fun as=>X.tab f as (st.without (DK l))
def Acb (X:Cfg) (f:Nat) (l:List PV) (st:Store):Option (PV×Store):=(BZ (st.only (DK l)) l).bind fun as=>X.tab f as (st.seal (DK l))
def Acc (X:Cfg) (f k:Nat) (l:List PV) (st:Store):Option (PV×Store):=if (DK l).all (fun i=>i==k)=true then (BZ (st.only [k]) l).bind fun as=>X.tab f as (st.again k)else none
theorem gD {f:Nat} {a b:List PV} {ts:List TypeId} {args:List PV}:Dx X d (.func (.func f) a b) ts args st=if X.frz d=true then (if X.num d=0 then Aca X f (a++nrmAll X.P ts args++b) st else if X.muts d=true then Acc X f (X.num d-1) (a++nrmAll X.P ts args++b) st else Acb X f (a++nrmAll X.P ts args++b) st)else if X.muts d=true∧(AT (a++nrmAll X.P ts args++b)=false∨(X.frz (1200000+d)=true∧X.quiet f=false))then none else X.tab f (a++nrmAll X.P ts args++b) st:=by
 simp only[Dx,Aca,Acb,Acc]
 by_cases h1:X.frz d=true <;> by_cases h2:X.num d=0 <;> by_cases h3:X.muts d=true <;> simp[h1,h2,h3]
theorem uF {ts:List TypeId}:Pj X d ts=if X.frz (400000+d)=true then []else ts:=nrfl rfl
theorem Sh {P:Program} {t:TypeId} {ts:List TypeId} {p:PV} {l:List PV}:nrmAll P (t::ts) (p::l)=nrm (Bv P t) p::nrmAll P ts l:=nrfl rfl
theorem Vy {P:Program} {l:List PV}:nrmAll P [] l=l:=by simp[nrmAll]
def Zu (st:Store) (q:Option (MK×PV)) (L:Option Int) (x:PV):Option Int:=match q with | some q=>GV st (some q) x | none=>L
theorem Acd {t:TypeId} {x:PV}:Be X d .len [t] [x] st=(Zu st (A3 X.P t) (Jj (X.see d st) (Ae X.P t) (AS X.P t) x) x).map fun n=>(.int .i64 n,st):=by simp only[Be,Zu];cases A3 X.P t <;> rfl
theorem Zv {L:Option Int} {x:PV}:Zu st none L x=L:=nrfl rfl
theorem uG {t u:TypeId} {x y:PV}:Be X d .copy [t,u] [x,y] st=(Q8 st (Ae X.P t) x y).map fun q=>(.int .i64 q.1,q.2):=nrfl rfl
theorem Zw {t u:TypeId} {x y:PV} (h:X.num d=0):Be X d .append [t,u] [x,y] st=if Ae X.P u≠0∨AS X.P u=true then (if X.frz (700000+d)=true∧LL st x y=false then none else (Cj st (Ae X.P t) y).bind fun ys=>Cr st (Ae X.P t) x ys)else none:=by
 simp only[Be,h]
 by_cases h1:Ae X.P u≠0∨AS X.P u=true <;> by_cases h2:X.frz (700000+d)=true <;> cases h3:LL st x y <;> simp[h1,h2]
theorem PY {t u:TypeId} {x y:PV} {k:Nat} (h:X.num d=k+1):Be X d .append [t,u] [x,y] st=if Ef (k+1) x y=true then (if Ae X.P u≠0∨AS X.P u=true then (if X.frz (700000+d)=true then none else (Cj st (Ae X.P t) y).bind fun ys=>Cr st (Ae X.P t) x ys)else none)else none:=by
 simp only[Be,h]
 by_cases h1:Ef (k+1) x y=true <;> by_cases h2:Ae X.P u≠0∨AS X.P u=true <;> by_cases h3:X.frz (700000+d)=true <;> simp[h1,h2,h3]
theorem Ace {ts:List TypeId} {x y:Int} {k:IntKind}:Be X d .min ts [.int k x,.int k y] st=some (.int k (if y<x then y else x),st):=by
 cases ts with
 | nil=>simp[Be,Fg]
 | cons t ts=>cases ts <;> simp[Be,Fg]
theorem Acf {ts:List TypeId} {x y:Int} {k:IntKind}:Be X d .max ts [.int k x,.int k y] st=some (.int k (if x<y then y else x),st):=by
 cases ts with
 | nil=>simp[Be,Fg]
 | cons t ts=>cases ts <;> simp[Be,Fg]
end
theorem uH {m:List (Nat×Nat)} {cs:List PV}:nrm m (.agg cs)=.agg (Jk m 0 cs):=nrfl rfl
theorem Zx {m:List (Nat×Nat)} {i:Nat} {c:PV} {l:List PV}:Jk m i (c::l)=nrm1 (m.lookup i) c::Jk m (i+1) l:=nrfl rfl
theorem gE {m:List (Nat×Nat)} {i:Nat}:Jk m i [] = []:=nrfl rfl
theorem gF {m:List (Nat×Nat)}:nrm m .nils=nrm1 (m.lookup 0) .nils:=nrfl rfl
theorem Zy {z:Nat}:nrm1 (some z) .nils=.lits z []:=nrfl rfl
theorem Zz:nrm1 none .nils=.nils:=nrfl rfl
theorem uI {p:PV}:nrm1 none p=p:=by cases p <;> rfl
theorem Acg {p:PV}:nrm [] p=p:=by
 cases p <;> try rfl
 rename_i cs
 simp only[nrm,PV.agg.injEq]
 have : ∀(l:List PV) (i:Nat),Jk [] i l=l:=by
  intro l;induction l with
  | nil=>intro i;rfl
  | cons c l ih=>intro i;simp only[Jk,ih,List.lookup_nil,uI]
 exact this cs 0
theorem uJ {m:List (Nat×Nat)} {k:IntKind} {n:Int}:nrm m (.int k n)=.int k n:=nrfl rfl
theorem uK {m:List (Nat×Nat)} {s:List UInt8}:nrm m (.str s)=.str s:=nrfl rfl
theorem gG {m:List (Nat×Nat)} {b:Bool}:nrm m (.bool b)=.bool b:=nrfl rfl
theorem gH {m:List (Nat×Nat)} {z:Nat} {l:List PV}:nrm m (.lits z l)=.lits z l:=nrfl rfl
theorem uL {m:List (Nat×Nat)} {i g s n:Nat}:nrm m (.ref i g s n)=.ref i g s n:=nrfl rfl
theorem gI {m:List (Nat×Nat)} {f:Fn} {a b:List PV}:nrm m (.func f a b)=.func f a b:=nrfl rfl
theorem gJ {m:List (Nat×Nat)} {cs:List PV} {o:Nat}:nrm m (.vptr cs o)=.vptr cs o:=nrfl rfl
theorem uM {m:List (Nat×Nat)} {i g x o:Nat}:nrm m (.ptr i g x o)=.ptr i g x o:=nrfl rfl
theorem gL {m:Option Nat} {k:IntKind} {n:Int}:nrm1 m (.int k n)=.int k n:=nrfl rfl
theorem gM {m:Option Nat} {s:List UInt8}:nrm1 m (.str s)=.str s:=nrfl rfl
theorem ZA {m:Option Nat} {b:Bool}:nrm1 m (.bool b)=.bool b:=nrfl rfl
theorem ZB {m:Option Nat} {z:Nat} {l:List PV}:nrm1 m (.lits z l)=.lits z l:=nrfl rfl
theorem gQ {m:Option Nat} {i g s n:Nat}:nrm1 m (.ref i g s n)=.ref i g s n:=nrfl rfl
section
variable {st:Store}
def Ach (o:Option IObj) (gen:Nat):Option (Nat×List PV):=match o with | some (.arr g z es)=>if gen=g then some (z,es)else none | _=>none
theorem Aci {id g:Nat}:st.arr? id g=Ach (st.obj id) g:=nrfl rfl
theorem ZC {g h z:Nat} {es:List PV}:Ach (some (.arr h z es)) g=if g=h then some (z,es)else none:=nrfl rfl
theorem uO {cells:List PV} {off sz:Nat}:CE cells off sz false=cells[off]?:=nrfl rfl
theorem uP {cells:List PV} {off sz:Nat}:CE cells off sz true=if off+sz≤cells.length then some (.agg ((cells.drop off).take sz))else none:=nrfl rfl
theorem Vz {sz off:Nat} {ag:Bool} {cells:List PV}:Dg st sz ag (.vptr cells off)=CE cells off sz ag:=nrfl rfl
theorem ZD {sz off id gen idx:Nat} {ag:Bool}:Dg st sz ag (.ptr id gen idx off)=(st.arr? id gen).bind fun q=>CE (nth q.2 idx).cells off sz ag:=nrfl rfl
theorem PZ {cs vs:List PV} {o:Nat}:A6 (.agg cs) o vs=.agg (Dq cs o vs):=nrfl rfl
theorem P1 {k:IntKind} {n:Int} {v:PV} {o:Nat}:A6 (.int k n) o [v]=v:=nrfl rfl
theorem NI {b:Bool} {v:PV} {o:Nat}:A6 (.bool b) o [v]=v:=nrfl rfl
theorem NJ {v:PV} {o:Nat}:A6 .nils o [v]=v:=nrfl rfl
theorem P3 {i g s n:Nat} {v:PV} {o:Nat}:A6 (.ref i g s n) o [v]=v:=nrfl rfl
theorem VA {sz id gen idx off:Nat} {v:PV}:EN st sz (.ptr id gen idx off) v=(st.arr? id gen).bind fun q=>if v.cells.length=sz∧0<sz∧idx<q.2.length∧off+sz≤q.1 then some (st.set id (.arr gen q.1 (q.2.set idx (A6 (nth q.2 idx) off v.cells))))else none:=nrfl rfl
theorem Si {cells:List PV} {off o:Nat}:CV st (.vptr cells off) o=some (.vptr cells (off+o)):=nrfl rfl
theorem VB {id gen idx off o:Nat}:CV st (.ptr id gen idx off) o=(st.arr? id gen).map fun _=>.ptr id gen idx (off+o):=nrfl rfl
variable {P:Program} {t:TypeId} {i:Int}
theorem Sj {z:Nat} {l:List PV}:Cs P st t (.lits z l) i=if 0≤i∧i<l.length∧z=Ae P t∧0<z then some (.vptr (nth l i.toNat).cells 0)else none:=nrfl rfl
theorem VD {id gen s n:Nat}:Cs P st t (.ref id gen s n) i=(st.arr? id gen).bind fun q=>if 0≤i∧i<n∧s+n≤q.2.length∧q.1=Ae P t then some (.ptr id gen (s+i.toNat) 0)else none:=nrfl rfl
theorem Sk {cells:List PV} {off:Nat}:Cs P st t (.vptr cells off) i=(BK P t).bind fun q=>if 0≤i∧i<q.1∧0<q.2 then some (.vptr cells (off+i.toNat*q.2))else none:=nrfl rfl
theorem VE {id gen idx off:Nat}:Cs P st t (.ptr id gen idx off) i=(st.arr? id gen).bind fun _=>(BK P t).bind fun q=>if 0≤i∧i<q.1∧0<q.2 then some (.ptr id gen idx (off+i.toNat*q.2))else none:=nrfl rfl
theorem VF {s:List UInt8}:IF P t (.str s) i=if 0≤i∧i<s.length∧AS P t=true then some (.int .u8 (s.getD i.toNat 0).toNat)else none:=nrfl rfl
theorem VG {cs:List PV}:IF P t (.agg cs) i=(Kh P t).bind fun q=>(Bu P q.2).bind fun r=>if 0≤i∧i<q.1 then CE cs (i.toNat*r.1) r.1 r.2 else none:=nrfl rfl
variable {z:Nat} {sb:Bool}
theorem ZE:Jj st z sb .nils=if 0<z then some 0 else none:=nrfl rfl
theorem ZF {y:Nat} {l:List PV}:Jj st z sb (.lits y l)=if 0<z then some (l.length:Int)else none:=nrfl rfl
theorem gR {id g s n:Nat}:Jj st z sb (.ref id g s n)=(st.arr? id g).bind fun _=>if 0<z then some (n:Int)else none:=nrfl rfl
theorem gT {s:List UInt8}:Jj st z sb (.str s)=if sb=true then some (s.length:Int)else none:=nrfl rfl
theorem Sl:Cj st z .nils=some []:=nrfl rfl
theorem Sm {y:Nat} {l:List PV}:Cj st z (.lits y l)=if y=z then some l else none:=nrfl rfl
theorem VH {id gen s n:Nat}:Cj st z (.ref id gen s n)=(st.arr? id gen).bind fun q=>if s+n≤q.2.length∧q.1=z then some ((q.2.drop s).take n)else none:=nrfl rfl
theorem VI {s:List UInt8}:Cj st z (.str s)=if z=1 then some (s.map fun b=>.int .u8 b.toNat)else none:=nrfl rfl
theorem Sn {lo hi:Option Int} {ar:Option (Nat×Nat)}:Ck st z sb ar .nils lo hi=if lo.getD 0=0∧hi.getD 0=0∧0<z then some .nils else none:=nrfl rfl
theorem So {y:Nat} {l:List PV} {lo hi:Option Int} {ar:Option (Nat×Nat)}:Ck st z sb ar (.lits y l) lo hi=if 0≤lo.getD 0∧lo.getD 0≤hi.getD l.length∧hi.getD l.length≤l.length∧y=z∧0<z then some (.lits z ((l.drop (lo.getD 0).toNat).take ((hi.getD l.length).toNat-(lo.getD 0).toNat)))else none:=nrfl rfl
theorem VJ {id gen s n:Nat} {lo hi:Option Int} {ar:Option (Nat×Nat)}:Ck st z sb ar (.ref id gen s n) lo hi=(st.arr? id gen).bind fun q=>if 0≤lo.getD 0∧lo.getD 0≤hi.getD n∧hi.getD n≤(q.2.length:Int)-s∧s≤q.2.length∧q.1=z then some (.ref id gen (s+(lo.getD 0).toNat) ((hi.getD n).toNat-(lo.getD 0).toNat))else none:=nrfl rfl
theorem Sp {cs:List PV} {off:Nat} {lo hi:Option Int} {ar:Option (Nat×Nat)}:Ck st z sb ar (.vptr cs off) lo hi=ar.bind fun a=>if a.2=1∧lo=none∧hi=none∧off+a.1≤cs.length∧0<a.1∧a.1≤65536 then some (.lits 1 ((cs.drop off).take a.1))else none:=nrfl rfl
theorem gU {P:Program} {t:TypeId} {id gen idx off:Nat}:Yh P st t (.ptr id gen idx off)=(st.arr? id gen).bind fun q=>(BK P t).bind fun a=>if a.2=1∧idx<q.2.length∧AT q.2=true∧off+a.1≤(nth q.2 idx).cells.length∧0<a.1∧a.1≤65536 then some (.lits 1 (((nth q.2 idx).cells.drop off).take a.1),st.without [id])else none:=nrfl rfl
theorem VK {s:List UInt8} {lo hi:Option Int} {ar:Option (Nat×Nat)}:Ck st z sb ar (.str s) lo hi=if 0≤lo.getD 0∧lo.getD 0≤hi.getD s.length∧hi.getD s.length≤s.length∧sb=true then some (.str ((s.drop (lo.getD 0).toNat).take ((hi.getD s.length).toNat-(lo.getD 0).toNat)))else none:=nrfl rfl
theorem P4 {ys:List PV}:Cr st z .nils ys=if 0<z∧ys.length≤2147483648 then (if ys.length=0 then some (.nils,st)else some (.ref st.next 0 0 ys.length,st.new (.arr 0 z ys)))else none:=nrfl rfl
theorem Sq {id gen s n:Nat} {ys:List PV}:Cr st z (.ref id gen s n) ys=(st.arr? id gen).bind fun q =>
   if s+n≤q.2.length∧q.1=z∧n+ys.length≤2147483648 then
    if s+n+ys.length≤q.2.length then
     some (.ref id gen s (n+ys.length),st.set id (.arr gen z (q.2.take (s+n)++ys++q.2.drop (s+n+ys.length))))
    else some (.ref id (gen+1) 0 (n+ys.length),st.set id (.arr (gen+1) z ((q.2.drop s).take n++ys)))
   else none:=rfl
end
section
variable {P:Program} {t:TypeId} {k k':IntKind} {a b:Int}
theorem Agx:BL P .add t (.int k a) (.int k b)=some (.int k (k.wrap (a+b))):=by simp[BL,GN,GL]
theorem Agy:BL P .sub t (.int k a) (.int k b)=some (.int k (k.wrap (a-b))):=by simp[BL,GN,GL]
theorem Agz:BL P .mul t (.int k a) (.int k b)=some (.int k (k.wrap (a*b))):=by simp[BL,GN,GL]
theorem Ag0:BL P .quo t (.int k a) (.int k b)=if b=0 then none else some (.int k (k.wrap (a.tdiv b))):=by simp[BL,GN,GL]
theorem Ag1:BL P .rem t (.int k a) (.int k b)=if b=0 then none else some (.int k (a.tmod b)):=by simp[BL,GN,GL]
theorem Ag2:BL P .and t (.int k a) (.int k b)=(Ct .and k a b).map (.int k):=by simp[BL,GN,GL]
theorem Air:BL P .or t (.int k a) (.int k b)=(Ct .or k a b).map (.int k):=by simp[BL,GN,GL]
theorem Ag3:BL P .xor t (.int k a) (.int k b)=(Ct .xor k a b).map (.int k):=by simp[BL,GN,GL]
theorem gV:BL P .andNot t (.int k a) (.int k b)=(Ct .andNot k a b).map (.int k):=by simp[BL,GN,GL]
theorem Ag4:BL P .eql t (.int k a) (.int k b)=some (.bool (decide (a=b))):=by simp[BL,GN,GL]
theorem Ag5:BL P .neq t (.int k a) (.int k b)=some (.bool (decide (¬a=b))):=by simp[BL,GN,GL]
theorem Ag6:BL P .lss t (.int k a) (.int k b)=some (.bool (decide (a<b))):=by simp[BL,GN,GL]
theorem Ag7:BL P .leq t (.int k a) (.int k b)=some (.bool (decide (a≤b))):=by simp[BL,GN,GL]
theorem Ag8:BL P .gtr t (.int k a) (.int k b)=some (.bool (decide (b<a))):=by simp[BL,GN,GL]
theorem Ag9:BL P .geq t (.int k a) (.int k b)=some (.bool (decide (b≤a))):=by simp[BL,GN,GL]
theorem Aha:BL P .shl t (.int k a) (.int k' b)=if b<0 then none else some (.int k (k.wrap (a*2 ^ (min b.toNat k.bits)))):=nrfl rfl
theorem Ahb:BL P .shr t (.int k a) (.int k' b)=if b<0 then none else some (.int k (a.fdiv (2 ^ (min b.toNat k.bits)))):=nrfl rfl
variable {s u:List UInt8}
theorem Acj:BL P .add t (.str s) (.str u)=if s.length+u.length≤2147483648 then some (.str (s++u))else none:=nrfl rfl
theorem Ack:BL P .eql t (.str s) (.str u)=some (.bool (decide (s=u))):=nrfl rfl
theorem Acl:BL P .neq t (.str s) (.str u)=some (.bool (decide (¬s=u))):=nrfl rfl
theorem Acm:BL P .lss t (.str s) (.str u)=some (.bool (Op.bytesLess s u)):=nrfl rfl
theorem Acn:BL P .leq t (.str s) (.str u)=some (.bool (Op.bytesLess s u||decide (s=u))):=nrfl rfl
theorem Aco:BL P .gtr t (.str s) (.str u)=some (.bool !(Op.bytesLess s u||decide (s=u))):=nrfl rfl
theorem Acp:BL P .geq t (.str s) (.str u)=some (.bool !(Op.bytesLess s u)):=nrfl rfl
variable {x y:Bool}
theorem Acq:BL P .eql t (.bool x) (.bool y)=if GU P t=true then some (.bool (x==y))else none:=nrfl rfl
theorem Acr:BL P .neq t (.bool x) (.bool y)=if GU P t=true then some (.bool (!(x==y)))else none:=nrfl rfl
theorem Ahc:unP .neg (.int k a)=some (.int k (k.wrap (0-a))):=nrfl rfl
theorem Ahd:unP .not (.bool x)=some (.bool (!x)):=nrfl rfl
theorem Acs {src dst:TypeId}:NV P src dst (.int k a)=(Ff P dst).bind fun k=>(Ff P src).bind fun _=>some (.int k (k.wrap a)):=nrfl rfl
theorem Acu {src dst:TypeId}:NV P src dst (.str s)=if AS P src=true∧AS P dst=true then some (.str s)else none:=nrfl rfl
end
theorem gW {place:Nat→Option (Nat×Nat)} {cells:List PV}:EP place cells []=some cells:=nrfl rfl
def gX (place:Nat→Option (Nat×Nat)) (cells vs:List PV) (rest:List (Nat×PV)) (o:Option (Nat×Nat)):Option (List PV) :=
 match o with | none=>none | some q=>if vs.length=q.2∧q.1+q.2≤cells.length∧0<q.2 then EP place (Dq cells q.1 vs) rest else none
theorem ZG {place:Nat→Option (Nat×Nat)} {cells:List PV} {i:Nat} {v:PV} {rest:List (Nat×PV)}:EP place cells ((i,v)::rest)=gX place cells v.cells rest (place i):=by
 simp only[EP,gX];cases place i <;> rfl
theorem VL {place:Nat→Option (Nat×Nat)} {cells vs:List PV} {rest:List (Nat×PV)} {q:Nat×Nat}:gX place cells vs rest (some q)=if vs.length=q.2∧q.1+q.2≤cells.length∧0<q.2 then EP place (Dq cells q.1 vs) rest else none:=nrfl rfl
def uQ (P:Program) (t:TypeId) (cells:List PV) (parts:List (Nat×PV)) (o:Option (Nat×Nat)):Option PV :=
 match o with
 | some q=>(EP (fun i=>some (i*q.2,q.2)) cells parts).map .agg
 | none=>(EP (fun i=>(Ba P t i).map fun q=>(q.1,q.2.1)) cells parts).map .agg
theorem ZH {P:Program} {t:TypeId} {parts:List (Nat×PV)}:Ki P t parts=if Cd P t=true then uQ P t (AG P t).cells parts (BK P t)else none:=by
 simp only[Ki,uQ];cases BK P t <;> rfl
theorem ZI {P:Program} {t:TypeId} {cells:List PV} {parts:List (Nat×PV)}:uQ P t cells parts none=(EP (fun i=>(Ba P t i).map fun q=>(q.1,q.2.1)) cells parts).map .agg:=nrfl rfl
theorem ZJ {P:Program} {t:TypeId} {cells:List PV} {parts:List (Nat×PV)} {q:Nat×Nat}:uQ P t cells parts (some q)=(EP (fun i=>some (i*q.2,q.2)) cells parts).map .agg:=nrfl rfl
theorem uR {z:Nat} {l:List PV}:Cl z l []=some l:=nrfl rfl
theorem gY {z i:Nat} {l:List PV} {v:PV} {rest:List (Nat×PV)}:Cl z l ((i,v)::rest)=if i<l.length∧v.cells.length=z then Cl z (l.set i v) rest else none:=nrfl rfl
theorem ZK {cells vs:List PV} {off:Nat}:Dq cells off vs=cells.take off++vs++cells.drop (off+vs.length):=nrfl rfl
theorem uS {args:List PV} {t:Nat}:Fv args t=args.getD t .bad:=nrfl rfl
def gZ:Option (List PV)→Option PV
 | some [p]=>some p
 | some ps=>some (.tuple ps)
 | none=>none
theorem uT {P:Program} {rs:List ResultVar} {s:IState}:PJ P rs s=gZ (Dn P s rs):=by
 unfold PJ;cases Dn P s rs with
 | none=>rfl
 | some l=>cases l with
  | nil=>rfl
  | cons a l=>cases l <;> rfl
theorem uU {p:PV}:gZ (some [p])=some p:=nrfl rfl
theorem uV {p q:PV} {l:List PV}:gZ (some (p::q::l))=some (.tuple (p::q::l)):=nrfl rfl
theorem Sr {P:Program} {s:IState}:Dn P s []=some []:=nrfl rfl
theorem P5 {P:Program} {s:IState} {r:ResultVar} {l:List ResultVar}:Dn P s (r::l)=(Gk P s r).bind fun p=>(Dn P s l).map fun ps=>p::ps:=nrfl rfl
theorem Ss {P:Program} {s:IState} {t:Nat}:Gk P s (.tmp t)=some (s.env t):=nrfl rfl
theorem P6 {P:Program} {s:IState} {a:Nat} {t:TypeId}:Gk P s (.cell a t)=(Bu P t).bind fun q=>Dg s.st q.1 q.2 (s.env a):=nrfl rfl
theorem Ar {α β:Type} {x y:Option α} {f:α→Option β} (h:x=y):x.bind f=y.bind f:=by rw[h]
theorem Aw {α β:Type} {x y:Option α} {f:α→β} (h:x=y):x.map f=y.map f:=by rw[h]
theorem uW {X:Cfg} {f k:Nat} {l:List PV} {st:Store}:Acc X f k l st=if (DK l).all (fun i=>i==k)=true then (BZ (st.only [k]) l).bind fun as=>X.tab f as (st.again k)else none:=nrfl rfl
theorem hZ {ob:Nat→Option IObj} {n k:Nat}:Store.again ⟨ob,n⟩ k=⟨Aa ob k ((ob k).bind Cm),n⟩:=nrfl rfl
theorem uX {X:Cfg} {f:Nat} {l:List PV} {st:Store}:Acb X f l st=(BZ (st.only (DK l)) l).bind fun as=>X.tab f as (st.seal (DK l)):=nrfl rfl
theorem iA {st:Store} {ids:List Nat} {i:Nat}:(st.seal ids).obj i=if ids.contains i=true then (st.obj i).bind Cm else (st.obj i).map (Ra (st.only ids)):=nrfl rfl
theorem ZL {st:Store} {ids:List Nat}:(st.seal ids).next=st.next:=nrfl rfl
theorem VM {g z:Nat} {es:List PV}:Cm (.arr g z es)=some (.arr (g+1) z []):=nrfl rfl
theorem ZM {st:Store} {g z:Nat} {es:List PV}:Ra st (.arr g z es)=.arr g z (es.map (K0 st)):=nrfl rfl
theorem ZN {st:Store} {cs:List PV}:K0 st (.agg cs)=.agg (cs.map (sealC st)):=nrfl rfl
theorem ZO {st:Store} {k:IntKind} {n:Int}:K0 st (.int k n)=.int k n:=nrfl rfl
theorem ZP {st:Store} {k:IntKind} {n:Int}:sealC st (.int k n)=.int k n:=nrfl rfl
theorem VN {st:Store} {b:Bool}:sealC st (.bool b)=.bool b:=nrfl rfl
theorem VO {st:Store} {z:Nat} {l:List PV}:sealC st (.lits z l)=.lits z l:=nrfl rfl
theorem VP {st:Store}:sealC st .nils=.nils:=nrfl rfl
theorem ZQ {st:Store} {id g s n:Nat}:sealC st (.ref id g s n)=((st.arr? id g).bind fun q=>if s+n≤q.2.length∧AT q.2=true then some (.lits q.1 ((q.2.drop s).take n))else none).getD (.ref id g s n):=nrfl rfl
theorem uY {X:Cfg} {f:Nat} {l:List PV} {st:Store}:Aca X f l st=(BZ (st.only (DK l)) l).bind fun as=>X.tab f as (st.without (DK l)):=nrfl rfl
theorem VQ {st:Store} {c:PV} {l:List PV}:BZ st (c::l)=(rdP st c).bind fun d=>(BZ st l).map fun ds=>d::ds:=by simp only[BZ]
theorem ZR {st:Store}:BZ st []=some []:=by simp only[BZ]
theorem iB {st:Store} {c:PV} {l:List PV}:rdL st (c::l)=(rdC st c).bind fun d=>(rdL st l).map fun ds=>d::ds:=by simp only[rdL]
theorem uZ {st:Store}:rdL st []=some []:=by simp only[rdL]
theorem vA {spec:List PV→Option PV} {args:List PV} {st:Store}:YM spec args st=if AT args=true then (spec args).map fun r=>(r,st)else (BZ st args).bind fun as=>(spec as).bind fun r=>if r.scal=true then some (r,st)else none:=nrfl rfl
theorem Ds {c:PV} {l:List PV}:AT (c::l)=(c.pur&&AT l):=by simp only[AT]
theorem FI:AT []=true:=by simp only[AT]
end Sim
namespace Sim
open Go
def Bk:Code→Code
 | .region id ops _=>.region id ops false
 | .seq a b=>.seq (Bk a) (Bk b)
 | .cond c a b=>.cond c (Bk a) (Bk b)
 | .block id c=>.block id (Bk c)
 | .loop c=>.loop (Bk c)
 | .scope c=>.scope (Bk c)
 | c=>c
def Bn (X:Cfg):Code→Bool
 | .region _ ops dr => !dr||IQ X ops
 | .seq a b=>Bn X a&&Bn X b
 | .cond _ a b=>Bn X a&&Bn X b
 | .block _ c=>Bn X c
 | .loop c=>Bn X c
 | .scope c=>Bn X c
 | _=>true
theorem EU {G:WP} (hG:G.Mono) {X:Cfg} (hm:Bf X) {N:Nat} {c:Code}:∀ {Q:IExit→IState→Prop} {s:IState},Bn X c=true→wpC G X N (Bk c) Q s→wpC G X N c Q s:=by
 induction c with
 | skip=>intro Q s hd hs;exact hs
 | region id ops dr =>
  intro Q s hd hs
  rcases hs with hs | hs
  ·refine .inl ⟨fun h=>?_,hs.2⟩
   subst h
   simpa [Bn]using hd
  ·cases hs.1
 | seq a b iha ihb =>
  intro Q s hd hs
  simp only[Bn,Bool.and_eq_true]at hd
  refine iha hd.1 (CK hG X N _ _ _ _ hm (fun e s' he=>?_) hs)
  cases e with
  | normal=>exact ihb hd.2 he
  | exit i=>exact he
  | ret=>exact he
 | cond c a b iha ihb =>
  intro Q s hd hs
  simp only[Bn,Bool.and_eq_true]at hd
  simp only[Bk,wpC]at hs ⊢
  split at hs
  ·exact ⟨fun hv=>iha hd.1 (hs.1 hv),fun hv=>ihb hd.2 (hs.2 hv)⟩
  ·exact hs.elim
 | block id c ih=>intro Q s hd hs;exact ih hd hs
 | loop c ih =>
  intro Q s hd hs
  obtain ⟨J,n,h0,hr⟩:=hs
  exact ⟨J,n,h0,fun m s' hs'=>ih hd (hr m s' hs')⟩
 | exit id=>intro Q s hd hs;exact hs
 | ret=>intro Q s hd hs;exact hs
 | rangeFunc=>intro Q s hd hs;exact hs
 | scope c ih=>intro Q s hd hs;exact ih hd hs
 | label=>intro Q s hd hs;exact hs
 | goto=>intro Q s hd hs;exact hs
 | refuse=>intro Q s hd hs;exact hs
theorem CY {X:Cfg} (hm:Bf X) {N:Nat} {c:Code} {Q:IExit→IState→Prop} {s:IState} (hd:Bn X c=true) (h:wpI X N (Bk c) Q s):wpI X N c Q s:=EU (DN X.dep) hm hd h
section
variable {X:Cfg} {N:Nat} {Q:IExit→IState→Prop} {ks:List Kf} {s:IState}
theorem vB:run X N Q (Bk .skip) ks s=Gh X N Q ks s:=nrfl rfl
theorem Acv {a b:Code}:run X N Q (Bk (.seq a b)) ks s=run X N Q (Bk a) (.seq (Bk b)::ks) s:=Py
theorem iC {id:Nat} {c:Code}:run X N Q (Bk (.block id c)) ks s=run X N Q (Bk c) (.blk id::ks) s:=Ko
theorem vC {id:Nat}:run X N Q (Bk (.exit id)) ks s=GI X N Q ks id s:=nrfl rfl
theorem Acw:run X N Q (Bk .ret) ks s=done X N Q ks s:=nrfl rfl
theorem ZS {id:Nat} {l:List Oper} {dr:Bool}:run X N Q (Bk (.region id l.toArray dr)) ks s=ops X N Q l.toArray l ks s:=IR
theorem vD {c:Operand} {a b:Code}:run X N Q (Bk (.cond c a b)) ks s=GJ (AB s.env c) (run X N Q (Bk a) ks s) (run X N Q (Bk b) ks s):=L5
theorem iD {g:Operand} {ps:Array Tmp} {a b:Code}:run X N Q (Bk (.rangeFunc g ps a b)) ks s=run X N Q (.rangeFunc g ps a b) ks s:=nrfl rfl
end
theorem A5 {P:Program} (hmix:P.follows .mixedOrders=true) {l:AU} (hl:Bm P l) (muts:List Nat) (frz:List Nat) {f:FuncId} {fn:Func} {c:Code} (hf:P.funcs[f]?=some fn) (hb:fn.body=some c)
  (hname : (fn.name == "runtime.NumGoroutine") = false) {args : List PV} {N : Nat} (hN : fn.ntmps = N) (hn : args.length ≤ N) {rs : List ResultVar} (hrs : fn.results.toList = rs) (hd : Bn (cfg P l muts frz) c = true) {r : PV}
  (h : AI args→run (cfg P l muts frz) N (Ai P rs (fun p st=>DRx st p r)) (Bk c) [] ⟨Fv args,st0⟩):VC P f args r :=
 Aa0 hmix hl muts frz hf hb hname hN hn hrs 0 fun hs=>CY (AY rfl) hd (by
  have e:stR 0=st0:=by simp[stR,st0]
  rw [e];exact h hs)
theorem VS {P:Program} (hmix:P.follows .mixedOrders=true) {l:AU} (hl:Bm P l) (muts:List Nat) (frz:List Nat) (n dep:Nat) {f:FuncId} {fn:Func} {c:Code} (hf:P.funcs[f]?=some fn) (hb:fn.body=some c)
  (hname : (fn.name == "runtime.NumGoroutine") = false) {args : List PV} {N : Nat} (hN : fn.ntmps = N) (hn : args.length ≤ N) {rs : List ResultVar} (hrs : fn.results.toList = rs) (hd : Bn (cfg P l muts frz dep) c = true) {r : PV}
  (h : AI args→run (cfg P l muts frz dep) N (Ai P rs (fun p st=>DRx st p r)) (Bk c) [] ⟨Fv args,⟨fun i=>if i<n then some (.arr 0 1 [])else none,n⟩⟩):VC P f args r :=
 Aa0 hmix hl muts frz hf hb hname hN hn hrs n (dep:=dep) fun hs=>CY (AY rfl) hd (h hs)
theorem Cf {P:Program} (hmix:P.follows .mixedOrders=true) {l:AU} (hl:Bm P l) (muts:List Nat) (frz:List Nat) (dep:Nat) {f:FuncId} {fn:Func} {c:Code} (hf:P.funcs[f]?=some fn) (hb:fn.body=some c)
  (hname : (fn.name == "runtime.NumGoroutine") = false) {args : List PV} {N : Nat} (hN : fn.ntmps = N) (hn : args.length ≤ N) {rs : List ResultVar} (hrs : fn.results.toList = rs) (hd : Bn (cfg P l muts frz dep) c = true) {st : Store} {Q : PV → Store → Prop}
  (h : run (cfg P l muts frz dep) N (Ai P rs Q) (Bk c) [] ⟨Fv args,st⟩):IXC P f args st Q :=
 WQ hmix hl muts frz hf hb hname hN hn hrs (dep:=dep) (CY (AY rfl) hd h)
theorem vE {P:Program} (hmix:P.follows .mixedOrders=true) {l:AU} (hl:Bm P l) (muts:List Nat) (frz:List Nat) (n dep:Nat) {f:FuncId} {fn:Func} {c:Code} (hf:P.funcs[f]?=some fn) (hb:fn.body=some c)
  (hname : (fn.name == "runtime.NumGoroutine") = false) {args : List PV} {N : Nat} (hN : fn.ntmps = N) (hn : args.length ≤ N) {rs : List ResultVar} (hrs : fn.results.toList = rs) (hd : Bn (cfg P l muts frz dep) c = true) {z : Nat} {es : List PV}
  (hs : ∀e∈es,e.scal=true)
  (h : run (cfg P l muts frz dep) N (Ai P rs (fun p st=>(∃id g,p=.ref id g 0 es.length∧st.obj id=some (.arr g z es))∨(es = []∧0<z∧p=.nils))) (Bk c) [] ⟨Fv args,⟨fun i=>if i<n then some (.arr 0 1 [])else none,n⟩⟩):VCA P f args z es :=
 sQ hmix hl muts frz hf hb hname hN hn hrs n (dep:=dep) hs (CY (AY rfl) hd h)
theorem ZT {X:Cfg} {N:Nat} {Q:IExit→IState→Prop} {ks:List Kf} {s:IState} {all:Array Oper} {l:List Oper} {d:Option Nat} {c:Prop} [Decidable c] {x y:PV×Store}:Bl X N Q all l ks d s (if c then some x else some y)=((c→Bl X N Q all l ks d s (some x))∧(¬c→Bl X N Q all l ks d s (some y))):=by
 by_cases h:c <;> simp[h]
theorem vF {k:IntKind} {l:List Int} {i:Nat} {n:Int}:(l.map (PV.int k)).set i (PV.int k n)=(l.set i n).map (PV.int k):=by simp
theorem Eh {α:Type} {f:α→PV} {l:List α} {i:Nat} (d:α) (h:i<l.length):nth (l.map f) i=f (l.getD i d):=by simp[nth,h]
theorem H1 {α:Type} {f:α→PV} {l:List α} (h:∀x,(f x).pur=true):AT (l.map f)=true:=Kl h
theorem H2 {α:Type} {f:α→PV} {l m:List α} (h:∀x y,f x=f y→x=y):(l.map f=m.map f)=(l=m):=propext ⟨FH h,fun h=>by rw[h]⟩
theorem ZU {p:Prop} [Decidable p] {A B:Prop}:BN (.bool (decide p)) true A B=((p→A)∧(¬p→B)):=by simp[BN]
theorem ZV {p:Prop} [Decidable p] {A B:Prop}:BN (.bool (decide p)) false A B=((¬p→A)∧(p→B)):=by simp[BN]
theorem vG {p:Prop} [Decidable p] {A B:Prop}:GJ (.bool (decide p)) A B=((p→A)∧(¬p→B)):=by simp[GJ]
theorem vH {P:Program} {t:TypeId} {x y:Bool}:BL P .eql t (.bool x) (.bool y)=if GU P t=true then some (.bool (decide (x=y)))else none:=by rw[Acq];cases x <;> cases y <;> rfl
theorem vI {P:Program} {t:TypeId} {x y:Bool}:BL P .neq t (.bool x) (.bool y)=if GU P t=true then some (.bool (decide (¬x=y)))else none:=by rw[Acr];cases x <;> cases y <;> rfl
theorem AD {o o':Option Nat} {ρ:Nat→PV} (h:o=o'):grd o ρ=grd o' ρ:=by rw[h]
theorem As {c c' a b:PV} {st:Store} (h:c=c'):Og c a b st=Og c' a b st:=by rw[h]
theorem iE {st:Store} {ids:List Nat} {i:Nat}:(st.only ids).obj i=if ids.contains i=true then st.obj i else none:=nrfl rfl
theorem ZW {st:Store} {ids:List Nat}:(st.only ids).next=st.next:=nrfl rfl
theorem St {st:Store} {ids:List Nat} {i:Nat}:(st.without ids).obj i=if ids.contains i=true then none else st.obj i:=nrfl rfl
theorem P7 {st:Store} {ids:List Nat}:(st.without ids).next=st.next:=nrfl rfl
theorem VT {p:PV} {l:List PV}:DK (p::l)=idC p++DK l:=nrfl rfl
theorem ZX:DK [] = []:=nrfl rfl
theorem vJ {i g s n:Nat}:idC (.ref i g s n) = [i]:=nrfl rfl
theorem vK {k:IntKind} {n:Int}:idC (.int k n) = []:=nrfl rfl
theorem iF {b:Bool}:idC (.bool b) = []:=nrfl rfl
theorem vL {b:List UInt8}:idC (.str b) = []:=nrfl rfl
theorem iG:idC .nils = []:=nrfl rfl
theorem iH {z:Nat} {l:List PV}:idC (.lits z l) = []:=nrfl rfl
def idE:PV→List Nat | .ref id _ _ _ => [id] | _ => []
def idL:List PV→List Nat | [] => [] | c::l=>idE c++idL l
theorem vM {cs:List PV}:idC (.agg cs)=idL cs:=by
 induction cs with
 | nil=>rfl
 | cons c l ih=>simp only[idC,List.flatMap_cons]at ih ⊢;rw[ih];cases c <;> rfl
theorem iI {c:PV} {l:List PV}:idL (c::l)=idE c++idL l:=nrfl rfl
theorem vO:idL [] = []:=nrfl rfl
theorem vP {i g s n:Nat}:idE (.ref i g s n) = [i]:=nrfl rfl
theorem vQ {k:IntKind} {n:Int}:idE (.int k n) = []:=nrfl rfl
theorem iJ {b:Bool}:idE (.bool b) = []:=nrfl rfl
theorem vR {b:List UInt8}:idE (.str b) = []:=nrfl rfl
theorem iK:idE .nils = []:=nrfl rfl
theorem iL {z:Nat} {l:List PV}:idE (.lits z l) = []:=nrfl rfl
theorem AC {W W2:List Nat} {ρ0 ρ1 ρ:Nat→PV} (h:(W2.all fun t=>W.contains t)=true):GK W ρ0 (IA W2 ρ1 ρ)=GK W ρ0 ρ1:=by
 refine propext ⟨fun g u hu=>?_,fun g u hu=>?_⟩
 all_goals
  have hn:W2.contains u=false:=by
   cases hc:W2.contains u with
   | false=>rfl
   | true =>
    have := List.all_eq_true.1 h u (List.contains_iff_mem.1 hc)
    rw [this]at hu;cases hu
  have e:IA W2 ρ1 ρ u=ρ1 u:=H0 hn
 ·rw [←e];exact g u hu
 ·rw [e];exact g u hu
theorem iM:IntKind.i64.bits=64:=nrfl rfl
theorem iN:IntKind.u64.bits=64:=nrfl rfl
theorem iO:IntKind.u32.bits=32:=nrfl rfl
theorem vS:IntKind.u8.bits=8:=nrfl rfl
def orI (a b:Int):Int:=IntKind.i64.wrap (BitVec.ofInt 64 a ||| BitVec.ofInt 64 b).toNat
theorem Acx {a b:Int}:Ct .or .i64 a b=some (orI a b):=nrfl rfl
end Sim
