/- Operations, shape by shape. -/
import Derived.Test.YtppljhpecoeakaaSimP
set_option linter.unusedVariables false
set_option linter.unusedSimpArgs false
namespace Sim
open Go
theorem Aas {ρ:Nat→PV} {n:Nat}:Ax ρ (.tmp n)=ρ n:=nrfl rfl
theorem Aat {ρ:Nat→PV} {k:IntKind} {n:Int}:Ax ρ (.const (.int k n))=.int k n:=nrfl rfl
theorem sB {ρ:Nat→PV} {b:Bool}:Ax ρ (.const (.bool b))=.bool b:=nrfl rfl
theorem Aau {ρ:Nat→PV} {s:ByteArray}:Ax ρ (.const (.string s))=if s.data.toList.length≤9223372036854775807 then .str s.data.toList else .bad:=nrfl rfl
theorem sC {ρ:Nat→PV}:Ax ρ (.const (.slice none 0 0))=.nils:=nrfl rfl
theorem sD {ρ:Nat→PV}:Ax ρ (.const (.pointer none))=.nilp:=nrfl rfl
theorem sE {ρ:Nat→PV}:Ax ρ (.const .nilFunc)=.nilf:=nrfl rfl
theorem sF {ρ:Nat→PV}:Ax ρ (.const .nilIface)=.nili:=nrfl rfl
theorem Aav {ρ:Nat→PV} {cs:Array Value}:Ax ρ (.const (.agg cs))=if (cs.toList.map CR).all PV.isCell then .agg (cs.toList.map CR)else .bad:=nrfl rfl
theorem sG {ρ:Nat→PV} {f:FuncId}:Ax ρ (.func f)=.func (.func f) [] []:=nrfl rfl
theorem Aaw {k:IntKind} {n:Int}:CR (.int k n)=.int k n:=nrfl rfl
theorem sH {b:Bool}:CR (.bool b)=.bool b:=nrfl rfl
theorem sJ:CR (.slice none 0 0)=.nils:=nrfl rfl
theorem Aax {s:ByteArray}:CR (.string s)=if s.data.toList.length≤9223372036854775807 then .str s.data.toList else .bad:=nrfl rfl
def grd (o:Option Nat) (ρ:Nat→PV):PV:=match o with | some d=>ρ d | none=>.bad
theorem YL {ops:Array Oper} {ρ:Nat→PV} {j:Nat}:Dt ops ρ j=grd ((ops[j]?).bind (·.dst)) ρ:=nrfl rfl
theorem eQ {d:Nat} {ρ:Nat→PV}:grd (some d) ρ=ρ d:=nrfl rfl
section
variable {X:Cfg} {d:Nat} {ρ:Operand→PV} {st:Store}
theorem eR {x:Operand}:iop X d (.move x) ρ st=some (ρ x,st):=nrfl rfl
theorem U4 {x:Operand}:iop X d (.assign x) ρ st=some (ρ x,st):=nrfl rfl
def Oc (c a b:PV) (st:Store):Option (PV×Store):=match c with | .bool v=>some (if v then a else b,st) | _=>none
theorem U5 {v:Bool} {a b:PV}:Oc (.bool v) a b st=some (if v=true then a else b,st):=nrfl rfl
theorem U6 {a b:PV}:Oc (.bool true) a b st=some (a,st):=nrfl rfl
theorem R5 {a b:PV}:Oc (.bool false) a b st=some (b,st):=nrfl rfl
theorem eS {c a b:Operand}:iop X d (.pick c a b) ρ st=Oc (ρ c) (ρ a) (ρ b) st:=nrfl rfl
theorem YM {t:TypeId} (h:X.num d=0):iop X d (.alloc t) ρ st=if 0<X.P.cellsOf t∧(AD X.P t).cells.length=X.P.cellsOf t then some (.ptr st.next 0 0 0,st.new (.arr 0 (X.P.cellsOf t) [AD X.P t]))else none:=by simp[iop,h]
def Afm (X:Cfg) (d:Nat) (cells:List PV) (p:PV) (st:Store):Option (PV×Store) :=
 if 0<cells.length then (if X.muts d then some (.ptr st.next 0 0 0,st.new (.arr 0 cells.length [p]))else some (.vptr cells 0,st))else none
theorem sK {t:TypeId} {x:Operand}:iop X d (.box t x) ρ st=Afm X d (ρ x).cells (ρ x) st:=nrfl rfl
theorem sL {cells:List PV} {p:PV}:Afm X d cells p st=if 0<cells.length then (if X.muts d=true then some (.ptr st.next 0 0 0,st.new (.arr 0 cells.length [p]))else some (.vptr cells 0,st))else none:=nrfl rfl
def evp (ρ:Operand→PV):List (Nat×Operand)→List (Nat×PV)
 | [] => []
 | x::l=>(x.1,ρ x.2)::evp ρ l
theorem eU {i:Nat} {x:Operand} {l:List (Nat×Operand)}:evp ρ ((i,x)::l)=(i,ρ x)::evp ρ l:=nrfl rfl
theorem sM:evp ρ [] = []:=nrfl rfl
theorem eV {l:List (Nat×Operand)}:(l.map fun (i,x)=>(i,ρ x))=evp ρ l:=by
 induction l with
 | nil=>rfl
 | cons x l ih=>simp only[List.map_cons,evp,ih]
theorem YN {t:TypeId} {parts:List (Nat×Operand)}:iop X d (.build t parts.toArray) ρ st=(Kh X.P t (evp ρ parts)).map fun v=>(v,st):=by rw[←eV];rfl
def Aay (X:Cfg) (d:Nat) (t:TypeId) (len:Nat) (o:Option (List PV)) (st:Store):Option (PV×Store) :=
 if 0<Ad X.P t∧len*Ad X.P t≤16777216 then o.bind fun l=>if X.muts d then (if X.num d=0 then some (.ref st.next 0 0 len,st.new (.arr 0 (Ad X.P t) l))else st.re (X.num d) (Ad X.P t) l len)else some (.lits (Ad X.P t) l,st)else none
theorem Me {t:TypeId} {len:Nat} {parts:List (Nat×Operand)}:iop X d (.buildSlice t len parts.toArray) ρ st=Aay X d t len (Cg (Ad X.P t) (List.replicate len (AD X.P (BR X.P t))) (evp ρ parts)) st:=by rw[←eV];rfl
theorem sP {t:TypeId} {len:Nat} {l:List PV}:Aay X d t len (some l) st=if 0<Ad X.P t∧len*Ad X.P t≤16777216 then (if X.muts d=true then (if X.num d=0 then some (.ref st.next 0 0 len,st.new (.arr 0 (Ad X.P t) l))else st.re (X.num d) (Ad X.P t) l len)else some (.lits (Ad X.P t) l,st))else none:=by
 simp only[Aay,Option.bind_some]
theorem Aaz {ob:Nat→Option IObj} {nx k z n g z0:Nat} {l es:List PV} (h:ob k=some (.arr g z0 es)):Store.re ⟨ob,nx⟩ (k+1) z l n=some (.ref k (g+1) 0 n,Store.set ⟨ob,nx⟩ k (.arr (g+1) z l)):=by simp[Store.re,h]
theorem Nz {k id g s n z:Nat} {l:List PV}:Ef k (.ref id g s n) (.lits z l)=(id==k-1):=nrfl rfl
theorem NA {k id g s n:Nat}:Ef k (.ref id g s n) .nils=(id==k-1):=nrfl rfl
theorem eW {t:TypeId} {x:Operand}:iop X d (.load t x) ρ st=(Bt X.P t).bind fun q=>(Dh (X.see d st) q.1 q.2 (ρ x)).map fun v=>(v,st):=nrfl rfl
theorem YO {t:TypeId} {a x:Operand}:iop X d (.store t a x) ρ st=if (X.frz (800000+Di a)=true∧NS st (ρ a) (ρ x)=false)∨(X.frz (900000+Di a)=true∧NT (X.num (Di a)) (ρ a)=false)then none else (EK st (X.P.cellsOf t) (ρ a) (ρ x)).map fun st'=>(.bad,st'):=nrfl rfl
theorem YP {n:Nat}:Di (.tmp n)=n:=nrfl rfl
theorem YQ {k id gen i o:Nat}:NT k (.ptr id gen i o)=(id==k-1):=nrfl rfl
theorem YR {id gen i o:Nat} {v:PV}:NS st (.ptr id gen i o) v=(v.isInt1&&match st.arr? id gen with | some q=>decide (q.1≤2)&&q.2.all PV.isInt | none=>false):=nrfl rfl
def Wv (p:PV) (st:Store):Option (PV×Store):=match p with | .vptr c o=>some (.vptr c o,st) | .ptr i g x o=>(st.arr? i g).map fun _=>(.ptr i g x o,st) | _=>none
theorem PJ {x:Operand}:iop X d (.nilCheck x) ρ st=(Wv (ρ x) (X.see d st)).map fun q=>(q.1,st):=by
 simp only[iop];cases ρ x <;> simp[Wv];rfl
theorem U7 {c:List PV} {o:Nat}:Wv (.vptr c o) st=some (.vptr c o,st):=nrfl rfl
theorem YT {i g x o:Nat}:Wv (.ptr i g x o) st=(st.arr? i g).map fun _=>(.ptr i g x o,st):=nrfl rfl
theorem YU {op:BinOp} {t:TypeId} {x y:Operand} {z:TypeId}:iop X d (.binOp op t x y z) ρ st=(BG X.P op t (ρ x) (ρ y)).map fun v=>(v,st):=nrfl rfl
theorem eX {op:UnOp} {t:TypeId} {x:Operand}:iop X d (.unOp op t x) ρ st=(unP op (ρ x)).map fun v=>(v,st):=nrfl rfl
theorem R6 {s t:TypeId} {x:Operand}:iop X d (.convert s t x) ρ st=(NR X.P s t (ρ x)).map fun v=>(v,st):=nrfl rfl
def evs (ρ:Operand→PV):List Operand→List PV
 | [] => []
 | x::l=>ρ x::evs ρ l
theorem eY {x:Operand} {l:List Operand}:evs ρ (x::l)=ρ x::evs ρ l:=nrfl rfl
theorem sQ:evs ρ [] = []:=nrfl rfl
theorem IT {l:List Operand}:l.map ρ=evs ρ l:=by
 induction l with
 | nil=>rfl
 | cons x l ih=>simp only[List.map_cons,evs,ih]
theorem PK {fn:Fn} {a b:List Operand}:iop X d (.makeFunc fn a.toArray b.toArray) ρ st=some (.func fn (evs ρ a) (evs ρ b),st):=by rw[←IT,←IT];rfl
def R7 (X:Cfg) (d:Nat) (t:TypeId) (a b:PV) (st:Store):Option (PV×Store) :=
 match a,b with
 | .int .i64 n,.int .i64 m=>if 0≤n∧n≤m∧m≤4294967296∧0<Ad X.P t then (if X.num d=0 then (if X.frz d=true then some (.lits (Ad X.P t) (List.replicate n.toNat (AD X.P (BR X.P t))),st)else some (.ref st.next 0 0 n.toNat,st.new (.arr 0 (Ad X.P t) (List.replicate n.toNat (AD X.P (BR X.P t))))))else st.re (X.num d) (Ad X.P t) (List.replicate n.toNat (AD X.P (BR X.P t))) n.toNat)else none
 | _,_=>none
theorem NB {t:TypeId} {l c:Operand}:iop X d (.makeSlice t l c) ρ st=R7 X d t (ρ l) (ρ c) st:=by
 simp only[iop,R7]
 cases ρ l <;> try rfl
theorem eZ {t:TypeId} {n m:Int} (h:X.num d=0) (hf:X.frz d=false):R7 X d t (.int .i64 n) (.int .i64 m) st=if 0≤n∧n≤m∧m≤4294967296∧0<Ad X.P t then some (.ref st.next 0 0 n.toNat,st.new (.arr 0 (Ad X.P t) (List.replicate n.toNat (AD X.P (BR X.P t)))))else none:=by simp[R7,h,hf]
theorem fA {t:TypeId} {n m:Int} (h:X.num d=0) (hf:X.frz d=true):R7 X d t (.int .i64 n) (.int .i64 m) st=if 0≤n∧n≤m∧m≤4294967296∧0<Ad X.P t then some (.lits (Ad X.P t) (List.replicate n.toNat (AD X.P (BR X.P t))),st)else none:=by simp[R7,h,hf]
theorem sR {t:TypeId} {n m:Int} {k:Nat} (h:X.num d=k+1):R7 X d t (.int .i64 n) (.int .i64 m) st=if 0≤n∧n≤m∧m≤4294967296∧0<Ad X.P t then st.re (k+1) (Ad X.P t) (List.replicate n.toNat (AD X.P (BR X.P t))) n.toNat else none:=by simp[R7,h]
def fB (X:Cfg) (d:Nat) (t:TypeId) (p:PV) (l h:Option (Option Int)) (st:Store):Option (PV×Store) :=
 if X.muts d=true then (match l,h with | none,none=>XT X.P st t p | _,_=>none)else
 match l,h with
 | some none,_ | _,some none=>none
 | l,h=>(Cf (X.see d st) (Ad X.P t) (AW X.P t) (BM X.P t) p (l.bind id) (h.bind id)).map fun v=>(v,st)
theorem YV {t:TypeId} {x:Operand} {lo hi:Option Operand}:iop X d (.slice t x lo hi none) ρ st=fB X d t (ρ x) (lo.map fun o=>CT (ρ o)) (hi.map fun o=>CT (ρ o)) st:=by
 cases lo <;> cases hi <;> rfl
theorem U8 {k:IntKind} {n:Int}:CT (.int k n)=some n:=nrfl rfl
theorem sS {t:TypeId} {p:PV}:fB X d t p none none st=if X.muts d=true then XT X.P st t p else (Cf (X.see d st) (Ad X.P t) (AW X.P t) (BM X.P t) p none none).map fun v=>(v,st):=nrfl rfl
theorem sT {t:TypeId} {p:PV} {n:Int}:fB X d t p (some (some n)) none st=if X.muts d=true then none else (Cf (X.see d st) (Ad X.P t) (AW X.P t) (BM X.P t) p (some n) none).map fun v=>(v,st):=nrfl rfl
theorem sU {t:TypeId} {p:PV} {m:Int}:fB X d t p none (some (some m)) st=if X.muts d=true then none else (Cf (X.see d st) (Ad X.P t) (AW X.P t) (BM X.P t) p none (some m)).map fun v=>(v,st):=nrfl rfl
theorem sV {t:TypeId} {p:PV} {n m:Int}:fB X d t p (some (some n)) (some (some m)) st=if X.muts d=true then none else (Cf (X.see d st) (Ad X.P t) (AW X.P t) (BM X.P t) p (some n) (some m)).map fun v=>(v,st):=nrfl rfl
theorem NC {t:TypeId} {x:Operand} {f:Nat}:iop X d (.fieldAddr t x f) ρ st=(Ba X.P t f).bind fun q=>if 0<q.2.1 then (CS (X.see d st) (ρ x) q.1).map fun v=>(v,st)else none:=nrfl rfl
theorem Aa0 {e:Nat}:X.see e st=if X.frz e=true then⟨fun _=>none,0⟩else if X.frz (600000+e)=true then st.past (X.num e)else if X.frz (700000+e)=true then st.hard else st:=nrfl rfl
theorem sW:st.hard=⟨fun i=>(st.obj i).bind fun o=>if GD o=true then none else some o,st.next⟩:=nrfl rfl
theorem fC {g z:Nat} {es:List PV}:GD (.arr g z es)=(decide (z≤2)&&es.all PV.isInt):=nrfl rfl
theorem U9 {k:IntKind} {n:Int}:PV.isInt1 (.int k n)=true:=nrfl rfl
theorem Va {i g s n:Nat}:PV.isInt1 (.ref i g s n)=false:=nrfl rfl
theorem YW {i g s n:Nat}:PV.isInt (.ref i g s n)=false:=nrfl rfl
theorem YX {cs:List PV}:PV.isInt (.agg cs)=cs.all PV.isInt1:=nrfl rfl
theorem YY {id gen s n z:Nat} {l:List PV}:LJ st (.ref id gen s n) (.lits z l)=(l.all PV.isInt&&match st.arr? id gen with | some q=>decide (q.1≤2)&&q.2.all PV.isInt | none=>false):=nrfl rfl
theorem YZ {k:IntKind} {n:Int}:PV.isInt (.int k n)=true:=nrfl rfl
theorem fD {l:List Int} {k:IntKind}:(l.map (PV.int k)).all PV.isInt=true:=by simp[PV.isInt]
theorem Y0 {x:Operand} {m:String} {as:List Operand} {ts:List TypeId}:iop X d (.call ⟨.invoke x m,as.toArray,ts.toArray⟩) ρ st=(bU X.P st (ρ x) m).bind fun q=>Dz X d (.func (.func q.1) [q.2] []) (Pc X d ts) (evs ρ as) st:=by rw[←IT];rfl
theorem Vb {P:Program} {t:TypeId} {v:PV} {m:String}:bU P st (.iface t v) m=(Jk P t m).bind fun q=>if q.2.1=true then some (q.1,v)else (Bt P q.2.2).bind fun r=>(Dh st r.1 r.2 v).map fun r=>(q.1,r):=nrfl rfl
def Kt (P:Program) (t:TypeId):Bool := !Jh P t&&(P.underlying t).isSome
theorem JB {t:TypeId} {x:Operand} (h:Kt X.P t=true):iop X d (.makeInterface t x) ρ st=some (.iface t (ρ x),st):=by
 simp only[Kt,Bool.and_eq_true,Bool.not_eq_true']at h
 simp only[iop,h,and_self,if_true]
def asT (t:TypeId) (p:PV) (st:Store):Option (PV×Store):=match p with | .iface t' v=>if t'=t then some (v,st)else none | _=>none
theorem Mf {x:Operand} {xt t:TypeId} (h:Kt X.P t=true):iop X d (.typeAssert x xt t false) ρ st=asT t (ρ x) st:=by
 simp only[Kt,Bool.and_eq_true,Bool.not_eq_true']at h
 simp only[iop,h,and_true,asT]
 cases ρ x <;> rfl
theorem fE {t:TypeId} {v:PV}:asT t (.iface t v) st=some (v,st):=by simp[asT]
theorem sX {k:Nat}:st.past k=⟨fun i=>if i<k then none else st.obj i,st.next⟩:=nrfl rfl
def Afn (X:Cfg) (t:TypeId) (p:PV) (f:Nat) (st:Store):Option (PV×Store):=match p with | .agg cs=>(Ba X.P t f).bind fun (o,_,u)=>(Bt X.P u).bind fun (z,ag)=>(CA cs o z ag).map fun v=>(v,st) | _=>none
theorem Y2 {t:TypeId} {x:Operand} {f:Nat}:iop X d (.field t x f) ρ st=Afn X t (ρ x) f st:=nrfl rfl
theorem fF {t:TypeId} {cs:List PV} {f:Nat}:Afn X t (.agg cs) f st=(Ba X.P t f).bind fun q=>(Bt X.P q.2.2).bind fun r=>(CA cs q.1 r.1 r.2).map fun v=>(v,st):=nrfl rfl
def Afo (X:Cfg) (d:Nat) (t:TypeId) (p i:PV) (st:Store):Option (PV×Store):=match i with | .int _ n=>(Cp X.P (X.see d st) t p n).map fun v=>(v,st) | _=>none
theorem ND {t:TypeId} {x i:Operand}:iop X d (.indexAddr t x i) ρ st=Afo X d t (ρ x) (ρ i) st:=nrfl rfl
theorem fG {t:TypeId} {p:PV} {k:IntKind} {n:Int}:Afo X d t p (.int k n) st=(Cp X.P (X.see d st) t p n).map fun v=>(v,st):=nrfl rfl
def Afp (X:Cfg) (t:TypeId) (p i:PV) (st:Store):Option (PV×Store):=match i with | .int _ n=>(ID X.P t p n).map fun v=>(v,st) | _=>none
theorem Y3 {t:TypeId} {x i:Operand}:iop X d (.index t x i) ρ st=Afp X t (ρ x) (ρ i) st:=nrfl rfl
theorem fH {t:TypeId} {p:PV} {k:IntKind} {n:Int}:Afp X t p (.int k n) st=(ID X.P t p n).map fun v=>(v,st):=nrfl rfl
def Afq (p:PV) (i:Nat) (st:Store):Option (PV×Store):=match p with | .tuple vs=>(vs[i]?).map fun v=>(v,st) | _=>none
theorem R8 {x:Operand} {i:Nat}:iop X d (.extract x i) ρ st=Afq (ρ x) i st:=nrfl rfl
theorem Vc {vs:List PV} {i:Nat}:Afq (.tuple vs) i st=(vs[i]?).map fun v=>(v,st):=nrfl rfl
theorem Ku {f:Operand} {as:List Operand} {ts:List TypeId}:iop X d (.call ⟨.value f,as.toArray,ts.toArray⟩) ρ st=Dz X d (ρ f) (Pc X d ts) (evs ρ as) st:=by rw[←IT];rfl
theorem Y5 {b:Builtin} {as:List Operand} {ts:List TypeId}:iop X d (.call ⟨.builtin b,as.toArray,ts.toArray⟩) ρ st=Bb X d b ts (evs ρ as) st:=by rw[←IT];rfl
def Aa1 (X:Cfg) (f:Nat) (l:List PV) (st:Store):Option (PV×Store):=(BW (st.only (DM l)) l).bind fun as=>X.tab f as (st.without (DM l))
def Aa2 (X:Cfg) (f:Nat) (l:List PV) (st:Store):Option (PV×Store):=(BW (st.only (DM l)) l).bind fun as=>X.tab f as (st.seal (DM l))
def Aa3 (X:Cfg) (f k:Nat) (l:List PV) (st:Store):Option (PV×Store):=if (DM l).all (fun i=>i==k)=true then (BW (st.only [k]) l).bind fun as=>X.tab f as (st.again k)else none
theorem fI {f:Nat} {a b:List PV} {ts:List TypeId} {args:List PV}:Dz X d (.func (.func f) a b) ts args st=if X.frz d=true then (if X.num d=0 then Aa1 X f (a++nrmAll X.P ts args++b) st else if X.muts d=true then Aa3 X f (X.num d-1) (a++nrmAll X.P ts args++b) st else Aa2 X f (a++nrmAll X.P ts args++b) st)else if X.muts d=true∧(AS (a++nrmAll X.P ts args++b)=false∨(X.frz (1200000+d)=true∧X.quiet f=false))then none else X.tab f (a++nrmAll X.P ts args++b) st:=by
 simp only[Dz,Aa1,Aa2,Aa3]
 by_cases h1:X.frz d=true <;> by_cases h2:X.num d=0 <;> by_cases h3:X.muts d=true <;> simp[h1,h2,h3]
theorem sY {ts:List TypeId}:Pc X d ts=if X.frz (400000+d)=true then []else ts:=nrfl rfl
theorem R9 {P:Program} {t:TypeId} {ts:List TypeId} {p:PV} {l:List PV}:nrmAll P (t::ts) (p::l)=nrm (Bw P t) p::nrmAll P ts l:=nrfl rfl
theorem Vd {P:Program} {l:List PV}:nrmAll P [] l=l:=by simp[nrmAll]
def Y6 (st:Store) (q:Option (MK×PV)) (L:Option Int) (x:PV):Option Int:=match q with | some q=>GV st (some q) x | none=>L
theorem Aa4 {t:TypeId} {x:PV}:Bb X d .len [t] [x] st=(Y6 st (AZ X.P t) (Ji (X.see d st) (Ad X.P t) (AW X.P t) x) x).map fun n=>(.int .i64 n,st):=by simp only[Bb,Y6];cases AZ X.P t <;> rfl
theorem Y7 {L:Option Int} {x:PV}:Y6 st none L x=L:=nrfl rfl
theorem sZ {t u:TypeId} {x y:PV}:Bb X d .copy [t,u] [x,y] st=(Q0 st (Ad X.P t) x y).map fun q=>(.int .i64 q.1,q.2):=nrfl rfl
theorem Y8 {t u:TypeId} {x y:PV} (h:X.num d=0):Bb X d .append [t,u] [x,y] st=if Ad X.P u≠0∨AW X.P u=true then (if X.frz (700000+d)=true∧LJ st x y=false then none else (Ce st (Ad X.P t) y).bind fun ys=>Cn st (Ad X.P t) x ys)else none:=by
 simp only[Bb,h]
 by_cases h1:Ad X.P u≠0∨AW X.P u=true <;> by_cases h2:X.frz (700000+d)=true <;> cases h3:LJ st x y <;> simp[h1,h2]
theorem PN {t u:TypeId} {x y:PV} {k:Nat} (h:X.num d=k+1):Bb X d .append [t,u] [x,y] st=if Ef (k+1) x y=true then (if Ad X.P u≠0∨AW X.P u=true then (if X.frz (700000+d)=true then none else (Ce st (Ad X.P t) y).bind fun ys=>Cn st (Ad X.P t) x ys)else none)else none:=by
 simp only[Bb,h]
 by_cases h1:Ef (k+1) x y=true <;> by_cases h2:Ad X.P u≠0∨AW X.P u=true <;> by_cases h3:X.frz (700000+d)=true <;> simp[h1,h2,h3]
theorem Aa5 {ts:List TypeId} {x y:Int} {k:IntKind}:Bb X d .min ts [.int k x,.int k y] st=some (.int k (if y<x then y else x),st):=by
 cases ts with
 | nil=>simp[Bb,Fi]
 | cons t ts=>cases ts <;> simp[Bb,Fi]
theorem Aa6 {ts:List TypeId} {x y:Int} {k:IntKind}:Bb X d .max ts [.int k x,.int k y] st=some (.int k (if x<y then y else x),st):=by
 cases ts with
 | nil=>simp[Bb,Fi]
 | cons t ts=>cases ts <;> simp[Bb,Fi]
end
theorem tA {m:List (Nat×Nat)} {cs:List PV}:nrm m (.agg cs)=.agg (Jj m 0 cs):=nrfl rfl
theorem Y9 {m:List (Nat×Nat)} {i:Nat} {c:PV} {l:List PV}:Jj m i (c::l)=nrm1 (m.lookup i) c::Jj m (i+1) l:=nrfl rfl
theorem fJ {m:List (Nat×Nat)} {i:Nat}:Jj m i [] = []:=nrfl rfl
theorem fK {m:List (Nat×Nat)}:nrm m .nils=nrm1 (m.lookup 0) .nils:=nrfl rfl
theorem Za {z:Nat}:nrm1 (some z) .nils=.lits z []:=nrfl rfl
theorem Zb:nrm1 none .nils=.nils:=nrfl rfl
theorem tB {p:PV}:nrm1 none p=p:=by cases p <;> rfl
theorem Aa7 {p:PV}:nrm [] p=p:=by
 cases p <;> try rfl
 rename_i cs
 simp only[nrm,PV.agg.injEq]
 have : ∀(l:List PV) (i:Nat),Jj [] i l=l:=by
  intro l;induction l with
  | nil=>intro i;rfl
  | cons c l ih=>intro i;simp only[Jj,ih,List.lookup_nil,tB]
 exact this cs 0
theorem tC {m:List (Nat×Nat)} {k:IntKind} {n:Int}:nrm m (.int k n)=.int k n:=nrfl rfl
theorem tD {m:List (Nat×Nat)} {s:List UInt8}:nrm m (.str s)=.str s:=nrfl rfl
theorem fL {m:List (Nat×Nat)} {b:Bool}:nrm m (.bool b)=.bool b:=nrfl rfl
theorem fM {m:List (Nat×Nat)} {z:Nat} {l:List PV}:nrm m (.lits z l)=.lits z l:=nrfl rfl
theorem tE {m:List (Nat×Nat)} {i g s n:Nat}:nrm m (.ref i g s n)=.ref i g s n:=nrfl rfl
theorem fN {m:List (Nat×Nat)} {f:Fn} {a b:List PV}:nrm m (.func f a b)=.func f a b:=nrfl rfl
theorem fO {m:List (Nat×Nat)} {cs:List PV} {o:Nat}:nrm m (.vptr cs o)=.vptr cs o:=nrfl rfl
theorem tF {m:List (Nat×Nat)} {i g x o:Nat}:nrm m (.ptr i g x o)=.ptr i g x o:=nrfl rfl
theorem fP {m:Option Nat} {k:IntKind} {n:Int}:nrm1 m (.int k n)=.int k n:=nrfl rfl
theorem fQ {m:Option Nat} {s:List UInt8}:nrm1 m (.str s)=.str s:=nrfl rfl
theorem Zc {m:Option Nat} {b:Bool}:nrm1 m (.bool b)=.bool b:=nrfl rfl
theorem Zd {m:Option Nat} {z:Nat} {l:List PV}:nrm1 m (.lits z l)=.lits z l:=nrfl rfl
theorem fR {m:Option Nat} {i g s n:Nat}:nrm1 m (.ref i g s n)=.ref i g s n:=nrfl rfl
section
variable {st:Store}
def Aa8 (o:Option IObj) (gen:Nat):Option (Nat×List PV):=match o with | some (.arr g z es)=>if gen=g then some (z,es)else none | _=>none
theorem Aa9 {id g:Nat}:st.arr? id g=Aa8 (st.obj id) g:=nrfl rfl
theorem Ze {g h z:Nat} {es:List PV}:Aa8 (some (.arr h z es)) g=if g=h then some (z,es)else none:=nrfl rfl
theorem tG {cells:List PV} {off sz:Nat}:CA cells off sz false=cells[off]?:=nrfl rfl
theorem tH {cells:List PV} {off sz:Nat}:CA cells off sz true=if off+sz≤cells.length then some (.agg ((cells.drop off).take sz))else none:=nrfl rfl
theorem Ve {sz off:Nat} {ag:Bool} {cells:List PV}:Dh st sz ag (.vptr cells off)=CA cells off sz ag:=nrfl rfl
theorem Zf {sz off id gen idx:Nat} {ag:Bool}:Dh st sz ag (.ptr id gen idx off)=(st.arr? id gen).bind fun q=>CA (nth q.2 idx).cells off sz ag:=nrfl rfl
theorem PO {cs vs:List PV} {o:Nat}:A6 (.agg cs) o vs=.agg (Ds cs o vs):=nrfl rfl
theorem PR {k:IntKind} {n:Int} {v:PV} {o:Nat}:A6 (.int k n) o [v]=v:=nrfl rfl
theorem NE {b:Bool} {v:PV} {o:Nat}:A6 (.bool b) o [v]=v:=nrfl rfl
theorem NF {v:PV} {o:Nat}:A6 .nils o [v]=v:=nrfl rfl
theorem PS {i g s n:Nat} {v:PV} {o:Nat}:A6 (.ref i g s n) o [v]=v:=nrfl rfl
theorem Vf {sz id gen idx off:Nat} {v:PV}:EK st sz (.ptr id gen idx off) v=(st.arr? id gen).bind fun q=>if v.cells.length=sz∧0<sz∧idx<q.2.length∧off+sz≤q.1 then some (st.set id (.arr gen q.1 (q.2.set idx (A6 (nth q.2 idx) off v.cells))))else none:=nrfl rfl
theorem Sa {cells:List PV} {off o:Nat}:CS st (.vptr cells off) o=some (.vptr cells (off+o)):=nrfl rfl
theorem Vg {id gen idx off o:Nat}:CS st (.ptr id gen idx off) o=(st.arr? id gen).map fun _=>.ptr id gen idx (off+o):=nrfl rfl
variable {P:Program} {t:TypeId} {i:Int}
theorem Sb {z:Nat} {l:List PV}:Cp P st t (.lits z l) i=if 0≤i∧i<l.length∧z=Ad P t∧0<z then some (.vptr (nth l i.toNat).cells 0)else none:=nrfl rfl
theorem Vh {id gen s n:Nat}:Cp P st t (.ref id gen s n) i=(st.arr? id gen).bind fun q=>if 0≤i∧i<n∧s+n≤q.2.length∧q.1=Ad P t then some (.ptr id gen (s+i.toNat) 0)else none:=nrfl rfl
theorem Sc {cells:List PV} {off:Nat}:Cp P st t (.vptr cells off) i=(BM P t).bind fun q=>if 0≤i∧i<q.1∧0<q.2 then some (.vptr cells (off+i.toNat*q.2))else none:=nrfl rfl
theorem Vi {id gen idx off:Nat}:Cp P st t (.ptr id gen idx off) i=(st.arr? id gen).bind fun _=>(BM P t).bind fun q=>if 0≤i∧i<q.1∧0<q.2 then some (.ptr id gen idx (off+i.toNat*q.2))else none:=nrfl rfl
theorem Vj {s:List UInt8}:ID P t (.str s) i=if 0≤i∧i<s.length∧AW P t=true then some (.int .u8 (s.getD i.toNat 0).toNat)else none:=nrfl rfl
theorem Vk {cs:List PV}:ID P t (.agg cs) i=(Kg P t).bind fun q=>(Bt P q.2).bind fun r=>if 0≤i∧i<q.1 then CA cs (i.toNat*r.1) r.1 r.2 else none:=nrfl rfl
variable {z:Nat} {sb:Bool}
theorem Zg:Ji st z sb .nils=if 0<z then some 0 else none:=nrfl rfl
theorem Zh {y:Nat} {l:List PV}:Ji st z sb (.lits y l)=if 0<z then some (l.length:Int)else none:=nrfl rfl
theorem fS {id g s n:Nat}:Ji st z sb (.ref id g s n)=(st.arr? id g).bind fun _=>if 0<z then some (n:Int)else none:=nrfl rfl
theorem fT {s:List UInt8}:Ji st z sb (.str s)=if sb=true then some (s.length:Int)else none:=nrfl rfl
theorem Sd:Ce st z .nils=some []:=nrfl rfl
theorem Se {y:Nat} {l:List PV}:Ce st z (.lits y l)=if y=z then some l else none:=nrfl rfl
theorem Vl {id gen s n:Nat}:Ce st z (.ref id gen s n)=(st.arr? id gen).bind fun q=>if s+n≤q.2.length∧q.1=z then some ((q.2.drop s).take n)else none:=nrfl rfl
theorem Vm {s:List UInt8}:Ce st z (.str s)=if z=1 then some (s.map fun b=>.int .u8 b.toNat)else none:=nrfl rfl
theorem Sf {lo hi:Option Int} {ar:Option (Nat×Nat)}:Cf st z sb ar .nils lo hi=if lo.getD 0=0∧hi.getD 0=0∧0<z then some .nils else none:=nrfl rfl
theorem Sg {y:Nat} {l:List PV} {lo hi:Option Int} {ar:Option (Nat×Nat)}:Cf st z sb ar (.lits y l) lo hi=if 0≤lo.getD 0∧lo.getD 0≤hi.getD l.length∧hi.getD l.length≤l.length∧y=z∧0<z then some (.lits z ((l.drop (lo.getD 0).toNat).take ((hi.getD l.length).toNat-(lo.getD 0).toNat)))else none:=nrfl rfl
theorem Vn {id gen s n:Nat} {lo hi:Option Int} {ar:Option (Nat×Nat)}:Cf st z sb ar (.ref id gen s n) lo hi=(st.arr? id gen).bind fun q=>if 0≤lo.getD 0∧lo.getD 0≤hi.getD n∧hi.getD n≤(q.2.length:Int)-s∧s≤q.2.length∧q.1=z then some (.ref id gen (s+(lo.getD 0).toNat) ((hi.getD n).toNat-(lo.getD 0).toNat))else none:=nrfl rfl
theorem Sh {cs:List PV} {off:Nat} {lo hi:Option Int} {ar:Option (Nat×Nat)}:Cf st z sb ar (.vptr cs off) lo hi=ar.bind fun a=>if a.2=1∧lo=none∧hi=none∧off+a.1≤cs.length∧0<a.1∧a.1≤65536 then some (.lits 1 ((cs.drop off).take a.1))else none:=nrfl rfl
theorem fU {P:Program} {t:TypeId} {id gen idx off:Nat}:XT P st t (.ptr id gen idx off)=(st.arr? id gen).bind fun q=>(BM P t).bind fun a=>if a.2=1∧idx<q.2.length∧AS q.2=true∧off+a.1≤(nth q.2 idx).cells.length∧0<a.1∧a.1≤65536 then some (.lits 1 (((nth q.2 idx).cells.drop off).take a.1),st.without [id])else none:=nrfl rfl
theorem Vo {s:List UInt8} {lo hi:Option Int} {ar:Option (Nat×Nat)}:Cf st z sb ar (.str s) lo hi=if 0≤lo.getD 0∧lo.getD 0≤hi.getD s.length∧hi.getD s.length≤s.length∧sb=true then some (.str ((s.drop (lo.getD 0).toNat).take ((hi.getD s.length).toNat-(lo.getD 0).toNat)))else none:=nrfl rfl
theorem PT {ys:List PV}:Cn st z .nils ys=if 0<z∧ys.length≤2147483648 then (if ys.length=0 then some (.nils,st)else some (.ref st.next 0 0 ys.length,st.new (.arr 0 z ys)))else none:=nrfl rfl
theorem Si {id gen s n:Nat} {ys:List PV}:Cn st z (.ref id gen s n) ys=(st.arr? id gen).bind fun q =>
   if s+n≤q.2.length∧q.1=z∧n+ys.length≤2147483648 then
    if s+n+ys.length≤q.2.length then
     some (.ref id gen s (n+ys.length),st.set id (.arr gen z (q.2.take (s+n)++ys++q.2.drop (s+n+ys.length))))
    else some (.ref id (gen+1) 0 (n+ys.length),st.set id (.arr (gen+1) z ((q.2.drop s).take n++ys)))
   else none:=rfl
end
section
variable {P:Program} {t:TypeId} {k k':IntKind} {a b:Int}
theorem Afr:BG P .add t (.int k a) (.int k b)=some (.int k (k.wrap (a+b))):=by simp[BG,GL,GK]
theorem Afs:BG P .sub t (.int k a) (.int k b)=some (.int k (k.wrap (a-b))):=by simp[BG,GL,GK]
theorem Aft:BG P .mul t (.int k a) (.int k b)=some (.int k (k.wrap (a*b))):=by simp[BG,GL,GK]
theorem Afu:BG P .quo t (.int k a) (.int k b)=if b=0 then none else some (.int k (k.wrap (a.tdiv b))):=by simp[BG,GL,GK]
theorem Afv:BG P .rem t (.int k a) (.int k b)=if b=0 then none else some (.int k (a.tmod b)):=by simp[BG,GL,GK]
theorem Afw:BG P .and t (.int k a) (.int k b)=(Cq .and k a b).map (.int k):=by simp[BG,GL,GK]
theorem Ahk:BG P .or t (.int k a) (.int k b)=(Cq .or k a b).map (.int k):=by simp[BG,GL,GK]
theorem Afx:BG P .xor t (.int k a) (.int k b)=(Cq .xor k a b).map (.int k):=by simp[BG,GL,GK]
theorem fV:BG P .andNot t (.int k a) (.int k b)=(Cq .andNot k a b).map (.int k):=by simp[BG,GL,GK]
theorem Afy:BG P .eql t (.int k a) (.int k b)=some (.bool (decide (a=b))):=by simp[BG,GL,GK]
theorem Afz:BG P .neq t (.int k a) (.int k b)=some (.bool (decide (¬a=b))):=by simp[BG,GL,GK]
theorem Af0:BG P .lss t (.int k a) (.int k b)=some (.bool (decide (a<b))):=by simp[BG,GL,GK]
theorem Af1:BG P .leq t (.int k a) (.int k b)=some (.bool (decide (a≤b))):=by simp[BG,GL,GK]
theorem Af2:BG P .gtr t (.int k a) (.int k b)=some (.bool (decide (b<a))):=by simp[BG,GL,GK]
theorem Af3:BG P .geq t (.int k a) (.int k b)=some (.bool (decide (b≤a))):=by simp[BG,GL,GK]
theorem Af4:BG P .shl t (.int k a) (.int k' b)=if b<0 then none else some (.int k (k.wrap (a*2 ^ (min b.toNat k.bits)))):=nrfl rfl
theorem Af5:BG P .shr t (.int k a) (.int k' b)=if b<0 then none else some (.int k (a.fdiv (2 ^ (min b.toNat k.bits)))):=nrfl rfl
variable {s u:List UInt8}
theorem Aba:BG P .add t (.str s) (.str u)=if s.length+u.length≤2147483648 then some (.str (s++u))else none:=nrfl rfl
theorem Abb:BG P .eql t (.str s) (.str u)=some (.bool (decide (s=u))):=nrfl rfl
theorem Abc:BG P .neq t (.str s) (.str u)=some (.bool (decide (¬s=u))):=nrfl rfl
theorem Abd:BG P .lss t (.str s) (.str u)=some (.bool (Op.bytesLess s u)):=nrfl rfl
theorem Abe:BG P .leq t (.str s) (.str u)=some (.bool (Op.bytesLess s u||decide (s=u))):=nrfl rfl
theorem Abf:BG P .gtr t (.str s) (.str u)=some (.bool !(Op.bytesLess s u||decide (s=u))):=nrfl rfl
theorem Abg:BG P .geq t (.str s) (.str u)=some (.bool !(Op.bytesLess s u)):=nrfl rfl
variable {x y:Bool}
theorem Abh:BG P .eql t (.bool x) (.bool y)=if GU P t=true then some (.bool (x==y))else none:=nrfl rfl
theorem Abi:BG P .neq t (.bool x) (.bool y)=if GU P t=true then some (.bool (!(x==y)))else none:=nrfl rfl
theorem Af6:unP .neg (.int k a)=some (.int k (k.wrap (0-a))):=nrfl rfl
theorem Af7:unP .not (.bool x)=some (.bool (!x)):=nrfl rfl
theorem Abj {src dst:TypeId}:NR P src dst (.int k a)=(Fh P dst).bind fun k=>(Fh P src).bind fun _=>some (.int k (k.wrap a)):=nrfl rfl
theorem Abk {src dst:TypeId}:NR P src dst (.str s)=if AW P src=true∧AW P dst=true then some (.str s)else none:=nrfl rfl
end
theorem fW {place:Nat→Option (Nat×Nat)} {cells:List PV}:EM place cells []=some cells:=nrfl rfl
def fX (place:Nat→Option (Nat×Nat)) (cells vs:List PV) (rest:List (Nat×PV)) (o:Option (Nat×Nat)):Option (List PV) :=
 match o with | none=>none | some q=>if vs.length=q.2∧q.1+q.2≤cells.length∧0<q.2 then EM place (Ds cells q.1 vs) rest else none
theorem Zi {place:Nat→Option (Nat×Nat)} {cells:List PV} {i:Nat} {v:PV} {rest:List (Nat×PV)}:EM place cells ((i,v)::rest)=fX place cells v.cells rest (place i):=by
 simp only[EM,fX];cases place i <;> rfl
theorem Vp {place:Nat→Option (Nat×Nat)} {cells vs:List PV} {rest:List (Nat×PV)} {q:Nat×Nat}:fX place cells vs rest (some q)=if vs.length=q.2∧q.1+q.2≤cells.length∧0<q.2 then EM place (Ds cells q.1 vs) rest else none:=nrfl rfl
def tI (P:Program) (t:TypeId) (cells:List PV) (parts:List (Nat×PV)) (o:Option (Nat×Nat)):Option PV :=
 match o with
 | some q=>(EM (fun i=>some (i*q.2,q.2)) cells parts).map .agg
 | none=>(EM (fun i=>(Ba P t i).map fun q=>(q.1,q.2.1)) cells parts).map .agg
theorem Zj {P:Program} {t:TypeId} {parts:List (Nat×PV)}:Kh P t parts=if Co P t=true then tI P t (AD P t).cells parts (BM P t)else none:=by
 simp only[Kh,tI];cases BM P t <;> rfl
theorem Zk {P:Program} {t:TypeId} {cells:List PV} {parts:List (Nat×PV)}:tI P t cells parts none=(EM (fun i=>(Ba P t i).map fun q=>(q.1,q.2.1)) cells parts).map .agg:=nrfl rfl
theorem Zl {P:Program} {t:TypeId} {cells:List PV} {parts:List (Nat×PV)} {q:Nat×Nat}:tI P t cells parts (some q)=(EM (fun i=>some (i*q.2,q.2)) cells parts).map .agg:=nrfl rfl
theorem tJ {z:Nat} {l:List PV}:Cg z l []=some l:=nrfl rfl
theorem fY {z i:Nat} {l:List PV} {v:PV} {rest:List (Nat×PV)}:Cg z l ((i,v)::rest)=if i<l.length∧v.cells.length=z then Cg z (l.set i v) rest else none:=nrfl rfl
theorem Zm {cells vs:List PV} {off:Nat}:Ds cells off vs=cells.take off++vs++cells.drop (off+vs.length):=nrfl rfl
theorem tK {args:List PV} {t:Nat}:Fy args t=args.getD t .bad:=nrfl rfl
def fZ:Option (List PV)→Option PV
 | some [p]=>some p
 | some ps=>some (.tuple ps)
 | none=>none
theorem tL {P:Program} {rs:List ResultVar} {s:IState}:Pz P rs s=fZ (Dp P s rs):=by
 unfold Pz;cases Dp P s rs with
 | none=>rfl
 | some l=>cases l with
  | nil=>rfl
  | cons a l=>cases l <;> rfl
theorem tM {p:PV}:fZ (some [p])=some p:=nrfl rfl
theorem tO {p q:PV} {l:List PV}:fZ (some (p::q::l))=some (.tuple (p::q::l)):=nrfl rfl
theorem Sj {P:Program} {s:IState}:Dp P s []=some []:=nrfl rfl
theorem PU {P:Program} {s:IState} {r:ResultVar} {l:List ResultVar}:Dp P s (r::l)=(Gj P s r).bind fun p=>(Dp P s l).map fun ps=>p::ps:=nrfl rfl
theorem Sk {P:Program} {s:IState} {t:Nat}:Gj P s (.tmp t)=some (s.env t):=nrfl rfl
theorem PX {P:Program} {s:IState} {a:Nat} {t:TypeId}:Gj P s (.cell a t)=(Bt P t).bind fun q=>Dh s.st q.1 q.2 (s.env a):=nrfl rfl
theorem Ap {α β:Type} {x y:Option α} {f:α→Option β} (h:x=y):x.bind f=y.bind f:=by rw[h]
theorem Av {α β:Type} {x y:Option α} {f:α→β} (h:x=y):x.map f=y.map f:=by rw[h]
theorem tP {X:Cfg} {f k:Nat} {l:List PV} {st:Store}:Aa3 X f k l st=if (DM l).all (fun i=>i==k)=true then (BW (st.only [k]) l).bind fun as=>X.tab f as (st.again k)else none:=nrfl rfl
theorem gB {ob:Nat→Option IObj} {n k:Nat}:Store.again ⟨ob,n⟩ k=⟨Aa ob k ((ob k).bind Ch),n⟩:=nrfl rfl
theorem tQ {X:Cfg} {f:Nat} {l:List PV} {st:Store}:Aa2 X f l st=(BW (st.only (DM l)) l).bind fun as=>X.tab f as (st.seal (DM l)):=nrfl rfl
theorem gC {st:Store} {ids:List Nat} {i:Nat}:(st.seal ids).obj i=if ids.contains i=true then (st.obj i).bind Ch else (st.obj i).map (Q2 (st.only ids)):=nrfl rfl
theorem Zn {st:Store} {ids:List Nat}:(st.seal ids).next=st.next:=nrfl rfl
theorem Vq {g z:Nat} {es:List PV}:Ch (.arr g z es)=some (.arr (g+1) z []):=nrfl rfl
theorem Zo {st:Store} {g z:Nat} {es:List PV}:Q2 st (.arr g z es)=.arr g z (es.map (KZ st)):=nrfl rfl
theorem Zp {st:Store} {cs:List PV}:KZ st (.agg cs)=.agg (cs.map (sealC st)):=nrfl rfl
theorem Zq {st:Store} {k:IntKind} {n:Int}:KZ st (.int k n)=.int k n:=nrfl rfl
theorem Zr {st:Store} {k:IntKind} {n:Int}:sealC st (.int k n)=.int k n:=nrfl rfl
theorem Vr {st:Store} {b:Bool}:sealC st (.bool b)=.bool b:=nrfl rfl
theorem Vs {st:Store} {z:Nat} {l:List PV}:sealC st (.lits z l)=.lits z l:=nrfl rfl
theorem Vt {st:Store}:sealC st .nils=.nils:=nrfl rfl
theorem Zs {st:Store} {id g s n:Nat}:sealC st (.ref id g s n)=((st.arr? id g).bind fun q=>if s+n≤q.2.length∧AS q.2=true then some (.lits q.1 ((q.2.drop s).take n))else none).getD (.ref id g s n):=nrfl rfl
theorem tR {X:Cfg} {f:Nat} {l:List PV} {st:Store}:Aa1 X f l st=(BW (st.only (DM l)) l).bind fun as=>X.tab f as (st.without (DM l)):=nrfl rfl
theorem Vu {st:Store} {c:PV} {l:List PV}:BW st (c::l)=(rdP st c).bind fun d=>(BW st l).map fun ds=>d::ds:=by simp only[BW]
theorem Zt {st:Store}:BW st []=some []:=by simp only[BW]
theorem gD {st:Store} {c:PV} {l:List PV}:rdL st (c::l)=(rdC st c).bind fun d=>(rdL st l).map fun ds=>d::ds:=by simp only[rdL]
theorem tS {st:Store}:rdL st []=some []:=by simp only[rdL]
theorem tT {spec:List PV→Option PV} {args:List PV} {st:Store}:Yo spec args st=if AS args=true then (spec args).map fun r=>(r,st)else (BW st args).bind fun as=>(spec as).bind fun r=>if r.scal=true then some (r,st)else none:=nrfl rfl
theorem Du {c:PV} {l:List PV}:AS (c::l)=(c.pur&&AS l):=by simp only[AS]
theorem FK:AS []=true:=by simp only[AS]
end Sim
namespace Sim
open Go
def Bh:Code→Code
 | .region id ops _=>.region id ops false
 | .seq a b=>.seq (Bh a) (Bh b)
 | .cond c a b=>.cond c (Bh a) (Bh b)
 | .block id c=>.block id (Bh c)
 | .loop c=>.loop (Bh c)
 | .scope c=>.scope (Bh c)
 | c=>c
def Bk (X:Cfg):Code→Bool
 | .region _ ops dr => !dr||IN X ops
 | .seq a b=>Bk X a&&Bk X b
 | .cond _ a b=>Bk X a&&Bk X b
 | .block _ c=>Bk X c
 | .loop c=>Bk X c
 | .scope c=>Bk X c
 | _=>true
theorem ER {G:WP} (hG:G.Mono) {X:Cfg} (hm:Bc X) {N:Nat} {c:Code}:∀ {Q:IExit→IState→Prop} {s:IState},Bk X c=true→wpC G X N (Bh c) Q s→wpC G X N c Q s:=by
 induction c with
 | skip=>intro Q s hd hs;exact hs
 | region id ops dr =>
  intro Q s hd hs
  rcases hs with hs | hs
  ·refine .inl ⟨fun h=>?_,hs.2⟩
   subst h
   simpa [Bk]using hd
  ·cases hs.1
 | seq a b iha ihb =>
  intro Q s hd hs
  simp only[Bk,Bool.and_eq_true]at hd
  refine iha hd.1 (CG hG X N _ _ _ _ hm (fun e s' he=>?_) hs)
  cases e with
  | normal=>exact ihb hd.2 he
  | exit i=>exact he
  | ret=>exact he
 | cond c a b iha ihb =>
  intro Q s hd hs
  simp only[Bk,Bool.and_eq_true]at hd
  simp only[Bh,wpC]at hs ⊢
  split at hs
  ·exact ⟨fun hv=>iha hd.1 (hs.1 hv),fun hv=>ihb hd.2 (hs.2 hv)⟩
  ·exact hs.elim
 | block id c ih=>intro Q s hd hs;exact ih hd hs
 | loop c ih =>
  intro Q s hd hs
  obtain ⟨J,n,h0,hr⟩:=hs
  exact ⟨J,n,h0,fun m s' hs'=>ih hd (hr m s' hs')⟩
 | exit id=>intro Q s hd hs;exact hs
 | ret=>intro Q s hd hs;exact hs
 | rangeFunc=>intro Q s hd hs;exact hs
 | scope c ih=>intro Q s hd hs;exact ih hd hs
 | label=>intro Q s hd hs;exact hs
 | goto=>intro Q s hd hs;exact hs
 | refuse=>intro Q s hd hs;exact hs
theorem CV {X:Cfg} (hm:Bc X) {N:Nat} {c:Code} {Q:IExit→IState→Prop} {s:IState} (hd:Bk X c=true) (h:wpI X N (Bh c) Q s):wpI X N c Q s:=ER (DP X.dep) hm hd h
section
variable {X:Cfg} {N:Nat} {Q:IExit→IState→Prop} {ks:List Kf} {s:IState}
theorem tU:run X N Q (Bh .skip) ks s=Gg X N Q ks s:=nrfl rfl
theorem Abl {a b:Code}:run X N Q (Bh (.seq a b)) ks s=run X N Q (Bh a) (.seq (Bh b)::ks) s:=Pq
theorem gE {id:Nat} {c:Code}:run X N Q (Bh (.block id c)) ks s=run X N Q (Bh c) (.blk id::ks) s:=Kn
theorem tV {id:Nat}:run X N Q (Bh (.exit id)) ks s=GH X N Q ks id s:=nrfl rfl
theorem Abm:run X N Q (Bh .ret) ks s=done X N Q ks s:=nrfl rfl
theorem Zu {id:Nat} {l:List Oper} {dr:Bool}:run X N Q (Bh (.region id l.toArray dr)) ks s=ops X N Q l.toArray l ks s:=IP
theorem tW {c:Operand} {a b:Code}:run X N Q (Bh (.cond c a b)) ks s=GI (Ax s.env c) (run X N Q (Bh a) ks s) (run X N Q (Bh b) ks s):=L3
theorem gF {g:Operand} {ps:Array Tmp} {a b:Code}:run X N Q (Bh (.rangeFunc g ps a b)) ks s=run X N Q (.rangeFunc g ps a b) ks s:=nrfl rfl
end
theorem A5 {P:Program} (hmix:P.follows .mixedOrders=true) {l:AT} (hl:Bj P l) (muts:List Nat) (frz:List Nat) {f:FuncId} {fn:Func} {c:Code} (hf:P.funcs[f]?=some fn) (hb:fn.body=some c)
  (hname : (fn.name == "runtime.NumGoroutine") = false) {args : List PV} {N : Nat} (hN : fn.ntmps = N) (hn : args.length ≤ N) {rs : List ResultVar} (hrs : fn.results.toList = rs) (hd : Bk (cfg P l muts frz) c = true) {r : PV}
  (h : AI args→run (cfg P l muts frz) N (Ag P rs (fun p st=>DRx st p r)) (Bh c) [] ⟨Fy args,st0⟩):VC P f args r :=
 zH hmix hl muts frz hf hb hname hN hn hrs 0 fun hs=>CV (AY rfl) hd (by
  have e:stR 0=st0:=by simp[stR,st0]
  rw [e];exact h hs)
theorem Vv {P:Program} (hmix:P.follows .mixedOrders=true) {l:AT} (hl:Bj P l) (muts:List Nat) (frz:List Nat) (n dep:Nat) {f:FuncId} {fn:Func} {c:Code} (hf:P.funcs[f]?=some fn) (hb:fn.body=some c)
  (hname : (fn.name == "runtime.NumGoroutine") = false) {args : List PV} {N : Nat} (hN : fn.ntmps = N) (hn : args.length ≤ N) {rs : List ResultVar} (hrs : fn.results.toList = rs) (hd : Bk (cfg P l muts frz dep) c = true) {r : PV}
  (h : AI args→run (cfg P l muts frz dep) N (Ag P rs (fun p st=>DRx st p r)) (Bh c) [] ⟨Fy args,⟨fun i=>if i<n then some (.arr 0 1 [])else none,n⟩⟩):VC P f args r :=
 zH hmix hl muts frz hf hb hname hN hn hrs n (dep:=dep) fun hs=>CV (AY rfl) hd (h hs)
theorem Cc {P:Program} (hmix:P.follows .mixedOrders=true) {l:AT} (hl:Bj P l) (muts:List Nat) (frz:List Nat) (dep:Nat) {f:FuncId} {fn:Func} {c:Code} (hf:P.funcs[f]?=some fn) (hb:fn.body=some c)
  (hname : (fn.name == "runtime.NumGoroutine") = false) {args : List PV} {N : Nat} (hN : fn.ntmps = N) (hn : args.length ≤ N) {rs : List ResultVar} (hrs : fn.results.toList = rs) (hd : Bk (cfg P l muts frz dep) c = true) {st : Store} {Q : PV → Store → Prop}
  (h : run (cfg P l muts frz dep) N (Ag P rs Q) (Bh c) [] ⟨Fy args,st⟩):IXC P f args st Q :=
 Wu hmix hl muts frz hf hb hname hN hn hrs (dep:=dep) (CV (AY rfl) hd h)
theorem tX {P:Program} (hmix:P.follows .mixedOrders=true) {l:AT} (hl:Bj P l) (muts:List Nat) (frz:List Nat) (n dep:Nat) {f:FuncId} {fn:Func} {c:Code} (hf:P.funcs[f]?=some fn) (hb:fn.body=some c)
  (hname : (fn.name == "runtime.NumGoroutine") = false) {args : List PV} {N : Nat} (hN : fn.ntmps = N) (hn : args.length ≤ N) {rs : List ResultVar} (hrs : fn.results.toList = rs) (hd : Bk (cfg P l muts frz dep) c = true) {z : Nat} {es : List PV}
  (hs : ∀e∈es,e.scal=true)
  (h : run (cfg P l muts frz dep) N (Ag P rs (fun p st=>(∃id g,p=.ref id g 0 es.length∧st.obj id=some (.arr g z es))∨(es = []∧0<z∧p=.nils))) (Bh c) [] ⟨Fy args,⟨fun i=>if i<n then some (.arr 0 1 [])else none,n⟩⟩):VCA P f args z es :=
 rF hmix hl muts frz hf hb hname hN hn hrs n (dep:=dep) hs (CV (AY rfl) hd h)
theorem Zv {X:Cfg} {N:Nat} {Q:IExit→IState→Prop} {ks:List Kf} {s:IState} {all:Array Oper} {l:List Oper} {d:Option Nat} {c:Prop} [Decidable c] {x y:PV×Store}:Bi X N Q all l ks d s (if c then some x else some y)=((c→Bi X N Q all l ks d s (some x))∧(¬c→Bi X N Q all l ks d s (some y))):=by
 by_cases h:c <;> simp[h]
theorem tY {k:IntKind} {l:List Int} {i:Nat} {n:Int}:(l.map (PV.int k)).set i (PV.int k n)=(l.set i n).map (PV.int k):=by simp
theorem Eh {α:Type} {f:α→PV} {l:List α} {i:Nat} (d:α) (h:i<l.length):nth (l.map f) i=f (l.getD i d):=by simp[nth,h]
theorem HZ {α:Type} {f:α→PV} {l:List α} (h:∀x,(f x).pur=true):AS (l.map f)=true:=Kk h
theorem H0 {α:Type} {f:α→PV} {l m:List α} (h:∀x y,f x=f y→x=y):(l.map f=m.map f)=(l=m):=propext ⟨FJ h,fun h=>by rw[h]⟩
theorem Zw {p:Prop} [Decidable p] {A B:Prop}:BK (.bool (decide p)) true A B=((p→A)∧(¬p→B)):=by simp[BK]
theorem Zx {p:Prop} [Decidable p] {A B:Prop}:BK (.bool (decide p)) false A B=((¬p→A)∧(p→B)):=by simp[BK]
theorem tZ {p:Prop} [Decidable p] {A B:Prop}:GI (.bool (decide p)) A B=((p→A)∧(¬p→B)):=by simp[GI]
theorem uA {P:Program} {t:TypeId} {x y:Bool}:BG P .eql t (.bool x) (.bool y)=if GU P t=true then some (.bool (decide (x=y)))else none:=by rw[Abh];cases x <;> cases y <;> rfl
theorem uB {P:Program} {t:TypeId} {x y:Bool}:BG P .neq t (.bool x) (.bool y)=if GU P t=true then some (.bool (decide (¬x=y)))else none:=by rw[Abi];cases x <;> cases y <;> rfl
theorem AC {o o':Option Nat} {ρ:Nat→PV} (h:o=o'):grd o ρ=grd o' ρ:=by rw[h]
theorem Aq {c c' a b:PV} {st:Store} (h:c=c'):Oc c a b st=Oc c' a b st:=by rw[h]
theorem gG {st:Store} {ids:List Nat} {i:Nat}:(st.only ids).obj i=if ids.contains i=true then st.obj i else none:=nrfl rfl
theorem Zy {st:Store} {ids:List Nat}:(st.only ids).next=st.next:=nrfl rfl
theorem Sl {st:Store} {ids:List Nat} {i:Nat}:(st.without ids).obj i=if ids.contains i=true then none else st.obj i:=nrfl rfl
theorem PY {st:Store} {ids:List Nat}:(st.without ids).next=st.next:=nrfl rfl
theorem Vw {p:PV} {l:List PV}:DM (p::l)=idC p++DM l:=nrfl rfl
theorem Zz:DM [] = []:=nrfl rfl
theorem uC {i g s n:Nat}:idC (.ref i g s n) = [i]:=nrfl rfl
theorem uD {k:IntKind} {n:Int}:idC (.int k n) = []:=nrfl rfl
theorem gH {b:Bool}:idC (.bool b) = []:=nrfl rfl
theorem uE {b:List UInt8}:idC (.str b) = []:=nrfl rfl
theorem gI:idC .nils = []:=nrfl rfl
theorem gJ {z:Nat} {l:List PV}:idC (.lits z l) = []:=nrfl rfl
def idE:PV→List Nat | .ref id _ _ _ => [id] | _ => []
def idL:List PV→List Nat | [] => [] | c::l=>idE c++idL l
theorem uF {cs:List PV}:idC (.agg cs)=idL cs:=by
 induction cs with
 | nil=>rfl
 | cons c l ih=>simp only[idC,List.flatMap_cons]at ih ⊢;rw[ih];cases c <;> rfl
theorem gL {c:PV} {l:List PV}:idL (c::l)=idE c++idL l:=nrfl rfl
theorem uG:idL [] = []:=nrfl rfl
theorem uH {i g s n:Nat}:idE (.ref i g s n) = [i]:=nrfl rfl
theorem uI {k:IntKind} {n:Int}:idE (.int k n) = []:=nrfl rfl
theorem gM {b:Bool}:idE (.bool b) = []:=nrfl rfl
theorem uJ {b:List UInt8}:idE (.str b) = []:=nrfl rfl
theorem gQ:idE .nils = []:=nrfl rfl
theorem gR {z:Nat} {l:List PV}:idE (.lits z l) = []:=nrfl rfl
theorem AH {W W2:List Nat} {ρ0 ρ1 ρ:Nat→PV} (h:(W2.all fun t=>W.contains t)=true):GJ W ρ0 (Iy W2 ρ1 ρ)=GJ W ρ0 ρ1:=by
 refine propext ⟨fun g u hu=>?_,fun g u hu=>?_⟩
 all_goals
  have hn:W2.contains u=false:=by
   cases hc:W2.contains u with
   | false=>rfl
   | true =>
    have := List.all_eq_true.1 h u (List.contains_iff_mem.1 hc)
    rw [this]at hu;cases hu
  have e:Iy W2 ρ1 ρ u=ρ1 u:=HY hn
 ·rw [←e];exact g u hu
 ·rw [e];exact g u hu
theorem gT:IntKind.i64.bits=64:=nrfl rfl
theorem gU:IntKind.u64.bits=64:=nrfl rfl
theorem gV:IntKind.u32.bits=32:=nrfl rfl
theorem uK:IntKind.u8.bits=8:=nrfl rfl
def orI (a b:Int):Int:=IntKind.i64.wrap (BitVec.ofInt 64 a ||| BitVec.ofInt 64 b).toNat
theorem Abn {a b:Int}:Cq .or .i64 a b=some (orI a b):=nrfl rfl
end Sim
