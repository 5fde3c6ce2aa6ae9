/- Operations, shape by shape. -/
import Derived.Test.YtppljhpecoeakaaSimP
set_option linter.unusedVariables false
set_option linter.unusedSimpArgs false
namespace Sim
open Go
theorem xN {ρ:Nat→PV} {n:Nat}:Av ρ (.tmp n)=ρ n:=nrfl rfl
theorem xO {ρ:Nat→PV} {k:IntKind} {n:Int}:Av ρ (.const (.int k n))=.int k n:=nrfl rfl
theorem oS {ρ:Nat→PV} {b:Bool}:Av ρ (.const (.bool b))=.bool b:=nrfl rfl
theorem xP {ρ:Nat→PV} {s:ByteArray}:Av ρ (.const (.string s))=if s.data.toList.length≤9223372036854775807 then .str s.data.toList else .bad:=nrfl rfl
theorem oT {ρ:Nat→PV}:Av ρ (.const (.slice none 0 0))=.nils:=nrfl rfl
theorem oU {ρ:Nat→PV}:Av ρ (.const (.pointer none))=.nilp:=nrfl rfl
theorem oV {ρ:Nat→PV}:Av ρ (.const .nilFunc)=.nilf:=nrfl rfl
theorem oW {ρ:Nat→PV}:Av ρ (.const .nilIface)=.nili:=nrfl rfl
theorem xQ {ρ:Nat→PV} {cs:Array Value}:Av ρ (.const (.agg cs))=if (cs.toList.map CK).all PV.isCell then .agg (cs.toList.map CK)else .bad:=nrfl rfl
theorem oX {ρ:Nat→PV} {f:FuncId}:Av ρ (.func f)=.func (.func f) [] []:=nrfl rfl
theorem xR {k:IntKind} {n:Int}:CK (.int k n)=.int k n:=nrfl rfl
theorem oY {b:Bool}:CK (.bool b)=.bool b:=nrfl rfl
theorem oZ:CK (.slice none 0 0)=.nils:=nrfl rfl
theorem xS {s:ByteArray}:CK (.string s)=if s.data.toList.length≤9223372036854775807 then .str s.data.toList else .bad:=nrfl rfl
def grd (o:Option Nat) (ρ:Nat→PV):PV:=match o with | some d=>ρ d | none=>.bad
theorem XW {ops:Array Oper} {ρ:Nat→PV} {j:Nat}:Dk ops ρ j=grd ((ops[j]?).bind (·.dst)) ρ:=nrfl rfl
theorem bW {d:Nat} {ρ:Nat→PV}:grd (some d) ρ=ρ d:=nrfl rfl
section
variable {X:Cfg} {d:Nat} {ρ:Operand→PV} {st:Store}
theorem bX {x:Operand}:iop X d (.move x) ρ st=some (ρ x,st):=nrfl rfl
theorem Uk {x:Operand}:iop X d (.assign x) ρ st=some (ρ x,st):=nrfl rfl
def NS (c a b:PV) (st:Store):Option (PV×Store):=match c with | .bool v=>some (if v then a else b,st) | _=>none
theorem Ul {v:Bool} {a b:PV}:NS (.bool v) a b st=some (if v=true then a else b,st):=nrfl rfl
theorem Um {a b:PV}:NS (.bool true) a b st=some (a,st):=nrfl rfl
theorem Rx {a b:PV}:NS (.bool false) a b st=some (b,st):=nrfl rfl
theorem bY {c a b:Operand}:iop X d (.pick c a b) ρ st=NS (ρ c) (ρ a) (ρ b) st:=nrfl rfl
theorem XX {t:TypeId} (h:X.num d=0):iop X d (.alloc t) ρ st=if 0<X.P.cellsOf t∧(Ax X.P t).cells.length=X.P.cellsOf t then some (.ptr st.next 0 0 0,st.new (.arr 0 (X.P.cellsOf t) [Ax X.P t]))else none:=by simp[iop,h]
def Ac3 (X:Cfg) (d:Nat) (cells:List PV) (p:PV) (st:Store):Option (PV×Store) :=
 if 0<cells.length then (if X.muts d then some (.ptr st.next 0 0 0,st.new (.arr 0 cells.length [p]))else some (.vptr cells 0,st))else none
theorem pA {t:TypeId} {x:Operand}:iop X d (.box t x) ρ st=Ac3 X d (ρ x).cells (ρ x) st:=nrfl rfl
theorem pB {cells:List PV} {p:PV}:Ac3 X d cells p st=if 0<cells.length then (if X.muts d=true then some (.ptr st.next 0 0 0,st.new (.arr 0 cells.length [p]))else some (.vptr cells 0,st))else none:=nrfl rfl
def evp (ρ:Operand→PV):List (Nat×Operand)→List (Nat×PV)
 | [] => []
 | x::l=>(x.1,ρ x.2)::evp ρ l
theorem bZ {i:Nat} {x:Operand} {l:List (Nat×Operand)}:evp ρ ((i,x)::l)=(i,ρ x)::evp ρ l:=nrfl rfl
theorem pC:evp ρ [] = []:=nrfl rfl
theorem cA {l:List (Nat×Operand)}:(l.map fun (i,x)=>(i,ρ x))=evp ρ l:=by
 induction l with
 | nil=>rfl
 | cons x l ih=>simp only[List.map_cons,evp,ih]
theorem XY {t:TypeId} {parts:List (Nat×Operand)}:iop X d (.build t parts.toArray) ρ st=(JX X.P t (evp ρ parts)).map fun v=>(v,st):=by rw[←cA];rfl
def xT (X:Cfg) (d:Nat) (t:TypeId) (len:Nat) (o:Option (List PV)) (st:Store):Option (PV×Store) :=
 if 0<Ac X.P t∧len*Ac X.P t≤16777216 then o.bind fun l=>if X.muts d then (if X.num d=0 then some (.ref st.next 0 0 len,st.new (.arr 0 (Ac X.P t) l))else st.re (X.num d) (Ac X.P t) l len)else some (.lits (Ac X.P t) l,st)else none
theorem LP {t:TypeId} {len:Nat} {parts:List (Nat×Operand)}:iop X d (.buildSlice t len parts.toArray) ρ st=xT X d t len (Cc (Ac X.P t) (List.replicate len (Ax X.P (BM X.P t))) (evp ρ parts)) st:=by rw[←cA];rfl
theorem pE {t:TypeId} {len:Nat} {l:List PV}:xT X d t len (some l) st=if 0<Ac X.P t∧len*Ac X.P t≤16777216 then (if X.muts d=true then (if X.num d=0 then some (.ref st.next 0 0 len,st.new (.arr 0 (Ac X.P t) l))else st.re (X.num d) (Ac X.P t) l len)else some (.lits (Ac X.P t) l,st))else none:=by
 simp only[xT,Option.bind_some]
theorem xU {ob:Nat→Option IObj} {nx k z n g z0:Nat} {l es:List PV} (h:ob k=some (.arr g z0 es)):Store.re ⟨ob,nx⟩ (k+1) z l n=some (.ref k (g+1) 0 n,Store.set ⟨ob,nx⟩ k (.arr (g+1) z l)):=by simp[Store.re,h]
theorem Nd {k id g s n z:Nat} {l:List PV}:D5 k (.ref id g s n) (.lits z l)=(id==k-1):=nrfl rfl
theorem Nf {k id g s n:Nat}:D5 k (.ref id g s n) .nils=(id==k-1):=nrfl rfl
theorem cB {t:TypeId} {x:Operand}:iop X d (.load t x) ρ st=(Bt X.P t).bind fun q=>(C8 (X.see d st) q.1 q.2 (ρ x)).map fun v=>(v,st):=nrfl rfl
theorem XZ {t:TypeId} {a x:Operand}:iop X d (.store t a x) ρ st=if (X.frz (800000+Da a)=true∧Ny st (ρ a) (ρ x)=false)∨(X.frz (900000+Da a)=true∧Nz (X.num (Da a)) (ρ a)=false)then none else (ED st (X.P.cellsOf t) (ρ a) (ρ x)).map fun st'=>(.bad,st'):=nrfl rfl
theorem X0 {n:Nat}:Da (.tmp n)=n:=nrfl rfl
theorem X1 {k id gen i o:Nat}:Nz k (.ptr id gen i o)=(id==k-1):=nrfl rfl
theorem X2 {id gen i o:Nat} {v:PV}:Ny st (.ptr id gen i o) v=(v.isInt1&&match st.arr? id gen with | some q=>decide (q.1≤2)&&q.2.all PV.isInt | none=>false):=nrfl rfl
def VK (p:PV) (st:Store):Option (PV×Store):=match p with | .vptr c o=>some (.vptr c o,st) | .ptr i g x o=>(st.arr? i g).map fun _=>(.ptr i g x o,st) | _=>none
theorem Pa {x:Operand}:iop X d (.nilCheck x) ρ st=(VK (ρ x) (X.see d st)).map fun q=>(q.1,st):=by
 simp only[iop];cases ρ x <;> simp[VK];rfl
theorem Un {c:List PV} {o:Nat}:VK (.vptr c o) st=some (.vptr c o,st):=nrfl rfl
theorem X3 {i g x o:Nat}:VK (.ptr i g x o) st=(st.arr? i g).map fun _=>(.ptr i g x o,st):=nrfl rfl
theorem X4 {op:BinOp} {t:TypeId} {x y:Operand} {z:TypeId}:iop X d (.binOp op t x y z) ρ st=(BE X.P op t (ρ x) (ρ y)).map fun v=>(v,st):=nrfl rfl
theorem cC {op:UnOp} {t:TypeId} {x:Operand}:iop X d (.unOp op t x) ρ st=(unP op (ρ x)).map fun v=>(v,st):=nrfl rfl
theorem Ry {s t:TypeId} {x:Operand}:iop X d (.convert s t x) ρ st=(Nx X.P s t (ρ x)).map fun v=>(v,st):=nrfl rfl
def evs (ρ:Operand→PV):List Operand→List PV
 | [] => []
 | x::l=>ρ x::evs ρ l
theorem cD {x:Operand} {l:List Operand}:evs ρ (x::l)=ρ x::evs ρ l:=nrfl rfl
theorem pF:evs ρ [] = []:=nrfl rfl
theorem IB {l:List Operand}:l.map ρ=evs ρ l:=by
 induction l with
 | nil=>rfl
 | cons x l ih=>simp only[List.map_cons,evs,ih]
theorem Pb {fn:Fn} {a b:List Operand}:iop X d (.makeFunc fn a.toArray b.toArray) ρ st=some (.func fn (evs ρ a) (evs ρ b),st):=by rw[←IB,←IB];rfl
def Rz (X:Cfg) (d:Nat) (t:TypeId) (a b:PV) (st:Store):Option (PV×Store) :=
 match a,b with
 | .int .i64 n,.int .i64 m=>if 0≤n∧n≤m∧m≤4294967296∧0<Ac X.P t then (if X.num d=0 then (if X.frz d=true then some (.lits (Ac X.P t) (List.replicate n.toNat (Ax X.P (BM X.P t))),st)else some (.ref st.next 0 0 n.toNat,st.new (.arr 0 (Ac X.P t) (List.replicate n.toNat (Ax X.P (BM X.P t))))))else st.re (X.num d) (Ac X.P t) (List.replicate n.toNat (Ax X.P (BM X.P t))) n.toNat)else none
 | _,_=>none
theorem Ng {t:TypeId} {l c:Operand}:iop X d (.makeSlice t l c) ρ st=Rz X d t (ρ l) (ρ c) st:=by
 simp only[iop,Rz]
 cases ρ l <;> try rfl
theorem cE {t:TypeId} {n m:Int} (h:X.num d=0) (hf:X.frz d=false):Rz X d t (.int .i64 n) (.int .i64 m) st=if 0≤n∧n≤m∧m≤4294967296∧0<Ac X.P t then some (.ref st.next 0 0 n.toNat,st.new (.arr 0 (Ac X.P t) (List.replicate n.toNat (Ax X.P (BM X.P t)))))else none:=by simp[Rz,h,hf]
theorem cF {t:TypeId} {n m:Int} (h:X.num d=0) (hf:X.frz d=true):Rz X d t (.int .i64 n) (.int .i64 m) st=if 0≤n∧n≤m∧m≤4294967296∧0<Ac X.P t then some (.lits (Ac X.P t) (List.replicate n.toNat (Ax X.P (BM X.P t))),st)else none:=by simp[Rz,h,hf]
theorem pG {t:TypeId} {n m:Int} {k:Nat} (h:X.num d=k+1):Rz X d t (.int .i64 n) (.int .i64 m) st=if 0≤n∧n≤m∧m≤4294967296∧0<Ac X.P t then st.re (k+1) (Ac X.P t) (List.replicate n.toNat (Ax X.P (BM X.P t))) n.toNat else none:=by simp[Rz,h]
def cG (X:Cfg) (d:Nat) (t:TypeId) (p:PV) (l h:Option (Option Int)) (st:Store):Option (PV×Store) :=
 if X.muts d=true then (match l,h with | none,none=>W4 X.P st t p | _,_=>none)else
 match l,h with
 | some none,_ | _,some none=>none
 | l,h=>(Cb (X.see d st) (Ac X.P t) (AP X.P t) (BJ X.P t) p (l.bind id) (h.bind id)).map fun v=>(v,st)
theorem X5 {t:TypeId} {x:Operand} {lo hi:Option Operand}:iop X d (.slice t x lo hi none) ρ st=cG X d t (ρ x) (lo.map fun o=>CM (ρ o)) (hi.map fun o=>CM (ρ o)) st:=by
 cases lo <;> cases hi <;> rfl
theorem Uo {k:IntKind} {n:Int}:CM (.int k n)=some n:=nrfl rfl
theorem pH {t:TypeId} {p:PV}:cG X d t p none none st=if X.muts d=true then W4 X.P st t p else (Cb (X.see d st) (Ac X.P t) (AP X.P t) (BJ X.P t) p none none).map fun v=>(v,st):=nrfl rfl
theorem pI {t:TypeId} {p:PV} {n:Int}:cG X d t p (some (some n)) none st=if X.muts d=true then none else (Cb (X.see d st) (Ac X.P t) (AP X.P t) (BJ X.P t) p (some n) none).map fun v=>(v,st):=nrfl rfl
theorem pJ {t:TypeId} {p:PV} {m:Int}:cG X d t p none (some (some m)) st=if X.muts d=true then none else (Cb (X.see d st) (Ac X.P t) (AP X.P t) (BJ X.P t) p none (some m)).map fun v=>(v,st):=nrfl rfl
theorem pK {t:TypeId} {p:PV} {n m:Int}:cG X d t p (some (some n)) (some (some m)) st=if X.muts d=true then none else (Cb (X.see d st) (Ac X.P t) (AP X.P t) (BJ X.P t) p (some n) (some m)).map fun v=>(v,st):=nrfl rfl
theorem Nh {t:TypeId} {x:Operand} {f:Nat}:iop X d (.fieldAddr t x f) ρ st=(A9 X.P t f).bind fun q=>if 0<q.2.1 then (CL (X.see d st) (ρ x) q.1).map fun v=>(v,st)else none:=nrfl rfl
theorem xV {e:Nat}:X.see e st=if X.frz e=true then⟨fun _=>none,0⟩else if X.frz (600000+e)=true then st.past (X.num e)else if X.frz (700000+e)=true then st.hard else st:=nrfl rfl
theorem pL:st.hard=⟨fun i=>(st.obj i).bind fun o=>if Gm o=true then none else some o,st.next⟩:=nrfl rfl
theorem cH {g z:Nat} {es:List PV}:Gm (.arr g z es)=(decide (z≤2)&&es.all PV.isInt):=nrfl rfl
theorem Up {k:IntKind} {n:Int}:PV.isInt1 (.int k n)=true:=nrfl rfl
theorem Uq {i g s n:Nat}:PV.isInt1 (.ref i g s n)=false:=nrfl rfl
theorem X6 {i g s n:Nat}:PV.isInt (.ref i g s n)=false:=nrfl rfl
theorem X7 {cs:List PV}:PV.isInt (.agg cs)=cs.all PV.isInt1:=nrfl rfl
theorem X8 {id gen s n z:Nat} {l:List PV}:Ln st (.ref id gen s n) (.lits z l)=(l.all PV.isInt&&match st.arr? id gen with | some q=>decide (q.1≤2)&&q.2.all PV.isInt | none=>false):=nrfl rfl
theorem X9 {k:IntKind} {n:Int}:PV.isInt (.int k n)=true:=nrfl rfl
theorem cI {l:List Int} {k:IntKind}:(l.map (PV.int k)).all PV.isInt=true:=by simp[PV.isInt]
theorem Ya {x:Operand} {m:String} {as:List Operand} {ts:List TypeId}:iop X d (.call ⟨.invoke x m,as.toArray,ts.toArray⟩) ρ st=(ZL X.P st (ρ x) m).bind fun q=>Dp X d (.func (.func q.1) [q.2] []) (Ox X d ts) (evs ρ as) st:=by rw[←IB];rfl
theorem Ur {P:Program} {t:TypeId} {v:PV} {m:String}:ZL P st (.iface t v) m=(I3 P t m).bind fun q=>if q.2.1=true then some (q.1,v)else (Bt P q.2.2).bind fun r=>(C8 st r.1 r.2 v).map fun r=>(q.1,r):=nrfl rfl
def Ka (P:Program) (t:TypeId):Bool := !IY P t&&(P.underlying t).isSome
theorem Jk {t:TypeId} {x:Operand} (h:Ka X.P t=true):iop X d (.makeInterface t x) ρ st=some (.iface t (ρ x),st):=by
 simp only[Ka,Bool.and_eq_true,Bool.not_eq_true']at h
 simp only[iop,h,and_self,if_true]
def asT (t:TypeId) (p:PV) (st:Store):Option (PV×Store):=match p with | .iface t' v=>if t'=t then some (v,st)else none | _=>none
theorem LQ {x:Operand} {xt t:TypeId} (h:Ka X.P t=true):iop X d (.typeAssert x xt t false) ρ st=asT t (ρ x) st:=by
 simp only[Ka,Bool.and_eq_true,Bool.not_eq_true']at h
 simp only[iop,h,and_true,asT]
 cases ρ x <;> rfl
theorem cJ {t:TypeId} {v:PV}:asT t (.iface t v) st=some (v,st):=by simp[asT]
theorem pM {k:Nat}:st.past k=⟨fun i=>if i<k then none else st.obj i,st.next⟩:=nrfl rfl
def Ac4 (X:Cfg) (t:TypeId) (p:PV) (f:Nat) (st:Store):Option (PV×Store):=match p with | .agg cs=>(A9 X.P t f).bind fun (o,_,u)=>(Bt X.P u).bind fun (z,ag)=>(Cv cs o z ag).map fun v=>(v,st) | _=>none
theorem Yb {t:TypeId} {x:Operand} {f:Nat}:iop X d (.field t x f) ρ st=Ac4 X t (ρ x) f st:=nrfl rfl
theorem cK {t:TypeId} {cs:List PV} {f:Nat}:Ac4 X t (.agg cs) f st=(A9 X.P t f).bind fun q=>(Bt X.P q.2.2).bind fun r=>(Cv cs q.1 r.1 r.2).map fun v=>(v,st):=nrfl rfl
def Ac5 (X:Cfg) (d:Nat) (t:TypeId) (p i:PV) (st:Store):Option (PV×Store):=match i with | .int _ n=>(Ck X.P (X.see d st) t p n).map fun v=>(v,st) | _=>none
theorem Ni {t:TypeId} {x i:Operand}:iop X d (.indexAddr t x i) ρ st=Ac5 X d t (ρ x) (ρ i) st:=nrfl rfl
theorem cL {t:TypeId} {p:PV} {k:IntKind} {n:Int}:Ac5 X d t p (.int k n) st=(Ck X.P (X.see d st) t p n).map fun v=>(v,st):=nrfl rfl
def Ac6 (X:Cfg) (t:TypeId) (p i:PV) (st:Store):Option (PV×Store):=match i with | .int _ n=>(Ik X.P t p n).map fun v=>(v,st) | _=>none
theorem Yc {t:TypeId} {x i:Operand}:iop X d (.index t x i) ρ st=Ac6 X t (ρ x) (ρ i) st:=nrfl rfl
theorem cM {t:TypeId} {p:PV} {k:IntKind} {n:Int}:Ac6 X t p (.int k n) st=(Ik X.P t p n).map fun v=>(v,st):=nrfl rfl
def Ac7 (p:PV) (i:Nat) (st:Store):Option (PV×Store):=match p with | .tuple vs=>(vs[i]?).map fun v=>(v,st) | _=>none
theorem RA {x:Operand} {i:Nat}:iop X d (.extract x i) ρ st=Ac7 (ρ x) i st:=nrfl rfl
theorem Us {vs:List PV} {i:Nat}:Ac7 (.tuple vs) i st=(vs[i]?).map fun v=>(v,st):=nrfl rfl
theorem Kb {f:Operand} {as:List Operand} {ts:List TypeId}:iop X d (.call ⟨.value f,as.toArray,ts.toArray⟩) ρ st=Dp X d (ρ f) (Ox X d ts) (evs ρ as) st:=by rw[←IB];rfl
theorem Yd {b:Builtin} {as:List Operand} {ts:List TypeId}:iop X d (.call ⟨.builtin b,as.toArray,ts.toArray⟩) ρ st=Ba X d b ts (evs ρ as) st:=by rw[←IB];rfl
def xW (X:Cfg) (f:Nat) (l:List PV) (st:Store):Option (PV×Store):=(BR (st.only (DB l)) l).bind fun as=>X.tab f as (st.without (DB l))
def xX (X:Cfg) (f:Nat) (l:List PV) (st:Store):Option (PV×Store):=(BR (st.only (DB l)) l).bind fun as=>X.tab f as (st.seal (DB l))
def xY (X:Cfg) (f k:Nat) (l:List PV) (st:Store):Option (PV×Store):=if (DB l).all (fun i=>i==k)=true then (BR (st.only [k]) l).bind fun as=>X.tab f as (st.again k)else none
theorem cN {f:Nat} {a b:List PV} {ts:List TypeId} {args:List PV}:Dp X d (.func (.func f) a b) ts args st=if X.frz d=true then (if X.num d=0 then xW X f (a++nrmAll X.P ts args++b) st else if X.muts d=true then xY X f (X.num d-1) (a++nrmAll X.P ts args++b) st else xX X f (a++nrmAll X.P ts args++b) st)else if X.muts d=true∧(AL (a++nrmAll X.P ts args++b)=false∨(X.frz (1200000+d)=true∧X.quiet f=false))then none else X.tab f (a++nrmAll X.P ts args++b) st:=by
 simp only[Dp,xW,xX,xY]
 by_cases h1:X.frz d=true <;> by_cases h2:X.num d=0 <;> by_cases h3:X.muts d=true <;> simp[h1,h2,h3]
theorem pN {ts:List TypeId}:Ox X d ts=if X.frz (400000+d)=true then []else ts:=nrfl rfl
theorem RB {P:Program} {t:TypeId} {ts:List TypeId} {p:PV} {l:List PV}:nrmAll P (t::ts) (p::l)=nrm (Bw P t) p::nrmAll P ts l:=nrfl rfl
theorem Ut {P:Program} {l:List PV}:nrmAll P [] l=l:=by simp[nrmAll]
def Ye (st:Store) (q:Option (MK×PV)) (L:Option Int) (x:PV):Option Int:=match q with | some q=>GJ st (some q) x | none=>L
theorem xZ {t:TypeId} {x:PV}:Ba X d .len [t] [x] st=(Ye st (AS X.P t) (IZ (X.see d st) (Ac X.P t) (AP X.P t) x) x).map fun n=>(.int .i64 n,st):=by simp only[Ba,Ye];cases AS X.P t <;> rfl
theorem Yf {L:Option Int} {x:PV}:Ye st none L x=L:=nrfl rfl
theorem pO {t u:TypeId} {x y:PV}:Ba X d .copy [t,u] [x,y] st=(Qx st (Ac X.P t) x y).map fun q=>(.int .i64 q.1,q.2):=nrfl rfl
theorem Yg {t u:TypeId} {x y:PV} (h:X.num d=0):Ba X d .append [t,u] [x,y] st=if Ac X.P u≠0∨AP X.P u=true then (if X.frz (700000+d)=true∧Ln st x y=false then none else (Ca st (Ac X.P t) y).bind fun ys=>Ci st (Ac X.P t) x ys)else none:=by
 simp only[Ba,h]
 by_cases h1:Ac X.P u≠0∨AP X.P u=true <;> by_cases h2:X.frz (700000+d)=true <;> cases h3:Ln st x y <;> simp[h1,h2]
theorem Pc {t u:TypeId} {x y:PV} {k:Nat} (h:X.num d=k+1):Ba X d .append [t,u] [x,y] st=if D5 (k+1) x y=true then (if Ac X.P u≠0∨AP X.P u=true then (if X.frz (700000+d)=true then none else (Ca st (Ac X.P t) y).bind fun ys=>Ci st (Ac X.P t) x ys)else none)else none:=by
 simp only[Ba,h]
 by_cases h1:D5 (k+1) x y=true <;> by_cases h2:Ac X.P u≠0∨AP X.P u=true <;> by_cases h3:X.frz (700000+d)=true <;> simp[h1,h2,h3]
theorem yA {ts:List TypeId} {x y:Int} {k:IntKind}:Ba X d .min ts [.int k x,.int k y] st=some (.int k (if y<x then y else x),st):=by
 cases ts with
 | nil=>simp[Ba,EW]
 | cons t ts=>cases ts <;> simp[Ba,EW]
theorem yB {ts:List TypeId} {x y:Int} {k:IntKind}:Ba X d .max ts [.int k x,.int k y] st=some (.int k (if x<y then y else x),st):=by
 cases ts with
 | nil=>simp[Ba,EW]
 | cons t ts=>cases ts <;> simp[Ba,EW]
end
theorem pP {m:List (Nat×Nat)} {cs:List PV}:nrm m (.agg cs)=.agg (I0 m 0 cs):=nrfl rfl
theorem Yh {m:List (Nat×Nat)} {i:Nat} {c:PV} {l:List PV}:I0 m i (c::l)=nrm1 (m.lookup i) c::I0 m (i+1) l:=nrfl rfl
theorem cO {m:List (Nat×Nat)} {i:Nat}:I0 m i [] = []:=nrfl rfl
theorem cP {m:List (Nat×Nat)}:nrm m .nils=nrm1 (m.lookup 0) .nils:=nrfl rfl
theorem Yi {z:Nat}:nrm1 (some z) .nils=.lits z []:=nrfl rfl
theorem Yj:nrm1 none .nils=.nils:=nrfl rfl
theorem pQ {p:PV}:nrm1 none p=p:=by cases p <;> rfl
theorem yC {p:PV}:nrm [] p=p:=by
 cases p <;> try rfl
 rename_i cs
 simp only[nrm,PV.agg.injEq]
 have : ∀(l:List PV) (i:Nat),I0 [] i l=l:=by
  intro l;induction l with
  | nil=>intro i;rfl
  | cons c l ih=>intro i;simp only[I0,ih,List.lookup_nil,pQ]
 exact this cs 0
theorem pR {m:List (Nat×Nat)} {k:IntKind} {n:Int}:nrm m (.int k n)=.int k n:=nrfl rfl
theorem pS {m:List (Nat×Nat)} {s:List UInt8}:nrm m (.str s)=.str s:=nrfl rfl
theorem cQ {m:List (Nat×Nat)} {b:Bool}:nrm m (.bool b)=.bool b:=nrfl rfl
theorem cR {m:List (Nat×Nat)} {z:Nat} {l:List PV}:nrm m (.lits z l)=.lits z l:=nrfl rfl
theorem pT {m:List (Nat×Nat)} {i g s n:Nat}:nrm m (.ref i g s n)=.ref i g s n:=nrfl rfl
theorem cT {m:List (Nat×Nat)} {f:Fn} {a b:List PV}:nrm m (.func f a b)=.func f a b:=nrfl rfl
theorem cU {m:List (Nat×Nat)} {cs:List PV} {o:Nat}:nrm m (.vptr cs o)=.vptr cs o:=nrfl rfl
theorem pU {m:List (Nat×Nat)} {i g x o:Nat}:nrm m (.ptr i g x o)=.ptr i g x o:=nrfl rfl
theorem cV {m:Option Nat} {k:IntKind} {n:Int}:nrm1 m (.int k n)=.int k n:=nrfl rfl
theorem cW {m:Option Nat} {s:List UInt8}:nrm1 m (.str s)=.str s:=nrfl rfl
theorem Yk {m:Option Nat} {b:Bool}:nrm1 m (.bool b)=.bool b:=nrfl rfl
theorem Yl {m:Option Nat} {z:Nat} {l:List PV}:nrm1 m (.lits z l)=.lits z l:=nrfl rfl
theorem cX {m:Option Nat} {i g s n:Nat}:nrm1 m (.ref i g s n)=.ref i g s n:=nrfl rfl
section
variable {st:Store}
def yD (o:Option IObj) (gen:Nat):Option (Nat×List PV):=match o with | some (.arr g z es)=>if gen=g then some (z,es)else none | _=>none
theorem yE {id g:Nat}:st.arr? id g=yD (st.obj id) g:=nrfl rfl
theorem Ym {g h z:Nat} {es:List PV}:yD (some (.arr h z es)) g=if g=h then some (z,es)else none:=nrfl rfl
theorem pV {cells:List PV} {off sz:Nat}:Cv cells off sz false=cells[off]?:=nrfl rfl
theorem pW {cells:List PV} {off sz:Nat}:Cv cells off sz true=if off+sz≤cells.length then some (.agg ((cells.drop off).take sz))else none:=nrfl rfl
theorem Uu {sz off:Nat} {ag:Bool} {cells:List PV}:C8 st sz ag (.vptr cells off)=Cv cells off sz ag:=nrfl rfl
theorem Yn {sz off id gen idx:Nat} {ag:Bool}:C8 st sz ag (.ptr id gen idx off)=(st.arr? id gen).bind fun q=>Cv (nth q.2 idx).cells off sz ag:=nrfl rfl
theorem Pd {cs vs:List PV} {o:Nat}:A4 (.agg cs) o vs=.agg (Dj cs o vs):=nrfl rfl
theorem Pe {k:IntKind} {n:Int} {v:PV} {o:Nat}:A4 (.int k n) o [v]=v:=nrfl rfl
theorem Nj {b:Bool} {v:PV} {o:Nat}:A4 (.bool b) o [v]=v:=nrfl rfl
theorem Nk {v:PV} {o:Nat}:A4 .nils o [v]=v:=nrfl rfl
theorem Pf {i g s n:Nat} {v:PV} {o:Nat}:A4 (.ref i g s n) o [v]=v:=nrfl rfl
theorem Uv {sz id gen idx off:Nat} {v:PV}:ED st sz (.ptr id gen idx off) v=(st.arr? id gen).bind fun q=>if v.cells.length=sz∧0<sz∧idx<q.2.length∧off+sz≤q.1 then some (st.set id (.arr gen q.1 (q.2.set idx (A4 (nth q.2 idx) off v.cells))))else none:=nrfl rfl
theorem RC {cells:List PV} {off o:Nat}:CL st (.vptr cells off) o=some (.vptr cells (off+o)):=nrfl rfl
theorem Uw {id gen idx off o:Nat}:CL st (.ptr id gen idx off) o=(st.arr? id gen).map fun _=>.ptr id gen idx (off+o):=nrfl rfl
variable {P:Program} {t:TypeId} {i:Int}
theorem RD {z:Nat} {l:List PV}:Ck P st t (.lits z l) i=if 0≤i∧i<l.length∧z=Ac P t∧0<z then some (.vptr (nth l i.toNat).cells 0)else none:=nrfl rfl
theorem Ux {id gen s n:Nat}:Ck P st t (.ref id gen s n) i=(st.arr? id gen).bind fun q=>if 0≤i∧i<n∧s+n≤q.2.length∧q.1=Ac P t then some (.ptr id gen (s+i.toNat) 0)else none:=nrfl rfl
theorem RE {cells:List PV} {off:Nat}:Ck P st t (.vptr cells off) i=(BJ P t).bind fun q=>if 0≤i∧i<q.1∧0<q.2 then some (.vptr cells (off+i.toNat*q.2))else none:=nrfl rfl
theorem Uy {id gen idx off:Nat}:Ck P st t (.ptr id gen idx off) i=(st.arr? id gen).bind fun _=>(BJ P t).bind fun q=>if 0≤i∧i<q.1∧0<q.2 then some (.ptr id gen idx (off+i.toNat*q.2))else none:=nrfl rfl
theorem Uz {s:List UInt8}:Ik P t (.str s) i=if 0≤i∧i<s.length∧AP P t=true then some (.int .u8 (s.getD i.toNat 0).toNat)else none:=nrfl rfl
theorem UA {cs:List PV}:Ik P t (.agg cs) i=(JW P t).bind fun q=>(Bt P q.2).bind fun r=>if 0≤i∧i<q.1 then Cv cs (i.toNat*r.1) r.1 r.2 else none:=nrfl rfl
variable {z:Nat} {sb:Bool}
theorem Yo:IZ st z sb .nils=if 0<z then some 0 else none:=nrfl rfl
theorem Yp {y:Nat} {l:List PV}:IZ st z sb (.lits y l)=if 0<z then some (l.length:Int)else none:=nrfl rfl
theorem cZ {id g s n:Nat}:IZ st z sb (.ref id g s n)=(st.arr? id g).bind fun _=>if 0<z then some (n:Int)else none:=nrfl rfl
theorem dB {s:List UInt8}:IZ st z sb (.str s)=if sb=true then some (s.length:Int)else none:=nrfl rfl
theorem RF:Ca st z .nils=some []:=nrfl rfl
theorem RG {y:Nat} {l:List PV}:Ca st z (.lits y l)=if y=z then some l else none:=nrfl rfl
theorem UB {id gen s n:Nat}:Ca st z (.ref id gen s n)=(st.arr? id gen).bind fun q=>if s+n≤q.2.length∧q.1=z then some ((q.2.drop s).take n)else none:=nrfl rfl
theorem UC {s:List UInt8}:Ca st z (.str s)=if z=1 then some (s.map fun b=>.int .u8 b.toNat)else none:=nrfl rfl
theorem RH {lo hi:Option Int} {ar:Option (Nat×Nat)}:Cb st z sb ar .nils lo hi=if lo.getD 0=0∧hi.getD 0=0∧0<z then some .nils else none:=nrfl rfl
theorem RI {y:Nat} {l:List PV} {lo hi:Option Int} {ar:Option (Nat×Nat)}:Cb st z sb ar (.lits y l) lo hi=if 0≤lo.getD 0∧lo.getD 0≤hi.getD l.length∧hi.getD l.length≤l.length∧y=z∧0<z then some (.lits z ((l.drop (lo.getD 0).toNat).take ((hi.getD l.length).toNat-(lo.getD 0).toNat)))else none:=nrfl rfl
theorem UD {id gen s n:Nat} {lo hi:Option Int} {ar:Option (Nat×Nat)}:Cb st z sb ar (.ref id gen s n) lo hi=(st.arr? id gen).bind fun q=>if 0≤lo.getD 0∧lo.getD 0≤hi.getD n∧hi.getD n≤(q.2.length:Int)-s∧s≤q.2.length∧q.1=z then some (.ref id gen (s+(lo.getD 0).toNat) ((hi.getD n).toNat-(lo.getD 0).toNat))else none:=nrfl rfl
theorem RJ {cs:List PV} {off:Nat} {lo hi:Option Int} {ar:Option (Nat×Nat)}:Cb st z sb ar (.vptr cs off) lo hi=ar.bind fun a=>if a.2=1∧lo=none∧hi=none∧off+a.1≤cs.length∧0<a.1∧a.1≤65536 then some (.lits 1 ((cs.drop off).take a.1))else none:=nrfl rfl
theorem dC {P:Program} {t:TypeId} {id gen idx off:Nat}:W4 P st t (.ptr id gen idx off)=(st.arr? id gen).bind fun q=>(BJ P t).bind fun a=>if a.2=1∧idx<q.2.length∧AL q.2=true∧off+a.1≤(nth q.2 idx).cells.length∧0<a.1∧a.1≤65536 then some (.lits 1 (((nth q.2 idx).cells.drop off).take a.1),st.without [id])else none:=nrfl rfl
theorem UE {s:List UInt8} {lo hi:Option Int} {ar:Option (Nat×Nat)}:Cb st z sb ar (.str s) lo hi=if 0≤lo.getD 0∧lo.getD 0≤hi.getD s.length∧hi.getD s.length≤s.length∧sb=true then some (.str ((s.drop (lo.getD 0).toNat).take ((hi.getD s.length).toNat-(lo.getD 0).toNat)))else none:=nrfl rfl
theorem Pg {ys:List PV}:Ci st z .nils ys=if 0<z∧ys.length≤2147483648 then (if ys.length=0 then some (.nils,st)else some (.ref st.next 0 0 ys.length,st.new (.arr 0 z ys)))else none:=nrfl rfl
theorem RK {id gen s n:Nat} {ys:List PV}:Ci st z (.ref id gen s n) ys=(st.arr? id gen).bind fun q =>
   if s+n≤q.2.length∧q.1=z∧n+ys.length≤2147483648 then
    if s+n+ys.length≤q.2.length then
     some (.ref id gen s (n+ys.length),st.set id (.arr gen z (q.2.take (s+n)++ys++q.2.drop (s+n+ys.length))))
    else some (.ref id (gen+1) 0 (n+ys.length),st.set id (.arr (gen+1) z ((q.2.drop s).take n++ys)))
   else none:=rfl
end
section
variable {P:Program} {t:TypeId} {k k':IntKind} {a b:Int}
theorem Ac8:BE P .add t (.int k a) (.int k b)=some (.int k (k.wrap (a+b))):=by simp[BE,Gx,Gw]
theorem Ac9:BE P .sub t (.int k a) (.int k b)=some (.int k (k.wrap (a-b))):=by simp[BE,Gx,Gw]
theorem Ada:BE P .mul t (.int k a) (.int k b)=some (.int k (k.wrap (a*b))):=by simp[BE,Gx,Gw]
theorem Adb:BE P .quo t (.int k a) (.int k b)=if b=0 then none else some (.int k (k.wrap (a.tdiv b))):=by simp[BE,Gx,Gw]
theorem Adc:BE P .rem t (.int k a) (.int k b)=if b=0 then none else some (.int k (a.tmod b)):=by simp[BE,Gx,Gw]
theorem Ade:BE P .and t (.int k a) (.int k b)=(Cl .and k a b).map (.int k):=by simp[BE,Gx,Gw]
theorem Ae2:BE P .or t (.int k a) (.int k b)=(Cl .or k a b).map (.int k):=by simp[BE,Gx,Gw]
theorem Adf:BE P .xor t (.int k a) (.int k b)=(Cl .xor k a b).map (.int k):=by simp[BE,Gx,Gw]
theorem dD:BE P .andNot t (.int k a) (.int k b)=(Cl .andNot k a b).map (.int k):=by simp[BE,Gx,Gw]
theorem Adg:BE P .eql t (.int k a) (.int k b)=some (.bool (decide (a=b))):=by simp[BE,Gx,Gw]
theorem Adh:BE P .neq t (.int k a) (.int k b)=some (.bool (decide (¬a=b))):=by simp[BE,Gx,Gw]
theorem Adi:BE P .lss t (.int k a) (.int k b)=some (.bool (decide (a<b))):=by simp[BE,Gx,Gw]
theorem Adj:BE P .leq t (.int k a) (.int k b)=some (.bool (decide (a≤b))):=by simp[BE,Gx,Gw]
theorem Adk:BE P .gtr t (.int k a) (.int k b)=some (.bool (decide (b<a))):=by simp[BE,Gx,Gw]
theorem Adl:BE P .geq t (.int k a) (.int k b)=some (.bool (decide (b≤a))):=by simp[BE,Gx,Gw]
theorem Adm:BE P .shl t (.int k a) (.int k' b)=if b<0 then none else some (.int k (k.wrap (a*2 ^ (min b.toNat k.bits)))):=nrfl rfl
theorem Adn:BE P .shr t (.int k a) (.int k' b)=if b<0 then none else some (.int k (a.fdiv (2 ^ (min b.toNat k.bits)))):=nrfl rfl
variable {s u:List UInt8}
theorem yF:BE P .add t (.str s) (.str u)=if s.length+u.length≤2147483648 then some (.str (s++u))else none:=nrfl rfl
theorem yG:BE P .eql t (.str s) (.str u)=some (.bool (decide (s=u))):=nrfl rfl
theorem yH:BE P .neq t (.str s) (.str u)=some (.bool (decide (¬s=u))):=nrfl rfl
theorem yJ:BE P .lss t (.str s) (.str u)=some (.bool (Op.bytesLess s u)):=nrfl rfl
theorem yK:BE P .leq t (.str s) (.str u)=some (.bool (Op.bytesLess s u||decide (s=u))):=nrfl rfl
theorem yL:BE P .gtr t (.str s) (.str u)=some (.bool !(Op.bytesLess s u||decide (s=u))):=nrfl rfl
theorem yM:BE P .geq t (.str s) (.str u)=some (.bool !(Op.bytesLess s u)):=nrfl rfl
variable {x y:Bool}
theorem yN:BE P .eql t (.bool x) (.bool y)=if GI P t=true then some (.bool (x==y))else none:=nrfl rfl
theorem yO:BE P .neq t (.bool x) (.bool y)=if GI P t=true then some (.bool (!(x==y)))else none:=nrfl rfl
theorem Ado:unP .neg (.int k a)=some (.int k (k.wrap (0-a))):=nrfl rfl
theorem Adp:unP .not (.bool x)=some (.bool (!x)):=nrfl rfl
theorem yP {src dst:TypeId}:Nx P src dst (.int k a)=(EV P dst).bind fun k=>(EV P src).bind fun _=>some (.int k (k.wrap a)):=nrfl rfl
theorem yQ {src dst:TypeId}:Nx P src dst (.str s)=if AP P src=true∧AP P dst=true then some (.str s)else none:=nrfl rfl
end
theorem dE {place:Nat→Option (Nat×Nat)} {cells:List PV}:EF place cells []=some cells:=nrfl rfl
def dF (place:Nat→Option (Nat×Nat)) (cells vs:List PV) (rest:List (Nat×PV)) (o:Option (Nat×Nat)):Option (List PV) :=
 match o with | none=>none | some q=>if vs.length=q.2∧q.1+q.2≤cells.length∧0<q.2 then EF place (Dj cells q.1 vs) rest else none
theorem Yq {place:Nat→Option (Nat×Nat)} {cells:List PV} {i:Nat} {v:PV} {rest:List (Nat×PV)}:EF place cells ((i,v)::rest)=dF place cells v.cells rest (place i):=by
 simp only[EF,dF];cases place i <;> rfl
theorem UF {place:Nat→Option (Nat×Nat)} {cells vs:List PV} {rest:List (Nat×PV)} {q:Nat×Nat}:dF place cells vs rest (some q)=if vs.length=q.2∧q.1+q.2≤cells.length∧0<q.2 then EF place (Dj cells q.1 vs) rest else none:=nrfl rfl
def pX (P:Program) (t:TypeId) (cells:List PV) (parts:List (Nat×PV)) (o:Option (Nat×Nat)):Option PV :=
 match o with
 | some q=>(EF (fun i=>some (i*q.2,q.2)) cells parts).map .agg
 | none=>(EF (fun i=>(A9 P t i).map fun q=>(q.1,q.2.1)) cells parts).map .agg
theorem Yr {P:Program} {t:TypeId} {parts:List (Nat×PV)}:JX P t parts=if Cj P t=true then pX P t (Ax P t).cells parts (BJ P t)else none:=by
 simp only[JX,pX];cases BJ P t <;> rfl
theorem Ys {P:Program} {t:TypeId} {cells:List PV} {parts:List (Nat×PV)}:pX P t cells parts none=(EF (fun i=>(A9 P t i).map fun q=>(q.1,q.2.1)) cells parts).map .agg:=nrfl rfl
theorem Yt {P:Program} {t:TypeId} {cells:List PV} {parts:List (Nat×PV)} {q:Nat×Nat}:pX P t cells parts (some q)=(EF (fun i=>some (i*q.2,q.2)) cells parts).map .agg:=nrfl rfl
theorem pY {z:Nat} {l:List PV}:Cc z l []=some l:=nrfl rfl
theorem dG {z i:Nat} {l:List PV} {v:PV} {rest:List (Nat×PV)}:Cc z l ((i,v)::rest)=if i<l.length∧v.cells.length=z then Cc z (l.set i v) rest else none:=nrfl rfl
theorem Yu {cells vs:List PV} {off:Nat}:Dj cells off vs=cells.take off++vs++cells.drop (off+vs.length):=nrfl rfl
theorem pZ {args:List PV} {t:Nat}:Fk args t=args.getD t .bad:=nrfl rfl
def dH:Option (List PV)→Option PV
 | some [p]=>some p
 | some ps=>some (.tuple ps)
 | none=>none
theorem qA {P:Program} {rs:List ResultVar} {s:IState}:OU P rs s=dH (Dg P s rs):=by
 unfold OU;cases Dg P s rs with
 | none=>rfl
 | some l=>cases l with
  | nil=>rfl
  | cons a l=>cases l <;> rfl
theorem qC {p:PV}:dH (some [p])=some p:=nrfl rfl
theorem qD {p q:PV} {l:List PV}:dH (some (p::q::l))=some (.tuple (p::q::l)):=nrfl rfl
theorem RL {P:Program} {s:IState}:Dg P s []=some []:=nrfl rfl
theorem Ph {P:Program} {s:IState} {r:ResultVar} {l:List ResultVar}:Dg P s (r::l)=(F5 P s r).bind fun p=>(Dg P s l).map fun ps=>p::ps:=nrfl rfl
theorem RM {P:Program} {s:IState} {t:Nat}:F5 P s (.tmp t)=some (s.env t):=nrfl rfl
theorem Pi {P:Program} {s:IState} {a:Nat} {t:TypeId}:F5 P s (.cell a t)=(Bt P t).bind fun q=>C8 s.st q.1 q.2 (s.env a):=nrfl rfl
theorem Ao {α β:Type} {x y:Option α} {f:α→Option β} (h:x=y):x.bind f=y.bind f:=by rw[h]
theorem As {α β:Type} {x y:Option α} {f:α→β} (h:x=y):x.map f=y.map f:=by rw[h]
theorem qE {X:Cfg} {f k:Nat} {l:List PV} {st:Store}:xY X f k l st=if (DB l).all (fun i=>i==k)=true then (BR (st.only [k]) l).bind fun as=>X.tab f as (st.again k)else none:=nrfl rfl
theorem dJ {ob:Nat→Option IObj} {n k:Nat}:Store.again ⟨ob,n⟩ k=⟨Aa ob k ((ob k).bind Cd),n⟩:=nrfl rfl
theorem qF {X:Cfg} {f:Nat} {l:List PV} {st:Store}:xX X f l st=(BR (st.only (DB l)) l).bind fun as=>X.tab f as (st.seal (DB l)):=nrfl rfl
theorem dK {st:Store} {ids:List Nat} {i:Nat}:(st.seal ids).obj i=if ids.contains i=true then (st.obj i).bind Cd else (st.obj i).map (Qz (st.only ids)):=nrfl rfl
theorem Yv {st:Store} {ids:List Nat}:(st.seal ids).next=st.next:=nrfl rfl
theorem UG {g z:Nat} {es:List PV}:Cd (.arr g z es)=some (.arr (g+1) z []):=nrfl rfl
theorem Yw {st:Store} {g z:Nat} {es:List PV}:Qz st (.arr g z es)=.arr g z (es.map (KF st)):=nrfl rfl
theorem Yx {st:Store} {cs:List PV}:KF st (.agg cs)=.agg (cs.map (sealC st)):=nrfl rfl
theorem Yy {st:Store} {k:IntKind} {n:Int}:KF st (.int k n)=.int k n:=nrfl rfl
theorem Yz {st:Store} {k:IntKind} {n:Int}:sealC st (.int k n)=.int k n:=nrfl rfl
theorem UH {st:Store} {b:Bool}:sealC st (.bool b)=.bool b:=nrfl rfl
theorem UI {st:Store} {z:Nat} {l:List PV}:sealC st (.lits z l)=.lits z l:=nrfl rfl
theorem UJ {st:Store}:sealC st .nils=.nils:=nrfl rfl
theorem YA {st:Store} {id g s n:Nat}:sealC st (.ref id g s n)=((st.arr? id g).bind fun q=>if s+n≤q.2.length∧AL q.2=true then some (.lits q.1 ((q.2.drop s).take n))else none).getD (.ref id g s n):=nrfl rfl
theorem qG {X:Cfg} {f:Nat} {l:List PV} {st:Store}:xW X f l st=(BR (st.only (DB l)) l).bind fun as=>X.tab f as (st.without (DB l)):=nrfl rfl
theorem UK {st:Store} {c:PV} {l:List PV}:BR st (c::l)=(rdP st c).bind fun d=>(BR st l).map fun ds=>d::ds:=by simp only[BR]
theorem YB {st:Store}:BR st []=some []:=by simp only[BR]
theorem dM {st:Store} {c:PV} {l:List PV}:rdL st (c::l)=(rdC st c).bind fun d=>(rdL st l).map fun ds=>d::ds:=by simp only[rdL]
theorem qH {st:Store}:rdL st []=some []:=by simp only[rdL]
theorem qI {spec:List PV→Option PV} {args:List PV} {st:Store}:Xz spec args st=if AL args=true then (spec args).map fun r=>(r,st)else (BR st args).bind fun as=>(spec as).bind fun r=>if r.scal=true then some (r,st)else none:=nrfl rfl
theorem Dl {c:PV} {l:List PV}:AL (c::l)=(c.pur&&AL l):=by simp only[AL]
theorem Fy:AL []=true:=by simp only[AL]
end Sim
namespace Sim
open Go
def Bg:Code→Code
 | .region id ops _=>.region id ops false
 | .seq a b=>.seq (Bg a) (Bg b)
 | .cond c a b=>.cond c (Bg a) (Bg b)
 | .block id c=>.block id (Bg c)
 | .loop c=>.loop (Bg c)
 | .scope c=>.scope (Bg c)
 | c=>c
def Bj (X:Cfg):Code→Bool
 | .region _ ops dr => !dr||Iw X ops
 | .seq a b=>Bj X a&&Bj X b
 | .cond _ a b=>Bj X a&&Bj X b
 | .block _ c=>Bj X c
 | .loop c=>Bj X c
 | .scope c=>Bj X c
 | _=>true
theorem EK {G:WP} (hG:G.Mono) {X:Cfg} (hm:Bb X) {N:Nat} {c:Code}:∀ {Q:IExit→IState→Prop} {s:IState},Bj X c=true→wpC G X N (Bg c) Q s→wpC G X N c Q s:=by
 induction c with
 | skip=>intro Q s hd hs;exact hs
 | region id ops dr =>
  intro Q s hd hs
  rcases hs with hs | hs
  ·refine .inl ⟨fun h=>?_,hs.2⟩
   subst h
   simpa [Bj]using hd
  ·cases hs.1
 | seq a b iha ihb =>
  intro Q s hd hs
  simp only[Bj,Bool.and_eq_true]at hd
  refine iha hd.1 (CB hG X N _ _ _ _ hm (fun e s' he=>?_) hs)
  cases e with
  | normal=>exact ihb hd.2 he
  | exit i=>exact he
  | ret=>exact he
 | cond c a b iha ihb =>
  intro Q s hd hs
  simp only[Bj,Bool.and_eq_true]at hd
  simp only[Bg,wpC]at hs ⊢
  split at hs
  ·exact ⟨fun hv=>iha hd.1 (hs.1 hv),fun hv=>ihb hd.2 (hs.2 hv)⟩
  ·exact hs.elim
 | block id c ih=>intro Q s hd hs;exact ih hd hs
 | loop c ih =>
  intro Q s hd hs
  obtain ⟨J,n,h0,hr⟩:=hs
  exact ⟨J,n,h0,fun m s' hs'=>ih hd (hr m s' hs')⟩
 | exit id=>intro Q s hd hs;exact hs
 | ret=>intro Q s hd hs;exact hs
 | rangeFunc=>intro Q s hd hs;exact hs
 | scope c ih=>intro Q s hd hs;exact ih hd hs
 | label=>intro Q s hd hs;exact hs
 | goto=>intro Q s hd hs;exact hs
 | refuse=>intro Q s hd hs;exact hs
theorem CO {X:Cfg} (hm:Bb X) {N:Nat} {c:Code} {Q:IExit→IState→Prop} {s:IState} (hd:Bj X c=true) (h:wpI X N (Bg c) Q s):wpI X N c Q s:=EK (DE X.dep) hm hd h
section
variable {X:Cfg} {N:Nat} {Q:IExit→IState→Prop} {ks:List Kf} {s:IState}
theorem qJ:run X N Q (Bg .skip) ks s=FY X N Q ks s:=nrfl rfl
theorem yR {a b:Code}:run X N Q (Bg (.seq a b)) ks s=run X N Q (Bg a) (.seq (Bg b)::ks) s:=OM
theorem dN {id:Nat} {c:Code}:run X N Q (Bg (.block id c)) ks s=run X N Q (Bg c) (.blk id::ks) s:=J4
theorem qK {id:Nat}:run X N Q (Bg (.exit id)) ks s=Gq X N Q ks id s:=nrfl rfl
theorem yS:run X N Q (Bg .ret) ks s=done X N Q ks s:=nrfl rfl
theorem YC {id:Nat} {l:List Oper} {dr:Bool}:run X N Q (Bg (.region id l.toArray dr)) ks s=ops X N Q l.toArray l ks s:=Ix
theorem qL {c:Operand} {a b:Code}:run X N Q (Bg (.cond c a b)) ks s=Gs (Av s.env c) (run X N Q (Bg a) ks s) (run X N Q (Bg b) ks s):=LD
theorem dO {g:Operand} {ps:Array Tmp} {a b:Code}:run X N Q (Bg (.rangeFunc g ps a b)) ks s=run X N Q (.rangeFunc g ps a b) ks s:=nrfl rfl
end
theorem Bk {P:Program} (hmix:P.follows .mixedOrders=true) {l:AM} (hl:Bi P l) (muts:List Nat) (frz:List Nat) {f:FuncId} {fn:Func} {c:Code} (hf:P.funcs[f]?=some fn) (hb:fn.body=some c)
  (hname : (fn.name == "runtime.NumGoroutine") = false) {args : List PV} {N : Nat} (hN : fn.ntmps = N) (hn : args.length ≤ N) {rs : List ResultVar} (hrs : fn.results.toList = rs) (hd : Bj (cfg P l muts frz) c = true) {r : PV}
  (h : AJ args→run (cfg P l muts frz) N (Ar P rs (fun p st=>DRx st p r)) (Bg c) [] ⟨Fk args,st0⟩):VC P f args r :=
 vZ hmix hl muts frz hf hb hname hN hn hrs 0 fun hs=>CO (AQ rfl) hd (by
  have e:stR 0=st0:=by simp[stR,st0]
  rw [e];exact h hs)
theorem UL {P:Program} (hmix:P.follows .mixedOrders=true) {l:AM} (hl:Bi P l) (muts:List Nat) (frz:List Nat) (n dep:Nat) {f:FuncId} {fn:Func} {c:Code} (hf:P.funcs[f]?=some fn) (hb:fn.body=some c)
  (hname : (fn.name == "runtime.NumGoroutine") = false) {args : List PV} {N : Nat} (hN : fn.ntmps = N) (hn : args.length ≤ N) {rs : List ResultVar} (hrs : fn.results.toList = rs) (hd : Bj (cfg P l muts frz dep) c = true) {r : PV}
  (h : AJ args→run (cfg P l muts frz dep) N (Ar P rs (fun p st=>DRx st p r)) (Bg c) [] ⟨Fk args,⟨fun i=>if i<n then some (.arr 0 1 [])else none,n⟩⟩):VC P f args r :=
 vZ hmix hl muts frz hf hb hname hN hn hrs n (dep:=dep) fun hs=>CO (AQ rfl) hd (h hs)
theorem B7 {P:Program} (hmix:P.follows .mixedOrders=true) {l:AM} (hl:Bi P l) (muts:List Nat) (frz:List Nat) (dep:Nat) {f:FuncId} {fn:Func} {c:Code} (hf:P.funcs[f]?=some fn) (hb:fn.body=some c)
  (hname : (fn.name == "runtime.NumGoroutine") = false) {args : List PV} {N : Nat} (hN : fn.ntmps = N) (hn : args.length ≤ N) {rs : List ResultVar} (hrs : fn.results.toList = rs) (hd : Bj (cfg P l muts frz dep) c = true) {st : Store} {Q : PV → Store → Prop}
  (h : run (cfg P l muts frz dep) N (Ar P rs Q) (Bg c) [] ⟨Fk args,st⟩):IXC P f args st Q :=
 VJ hmix hl muts frz hf hb hname hN hn hrs (dep:=dep) (CO (AQ rfl) hd h)
theorem qM {P:Program} (hmix:P.follows .mixedOrders=true) {l:AM} (hl:Bi P l) (muts:List Nat) (frz:List Nat) (n dep:Nat) {f:FuncId} {fn:Func} {c:Code} (hf:P.funcs[f]?=some fn) (hb:fn.body=some c)
  (hname : (fn.name == "runtime.NumGoroutine") = false) {args : List PV} {N : Nat} (hN : fn.ntmps = N) (hn : args.length ≤ N) {rs : List ResultVar} (hrs : fn.results.toList = rs) (hd : Bj (cfg P l muts frz dep) c = true) {z : Nat} {es : List PV}
  (hs : ∀e∈es,e.scal=true)
  (h : run (cfg P l muts frz dep) N (Ar P rs (fun p st=>(∃id g,p=.ref id g 0 es.length∧st.obj id=some (.arr g z es))∨(es = []∧0<z∧p=.nils))) (Bg c) [] ⟨Fk args,⟨fun i=>if i<n then some (.arr 0 1 [])else none,n⟩⟩):VCA P f args z es :=
 nY hmix hl muts frz hf hb hname hN hn hrs n (dep:=dep) hs (CO (AQ rfl) hd h)
theorem YD {X:Cfg} {N:Nat} {Q:IExit→IState→Prop} {ks:List Kf} {s:IState} {all:Array Oper} {l:List Oper} {d:Option Nat} {c:Prop} [Decidable c] {x y:PV×Store}:Bh X N Q all l ks d s (if c then some x else some y)=((c→Bh X N Q all l ks d s (some x))∧(¬c→Bh X N Q all l ks d s (some y))):=by
 by_cases h:c <;> simp[h]
theorem qN {k:IntKind} {l:List Int} {i:Nat} {n:Int}:(l.map (PV.int k)).set i (PV.int k n)=(l.set i n).map (PV.int k):=by simp
theorem D7 {α:Type} {f:α→PV} {l:List α} {i:Nat} (d:α) (h:i<l.length):nth (l.map f) i=f (l.getD i d):=by simp[nth,h]
theorem HK {α:Type} {f:α→PV} {l:List α} (h:∀x,(f x).pur=true):AL (l.map f)=true:=J0 h
theorem HL {α:Type} {f:α→PV} {l m:List α} (h:∀x y,f x=f y→x=y):(l.map f=m.map f)=(l=m):=propext ⟨Fx h,fun h=>by rw[h]⟩
theorem YE {p:Prop} [Decidable p] {A B:Prop}:BG (.bool (decide p)) true A B=((p→A)∧(¬p→B)):=by simp[BG]
theorem YF {p:Prop} [Decidable p] {A B:Prop}:BG (.bool (decide p)) false A B=((¬p→A)∧(p→B)):=by simp[BG]
theorem qO {p:Prop} [Decidable p] {A B:Prop}:Gs (.bool (decide p)) A B=((p→A)∧(¬p→B)):=by simp[Gs]
theorem qP {P:Program} {t:TypeId} {x y:Bool}:BE P .eql t (.bool x) (.bool y)=if GI P t=true then some (.bool (decide (x=y)))else none:=by rw[yN];cases x <;> cases y <;> rfl
theorem qQ {P:Program} {t:TypeId} {x y:Bool}:BE P .neq t (.bool x) (.bool y)=if GI P t=true then some (.bool (decide (¬x=y)))else none:=by rw[yO];cases x <;> cases y <;> rfl
theorem Aw {o o':Option Nat} {ρ:Nat→PV} (h:o=o'):grd o ρ=grd o' ρ:=by rw[h]
theorem Ap {c c' a b:PV} {st:Store} (h:c=c'):NS c a b st=NS c' a b st:=by rw[h]
theorem dP {st:Store} {ids:List Nat} {i:Nat}:(st.only ids).obj i=if ids.contains i=true then st.obj i else none:=nrfl rfl
theorem YG {st:Store} {ids:List Nat}:(st.only ids).next=st.next:=nrfl rfl
theorem RN {st:Store} {ids:List Nat} {i:Nat}:(st.without ids).obj i=if ids.contains i=true then none else st.obj i:=nrfl rfl
theorem Pj {st:Store} {ids:List Nat}:(st.without ids).next=st.next:=nrfl rfl
theorem UM {p:PV} {l:List PV}:DB (p::l)=idC p++DB l:=nrfl rfl
theorem YH:DB [] = []:=nrfl rfl
theorem qR {i g s n:Nat}:idC (.ref i g s n) = [i]:=nrfl rfl
theorem qS {k:IntKind} {n:Int}:idC (.int k n) = []:=nrfl rfl
theorem dQ {b:Bool}:idC (.bool b) = []:=nrfl rfl
theorem qT {b:List UInt8}:idC (.str b) = []:=nrfl rfl
theorem dR:idC .nils = []:=nrfl rfl
theorem dT {z:Nat} {l:List PV}:idC (.lits z l) = []:=nrfl rfl
def idE:PV→List Nat | .ref id _ _ _ => [id] | _ => []
def idL:List PV→List Nat | [] => [] | c::l=>idE c++idL l
theorem qU {cs:List PV}:idC (.agg cs)=idL cs:=by
 induction cs with
 | nil=>rfl
 | cons c l ih=>simp only[idC,List.flatMap_cons]at ih ⊢;rw[ih];cases c <;> rfl
theorem dU {c:PV} {l:List PV}:idL (c::l)=idE c++idL l:=nrfl rfl
theorem qV:idL [] = []:=nrfl rfl
theorem qW {i g s n:Nat}:idE (.ref i g s n) = [i]:=nrfl rfl
theorem qX {k:IntKind} {n:Int}:idE (.int k n) = []:=nrfl rfl
theorem dV {b:Bool}:idE (.bool b) = []:=nrfl rfl
theorem qY {b:List UInt8}:idE (.str b) = []:=nrfl rfl
theorem dW:idE .nils = []:=nrfl rfl
theorem dX {z:Nat} {l:List PV}:idE (.lits z l) = []:=nrfl rfl
theorem AB {W W2:List Nat} {ρ0 ρ1 ρ:Nat→PV} (h:(W2.all fun t=>W.contains t)=true):Gt W ρ0 (If W2 ρ1 ρ)=Gt W ρ0 ρ1:=by
 refine propext ⟨fun g u hu=>?_,fun g u hu=>?_⟩
 all_goals
  have hn:W2.contains u=false:=by
   cases hc:W2.contains u with
   | false=>rfl
   | true =>
    have := List.all_eq_true.1 h u (List.contains_iff_mem.1 hc)
    rw [this]at hu;cases hu
  have e:If W2 ρ1 ρ u=ρ1 u:=HJ hn
 ·rw [←e];exact g u hu
 ·rw [e];exact g u hu
theorem dY:IntKind.i64.bits=64:=nrfl rfl
theorem dZ:IntKind.u64.bits=64:=nrfl rfl
theorem eA:IntKind.u32.bits=32:=nrfl rfl
theorem qZ:IntKind.u8.bits=8:=nrfl rfl
def orI (a b:Int):Int:=IntKind.i64.wrap (BitVec.ofInt 64 a ||| BitVec.ofInt 64 b).toNat
theorem yT {a b:Int}:Cl .or .i64 a b=some (orI a b):=nrfl rfl
end Sim
