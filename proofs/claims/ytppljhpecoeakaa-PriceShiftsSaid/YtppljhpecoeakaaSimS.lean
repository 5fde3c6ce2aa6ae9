/- Operations, shape by shape. -/
import Derived.Test.YtppljhpecoeakaaSimP
set_option linter.unusedVariables false
set_option linter.unusedSimpArgs false
namespace Sim
open Go
theorem Ab5 {ρ:Nat→PV} {n:Nat}:Ay ρ (.tmp n)=ρ n:=nrfl rfl
theorem Ab6 {ρ:Nat→PV} {k:IntKind} {n:Int}:Ay ρ (.const (.int k n))=.int k n:=nrfl rfl
theorem tM {ρ:Nat→PV} {b:Bool}:Ay ρ (.const (.bool b))=.bool b:=nrfl rfl
theorem Ab7 {ρ:Nat→PV} {s:ByteArray}:Ay ρ (.const (.string s))=if s.data.toList.length≤9223372036854775807 then .str s.data.toList else .bad:=nrfl rfl
theorem tO {ρ:Nat→PV}:Ay ρ (.const (.slice none 0 0))=.nils:=nrfl rfl
theorem tP {ρ:Nat→PV}:Ay ρ (.const (.pointer none))=.nilp:=nrfl rfl
theorem tQ {ρ:Nat→PV}:Ay ρ (.const .nilFunc)=.nilf:=nrfl rfl
theorem tR {ρ:Nat→PV}:Ay ρ (.const .nilIface)=.nili:=nrfl rfl
theorem Ab8 {ρ:Nat→PV} {cs:Array Value}:Ay ρ (.const (.agg cs))=if (cs.toList.map CW).all PV.isCell then .agg (cs.toList.map CW)else .bad:=nrfl rfl
theorem tS {ρ:Nat→PV} {f:FuncId}:Ay ρ (.func f)=.func (.func f) [] []:=nrfl rfl
theorem Ab9 {k:IntKind} {n:Int}:CW (.int k n)=.int k n:=nrfl rfl
theorem tT {b:Bool}:CW (.bool b)=.bool b:=nrfl rfl
theorem tU:CW (.slice none 0 0)=.nils:=nrfl rfl
theorem Aca {s:ByteArray}:CW (.string s)=if s.data.toList.length≤9223372036854775807 then .str s.data.toList else .bad:=nrfl rfl
def grd (o:Option Nat) (ρ:Nat→PV):PV:=match o with | some d=>ρ d | none=>.bad
theorem Zb {ops:Array Oper} {ρ:Nat→PV} {j:Nat}:Ds ops ρ j=grd ((ops[j]?).bind (·.dst)) ρ:=nrfl rfl
theorem fQ {d:Nat} {ρ:Nat→PV}:grd (some d) ρ=ρ d:=nrfl rfl
section
variable {X:Cfg} {d:Nat} {ρ:Operand→PV} {st:Store}
theorem fR {x:Operand}:iop X d (.move x) ρ st=some (ρ x,st):=nrfl rfl
theorem Vn {x:Operand}:iop X d (.assign x) ρ st=some (ρ x,st):=nrfl rfl
def Om (c a b:PV) (st:Store):Option (PV×Store):=match c with | .bool v=>some (if v then a else b,st) | _=>none
theorem Vo {v:Bool} {a b:PV}:Om (.bool v) a b st=some (if v=true then a else b,st):=nrfl rfl
theorem Vp {a b:PV}:Om (.bool true) a b st=some (a,st):=nrfl rfl
theorem Sj {a b:PV}:Om (.bool false) a b st=some (b,st):=nrfl rfl
theorem fS {c a b:Operand}:iop X d (.pick c a b) ρ st=Om (ρ c) (ρ a) (ρ b) st:=nrfl rfl
theorem Zc {t:TypeId} (h:X.num d=0):iop X d (.alloc t) ρ st=if 0<X.P.cellsOf t∧(AD X.P t).cells.length=X.P.cellsOf t then some (.ptr st.next 0 0 0,st.new (.arr 0 (X.P.cellsOf t) [AD X.P t]))else none:=by simp[iop,h]
def Agz (X:Cfg) (d:Nat) (cells:List PV) (p:PV) (st:Store):Option (PV×Store) :=
 if 0<cells.length then (if X.muts d then some (.ptr st.next 0 0 0,st.new (.arr 0 cells.length [p]))else some (.vptr cells 0,st))else none
theorem tV {t:TypeId} {x:Operand}:iop X d (.box t x) ρ st=Agz X d (ρ x).cells (ρ x) st:=nrfl rfl
theorem tW {cells:List PV} {p:PV}:Agz X d cells p st=if 0<cells.length then (if X.muts d=true then some (.ptr st.next 0 0 0,st.new (.arr 0 cells.length [p]))else some (.vptr cells 0,st))else none:=nrfl rfl
def evp (ρ:Operand→PV):List (Nat×Operand)→List (Nat×PV)
 | [] => []
 | x::l=>(x.1,ρ x.2)::evp ρ l
theorem fT {i:Nat} {x:Operand} {l:List (Nat×Operand)}:evp ρ ((i,x)::l)=(i,ρ x)::evp ρ l:=nrfl rfl
theorem tX:evp ρ [] = []:=nrfl rfl
theorem fU {l:List (Nat×Operand)}:(l.map fun (i,x)=>(i,ρ x))=evp ρ l:=by
 induction l with
 | nil=>rfl
 | cons x l ih=>simp only[List.map_cons,evp,ih]
theorem Zd {t:TypeId} {parts:List (Nat×Operand)}:iop X d (.build t parts.toArray) ρ st=(Ko X.P t (evp ρ parts)).map fun v=>(v,st):=by rw[←fU];rfl
def Acb (X:Cfg) (d:Nat) (t:TypeId) (len:Nat) (o:Option (List PV)) (st:Store):Option (PV×Store) :=
 if 0<Ad X.P t∧len*Ad X.P t≤16777216 then o.bind fun l=>if X.muts d then (if X.num d=0 then some (.ref st.next 0 0 len,st.new (.arr 0 (Ad X.P t) l))else st.re (X.num d) (Ad X.P t) l len)else some (.lits (Ad X.P t) l,st)else none
theorem Mj {t:TypeId} {len:Nat} {parts:List (Nat×Operand)}:iop X d (.buildSlice t len parts.toArray) ρ st=Acb X d t len (Cl (Ad X.P t) (List.replicate len (AD X.P (BR X.P t))) (evp ρ parts)) st:=by rw[←fU];rfl
theorem tY {t:TypeId} {len:Nat} {l:List PV}:Acb X d t len (some l) st=if 0<Ad X.P t∧len*Ad X.P t≤16777216 then (if X.muts d=true then (if X.num d=0 then some (.ref st.next 0 0 len,st.new (.arr 0 (Ad X.P t) l))else st.re (X.num d) (Ad X.P t) l len)else some (.lits (Ad X.P t) l,st))else none:=by
 simp only[Acb,Option.bind_some]
theorem Acc {ob:Nat→Option IObj} {nx k z n g z0:Nat} {l es:List PV} (h:ob k=some (.arr g z0 es)):Store.re ⟨ob,nx⟩ (k+1) z l n=some (.ref k (g+1) 0 n,Store.set ⟨ob,nx⟩ k (.arr (g+1) z l)):=by simp[Store.re,h]
theorem NI {k id g s n z:Nat} {l:List PV}:Ek k (.ref id g s n) (.lits z l)=(id==k-1):=nrfl rfl
theorem NJ {k id g s n:Nat}:Ek k (.ref id g s n) .nils=(id==k-1):=nrfl rfl
theorem fV {t:TypeId} {x:Operand}:iop X d (.load t x) ρ st=(Bu X.P t).bind fun q=>(Dh (X.see d st) q.1 q.2 (ρ x)).map fun v=>(v,st):=nrfl rfl
theorem Ze {t:TypeId} {a x:Operand}:iop X d (.store t a x) ρ st=if (X.frz (800000+Di a)=true∧N1 st (ρ a) (ρ x)=false)∨(X.frz (900000+Di a)=true∧N2 (X.num (Di a)) (ρ a)=false)then none else (ES st (X.P.cellsOf t) (ρ a) (ρ x)).map fun st'=>(.bad,st'):=nrfl rfl
theorem Zf {n:Nat}:Di (.tmp n)=n:=nrfl rfl
theorem Zg {k id gen i o:Nat}:N2 k (.ptr id gen i o)=(id==k-1):=nrfl rfl
theorem Zh {id gen i o:Nat} {v:PV}:N1 st (.ptr id gen i o) v=(v.isInt1&&match st.arr? id gen with | some q=>decide (q.1≤2)&&q.2.all PV.isInt | none=>false):=nrfl rfl
def WO (p:PV) (st:Store):Option (PV×Store):=match p with | .vptr c o=>some (.vptr c o,st) | .ptr i g x o=>(st.arr? i g).map fun _=>(.ptr i g x o,st) | _=>none
theorem PZ {x:Operand}:iop X d (.nilCheck x) ρ st=(WO (ρ x) (X.see d st)).map fun q=>(q.1,st):=by
 simp only[iop];cases ρ x <;> simp[WO];rfl
theorem Vq {c:List PV} {o:Nat}:WO (.vptr c o) st=some (.vptr c o,st):=nrfl rfl
theorem Zi {i g x o:Nat}:WO (.ptr i g x o) st=(st.arr? i g).map fun _=>(.ptr i g x o,st):=nrfl rfl
theorem Zj {op:BinOp} {t:TypeId} {x y:Operand} {z:TypeId}:iop X d (.binOp op t x y z) ρ st=(BJ X.P op t (ρ x) (ρ y)).map fun v=>(v,st):=nrfl rfl
theorem fW {op:UnOp} {t:TypeId} {x:Operand}:iop X d (.unOp op t x) ρ st=(unP op (ρ x)).map fun v=>(v,st):=nrfl rfl
theorem Sk {s t:TypeId} {x:Operand}:iop X d (.convert s t x) ρ st=(N0 X.P s t (ρ x)).map fun v=>(v,st):=nrfl rfl
def evs (ρ:Operand→PV):List Operand→List PV
 | [] => []
 | x::l=>ρ x::evs ρ l
theorem fX {x:Operand} {l:List Operand}:evs ρ (x::l)=ρ x::evs ρ l:=nrfl rfl
theorem tZ:evs ρ [] = []:=nrfl rfl
theorem IZ {l:List Operand}:l.map ρ=evs ρ l:=by
 induction l with
 | nil=>rfl
 | cons x l ih=>simp only[List.map_cons,evs,ih]
theorem P1 {fn:Fn} {a b:List Operand}:iop X d (.makeFunc fn a.toArray b.toArray) ρ st=some (.func fn (evs ρ a) (evs ρ b),st):=by rw[←IZ,←IZ];rfl
def Sl (X:Cfg) (d:Nat) (t:TypeId) (a b:PV) (st:Store):Option (PV×Store) :=
 match a,b with
 | .int .i64 n,.int .i64 m=>if 0≤n∧n≤m∧m≤4294967296∧0<Ad X.P t then (if X.num d=0 then (if X.frz d=true then some (.lits (Ad X.P t) (List.replicate n.toNat (AD X.P (BR X.P t))),st)else some (.ref st.next 0 0 n.toNat,st.new (.arr 0 (Ad X.P t) (List.replicate n.toNat (AD X.P (BR X.P t))))))else st.re (X.num d) (Ad X.P t) (List.replicate n.toNat (AD X.P (BR X.P t))) n.toNat)else none
 | _,_=>none
theorem NK {t:TypeId} {l c:Operand}:iop X d (.makeSlice t l c) ρ st=Sl X d t (ρ l) (ρ c) st:=by
 simp only[iop,Sl]
 cases ρ l <;> try rfl
theorem fY {t:TypeId} {n m:Int} (h:X.num d=0) (hf:X.frz d=false):Sl X d t (.int .i64 n) (.int .i64 m) st=if 0≤n∧n≤m∧m≤4294967296∧0<Ad X.P t then some (.ref st.next 0 0 n.toNat,st.new (.arr 0 (Ad X.P t) (List.replicate n.toNat (AD X.P (BR X.P t)))))else none:=by simp[Sl,h,hf]
theorem fZ {t:TypeId} {n m:Int} (h:X.num d=0) (hf:X.frz d=true):Sl X d t (.int .i64 n) (.int .i64 m) st=if 0≤n∧n≤m∧m≤4294967296∧0<Ad X.P t then some (.lits (Ad X.P t) (List.replicate n.toNat (AD X.P (BR X.P t))),st)else none:=by simp[Sl,h,hf]
theorem uA {t:TypeId} {n m:Int} {k:Nat} (h:X.num d=k+1):Sl X d t (.int .i64 n) (.int .i64 m) st=if 0≤n∧n≤m∧m≤4294967296∧0<Ad X.P t then st.re (k+1) (Ad X.P t) (List.replicate n.toNat (AD X.P (BR X.P t))) n.toNat else none:=by simp[Sl,h]
def gB (X:Cfg) (d:Nat) (t:TypeId) (p:PV) (l h:Option (Option Int)) (st:Store):Option (PV×Store) :=
 if X.muts d=true then (match l,h with | none,none=>Yh X.P st t p | _,_=>none)else
 match l,h with
 | some none,_ | _,some none=>none
 | l,h=>(Ck (X.see d st) (Ad X.P t) (AT X.P t) (BH X.P t) p (l.bind id) (h.bind id)).map fun v=>(v,st)
theorem Zk {t:TypeId} {x:Operand} {lo hi:Option Operand}:iop X d (.slice t x lo hi none) ρ st=gB X d t (ρ x) (lo.map fun o=>CY (ρ o)) (hi.map fun o=>CY (ρ o)) st:=by
 cases lo <;> cases hi <;> rfl
theorem Vr {k:IntKind} {n:Int}:CY (.int k n)=some n:=nrfl rfl
theorem uB {t:TypeId} {p:PV}:gB X d t p none none st=if X.muts d=true then Yh X.P st t p else (Ck (X.see d st) (Ad X.P t) (AT X.P t) (BH X.P t) p none none).map fun v=>(v,st):=nrfl rfl
theorem uC {t:TypeId} {p:PV} {n:Int}:gB X d t p (some (some n)) none st=if X.muts d=true then none else (Ck (X.see d st) (Ad X.P t) (AT X.P t) (BH X.P t) p (some n) none).map fun v=>(v,st):=nrfl rfl
theorem uD {t:TypeId} {p:PV} {m:Int}:gB X d t p none (some (some m)) st=if X.muts d=true then none else (Ck (X.see d st) (Ad X.P t) (AT X.P t) (BH X.P t) p none (some m)).map fun v=>(v,st):=nrfl rfl
theorem uE {t:TypeId} {p:PV} {n m:Int}:gB X d t p (some (some n)) (some (some m)) st=if X.muts d=true then none else (Ck (X.see d st) (Ad X.P t) (AT X.P t) (BH X.P t) p (some n) (some m)).map fun v=>(v,st):=nrfl rfl
theorem NL {t:TypeId} {x:Operand} {f:Nat}:iop X d (.fieldAddr t x f) ρ st=(Bc X.P t f).bind fun q=>if 0<q.2.1 then (CX (X.see d st) (ρ x) q.1).map fun v=>(v,st)else none:=nrfl rfl
theorem Acd {e:Nat}:X.see e st=if X.frz e=true then⟨fun _=>none,0⟩else if X.frz (600000+e)=true then st.past (X.num e)else if X.frz (700000+e)=true then st.hard else st:=nrfl rfl
theorem uF:st.hard=⟨fun i=>(st.obj i).bind fun o=>if GJ o=true then none else some o,st.next⟩:=nrfl rfl
theorem gC {g z:Nat} {es:List PV}:GJ (.arr g z es)=(decide (z≤2)&&es.all PV.isInt):=nrfl rfl
theorem Vs {k:IntKind} {n:Int}:PV.isInt1 (.int k n)=true:=nrfl rfl
theorem Vt {i g s n:Nat}:PV.isInt1 (.ref i g s n)=false:=nrfl rfl
theorem Zl {i g s n:Nat}:PV.isInt (.ref i g s n)=false:=nrfl rfl
theorem Zm {cs:List PV}:PV.isInt (.agg cs)=cs.all PV.isInt1:=nrfl rfl
theorem Zn {id gen s n z:Nat} {l:List PV}:LN st (.ref id gen s n) (.lits z l)=(l.all PV.isInt&&match st.arr? id gen with | some q=>decide (q.1≤2)&&q.2.all PV.isInt | none=>false):=nrfl rfl
theorem Zo {k:IntKind} {n:Int}:PV.isInt (.int k n)=true:=nrfl rfl
theorem gD {l:List Int} {k:IntKind}:(l.map (PV.int k)).all PV.isInt=true:=by simp[PV.isInt]
theorem Zp {x:Operand} {m:String} {as:List Operand} {ts:List TypeId}:iop X d (.call ⟨.invoke x m,as.toArray,ts.toArray⟩) ρ st=(cU X.P st (ρ x) m).bind fun q=>Dy X d (.func (.func q.1) [q.2] []) (Pm X d ts) (evs ρ as) st:=by rw[←IZ];rfl
theorem Vu {P:Program} {t:TypeId} {v:PV} {m:String}:cU P st (.iface t v) m=(Jr P t m).bind fun q=>if q.2.1=true then some (q.1,v)else (Bu P q.2.2).bind fun r=>(Dh st r.1 r.2 v).map fun r=>(q.1,r):=nrfl rfl
def KA (P:Program) (t:TypeId):Bool := !Jo P t&&(P.underlying t).isSome
theorem JI {t:TypeId} {x:Operand} (h:KA X.P t=true):iop X d (.makeInterface t x) ρ st=some (.iface t (ρ x),st):=by
 simp only[KA,Bool.and_eq_true,Bool.not_eq_true']at h
 simp only[iop,h,and_self,if_true]
def asT (t:TypeId) (p:PV) (st:Store):Option (PV×Store):=match p with | .iface t' v=>if t'=t then some (v,st)else none | _=>none
theorem Mk {x:Operand} {xt t:TypeId} (h:KA X.P t=true):iop X d (.typeAssert x xt t false) ρ st=asT t (ρ x) st:=by
 simp only[KA,Bool.and_eq_true,Bool.not_eq_true']at h
 simp only[iop,h,and_true,asT]
 cases ρ x <;> rfl
theorem gE {t:TypeId} {v:PV}:asT t (.iface t v) st=some (v,st):=by simp[asT]
theorem uG {k:Nat}:st.past k=⟨fun i=>if i<k then none else st.obj i,st.next⟩:=nrfl rfl
def Ag0 (X:Cfg) (t:TypeId) (p:PV) (f:Nat) (st:Store):Option (PV×Store):=match p with | .agg cs=>(Bc X.P t f).bind fun (o,_,u)=>(Bu X.P u).bind fun (z,ag)=>(CI cs o z ag).map fun v=>(v,st) | _=>none
theorem Zq {t:TypeId} {x:Operand} {f:Nat}:iop X d (.field t x f) ρ st=Ag0 X t (ρ x) f st:=nrfl rfl
theorem gF {t:TypeId} {cs:List PV} {f:Nat}:Ag0 X t (.agg cs) f st=(Bc X.P t f).bind fun q=>(Bu X.P q.2.2).bind fun r=>(CI cs q.1 r.1 r.2).map fun v=>(v,st):=nrfl rfl
def Ag1 (X:Cfg) (d:Nat) (t:TypeId) (p i:PV) (st:Store):Option (PV×Store):=match i with | .int _ n=>(Cv X.P (X.see d st) t p n).map fun v=>(v,st) | _=>none
theorem NM {t:TypeId} {x i:Operand}:iop X d (.indexAddr t x i) ρ st=Ag1 X d t (ρ x) (ρ i) st:=nrfl rfl
theorem gG {t:TypeId} {p:PV} {k:IntKind} {n:Int}:Ag1 X d t p (.int k n) st=(Cv X.P (X.see d st) t p n).map fun v=>(v,st):=nrfl rfl
def Ag2 (X:Cfg) (t:TypeId) (p i:PV) (st:Store):Option (PV×Store):=match i with | .int _ n=>(IJ X.P t p n).map fun v=>(v,st) | _=>none
theorem Zr {t:TypeId} {x i:Operand}:iop X d (.index t x i) ρ st=Ag2 X t (ρ x) (ρ i) st:=nrfl rfl
theorem gH {t:TypeId} {p:PV} {k:IntKind} {n:Int}:Ag2 X t p (.int k n) st=(IJ X.P t p n).map fun v=>(v,st):=nrfl rfl
def Ag3 (p:PV) (i:Nat) (st:Store):Option (PV×Store):=match p with | .tuple vs=>(vs[i]?).map fun v=>(v,st) | _=>none
theorem Sm {x:Operand} {i:Nat}:iop X d (.extract x i) ρ st=Ag3 (ρ x) i st:=nrfl rfl
theorem Vv {vs:List PV} {i:Nat}:Ag3 (.tuple vs) i st=(vs[i]?).map fun v=>(v,st):=nrfl rfl
theorem KB {f:Operand} {as:List Operand} {ts:List TypeId}:iop X d (.call ⟨.value f,as.toArray,ts.toArray⟩) ρ st=Dy X d (ρ f) (Pm X d ts) (evs ρ as) st:=by rw[←IZ];rfl
theorem Zs {b:Builtin} {as:List Operand} {ts:List TypeId}:iop X d (.call ⟨.builtin b,as.toArray,ts.toArray⟩) ρ st=Bd X d b ts (evs ρ as) st:=by rw[←IZ];rfl
def Ace (X:Cfg) (f:Nat) (l:List PV) (st:Store):Option (PV×Store):=(BZ (st.only (DL l)) l).bind fun as=>X.tab f as (st.without (DL l))
def Acf (X:Cfg) (f:Nat) (l:List PV) (st:Store):Option (PV×Store):=(BZ (st.only (DL l)) l).bind fun as=>X.tab f as (st.seal (DL l))
def Acg (X:Cfg) (f k:Nat) (l:List PV) (st:Store):Option (PV×Store):=if (DL l).all (fun i=>i==k)=true then (BZ (st.only [k]) l).bind fun as=>X.tab f as (st.again k)else none
theorem gI {f:Nat} {a b:List PV} {ts:List TypeId} {args:List PV}:Dy X d (.func (.func f) a b) ts args st=if X.frz d=true then (if X.num d=0 then Ace X f (a++nrmAll X.P ts args++b) st else if X.muts d=true then Acg X f (X.num d-1) (a++nrmAll X.P ts args++b) st else Acf X f (a++nrmAll X.P ts args++b) st)else if X.muts d=true∧(AN (a++nrmAll X.P ts args++b)=false∨(X.frz (1200000+d)=true∧X.quiet f=false))then none else X.tab f (a++nrmAll X.P ts args++b) st:=by
 simp only[Dy,Ace,Acf,Acg]
 by_cases h1:X.frz d=true <;> by_cases h2:X.num d=0 <;> by_cases h3:X.muts d=true <;> simp[h1,h2,h3]
theorem uH {ts:List TypeId}:Pm X d ts=if X.frz (400000+d)=true then []else ts:=nrfl rfl
theorem Sn {P:Program} {t:TypeId} {ts:List TypeId} {p:PV} {l:List PV}:nrmAll P (t::ts) (p::l)=nrm (Bt P t) p::nrmAll P ts l:=nrfl rfl
theorem Vw {P:Program} {l:List PV}:nrmAll P [] l=l:=by simp[nrmAll]
def Zt (st:Store) (q:Option (MK×PV)) (L:Option Int) (x:PV):Option Int:=match q with | some q=>G5 st (some q) x | none=>L
theorem Ach {t:TypeId} {x:PV}:Bd X d .len [t] [x] st=(Zt st (AY X.P t) (Jp (X.see d st) (Ad X.P t) (AT X.P t) x) x).map fun n=>(.int .i64 n,st):=by simp only[Bd,Zt];cases AY X.P t <;> rfl
theorem Zu {L:Option Int} {x:PV}:Zt st none L x=L:=nrfl rfl
theorem uI {t u:TypeId} {x y:PV}:Bd X d .copy [t,u] [x,y] st=(Rf st (Ad X.P t) x y).map fun q=>(.int .i64 q.1,q.2):=nrfl rfl
theorem Zv {t u:TypeId} {x y:PV} (h:X.num d=0):Bd X d .append [t,u] [x,y] st=if Ad X.P u≠0∨AT X.P u=true then (if X.frz (700000+d)=true∧LN st x y=false then none else (Cj st (Ad X.P t) y).bind fun ys=>Cs st (Ad X.P t) x ys)else none:=by
 simp only[Bd,h]
 by_cases h1:Ad X.P u≠0∨AT X.P u=true <;> by_cases h2:X.frz (700000+d)=true <;> cases h3:LN st x y <;> simp[h1,h2]
theorem P3 {t u:TypeId} {x y:PV} {k:Nat} (h:X.num d=k+1):Bd X d .append [t,u] [x,y] st=if Ek (k+1) x y=true then (if Ad X.P u≠0∨AT X.P u=true then (if X.frz (700000+d)=true then none else (Cj st (Ad X.P t) y).bind fun ys=>Cs st (Ad X.P t) x ys)else none)else none:=by
 simp only[Bd,h]
 by_cases h1:Ek (k+1) x y=true <;> by_cases h2:Ad X.P u≠0∨AT X.P u=true <;> by_cases h3:X.frz (700000+d)=true <;> simp[h1,h2,h3]
theorem Aci {ts:List TypeId} {x y:Int} {k:IntKind}:Bd X d .min ts [.int k x,.int k y] st=some (.int k (if y<x then y else x),st):=by
 cases ts with
 | nil=>simp[Bd,Fm]
 | cons t ts=>cases ts <;> simp[Bd,Fm]
theorem Acj {ts:List TypeId} {x y:Int} {k:IntKind}:Bd X d .max ts [.int k x,.int k y] st=some (.int k (if x<y then y else x),st):=by
 cases ts with
 | nil=>simp[Bd,Fm]
 | cons t ts=>cases ts <;> simp[Bd,Fm]
end
theorem uJ {m:List (Nat×Nat)} {cs:List PV}:nrm m (.agg cs)=.agg (Jq m 0 cs):=nrfl rfl
theorem Zw {m:List (Nat×Nat)} {i:Nat} {c:PV} {l:List PV}:Jq m i (c::l)=nrm1 (m.lookup i) c::Jq m (i+1) l:=nrfl rfl
theorem gJ {m:List (Nat×Nat)} {i:Nat}:Jq m i [] = []:=nrfl rfl
theorem gL {m:List (Nat×Nat)}:nrm m .nils=nrm1 (m.lookup 0) .nils:=nrfl rfl
theorem Zx {z:Nat}:nrm1 (some z) .nils=.lits z []:=nrfl rfl
theorem Zy:nrm1 none .nils=.nils:=nrfl rfl
theorem uK {p:PV}:nrm1 none p=p:=by cases p <;> rfl
theorem Ack {p:PV}:nrm [] p=p:=by
 cases p <;> try rfl
 rename_i cs
 simp only[nrm,PV.agg.injEq]
 have : ∀(l:List PV) (i:Nat),Jq [] i l=l:=by
  intro l;induction l with
  | nil=>intro i;rfl
  | cons c l ih=>intro i;simp only[Jq,ih,List.lookup_nil,uK]
 exact this cs 0
theorem uL {m:List (Nat×Nat)} {k:IntKind} {n:Int}:nrm m (.int k n)=.int k n:=nrfl rfl
theorem uM {m:List (Nat×Nat)} {s:List UInt8}:nrm m (.str s)=.str s:=nrfl rfl
theorem gM {m:List (Nat×Nat)} {b:Bool}:nrm m (.bool b)=.bool b:=nrfl rfl
theorem gQ {m:List (Nat×Nat)} {z:Nat} {l:List PV}:nrm m (.lits z l)=.lits z l:=nrfl rfl
theorem uO {m:List (Nat×Nat)} {i g s n:Nat}:nrm m (.ref i g s n)=.ref i g s n:=nrfl rfl
theorem gR {m:List (Nat×Nat)} {f:Fn} {a b:List PV}:nrm m (.func f a b)=.func f a b:=nrfl rfl
theorem gT {m:List (Nat×Nat)} {cs:List PV} {o:Nat}:nrm m (.vptr cs o)=.vptr cs o:=nrfl rfl
theorem uP {m:List (Nat×Nat)} {i g x o:Nat}:nrm m (.ptr i g x o)=.ptr i g x o:=nrfl rfl
theorem gU {m:Option Nat} {k:IntKind} {n:Int}:nrm1 m (.int k n)=.int k n:=nrfl rfl
theorem gV {m:Option Nat} {s:List UInt8}:nrm1 m (.str s)=.str s:=nrfl rfl
theorem Zz {m:Option Nat} {b:Bool}:nrm1 m (.bool b)=.bool b:=nrfl rfl
theorem ZA {m:Option Nat} {z:Nat} {l:List PV}:nrm1 m (.lits z l)=.lits z l:=nrfl rfl
theorem gW {m:Option Nat} {i g s n:Nat}:nrm1 m (.ref i g s n)=.ref i g s n:=nrfl rfl
section
variable {st:Store}
def Acl (o:Option IObj) (gen:Nat):Option (Nat×List PV):=match o with | some (.arr g z es)=>if gen=g then some (z,es)else none | _=>none
theorem Acm {id g:Nat}:st.arr? id g=Acl (st.obj id) g:=nrfl rfl
theorem ZB {g h z:Nat} {es:List PV}:Acl (some (.arr h z es)) g=if g=h then some (z,es)else none:=nrfl rfl
theorem uQ {cells:List PV} {off sz:Nat}:CI cells off sz false=cells[off]?:=nrfl rfl
theorem uR {cells:List PV} {off sz:Nat}:CI cells off sz true=if off+sz≤cells.length then some (.agg ((cells.drop off).take sz))else none:=nrfl rfl
theorem Vx {sz off:Nat} {ag:Bool} {cells:List PV}:Dh st sz ag (.vptr cells off)=CI cells off sz ag:=nrfl rfl
theorem ZC {sz off id gen idx:Nat} {ag:Bool}:Dh st sz ag (.ptr id gen idx off)=(st.arr? id gen).bind fun q=>CI (nth q.2 idx).cells off sz ag:=nrfl rfl
theorem P4 {cs vs:List PV} {o:Nat}:A6 (.agg cs) o vs=.agg (Dr cs o vs):=nrfl rfl
theorem P5 {k:IntKind} {n:Int} {v:PV} {o:Nat}:A6 (.int k n) o [v]=v:=nrfl rfl
theorem NN {b:Bool} {v:PV} {o:Nat}:A6 (.bool b) o [v]=v:=nrfl rfl
theorem NO {v:PV} {o:Nat}:A6 .nils o [v]=v:=nrfl rfl
theorem P6 {i g s n:Nat} {v:PV} {o:Nat}:A6 (.ref i g s n) o [v]=v:=nrfl rfl
theorem Vy {sz id gen idx off:Nat} {v:PV}:ES st sz (.ptr id gen idx off) v=(st.arr? id gen).bind fun q=>if v.cells.length=sz∧0<sz∧idx<q.2.length∧off+sz≤q.1 then some (st.set id (.arr gen q.1 (q.2.set idx (A6 (nth q.2 idx) off v.cells))))else none:=nrfl rfl
theorem So {cells:List PV} {off o:Nat}:CX st (.vptr cells off) o=some (.vptr cells (off+o)):=nrfl rfl
theorem Vz {id gen idx off o:Nat}:CX st (.ptr id gen idx off) o=(st.arr? id gen).map fun _=>.ptr id gen idx (off+o):=nrfl rfl
variable {P:Program} {t:TypeId} {i:Int}
theorem Sp {z:Nat} {l:List PV}:Cv P st t (.lits z l) i=if 0≤i∧i<l.length∧z=Ad P t∧0<z then some (.vptr (nth l i.toNat).cells 0)else none:=nrfl rfl
theorem VA {id gen s n:Nat}:Cv P st t (.ref id gen s n) i=(st.arr? id gen).bind fun q=>if 0≤i∧i<n∧s+n≤q.2.length∧q.1=Ad P t then some (.ptr id gen (s+i.toNat) 0)else none:=nrfl rfl
theorem Sq {cells:List PV} {off:Nat}:Cv P st t (.vptr cells off) i=(BH P t).bind fun q=>if 0≤i∧i<q.1∧0<q.2 then some (.vptr cells (off+i.toNat*q.2))else none:=nrfl rfl
theorem VB {id gen idx off:Nat}:Cv P st t (.ptr id gen idx off) i=(st.arr? id gen).bind fun _=>(BH P t).bind fun q=>if 0≤i∧i<q.1∧0<q.2 then some (.ptr id gen idx (off+i.toNat*q.2))else none:=nrfl rfl
theorem VD {s:List UInt8}:IJ P t (.str s) i=if 0≤i∧i<s.length∧AT P t=true then some (.int .u8 (s.getD i.toNat 0).toNat)else none:=nrfl rfl
theorem VE {cs:List PV}:IJ P t (.agg cs) i=(II P t).bind fun q=>(Bu P q.2).bind fun r=>if 0≤i∧i<q.1 then CI cs (i.toNat*r.1) r.1 r.2 else none:=nrfl rfl
variable {z:Nat} {sb:Bool}
theorem ZD:Jp st z sb .nils=if 0<z then some 0 else none:=nrfl rfl
theorem ZE {y:Nat} {l:List PV}:Jp st z sb (.lits y l)=if 0<z then some (l.length:Int)else none:=nrfl rfl
theorem gX {id g s n:Nat}:Jp st z sb (.ref id g s n)=(st.arr? id g).bind fun _=>if 0<z then some (n:Int)else none:=nrfl rfl
theorem gY {s:List UInt8}:Jp st z sb (.str s)=if sb=true then some (s.length:Int)else none:=nrfl rfl
theorem Sr:Cj st z .nils=some []:=nrfl rfl
theorem Ss {y:Nat} {l:List PV}:Cj st z (.lits y l)=if y=z then some l else none:=nrfl rfl
theorem VF {id gen s n:Nat}:Cj st z (.ref id gen s n)=(st.arr? id gen).bind fun q=>if s+n≤q.2.length∧q.1=z then some ((q.2.drop s).take n)else none:=nrfl rfl
theorem VG {s:List UInt8}:Cj st z (.str s)=if z=1 then some (s.map fun b=>.int .u8 b.toNat)else none:=nrfl rfl
theorem St {lo hi:Option Int} {ar:Option (Nat×Nat)}:Ck st z sb ar .nils lo hi=if lo.getD 0=0∧hi.getD 0=0∧0<z then some .nils else none:=nrfl rfl
theorem Su {y:Nat} {l:List PV} {lo hi:Option Int} {ar:Option (Nat×Nat)}:Ck st z sb ar (.lits y l) lo hi=if 0≤lo.getD 0∧lo.getD 0≤hi.getD l.length∧hi.getD l.length≤l.length∧y=z∧0<z then some (.lits z ((l.drop (lo.getD 0).toNat).take ((hi.getD l.length).toNat-(lo.getD 0).toNat)))else none:=nrfl rfl
theorem VH {id gen s n:Nat} {lo hi:Option Int} {ar:Option (Nat×Nat)}:Ck st z sb ar (.ref id gen s n) lo hi=(st.arr? id gen).bind fun q=>if 0≤lo.getD 0∧lo.getD 0≤hi.getD n∧hi.getD n≤(q.2.length:Int)-s∧s≤q.2.length∧q.1=z then some (.ref id gen (s+(lo.getD 0).toNat) ((hi.getD n).toNat-(lo.getD 0).toNat))else none:=nrfl rfl
theorem Sv {cs:List PV} {off:Nat} {lo hi:Option Int} {ar:Option (Nat×Nat)}:Ck st z sb ar (.vptr cs off) lo hi=ar.bind fun a=>if a.2=1∧lo=none∧hi=none∧off+a.1≤cs.length∧0<a.1∧a.1≤65536 then some (.lits 1 ((cs.drop off).take a.1))else none:=nrfl rfl
theorem gZ {P:Program} {t:TypeId} {id gen idx off:Nat}:Yh P st t (.ptr id gen idx off)=(st.arr? id gen).bind fun q=>(BH P t).bind fun a=>if a.2=1∧idx<q.2.length∧AN q.2=true∧off+a.1≤(nth q.2 idx).cells.length∧0<a.1∧a.1≤65536 then some (.lits 1 (((nth q.2 idx).cells.drop off).take a.1),st.without [id])else none:=nrfl rfl
theorem VI {s:List UInt8} {lo hi:Option Int} {ar:Option (Nat×Nat)}:Ck st z sb ar (.str s) lo hi=if 0≤lo.getD 0∧lo.getD 0≤hi.getD s.length∧hi.getD s.length≤s.length∧sb=true then some (.str ((s.drop (lo.getD 0).toNat).take ((hi.getD s.length).toNat-(lo.getD 0).toNat)))else none:=nrfl rfl
theorem P7 {ys:List PV}:Cs st z .nils ys=if 0<z∧ys.length≤2147483648 then (if ys.length=0 then some (.nils,st)else some (.ref st.next 0 0 ys.length,st.new (.arr 0 z ys)))else none:=nrfl rfl
theorem Sw {id gen s n:Nat} {ys:List PV}:Cs st z (.ref id gen s n) ys=(st.arr? id gen).bind fun q =>
   if s+n≤q.2.length∧q.1=z∧n+ys.length≤2147483648 then
    if s+n+ys.length≤q.2.length then
     some (.ref id gen s (n+ys.length),st.set id (.arr gen z (q.2.take (s+n)++ys++q.2.drop (s+n+ys.length))))
    else some (.ref id (gen+1) 0 (n+ys.length),st.set id (.arr (gen+1) z ((q.2.drop s).take n++ys)))
   else none:=rfl
end
section
variable {P:Program} {t:TypeId} {k k':IntKind} {a b:Int}
theorem Ag4:BJ P .add t (.int k a) (.int k b)=some (.int k (k.wrap (a+b))):=by simp[BJ,GR,GQ]
theorem Ag5:BJ P .sub t (.int k a) (.int k b)=some (.int k (k.wrap (a-b))):=by simp[BJ,GR,GQ]
theorem Ag6:BJ P .mul t (.int k a) (.int k b)=some (.int k (k.wrap (a*b))):=by simp[BJ,GR,GQ]
theorem Ag7:BJ P .quo t (.int k a) (.int k b)=if b=0 then none else some (.int k (k.wrap (a.tdiv b))):=by simp[BJ,GR,GQ]
theorem Ag8:BJ P .rem t (.int k a) (.int k b)=if b=0 then none else some (.int k (a.tmod b)):=by simp[BJ,GR,GQ]
theorem Ag9:BJ P .and t (.int k a) (.int k b)=(Cw .and k a b).map (.int k):=by simp[BJ,GR,GQ]
theorem Aiw:BJ P .or t (.int k a) (.int k b)=(Cw .or k a b).map (.int k):=by simp[BJ,GR,GQ]
theorem Aha:BJ P .xor t (.int k a) (.int k b)=(Cw .xor k a b).map (.int k):=by simp[BJ,GR,GQ]
theorem hZ:BJ P .andNot t (.int k a) (.int k b)=(Cw .andNot k a b).map (.int k):=by simp[BJ,GR,GQ]
theorem Ahb:BJ P .eql t (.int k a) (.int k b)=some (.bool (decide (a=b))):=by simp[BJ,GR,GQ]
theorem Ahc:BJ P .neq t (.int k a) (.int k b)=some (.bool (decide (¬a=b))):=by simp[BJ,GR,GQ]
theorem Ahd:BJ P .lss t (.int k a) (.int k b)=some (.bool (decide (a<b))):=by simp[BJ,GR,GQ]
theorem Ahe:BJ P .leq t (.int k a) (.int k b)=some (.bool (decide (a≤b))):=by simp[BJ,GR,GQ]
theorem Ahf:BJ P .gtr t (.int k a) (.int k b)=some (.bool (decide (b<a))):=by simp[BJ,GR,GQ]
theorem Ahg:BJ P .geq t (.int k a) (.int k b)=some (.bool (decide (b≤a))):=by simp[BJ,GR,GQ]
theorem Ahh:BJ P .shl t (.int k a) (.int k' b)=if b<0 then none else some (.int k (k.wrap (a*2 ^ (min b.toNat k.bits)))):=nrfl rfl
theorem Ahi:BJ P .shr t (.int k a) (.int k' b)=if b<0 then none else some (.int k (a.fdiv (2 ^ (min b.toNat k.bits)))):=nrfl rfl
variable {s u:List UInt8}
theorem Acn:BJ P .add t (.str s) (.str u)=if s.length+u.length≤2147483648 then some (.str (s++u))else none:=nrfl rfl
theorem Aco:BJ P .eql t (.str s) (.str u)=some (.bool (decide (s=u))):=nrfl rfl
theorem Acp:BJ P .neq t (.str s) (.str u)=some (.bool (decide (¬s=u))):=nrfl rfl
theorem Acq:BJ P .lss t (.str s) (.str u)=some (.bool (Op.bytesLess s u)):=nrfl rfl
theorem Acr:BJ P .leq t (.str s) (.str u)=some (.bool (Op.bytesLess s u||decide (s=u))):=nrfl rfl
theorem Acs:BJ P .gtr t (.str s) (.str u)=some (.bool !(Op.bytesLess s u||decide (s=u))):=nrfl rfl
theorem Acu:BJ P .geq t (.str s) (.str u)=some (.bool !(Op.bytesLess s u)):=nrfl rfl
variable {x y:Bool}
theorem Acv:BJ P .eql t (.bool x) (.bool y)=if GZ P t=true then some (.bool (x==y))else none:=nrfl rfl
theorem Acw:BJ P .neq t (.bool x) (.bool y)=if GZ P t=true then some (.bool (!(x==y)))else none:=nrfl rfl
theorem Ahj:unP .neg (.int k a)=some (.int k (k.wrap (0-a))):=nrfl rfl
theorem Ahk:unP .not (.bool x)=some (.bool (!x)):=nrfl rfl
theorem Acx {src dst:TypeId}:N0 P src dst (.int k a)=(ER P dst).bind fun k=>(ER P src).bind fun _=>some (.int k (k.wrap a)):=nrfl rfl
theorem Acy {src dst:TypeId}:N0 P src dst (.str s)=if AT P src=true∧AT P dst=true then some (.str s)else none:=nrfl rfl
end
theorem iA {place:Nat→Option (Nat×Nat)} {cells:List PV}:EU place cells []=some cells:=nrfl rfl
def iB (place:Nat→Option (Nat×Nat)) (cells vs:List PV) (rest:List (Nat×PV)) (o:Option (Nat×Nat)):Option (List PV) :=
 match o with | none=>none | some q=>if vs.length=q.2∧q.1+q.2≤cells.length∧0<q.2 then EU place (Dr cells q.1 vs) rest else none
theorem ZF {place:Nat→Option (Nat×Nat)} {cells:List PV} {i:Nat} {v:PV} {rest:List (Nat×PV)}:EU place cells ((i,v)::rest)=iB place cells v.cells rest (place i):=by
 simp only[EU,iB];cases place i <;> rfl
theorem VJ {place:Nat→Option (Nat×Nat)} {cells vs:List PV} {rest:List (Nat×PV)} {q:Nat×Nat}:iB place cells vs rest (some q)=if vs.length=q.2∧q.1+q.2≤cells.length∧0<q.2 then EU place (Dr cells q.1 vs) rest else none:=nrfl rfl
def uS (P:Program) (t:TypeId) (cells:List PV) (parts:List (Nat×PV)) (o:Option (Nat×Nat)):Option PV :=
 match o with
 | some q=>(EU (fun i=>some (i*q.2,q.2)) cells parts).map .agg
 | none=>(EU (fun i=>(Bc P t i).map fun q=>(q.1,q.2.1)) cells parts).map .agg
theorem ZG {P:Program} {t:TypeId} {parts:List (Nat×PV)}:Ko P t parts=if Cf P t=true then uS P t (AD P t).cells parts (BH P t)else none:=by
 simp only[Ko,uS];cases BH P t <;> rfl
theorem ZH {P:Program} {t:TypeId} {cells:List PV} {parts:List (Nat×PV)}:uS P t cells parts none=(EU (fun i=>(Bc P t i).map fun q=>(q.1,q.2.1)) cells parts).map .agg:=nrfl rfl
theorem ZI {P:Program} {t:TypeId} {cells:List PV} {parts:List (Nat×PV)} {q:Nat×Nat}:uS P t cells parts (some q)=(EU (fun i=>some (i*q.2,q.2)) cells parts).map .agg:=nrfl rfl
theorem uT {z:Nat} {l:List PV}:Cl z l []=some l:=nrfl rfl
theorem iC {z i:Nat} {l:List PV} {v:PV} {rest:List (Nat×PV)}:Cl z l ((i,v)::rest)=if i<l.length∧v.cells.length=z then Cl z (l.set i v) rest else none:=nrfl rfl
theorem ZJ {cells vs:List PV} {off:Nat}:Dr cells off vs=cells.take off++vs++cells.drop (off+vs.length):=nrfl rfl
theorem uU {args:List PV} {t:Nat}:FC args t=args.getD t .bad:=nrfl rfl
def iD:Option (List PV)→Option PV
 | some [p]=>some p
 | some ps=>some (.tuple ps)
 | none=>none
theorem uV {P:Program} {rs:List ResultVar} {s:IState}:PO P rs s=iD (Do P s rs):=by
 unfold PO;cases Do P s rs with
 | none=>rfl
 | some l=>cases l with
  | nil=>rfl
  | cons a l=>cases l <;> rfl
theorem uW {p:PV}:iD (some [p])=some p:=nrfl rfl
theorem uX {p q:PV} {l:List PV}:iD (some (p::q::l))=some (.tuple (p::q::l)):=nrfl rfl
theorem Sx {P:Program} {s:IState}:Do P s []=some []:=nrfl rfl
theorem P8 {P:Program} {s:IState} {r:ResultVar} {l:List ResultVar}:Do P s (r::l)=(Gn P s r).bind fun p=>(Do P s l).map fun ps=>p::ps:=nrfl rfl
theorem Sy {P:Program} {s:IState} {t:Nat}:Gn P s (.tmp t)=some (s.env t):=nrfl rfl
theorem P9 {P:Program} {s:IState} {a:Nat} {t:TypeId}:Gn P s (.cell a t)=(Bu P t).bind fun q=>Dh s.st q.1 q.2 (s.env a):=nrfl rfl
theorem Ar {α β:Type} {x y:Option α} {f:α→Option β} (h:x=y):x.bind f=y.bind f:=by rw[h]
theorem Av {α β:Type} {x y:Option α} {f:α→β} (h:x=y):x.map f=y.map f:=by rw[h]
theorem uY {X:Cfg} {f k:Nat} {l:List PV} {st:Store}:Acg X f k l st=if (DL l).all (fun i=>i==k)=true then (BZ (st.only [k]) l).bind fun as=>X.tab f as (st.again k)else none:=nrfl rfl
theorem iE {ob:Nat→Option IObj} {n k:Nat}:Store.again ⟨ob,n⟩ k=⟨Aa ob k ((ob k).bind Cm),n⟩:=nrfl rfl
theorem uZ {X:Cfg} {f:Nat} {l:List PV} {st:Store}:Acf X f l st=(BZ (st.only (DL l)) l).bind fun as=>X.tab f as (st.seal (DL l)):=nrfl rfl
theorem iF {st:Store} {ids:List Nat} {i:Nat}:(st.seal ids).obj i=if ids.contains i=true then (st.obj i).bind Cm else (st.obj i).map (Rh (st.only ids)):=nrfl rfl
theorem ZK {st:Store} {ids:List Nat}:(st.seal ids).next=st.next:=nrfl rfl
theorem VK {g z:Nat} {es:List PV}:Cm (.arr g z es)=some (.arr (g+1) z []):=nrfl rfl
theorem ZL {st:Store} {g z:Nat} {es:List PV}:Rh st (.arr g z es)=.arr g z (es.map (FK st)):=nrfl rfl
theorem ZM {st:Store} {cs:List PV}:FK st (.agg cs)=.agg (cs.map (sealC st)):=nrfl rfl
theorem ZN {st:Store} {k:IntKind} {n:Int}:FK st (.int k n)=.int k n:=nrfl rfl
theorem ZO {st:Store} {k:IntKind} {n:Int}:sealC st (.int k n)=.int k n:=nrfl rfl
theorem VL {st:Store} {b:Bool}:sealC st (.bool b)=.bool b:=nrfl rfl
theorem VM {st:Store} {z:Nat} {l:List PV}:sealC st (.lits z l)=.lits z l:=nrfl rfl
theorem VN {st:Store}:sealC st .nils=.nils:=nrfl rfl
theorem ZP {st:Store} {id g s n:Nat}:sealC st (.ref id g s n)=((st.arr? id g).bind fun q=>if s+n≤q.2.length∧AN q.2=true then some (.lits q.1 ((q.2.drop s).take n))else none).getD (.ref id g s n):=nrfl rfl
theorem vA {X:Cfg} {f:Nat} {l:List PV} {st:Store}:Ace X f l st=(BZ (st.only (DL l)) l).bind fun as=>X.tab f as (st.without (DL l)):=nrfl rfl
theorem VO {st:Store} {c:PV} {l:List PV}:BZ st (c::l)=(rdP st c).bind fun d=>(BZ st l).map fun ds=>d::ds:=by simp only[BZ]
theorem ZQ {st:Store}:BZ st []=some []:=by simp only[BZ]
theorem iG {st:Store} {c:PV} {l:List PV}:rdL st (c::l)=(rdC st c).bind fun d=>(rdL st l).map fun ds=>d::ds:=by simp only[rdL]
theorem vB {st:Store}:rdL st []=some []:=by simp only[rdL]
theorem vC {spec:List PV→Option PV} {args:List PV} {st:Store}:YM spec args st=if AN args=true then (spec args).map fun r=>(r,st)else (BZ st args).bind fun as=>(spec as).bind fun r=>if r.scal=true then some (r,st)else none:=nrfl rfl
theorem Dt {c:PV} {l:List PV}:AN (c::l)=(c.pur&&AN l):=by simp only[AN]
theorem FQ:AN []=true:=by simp only[AN]
end Sim
namespace Sim
open Go
def Bj:Code→Code
 | .region id ops _=>.region id ops false
 | .seq a b=>.seq (Bj a) (Bj b)
 | .cond c a b=>.cond c (Bj a) (Bj b)
 | .block id c=>.block id (Bj c)
 | .loop c=>.loop (Bj c)
 | .scope c=>.scope (Bj c)
 | c=>c
def Bn (X:Cfg):Code→Bool
 | .region _ ops dr => !dr||IU X ops
 | .seq a b=>Bn X a&&Bn X b
 | .cond _ a b=>Bn X a&&Bn X b
 | .block _ c=>Bn X c
 | .loop c=>Bn X c
 | .scope c=>Bn X c
 | _=>true
theorem E9 {G:WP} (hG:G.Mono) {X:Cfg} (hm:A8 X) {N:Nat} {c:Code}:∀ {Q:IExit→IState→Prop} {s:IState},Bn X c=true→wpC G X N (Bj c) Q s→wpC G X N c Q s:=by
 induction c with
 | skip=>intro Q s hd hs;exact hs
 | region id ops dr =>
  intro Q s hd hs
  rcases hs with hs | hs
  ·refine .inl ⟨fun h=>?_,hs.2⟩
   subst h
   simpa [Bn]using hd
  ·cases hs.1
 | seq a b iha ihb =>
  intro Q s hd hs
  simp only[Bn,Bool.and_eq_true]at hd
  refine iha hd.1 (CO hG X N _ _ _ _ hm (fun e s' he=>?_) hs)
  cases e with
  | normal=>exact ihb hd.2 he
  | exit i=>exact he
  | ret=>exact he
 | cond c a b iha ihb =>
  intro Q s hd hs
  simp only[Bn,Bool.and_eq_true]at hd
  simp only[Bj,wpC]at hs ⊢
  split at hs
  ·exact ⟨fun hv=>iha hd.1 (hs.1 hv),fun hv=>ihb hd.2 (hs.2 hv)⟩
  ·exact hs.elim
 | block id c ih=>intro Q s hd hs;exact ih hd hs
 | loop c ih =>
  intro Q s hd hs
  obtain ⟨J,n,h0,hr⟩:=hs
  exact ⟨J,n,h0,fun m s' hs'=>ih hd (hr m s' hs')⟩
 | exit id=>intro Q s hd hs;exact hs
 | ret=>intro Q s hd hs;exact hs
 | rangeFunc=>intro Q s hd hs;exact hs
 | scope c ih=>intro Q s hd hs;exact ih hd hs
 | label=>intro Q s hd hs;exact hs
 | goto=>intro Q s hd hs;exact hs
 | refuse=>intro Q s hd hs;exact hs
theorem C6 {X:Cfg} (hm:A8 X) {N:Nat} {c:Code} {Q:IExit→IState→Prop} {s:IState} (hd:Bn X c=true) (h:wpI X N (Bj c) Q s):wpI X N c Q s:=E9 (DO X.dep) hm hd h
section
variable {X:Cfg} {N:Nat} {Q:IExit→IState→Prop} {ks:List Kf} {s:IState}
theorem vD:run X N Q (Bj .skip) ks s=Gk X N Q ks s:=nrfl rfl
theorem Acz {a b:Code}:run X N Q (Bj (.seq a b)) ks s=run X N Q (Bj a) (.seq (Bj b)::ks) s:=PD
theorem iH {id:Nat} {c:Code}:run X N Q (Bj (.block id c)) ks s=run X N Q (Bj c) (.blk id::ks) s:=Ku
theorem vE {id:Nat}:run X N Q (Bj (.exit id)) ks s=GN X N Q ks id s:=nrfl rfl
theorem Ac0:run X N Q (Bj .ret) ks s=done X N Q ks s:=nrfl rfl
theorem ZR {id:Nat} {l:List Oper} {dr:Bool}:run X N Q (Bj (.region id l.toArray dr)) ks s=ops X N Q l.toArray l ks s:=IV
theorem vF {c:Operand} {a b:Code}:run X N Q (Bj (.cond c a b)) ks s=GO (Ay s.env c) (run X N Q (Bj a) ks s) (run X N Q (Bj b) ks s):=L7
theorem iI {g:Operand} {ps:Array Tmp} {a b:Code}:run X N Q (Bj (.rangeFunc g ps a b)) ks s=run X N Q (.rangeFunc g ps a b) ks s:=nrfl rfl
end
theorem A5 {P:Program} (hmix:P.follows .mixedOrders=true) {l:AU} (hl:Bm P l) (muts:List Nat) (frz:List Nat) {f:FuncId} {fn:Func} {c:Code} (hf:P.funcs[f]?=some fn) (hb:fn.body=some c)
  (hname : (fn.name == "runtime.NumGoroutine") = false) {args : List PV} {N : Nat} (hN : fn.ntmps = N) (hn : args.length ≤ N) {rs : List ResultVar} (hrs : fn.results.toList = rs) (hd : Bn (cfg P l muts frz) c = true) {r : PV}
  (h : AI args→run (cfg P l muts frz) N (Ai P rs (fun p st=>DRx st p r)) (Bj c) [] ⟨FC args,st0⟩):VC P f args r :=
 Aa4 hmix hl muts frz hf hb hname hN hn hrs 0 fun hs=>C6 (AV rfl) hd (by
  have e:stR 0=st0:=by simp[stR,st0]
  rw [e];exact h hs)
theorem VP {P:Program} (hmix:P.follows .mixedOrders=true) {l:AU} (hl:Bm P l) (muts:List Nat) (frz:List Nat) (n dep:Nat) {f:FuncId} {fn:Func} {c:Code} (hf:P.funcs[f]?=some fn) (hb:fn.body=some c)
  (hname : (fn.name == "runtime.NumGoroutine") = false) {args : List PV} {N : Nat} (hN : fn.ntmps = N) (hn : args.length ≤ N) {rs : List ResultVar} (hrs : fn.results.toList = rs) (hd : Bn (cfg P l muts frz dep) c = true) {r : PV}
  (h : AI args→run (cfg P l muts frz dep) N (Ai P rs (fun p st=>DRx st p r)) (Bj c) [] ⟨FC args,⟨fun i=>if i<n then some (.arr 0 1 [])else none,n⟩⟩):VC P f args r :=
 Aa4 hmix hl muts frz hf hb hname hN hn hrs n (dep:=dep) fun hs=>C6 (AV rfl) hd (h hs)
theorem Ch {P:Program} (hmix:P.follows .mixedOrders=true) {l:AU} (hl:Bm P l) (muts:List Nat) (frz:List Nat) (dep:Nat) {f:FuncId} {fn:Func} {c:Code} (hf:P.funcs[f]?=some fn) (hb:fn.body=some c)
  (hname : (fn.name == "runtime.NumGoroutine") = false) {args : List PV} {N : Nat} (hN : fn.ntmps = N) (hn : args.length ≤ N) {rs : List ResultVar} (hrs : fn.results.toList = rs) (hd : Bn (cfg P l muts frz dep) c = true) {st : Store} {Q : PV → Store → Prop}
  (h : run (cfg P l muts frz dep) N (Ai P rs Q) (Bj c) [] ⟨FC args,st⟩):IXC P f args st Q :=
 WN hmix hl muts frz hf hb hname hN hn hrs (dep:=dep) (C6 (AV rfl) hd h)
theorem vG {P:Program} (hmix:P.follows .mixedOrders=true) {l:AU} (hl:Bm P l) (muts:List Nat) (frz:List Nat) (n dep:Nat) {f:FuncId} {fn:Func} {c:Code} (hf:P.funcs[f]?=some fn) (hb:fn.body=some c)
  (hname : (fn.name == "runtime.NumGoroutine") = false) {args : List PV} {N : Nat} (hN : fn.ntmps = N) (hn : args.length ≤ N) {rs : List ResultVar} (hrs : fn.results.toList = rs) (hd : Bn (cfg P l muts frz dep) c = true) {z : Nat} {es : List PV}
  (hs : ∀e∈es,e.scal=true)
  (h : run (cfg P l muts frz dep) N (Ai P rs (fun p st=>(∃id g,p=.ref id g 0 es.length∧st.obj id=some (.arr g z es))∨(es = []∧0<z∧p=.nils))) (Bj c) [] ⟨FC args,⟨fun i=>if i<n then some (.arr 0 1 [])else none,n⟩⟩):VCA P f args z es :=
 sS hmix hl muts frz hf hb hname hN hn hrs n (dep:=dep) hs (C6 (AV rfl) hd h)
theorem ZS {X:Cfg} {N:Nat} {Q:IExit→IState→Prop} {ks:List Kf} {s:IState} {all:Array Oper} {l:List Oper} {d:Option Nat} {c:Prop} [Decidable c] {x y:PV×Store}:Bl X N Q all l ks d s (if c then some x else some y)=((c→Bl X N Q all l ks d s (some x))∧(¬c→Bl X N Q all l ks d s (some y))):=by
 by_cases h:c <;> simp[h]
theorem vH {k:IntKind} {l:List Int} {i:Nat} {n:Int}:(l.map (PV.int k)).set i (PV.int k n)=(l.set i n).map (PV.int k):=by simp
theorem DQ {α:Type} {f:α→PV} {l:List α} {i:Nat} (d:α) (h:i<l.length):nth (l.map f) i=f (l.getD i d):=by simp[nth,h]
theorem H2 {α:Type} {f:α→PV} {l:List α} (h:∀x,(f x).pur=true):AN (l.map f)=true:=Kr h
theorem H3 {α:Type} {f:α→PV} {l m:List α} (h:∀x y,f x=f y→x=y):(l.map f=m.map f)=(l=m):=propext ⟨FP h,fun h=>by rw[h]⟩
theorem ZT {p:Prop} [Decidable p] {A B:Prop}:BM (.bool (decide p)) true A B=((p→A)∧(¬p→B)):=by simp[BM]
theorem ZU {p:Prop} [Decidable p] {A B:Prop}:BM (.bool (decide p)) false A B=((¬p→A)∧(p→B)):=by simp[BM]
theorem vI {p:Prop} [Decidable p] {A B:Prop}:GO (.bool (decide p)) A B=((p→A)∧(¬p→B)):=by simp[GO]
theorem vJ {P:Program} {t:TypeId} {x y:Bool}:BJ P .eql t (.bool x) (.bool y)=if GZ P t=true then some (.bool (decide (x=y)))else none:=by rw[Acv];cases x <;> cases y <;> rfl
theorem vK {P:Program} {t:TypeId} {x y:Bool}:BJ P .neq t (.bool x) (.bool y)=if GZ P t=true then some (.bool (decide (¬x=y)))else none:=by rw[Acw];cases x <;> cases y <;> rfl
theorem AC {o o':Option Nat} {ρ:Nat→PV} (h:o=o'):grd o ρ=grd o' ρ:=by rw[h]
theorem As {c c' a b:PV} {st:Store} (h:c=c'):Om c a b st=Om c' a b st:=by rw[h]
theorem iJ {st:Store} {ids:List Nat} {i:Nat}:(st.only ids).obj i=if ids.contains i=true then st.obj i else none:=nrfl rfl
theorem ZV {st:Store} {ids:List Nat}:(st.only ids).next=st.next:=nrfl rfl
theorem Sz {st:Store} {ids:List Nat} {i:Nat}:(st.without ids).obj i=if ids.contains i=true then none else st.obj i:=nrfl rfl
theorem Qa {st:Store} {ids:List Nat}:(st.without ids).next=st.next:=nrfl rfl
theorem VQ {p:PV} {l:List PV}:DL (p::l)=idC p++DL l:=nrfl rfl
theorem ZW:DL [] = []:=nrfl rfl
theorem vL {i g s n:Nat}:idC (.ref i g s n) = [i]:=nrfl rfl
theorem vM {k:IntKind} {n:Int}:idC (.int k n) = []:=nrfl rfl
theorem iK {b:Bool}:idC (.bool b) = []:=nrfl rfl
theorem vO {b:List UInt8}:idC (.str b) = []:=nrfl rfl
theorem iL:idC .nils = []:=nrfl rfl
theorem iM {z:Nat} {l:List PV}:idC (.lits z l) = []:=nrfl rfl
def idE:PV→List Nat | .ref id _ _ _ => [id] | _ => []
def idL:List PV→List Nat | [] => [] | c::l=>idE c++idL l
theorem vP {cs:List PV}:idC (.agg cs)=idL cs:=by
 induction cs with
 | nil=>rfl
 | cons c l ih=>simp only[idC,List.flatMap_cons]at ih ⊢;rw[ih];cases c <;> rfl
theorem iN {c:PV} {l:List PV}:idL (c::l)=idE c++idL l:=nrfl rfl
theorem vQ:idL [] = []:=nrfl rfl
theorem vR {i g s n:Nat}:idE (.ref i g s n) = [i]:=nrfl rfl
theorem vS {k:IntKind} {n:Int}:idE (.int k n) = []:=nrfl rfl
theorem iO {b:Bool}:idE (.bool b) = []:=nrfl rfl
theorem vT {b:List UInt8}:idE (.str b) = []:=nrfl rfl
theorem iP:idE .nils = []:=nrfl rfl
theorem iQ {z:Nat} {l:List PV}:idE (.lits z l) = []:=nrfl rfl
theorem AF {W W2:List Nat} {ρ0 ρ1 ρ:Nat→PV} (h:(W2.all fun t=>W.contains t)=true):Em W ρ0 (Hp W2 ρ1 ρ)=Em W ρ0 ρ1:=by
 refine propext ⟨fun g u hu=>?_,fun g u hu=>?_⟩
 all_goals
  have hn:W2.contains u=false:=by
   cases hc:W2.contains u with
   | false=>rfl
   | true =>
    have := List.all_eq_true.1 h u (List.contains_iff_mem.1 hc)
    rw [this]at hu;cases hu
  have e:Hp W2 ρ1 ρ u=ρ1 u:=H1 hn
 ·rw [←e];exact g u hu
 ·rw [e];exact g u hu
theorem iR:IntKind.i64.bits=64:=nrfl rfl
theorem iT:IntKind.u64.bits=64:=nrfl rfl
theorem iU:IntKind.u32.bits=32:=nrfl rfl
theorem vU:IntKind.u8.bits=8:=nrfl rfl
def orI (a b:Int):Int:=IntKind.i64.wrap (BitVec.ofInt 64 a ||| BitVec.ofInt 64 b).toNat
theorem Ac1 {a b:Int}:Cw .or .i64 a b=some (orI a b):=nrfl rfl
end Sim
