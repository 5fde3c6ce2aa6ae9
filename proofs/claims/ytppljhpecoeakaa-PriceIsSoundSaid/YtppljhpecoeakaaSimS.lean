/- Operations, shape by shape. -/
import Derived.Test.YtppljhpecoeakaaSimP
set_option linter.unusedVariables false
set_option linter.unusedSimpArgs false
namespace Sim
open Go
theorem Acy {ρ:Nat→PV} {n:Nat}:AD ρ (.tmp n)=ρ n:=nrfl rfl
theorem Acz {ρ:Nat→PV} {k:IntKind} {n:Int}:AD ρ (.const (.int k n))=.int k n:=nrfl rfl
theorem uU {ρ:Nat→PV} {b:Bool}:AD ρ (.const (.bool b))=.bool b:=nrfl rfl
theorem Ac0 {ρ:Nat→PV} {s:ByteArray}:AD ρ (.const (.string s))=if s.data.toList.length≤9223372036854775807 then .str s.data.toList else .bad:=nrfl rfl
theorem uV {ρ:Nat→PV}:AD ρ (.const (.slice none 0 0))=.nils:=nrfl rfl
theorem uW {ρ:Nat→PV}:AD ρ (.const (.pointer none))=.nilp:=nrfl rfl
theorem uX {ρ:Nat→PV}:AD ρ (.const .nilFunc)=.nilf:=nrfl rfl
theorem uY {ρ:Nat→PV}:AD ρ (.const .nilIface)=.nili:=nrfl rfl
theorem Ac1 {ρ:Nat→PV} {cs:Array Value}:AD ρ (.const (.agg cs))=if (cs.toList.map C7).all PV.isCell then .agg (cs.toList.map C7)else .bad:=nrfl rfl
theorem uZ {ρ:Nat→PV} {f:FuncId}:AD ρ (.func f)=.func (.func f) [] []:=nrfl rfl
theorem Ac2 {k:IntKind} {n:Int}:C7 (.int k n)=.int k n:=nrfl rfl
theorem vA {b:Bool}:C7 (.bool b)=.bool b:=nrfl rfl
theorem vB:C7 (.slice none 0 0)=.nils:=nrfl rfl
theorem Ac3 {s:ByteArray}:C7 (.string s)=if s.data.toList.length≤9223372036854775807 then .str s.data.toList else .bad:=nrfl rfl
def grd (o:Option Nat) (ρ:Nat→PV):PV:=match o with | some d=>ρ d | none=>.bad
theorem ZF {ops:Array Oper} {ρ:Nat→PV} {j:Nat}:DB ops ρ j=grd ((ops[j]?).bind (·.dst)) ρ:=nrfl rfl
theorem iA {d:Nat} {ρ:Nat→PV}:grd (some d) ρ=ρ d:=nrfl rfl
section
variable {X:Cfg} {d:Nat} {ρ:Operand→PV} {st:Store}
theorem iB {x:Operand}:iop X d (.move x) ρ st=some (ρ x,st):=nrfl rfl
theorem VN {x:Operand}:iop X d (.assign x) ρ st=some (ρ x,st):=nrfl rfl
def OD (c a b:PV) (st:Store):Option (PV×Store):=match c with | .bool v=>some (if v then a else b,st) | _=>none
theorem VO {v:Bool} {a b:PV}:OD (.bool v) a b st=some (if v=true then a else b,st):=nrfl rfl
theorem VP {a b:PV}:OD (.bool true) a b st=some (a,st):=nrfl rfl
theorem SN {a b:PV}:OD (.bool false) a b st=some (b,st):=nrfl rfl
theorem iC {c a b:Operand}:iop X d (.pick c a b) ρ st=OD (ρ c) (ρ a) (ρ b) st:=nrfl rfl
theorem ZG {t:TypeId} (h:X.num d=0):iop X d (.alloc t) ρ st=if 0<X.P.cellsOf t∧(AH X.P t).cells.length=X.P.cellsOf t then some (.ptr st.next 0 0 0,st.new (.arr 0 (X.P.cellsOf t) [AH X.P t]))else none:=by simp[iop,h]
def Ahw (X:Cfg) (d:Nat) (cells:List PV) (p:PV) (st:Store):Option (PV×Store) :=
 if 0<cells.length then (if X.muts d then some (.ptr st.next 0 0 0,st.new (.arr 0 cells.length [p]))else some (.vptr cells 0,st))else none
theorem vC {t:TypeId} {x:Operand}:iop X d (.box t x) ρ st=Ahw X d (ρ x).cells (ρ x) st:=nrfl rfl
theorem vD {cells:List PV} {p:PV}:Ahw X d cells p st=if 0<cells.length then (if X.muts d=true then some (.ptr st.next 0 0 0,st.new (.arr 0 cells.length [p]))else some (.vptr cells 0,st))else none:=nrfl rfl
def evp (ρ:Operand→PV):List (Nat×Operand)→List (Nat×PV)
 | [] => []
 | x::l=>(x.1,ρ x.2)::evp ρ l
theorem iD {i:Nat} {x:Operand} {l:List (Nat×Operand)}:evp ρ ((i,x)::l)=(i,ρ x)::evp ρ l:=nrfl rfl
theorem vE:evp ρ [] = []:=nrfl rfl
theorem iE {l:List (Nat×Operand)}:(l.map fun (i,x)=>(i,ρ x))=evp ρ l:=by
 induction l with
 | nil=>rfl
 | cons x l ih=>simp only[List.map_cons,evp,ih]
theorem ZH {t:TypeId} {parts:List (Nat×Operand)}:iop X d (.build t parts.toArray) ρ st=(Kt X.P t (evp ρ parts)).map fun v=>(v,st):=by rw[←iE];rfl
def Ac4 (X:Cfg) (d:Nat) (t:TypeId) (len:Nat) (o:Option (List PV)) (st:Store):Option (PV×Store) :=
 if 0<Ae X.P t∧len*Ae X.P t≤16777216 then o.bind fun l=>if X.muts d then (if X.num d=0 then some (.ref st.next 0 0 len,st.new (.arr 0 (Ae X.P t) l))else st.re (X.num d) (Ae X.P t) l len)else some (.lits (Ae X.P t) l,st)else none
theorem Mp {t:TypeId} {len:Nat} {parts:List (Nat×Operand)}:iop X d (.buildSlice t len parts.toArray) ρ st=Ac4 X d t len (Cn (Ae X.P t) (List.replicate len (AH X.P (B0 X.P t))) (evp ρ parts)) st:=by rw[←iE];rfl
theorem vF {t:TypeId} {len:Nat} {l:List PV}:Ac4 X d t len (some l) st=if 0<Ae X.P t∧len*Ae X.P t≤16777216 then (if X.muts d=true then (if X.num d=0 then some (.ref st.next 0 0 len,st.new (.arr 0 (Ae X.P t) l))else st.re (X.num d) (Ae X.P t) l len)else some (.lits (Ae X.P t) l,st))else none:=by
 simp only[Ac4,Option.bind_some]
theorem Ac5 {ob:Nat→Option IObj} {nx k z n g z0:Nat} {l es:List PV} (h:ob k=some (.arr g z0 es)):Store.re ⟨ob,nx⟩ (k+1) z l n=some (.ref k (g+1) 0 n,Store.set ⟨ob,nx⟩ k (.arr (g+1) z l)):=by simp[Store.re,h]
theorem NW {k id g s n z:Nat} {l:List PV}:Ep k (.ref id g s n) (.lits z l)=(id==k-1):=nrfl rfl
theorem NX {k id g s n:Nat}:Ep k (.ref id g s n) .nils=(id==k-1):=nrfl rfl
theorem iF {t:TypeId} {x:Operand}:iop X d (.load t x) ρ st=(BC X.P t).bind fun q=>(Dq (X.see d st) q.1 q.2 (ρ x)).map fun v=>(v,st):=nrfl rfl
theorem ZI {t:TypeId} {a x:Operand}:iop X d (.store t a x) ρ st=if (X.frz (800000+Dr a)=true∧Og st (ρ a) (ρ x)=false)∨(X.frz (900000+Dr a)=true∧Oh (X.num (Dr a)) (ρ a)=false)then none else (E8 st (X.P.cellsOf t) (ρ a) (ρ x)).map fun st'=>(.bad,st'):=nrfl rfl
theorem ZJ {n:Nat}:Dr (.tmp n)=n:=nrfl rfl
theorem ZK {k id gen i o:Nat}:Oh k (.ptr id gen i o)=(id==k-1):=nrfl rfl
theorem ZL {id gen i o:Nat} {v:PV}:Og st (.ptr id gen i o) v=(v.isInt1&&match st.arr? id gen with | some q=>decide (q.1≤2)&&q.2.all PV.isInt | none=>false):=nrfl rfl
def Xh (p:PV) (st:Store):Option (PV×Store):=match p with | .vptr c o=>some (.vptr c o,st) | .ptr i g x o=>(st.arr? i g).map fun _=>(.ptr i g x o,st) | _=>none
theorem Qn {x:Operand}:iop X d (.nilCheck x) ρ st=(Xh (ρ x) (X.see d st)).map fun q=>(q.1,st):=by
 simp only[iop];cases ρ x <;> simp[Xh];rfl
theorem VQ {c:List PV} {o:Nat}:Xh (.vptr c o) st=some (.vptr c o,st):=nrfl rfl
theorem ZM {i g x o:Nat}:Xh (.ptr i g x o) st=(st.arr? i g).map fun _=>(.ptr i g x o,st):=nrfl rfl
theorem ZN {op:BinOp} {t:TypeId} {x y:Operand} {z:TypeId}:iop X d (.binOp op t x y z) ρ st=(BR X.P op t (ρ x) (ρ y)).map fun v=>(v,st):=nrfl rfl
theorem iG {op:UnOp} {t:TypeId} {x:Operand}:iop X d (.unOp op t x) ρ st=(unP op (ρ x)).map fun v=>(v,st):=nrfl rfl
theorem SP {s t:TypeId} {x:Operand}:iop X d (.convert s t x) ρ st=(Of X.P s t (ρ x)).map fun v=>(v,st):=nrfl rfl
def evs (ρ:Operand→PV):List Operand→List PV
 | [] => []
 | x::l=>ρ x::evs ρ l
theorem iH {x:Operand} {l:List Operand}:evs ρ (x::l)=ρ x::evs ρ l:=nrfl rfl
theorem vG:evs ρ [] = []:=nrfl rfl
theorem I7 {l:List Operand}:l.map ρ=evs ρ l:=by
 induction l with
 | nil=>rfl
 | cons x l ih=>simp only[List.map_cons,evs,ih]
theorem Qo {fn:Fn} {a b:List Operand}:iop X d (.makeFunc fn a.toArray b.toArray) ρ st=some (.func fn (evs ρ a) (evs ρ b),st):=by rw[←I7,←I7];rfl
def SQ (X:Cfg) (d:Nat) (t:TypeId) (a b:PV) (st:Store):Option (PV×Store) :=
 match a,b with
 | .int .i64 n,.int .i64 m=>if 0≤n∧n≤m∧m≤4294967296∧0<Ae X.P t then (if X.num d=0 then (if X.frz d=true then some (.lits (Ae X.P t) (List.replicate n.toNat (AH X.P (B0 X.P t))),st)else some (.ref st.next 0 0 n.toNat,st.new (.arr 0 (Ae X.P t) (List.replicate n.toNat (AH X.P (B0 X.P t))))))else st.re (X.num d) (Ae X.P t) (List.replicate n.toNat (AH X.P (B0 X.P t))) n.toNat)else none
 | _,_=>none
theorem NY {t:TypeId} {l c:Operand}:iop X d (.makeSlice t l c) ρ st=SQ X d t (ρ l) (ρ c) st:=by
 simp only[iop,SQ]
 cases ρ l <;> try rfl
theorem iI {t:TypeId} {n m:Int} (h:X.num d=0) (hf:X.frz d=false):SQ X d t (.int .i64 n) (.int .i64 m) st=if 0≤n∧n≤m∧m≤4294967296∧0<Ae X.P t then some (.ref st.next 0 0 n.toNat,st.new (.arr 0 (Ae X.P t) (List.replicate n.toNat (AH X.P (B0 X.P t)))))else none:=by simp[SQ,h,hf]
theorem iJ {t:TypeId} {n m:Int} (h:X.num d=0) (hf:X.frz d=true):SQ X d t (.int .i64 n) (.int .i64 m) st=if 0≤n∧n≤m∧m≤4294967296∧0<Ae X.P t then some (.lits (Ae X.P t) (List.replicate n.toNat (AH X.P (B0 X.P t))),st)else none:=by simp[SQ,h,hf]
theorem vH {t:TypeId} {n m:Int} {k:Nat} (h:X.num d=k+1):SQ X d t (.int .i64 n) (.int .i64 m) st=if 0≤n∧n≤m∧m≤4294967296∧0<Ae X.P t then st.re (k+1) (Ae X.P t) (List.replicate n.toNat (AH X.P (B0 X.P t))) n.toNat else none:=by simp[SQ,h]
def iK (X:Cfg) (d:Nat) (t:TypeId) (p:PV) (l h:Option (Option Int)) (st:Store):Option (PV×Store) :=
 if X.muts d=true then (match l,h with | none,none=>YK X.P st t p | _,_=>none)else
 match l,h with
 | some none,_ | _,some none=>none
 | l,h=>(Cm (X.see d st) (Ae X.P t) (AT X.P t) (BP X.P t) p (l.bind id) (h.bind id)).map fun v=>(v,st)
theorem ZO {t:TypeId} {x:Operand} {lo hi:Option Operand}:iop X d (.slice t x lo hi none) ρ st=iK X d t (ρ x) (lo.map fun o=>Da (ρ o)) (hi.map fun o=>Da (ρ o)) st:=by
 cases lo <;> cases hi <;> rfl
theorem VS {k:IntKind} {n:Int}:Da (.int k n)=some n:=nrfl rfl
theorem vI {t:TypeId} {p:PV}:iK X d t p none none st=if X.muts d=true then YK X.P st t p else (Cm (X.see d st) (Ae X.P t) (AT X.P t) (BP X.P t) p none none).map fun v=>(v,st):=nrfl rfl
theorem vJ {t:TypeId} {p:PV} {n:Int}:iK X d t p (some (some n)) none st=if X.muts d=true then none else (Cm (X.see d st) (Ae X.P t) (AT X.P t) (BP X.P t) p (some n) none).map fun v=>(v,st):=nrfl rfl
theorem vK {t:TypeId} {p:PV} {m:Int}:iK X d t p none (some (some m)) st=if X.muts d=true then none else (Cm (X.see d st) (Ae X.P t) (AT X.P t) (BP X.P t) p none (some m)).map fun v=>(v,st):=nrfl rfl
theorem vL {t:TypeId} {p:PV} {n m:Int}:iK X d t p (some (some n)) (some (some m)) st=if X.muts d=true then none else (Cm (X.see d st) (Ae X.P t) (AT X.P t) (BP X.P t) p (some n) (some m)).map fun v=>(v,st):=nrfl rfl
theorem NZ {t:TypeId} {x:Operand} {f:Nat}:iop X d (.fieldAddr t x f) ρ st=(Bc X.P t f).bind fun q=>if 0<q.2.1 then (C8 (X.see d st) (ρ x) q.1).map fun v=>(v,st)else none:=nrfl rfl
theorem Ac6 {e:Nat}:X.see e st=if X.frz e=true then⟨fun _=>none,0⟩else if X.frz (600000+e)=true then st.past (X.num e)else if X.frz (700000+e)=true then st.hard else st:=nrfl rfl
theorem vM:st.hard=⟨fun i=>(st.obj i).bind fun o=>if GT o=true then none else some o,st.next⟩:=nrfl rfl
theorem iL {g z:Nat} {es:List PV}:GT (.arr g z es)=(decide (z≤2)&&es.all PV.isInt):=nrfl rfl
theorem VT {k:IntKind} {n:Int}:PV.isInt1 (.int k n)=true:=nrfl rfl
theorem VU {i g s n:Nat}:PV.isInt1 (.ref i g s n)=false:=nrfl rfl
theorem ZP {i g s n:Nat}:PV.isInt (.ref i g s n)=false:=nrfl rfl
theorem ZQ {cs:List PV}:PV.isInt (.agg cs)=cs.all PV.isInt1:=nrfl rfl
theorem ZR {id gen s n z:Nat} {l:List PV}:LV st (.ref id gen s n) (.lits z l)=(l.all PV.isInt&&match st.arr? id gen with | some q=>decide (q.1≤2)&&q.2.all PV.isInt | none=>false):=nrfl rfl
theorem ZS {k:IntKind} {n:Int}:PV.isInt (.int k n)=true:=nrfl rfl
theorem iM {l:List Int} {k:IntKind}:(l.map (PV.int k)).all PV.isInt=true:=by simp[PV.isInt]
theorem ZT {x:Operand} {m:String} {as:List Operand} {ts:List TypeId}:iop X d (.call ⟨.invoke x m,as.toArray,ts.toArray⟩) ρ st=(eE X.P st (ρ x) m).bind fun q=>DH X d (.func (.func q.1) [q.2] []) (PO X d ts) (evs ρ as) st:=by rw[←I7];rfl
theorem VV {P:Program} {t:TypeId} {v:PV} {m:String}:eE P st (.iface t v) m=(Jw P t m).bind fun q=>if q.2.1=true then some (q.1,v)else (BC P q.2.2).bind fun r=>(Dq st r.1 r.2 v).map fun r=>(q.1,r):=nrfl rfl
def KF (P:Program) (t:TypeId):Bool := !Jt P t&&(P.underlying t).isSome
theorem JN {t:TypeId} {x:Operand} (h:KF X.P t=true):iop X d (.makeInterface t x) ρ st=some (.iface t (ρ x),st):=by
 simp only[KF,Bool.and_eq_true,Bool.not_eq_true']at h
 simp only[iop,h,and_self,if_true]
def asT (t:TypeId) (p:PV) (st:Store):Option (PV×Store):=match p with | .iface t' v=>if t'=t then some (v,st)else none | _=>none
theorem Mq {x:Operand} {xt t:TypeId} (h:KF X.P t=true):iop X d (.typeAssert x xt t false) ρ st=asT t (ρ x) st:=by
 simp only[KF,Bool.and_eq_true,Bool.not_eq_true']at h
 simp only[iop,h,and_true,asT]
 cases ρ x <;> rfl
theorem iN {t:TypeId} {v:PV}:asT t (.iface t v) st=some (v,st):=by simp[asT]
theorem vO {k:Nat}:st.past k=⟨fun i=>if i<k then none else st.obj i,st.next⟩:=nrfl rfl
def Ahx (X:Cfg) (t:TypeId) (p:PV) (f:Nat) (st:Store):Option (PV×Store):=match p with | .agg cs=>(Bc X.P t f).bind fun (o,_,u)=>(BC X.P u).bind fun (z,ag)=>(CF cs o z ag).map fun v=>(v,st) | _=>none
theorem ZU {t:TypeId} {x:Operand} {f:Nat}:iop X d (.field t x f) ρ st=Ahx X t (ρ x) f st:=nrfl rfl
theorem iO {t:TypeId} {cs:List PV} {f:Nat}:Ahx X t (.agg cs) f st=(Bc X.P t f).bind fun q=>(BC X.P q.2.2).bind fun r=>(CF cs q.1 r.1 r.2).map fun v=>(v,st):=nrfl rfl
def Ahy (X:Cfg) (d:Nat) (t:TypeId) (p i:PV) (st:Store):Option (PV×Store):=match i with | .int _ n=>(Ct X.P (X.see d st) t p n).map fun v=>(v,st) | _=>none
theorem N0 {t:TypeId} {x i:Operand}:iop X d (.indexAddr t x i) ρ st=Ahy X d t (ρ x) (ρ i) st:=nrfl rfl
theorem iP {t:TypeId} {p:PV} {k:IntKind} {n:Int}:Ahy X d t p (.int k n) st=(Ct X.P (X.see d st) t p n).map fun v=>(v,st):=nrfl rfl
def Ahz (X:Cfg) (t:TypeId) (p i:PV) (st:Store):Option (PV×Store):=match i with | .int _ n=>(IQ X.P t p n).map fun v=>(v,st) | _=>none
theorem ZV {t:TypeId} {x i:Operand}:iop X d (.index t x i) ρ st=Ahz X t (ρ x) (ρ i) st:=nrfl rfl
theorem iQ {t:TypeId} {p:PV} {k:IntKind} {n:Int}:Ahz X t p (.int k n) st=(IQ X.P t p n).map fun v=>(v,st):=nrfl rfl
def Ah0 (p:PV) (i:Nat) (st:Store):Option (PV×Store):=match p with | .tuple vs=>(vs[i]?).map fun v=>(v,st) | _=>none
theorem SR {x:Operand} {i:Nat}:iop X d (.extract x i) ρ st=Ah0 (ρ x) i st:=nrfl rfl
theorem VW {vs:List PV} {i:Nat}:Ah0 (.tuple vs) i st=(vs[i]?).map fun v=>(v,st):=nrfl rfl
theorem KG {f:Operand} {as:List Operand} {ts:List TypeId}:iop X d (.call ⟨.value f,as.toArray,ts.toArray⟩) ρ st=DH X d (ρ f) (PO X d ts) (evs ρ as) st:=by rw[←I7];rfl
theorem ZW {b:Builtin} {as:List Operand} {ts:List TypeId}:iop X d (.call ⟨.builtin b,as.toArray,ts.toArray⟩) ρ st=Bg X d b ts (evs ρ as) st:=by rw[←I7];rfl
def Ac7 (X:Cfg) (f:Nat) (l:List PV) (st:Store):Option (PV×Store):=(B3 (st.only (DV l)) l).bind fun as=>X.tab f as (st.without (DV l))
def Ac8 (X:Cfg) (f:Nat) (l:List PV) (st:Store):Option (PV×Store):=(B3 (st.only (DV l)) l).bind fun as=>X.tab f as (st.seal (DV l))
def Ac9 (X:Cfg) (f k:Nat) (l:List PV) (st:Store):Option (PV×Store):=if (DV l).all (fun i=>i==k)=true then (B3 (st.only [k]) l).bind fun as=>X.tab f as (st.again k)else none
theorem iR {f:Nat} {a b:List PV} {ts:List TypeId} {args:List PV}:DH X d (.func (.func f) a b) ts args st=if X.frz d=true then (if X.num d=0 then Ac7 X f (a++nrmAll X.P ts args++b) st else if X.muts d=true then Ac9 X f (X.num d-1) (a++nrmAll X.P ts args++b) st else Ac8 X f (a++nrmAll X.P ts args++b) st)else if X.muts d=true∧(AU (a++nrmAll X.P ts args++b)=false∨(X.frz (1200000+d)=true∧X.quiet f=false))then none else X.tab f (a++nrmAll X.P ts args++b) st:=by
 simp only[DH,Ac7,Ac8,Ac9]
 by_cases h1:X.frz d=true <;> by_cases h2:X.num d=0 <;> by_cases h3:X.muts d=true <;> simp[h1,h2,h3]
theorem vP {ts:List TypeId}:PO X d ts=if X.frz (400000+d)=true then []else ts:=nrfl rfl
theorem SS {P:Program} {t:TypeId} {ts:List TypeId} {p:PV} {l:List PV}:nrmAll P (t::ts) (p::l)=nrm (BE P t) p::nrmAll P ts l:=nrfl rfl
theorem VX {P:Program} {l:List PV}:nrmAll P [] l=l:=by simp[nrmAll]
def ZX (st:Store) (q:Option (MK×PV)) (L:Option Int) (x:PV):Option Int:=match q with | some q=>Hf st (some q) x | none=>L
theorem Ada {t:TypeId} {x:PV}:Bg X d .len [t] [x] st=(ZX st (AZ X.P t) (Ju (X.see d st) (Ae X.P t) (AT X.P t) x) x).map fun n=>(.int .i64 n,st):=by simp only[Bg,ZX];cases AZ X.P t <;> rfl
theorem ZY {L:Option Int} {x:PV}:ZX st none L x=L:=nrfl rfl
theorem vQ {t u:TypeId} {x y:PV}:Bg X d .copy [t,u] [x,y] st=(RF st (Ae X.P t) x y).map fun q=>(.int .i64 q.1,q.2):=nrfl rfl
theorem ZZ {t u:TypeId} {x y:PV} (h:X.num d=0):Bg X d .append [t,u] [x,y] st=if Ae X.P u≠0∨AT X.P u=true then (if X.frz (700000+d)=true∧LV st x y=false then none else (Cl st (Ae X.P t) y).bind fun ys=>Cs st (Ae X.P t) x ys)else none:=by
 simp only[Bg,h]
 by_cases h1:Ae X.P u≠0∨AT X.P u=true <;> by_cases h2:X.frz (700000+d)=true <;> cases h3:LV st x y <;> simp[h1,h2]
theorem Qp {t u:TypeId} {x y:PV} {k:Nat} (h:X.num d=k+1):Bg X d .append [t,u] [x,y] st=if Ep (k+1) x y=true then (if Ae X.P u≠0∨AT X.P u=true then (if X.frz (700000+d)=true then none else (Cl st (Ae X.P t) y).bind fun ys=>Cs st (Ae X.P t) x ys)else none)else none:=by
 simp only[Bg,h]
 by_cases h1:Ep (k+1) x y=true <;> by_cases h2:Ae X.P u≠0∨AT X.P u=true <;> by_cases h3:X.frz (700000+d)=true <;> simp[h1,h2,h3]
theorem Adb {ts:List TypeId} {x y:Int} {k:IntKind}:Bg X d .min ts [.int k x,.int k y] st=some (.int k (if y<x then y else x),st):=by
 cases ts with
 | nil=>simp[Bg,Fu]
 | cons t ts=>cases ts <;> simp[Bg,Fu]
theorem Adc {ts:List TypeId} {x y:Int} {k:IntKind}:Bg X d .max ts [.int k x,.int k y] st=some (.int k (if x<y then y else x),st):=by
 cases ts with
 | nil=>simp[Bg,Fu]
 | cons t ts=>cases ts <;> simp[Bg,Fu]
end
theorem vR {m:List (Nat×Nat)} {cs:List PV}:nrm m (.agg cs)=.agg (Jv m 0 cs):=nrfl rfl
theorem Z0 {m:List (Nat×Nat)} {i:Nat} {c:PV} {l:List PV}:Jv m i (c::l)=nrm1 (m.lookup i) c::Jv m (i+1) l:=nrfl rfl
theorem iT {m:List (Nat×Nat)} {i:Nat}:Jv m i [] = []:=nrfl rfl
theorem iU {m:List (Nat×Nat)}:nrm m .nils=nrm1 (m.lookup 0) .nils:=nrfl rfl
theorem Z1 {z:Nat}:nrm1 (some z) .nils=.lits z []:=nrfl rfl
theorem Z2:nrm1 none .nils=.nils:=nrfl rfl
theorem vS {p:PV}:nrm1 none p=p:=by cases p <;> rfl
theorem Ade {p:PV}:nrm [] p=p:=by
 cases p <;> try rfl
 rename_i cs
 simp only[nrm,PV.agg.injEq]
 have : ∀(l:List PV) (i:Nat),Jv [] i l=l:=by
  intro l;induction l with
  | nil=>intro i;rfl
  | cons c l ih=>intro i;simp only[Jv,ih,List.lookup_nil,vS]
 exact this cs 0
theorem vT {m:List (Nat×Nat)} {k:IntKind} {n:Int}:nrm m (.int k n)=.int k n:=nrfl rfl
theorem vU {m:List (Nat×Nat)} {s:List UInt8}:nrm m (.str s)=.str s:=nrfl rfl
theorem iV {m:List (Nat×Nat)} {b:Bool}:nrm m (.bool b)=.bool b:=nrfl rfl
theorem iW {m:List (Nat×Nat)} {z:Nat} {l:List PV}:nrm m (.lits z l)=.lits z l:=nrfl rfl
theorem vV {m:List (Nat×Nat)} {i g s n:Nat}:nrm m (.ref i g s n)=.ref i g s n:=nrfl rfl
theorem iX {m:List (Nat×Nat)} {f:Fn} {a b:List PV}:nrm m (.func f a b)=.func f a b:=nrfl rfl
theorem iZ {m:List (Nat×Nat)} {cs:List PV} {o:Nat}:nrm m (.vptr cs o)=.vptr cs o:=nrfl rfl
theorem vW {m:List (Nat×Nat)} {i g x o:Nat}:nrm m (.ptr i g x o)=.ptr i g x o:=nrfl rfl
theorem jA {m:Option Nat} {k:IntKind} {n:Int}:nrm1 m (.int k n)=.int k n:=nrfl rfl
theorem jB {m:Option Nat} {s:List UInt8}:nrm1 m (.str s)=.str s:=nrfl rfl
theorem Z3 {m:Option Nat} {b:Bool}:nrm1 m (.bool b)=.bool b:=nrfl rfl
theorem Z4 {m:Option Nat} {z:Nat} {l:List PV}:nrm1 m (.lits z l)=.lits z l:=nrfl rfl
theorem jC {m:Option Nat} {i g s n:Nat}:nrm1 m (.ref i g s n)=.ref i g s n:=nrfl rfl
section
variable {st:Store}
def Adf (o:Option IObj) (gen:Nat):Option (Nat×List PV):=match o with | some (.arr g z es)=>if gen=g then some (z,es)else none | _=>none
theorem Adg {id g:Nat}:st.arr? id g=Adf (st.obj id) g:=nrfl rfl
theorem Z5 {g h z:Nat} {es:List PV}:Adf (some (.arr h z es)) g=if g=h then some (z,es)else none:=nrfl rfl
theorem vX {cells:List PV} {off sz:Nat}:CF cells off sz false=cells[off]?:=nrfl rfl
theorem vY {cells:List PV} {off sz:Nat}:CF cells off sz true=if off+sz≤cells.length then some (.agg ((cells.drop off).take sz))else none:=nrfl rfl
theorem VY {sz off:Nat} {ag:Bool} {cells:List PV}:Dq st sz ag (.vptr cells off)=CF cells off sz ag:=nrfl rfl
theorem Z6 {sz off id gen idx:Nat} {ag:Bool}:Dq st sz ag (.ptr id gen idx off)=(st.arr? id gen).bind fun q=>CF (nth q.2 idx).cells off sz ag:=nrfl rfl
theorem Qq {cs vs:List PV} {o:Nat}:A7 (.agg cs) o vs=.agg (DA cs o vs):=nrfl rfl
theorem Qr {k:IntKind} {n:Int} {v:PV} {o:Nat}:A7 (.int k n) o [v]=v:=nrfl rfl
theorem N1 {b:Bool} {v:PV} {o:Nat}:A7 (.bool b) o [v]=v:=nrfl rfl
theorem N2 {v:PV} {o:Nat}:A7 .nils o [v]=v:=nrfl rfl
theorem Qs {i g s n:Nat} {v:PV} {o:Nat}:A7 (.ref i g s n) o [v]=v:=nrfl rfl
theorem VZ {sz id gen idx off:Nat} {v:PV}:E8 st sz (.ptr id gen idx off) v=(st.arr? id gen).bind fun q=>if v.cells.length=sz∧0<sz∧idx<q.2.length∧off+sz≤q.1 then some (st.set id (.arr gen q.1 (q.2.set idx (A7 (nth q.2 idx) off v.cells))))else none:=nrfl rfl
theorem ST {cells:List PV} {off o:Nat}:C8 st (.vptr cells off) o=some (.vptr cells (off+o)):=nrfl rfl
theorem V0 {id gen idx off o:Nat}:C8 st (.ptr id gen idx off) o=(st.arr? id gen).map fun _=>.ptr id gen idx (off+o):=nrfl rfl
variable {P:Program} {t:TypeId} {i:Int}
theorem SU {z:Nat} {l:List PV}:Ct P st t (.lits z l) i=if 0≤i∧i<l.length∧z=Ae P t∧0<z then some (.vptr (nth l i.toNat).cells 0)else none:=nrfl rfl
theorem V1 {id gen s n:Nat}:Ct P st t (.ref id gen s n) i=(st.arr? id gen).bind fun q=>if 0≤i∧i<n∧s+n≤q.2.length∧q.1=Ae P t then some (.ptr id gen (s+i.toNat) 0)else none:=nrfl rfl
theorem SV {cells:List PV} {off:Nat}:Ct P st t (.vptr cells off) i=(BP P t).bind fun q=>if 0≤i∧i<q.1∧0<q.2 then some (.vptr cells (off+i.toNat*q.2))else none:=nrfl rfl
theorem V2 {id gen idx off:Nat}:Ct P st t (.ptr id gen idx off) i=(st.arr? id gen).bind fun _=>(BP P t).bind fun q=>if 0≤i∧i<q.1∧0<q.2 then some (.ptr id gen idx (off+i.toNat*q.2))else none:=nrfl rfl
theorem V3 {s:List UInt8}:IQ P t (.str s) i=if 0≤i∧i<s.length∧AT P t=true then some (.int .u8 (s.getD i.toNat 0).toNat)else none:=nrfl rfl
theorem V4 {cs:List PV}:IQ P t (.agg cs) i=(Ks P t).bind fun q=>(BC P q.2).bind fun r=>if 0≤i∧i<q.1 then CF cs (i.toNat*r.1) r.1 r.2 else none:=nrfl rfl
variable {z:Nat} {sb:Bool}
theorem Z7:Ju st z sb .nils=if 0<z then some 0 else none:=nrfl rfl
theorem Z8 {y:Nat} {l:List PV}:Ju st z sb (.lits y l)=if 0<z then some (l.length:Int)else none:=nrfl rfl
theorem jD {id g s n:Nat}:Ju st z sb (.ref id g s n)=(st.arr? id g).bind fun _=>if 0<z then some (n:Int)else none:=nrfl rfl
theorem jE {s:List UInt8}:Ju st z sb (.str s)=if sb=true then some (s.length:Int)else none:=nrfl rfl
theorem SW:Cl st z .nils=some []:=nrfl rfl
theorem SX {y:Nat} {l:List PV}:Cl st z (.lits y l)=if y=z then some l else none:=nrfl rfl
theorem V5 {id gen s n:Nat}:Cl st z (.ref id gen s n)=(st.arr? id gen).bind fun q=>if s+n≤q.2.length∧q.1=z then some ((q.2.drop s).take n)else none:=nrfl rfl
theorem V6 {s:List UInt8}:Cl st z (.str s)=if z=1 then some (s.map fun b=>.int .u8 b.toNat)else none:=nrfl rfl
theorem SY {lo hi:Option Int} {ar:Option (Nat×Nat)}:Cm st z sb ar .nils lo hi=if lo.getD 0=0∧hi.getD 0=0∧0<z then some .nils else none:=nrfl rfl
theorem SZ {y:Nat} {l:List PV} {lo hi:Option Int} {ar:Option (Nat×Nat)}:Cm st z sb ar (.lits y l) lo hi=if 0≤lo.getD 0∧lo.getD 0≤hi.getD l.length∧hi.getD l.length≤l.length∧y=z∧0<z then some (.lits z ((l.drop (lo.getD 0).toNat).take ((hi.getD l.length).toNat-(lo.getD 0).toNat)))else none:=nrfl rfl
theorem V7 {id gen s n:Nat} {lo hi:Option Int} {ar:Option (Nat×Nat)}:Cm st z sb ar (.ref id gen s n) lo hi=(st.arr? id gen).bind fun q=>if 0≤lo.getD 0∧lo.getD 0≤hi.getD n∧hi.getD n≤(q.2.length:Int)-s∧s≤q.2.length∧q.1=z then some (.ref id gen (s+(lo.getD 0).toNat) ((hi.getD n).toNat-(lo.getD 0).toNat))else none:=nrfl rfl
theorem S0 {cs:List PV} {off:Nat} {lo hi:Option Int} {ar:Option (Nat×Nat)}:Cm st z sb ar (.vptr cs off) lo hi=ar.bind fun a=>if a.2=1∧lo=none∧hi=none∧off+a.1≤cs.length∧0<a.1∧a.1≤65536 then some (.lits 1 ((cs.drop off).take a.1))else none:=nrfl rfl
theorem jF {P:Program} {t:TypeId} {id gen idx off:Nat}:YK P st t (.ptr id gen idx off)=(st.arr? id gen).bind fun q=>(BP P t).bind fun a=>if a.2=1∧idx<q.2.length∧AU q.2=true∧off+a.1≤(nth q.2 idx).cells.length∧0<a.1∧a.1≤65536 then some (.lits 1 (((nth q.2 idx).cells.drop off).take a.1),st.without [id])else none:=nrfl rfl
theorem V8 {s:List UInt8} {lo hi:Option Int} {ar:Option (Nat×Nat)}:Cm st z sb ar (.str s) lo hi=if 0≤lo.getD 0∧lo.getD 0≤hi.getD s.length∧hi.getD s.length≤s.length∧sb=true then some (.str ((s.drop (lo.getD 0).toNat).take ((hi.getD s.length).toNat-(lo.getD 0).toNat)))else none:=nrfl rfl
theorem Qt {ys:List PV}:Cs st z .nils ys=if 0<z∧ys.length≤2147483648 then (if ys.length=0 then some (.nils,st)else some (.ref st.next 0 0 ys.length,st.new (.arr 0 z ys)))else none:=nrfl rfl
theorem S3 {id gen s n:Nat} {ys:List PV}:Cs st z (.ref id gen s n) ys=(st.arr? id gen).bind fun q =>
   if s+n≤q.2.length∧q.1=z∧n+ys.length≤2147483648 then
    if s+n+ys.length≤q.2.length then
     some (.ref id gen s (n+ys.length),st.set id (.arr gen z (q.2.take (s+n)++ys++q.2.drop (s+n+ys.length))))
    else some (.ref id (gen+1) 0 (n+ys.length),st.set id (.arr (gen+1) z ((q.2.drop s).take n++ys)))
   else none:=rfl
end
section
variable {P:Program} {t:TypeId} {k k':IntKind} {a b:Int}
theorem Ah1:BR P .add t (.int k a) (.int k b)=some (.int k (k.wrap (a+b))):=by simp[BR,G8,G7]
theorem Ah2:BR P .sub t (.int k a) (.int k b)=some (.int k (k.wrap (a-b))):=by simp[BR,G8,G7]
theorem Ah3:BR P .mul t (.int k a) (.int k b)=some (.int k (k.wrap (a*b))):=by simp[BR,G8,G7]
theorem Ah4:BR P .quo t (.int k a) (.int k b)=if b=0 then none else some (.int k (k.wrap (a.tdiv b))):=by simp[BR,G8,G7]
theorem Ah5:BR P .rem t (.int k a) (.int k b)=if b=0 then none else some (.int k (a.tmod b)):=by simp[BR,G8,G7]
theorem Ah6:BR P .and t (.int k a) (.int k b)=(Cu .and k a b).map (.int k):=by simp[BR,G8,G7]
theorem Ajv:BR P .or t (.int k a) (.int k b)=(Cu .or k a b).map (.int k):=by simp[BR,G8,G7]
theorem Ah7:BR P .xor t (.int k a) (.int k b)=(Cu .xor k a b).map (.int k):=by simp[BR,G8,G7]
theorem jG:BR P .andNot t (.int k a) (.int k b)=(Cu .andNot k a b).map (.int k):=by simp[BR,G8,G7]
theorem Ah8:BR P .eql t (.int k a) (.int k b)=some (.bool (decide (a=b))):=by simp[BR,G8,G7]
theorem Ah9:BR P .neq t (.int k a) (.int k b)=some (.bool (decide (¬a=b))):=by simp[BR,G8,G7]
theorem Aia:BR P .lss t (.int k a) (.int k b)=some (.bool (decide (a<b))):=by simp[BR,G8,G7]
theorem Aib:BR P .leq t (.int k a) (.int k b)=some (.bool (decide (a≤b))):=by simp[BR,G8,G7]
theorem Aic:BR P .gtr t (.int k a) (.int k b)=some (.bool (decide (b<a))):=by simp[BR,G8,G7]
theorem Aid:BR P .geq t (.int k a) (.int k b)=some (.bool (decide (b≤a))):=by simp[BR,G8,G7]
theorem Aie:BR P .shl t (.int k a) (.int k' b)=if b<0 then none else some (.int k (k.wrap (a*2 ^ (min b.toNat k.bits)))):=nrfl rfl
theorem Aif:BR P .shr t (.int k a) (.int k' b)=if b<0 then none else some (.int k (a.fdiv (2 ^ (min b.toNat k.bits)))):=nrfl rfl
variable {s u:List UInt8}
theorem Adh:BR P .add t (.str s) (.str u)=if s.length+u.length≤2147483648 then some (.str (s++u))else none:=nrfl rfl
theorem Adi:BR P .eql t (.str s) (.str u)=some (.bool (decide (s=u))):=nrfl rfl
theorem Adj:BR P .neq t (.str s) (.str u)=some (.bool (decide (¬s=u))):=nrfl rfl
theorem Adk:BR P .lss t (.str s) (.str u)=some (.bool (Op.bytesLess s u)):=nrfl rfl
theorem Adl:BR P .leq t (.str s) (.str u)=some (.bool (Op.bytesLess s u||decide (s=u))):=nrfl rfl
theorem Adm:BR P .gtr t (.str s) (.str u)=some (.bool !(Op.bytesLess s u||decide (s=u))):=nrfl rfl
theorem Adn:BR P .geq t (.str s) (.str u)=some (.bool !(Op.bytesLess s u)):=nrfl rfl
variable {x y:Bool}
theorem Ado:BR P .eql t (.bool x) (.bool y)=if He P t=true then some (.bool (x==y))else none:=nrfl rfl
theorem Adp:BR P .neq t (.bool x) (.bool y)=if He P t=true then some (.bool (!(x==y)))else none:=nrfl rfl
theorem Aig:unP .neg (.int k a)=some (.int k (k.wrap (0-a))):=nrfl rfl
theorem Aih:unP .not (.bool x)=some (.bool (!x)):=nrfl rfl
theorem Adq {src dst:TypeId}:Of P src dst (.int k a)=(Ft P dst).bind fun k=>(Ft P src).bind fun _=>some (.int k (k.wrap a)):=nrfl rfl
theorem Adr {src dst:TypeId}:Of P src dst (.str s)=if AT P src=true∧AT P dst=true then some (.str s)else none:=nrfl rfl
end
theorem jH {place:Nat→Option (Nat×Nat)} {cells:List PV}:Fa place cells []=some cells:=nrfl rfl
def jI (place:Nat→Option (Nat×Nat)) (cells vs:List PV) (rest:List (Nat×PV)) (o:Option (Nat×Nat)):Option (List PV) :=
 match o with | none=>none | some q=>if vs.length=q.2∧q.1+q.2≤cells.length∧0<q.2 then Fa place (DA cells q.1 vs) rest else none
theorem Z9 {place:Nat→Option (Nat×Nat)} {cells:List PV} {i:Nat} {v:PV} {rest:List (Nat×PV)}:Fa place cells ((i,v)::rest)=jI place cells v.cells rest (place i):=by
 simp only[Fa,jI];cases place i <;> rfl
theorem V9 {place:Nat→Option (Nat×Nat)} {cells vs:List PV} {rest:List (Nat×PV)} {q:Nat×Nat}:jI place cells vs rest (some q)=if vs.length=q.2∧q.1+q.2≤cells.length∧0<q.2 then Fa place (DA cells q.1 vs) rest else none:=nrfl rfl
def vZ (P:Program) (t:TypeId) (cells:List PV) (parts:List (Nat×PV)) (o:Option (Nat×Nat)):Option PV :=
 match o with
 | some q=>(Fa (fun i=>some (i*q.2,q.2)) cells parts).map .agg
 | none=>(Fa (fun i=>(Bc P t i).map fun q=>(q.1,q.2.1)) cells parts).map .agg
theorem aA {P:Program} {t:TypeId} {parts:List (Nat×PV)}:Kt P t parts=if Ch P t=true then vZ P t (AH P t).cells parts (BP P t)else none:=by
 simp only[Kt,vZ];cases BP P t <;> rfl
theorem aB {P:Program} {t:TypeId} {cells:List PV} {parts:List (Nat×PV)}:vZ P t cells parts none=(Fa (fun i=>(Bc P t i).map fun q=>(q.1,q.2.1)) cells parts).map .agg:=nrfl rfl
theorem aC {P:Program} {t:TypeId} {cells:List PV} {parts:List (Nat×PV)} {q:Nat×Nat}:vZ P t cells parts (some q)=(Fa (fun i=>some (i*q.2,q.2)) cells parts).map .agg:=nrfl rfl
theorem wA {z:Nat} {l:List PV}:Cn z l []=some l:=nrfl rfl
theorem jJ {z i:Nat} {l:List PV} {v:PV} {rest:List (Nat×PV)}:Cn z l ((i,v)::rest)=if i<l.length∧v.cells.length=z then Cn z (l.set i v) rest else none:=nrfl rfl
theorem aD {cells vs:List PV} {off:Nat}:DA cells off vs=cells.take off++vs++cells.drop (off+vs.length):=nrfl rfl
theorem wB {args:List PV} {t:Nat}:FJ args t=args.getD t .bad:=nrfl rfl
def jK:Option (List PV)→Option PV
 | some [p]=>some p
 | some ps=>some (.tuple ps)
 | none=>none
theorem wC {P:Program} {rs:List ResultVar} {s:IState}:Qg P rs s=jK (Dy P s rs):=by
 unfold Qg;cases Dy P s rs with
 | none=>rfl
 | some l=>cases l with
  | nil=>rfl
  | cons a l=>cases l <;> rfl
theorem wE {p:PV}:jK (some [p])=some p:=nrfl rfl
theorem wF {p q:PV} {l:List PV}:jK (some (p::q::l))=some (.tuple (p::q::l)):=nrfl rfl
theorem S4 {P:Program} {s:IState}:Dy P s []=some []:=nrfl rfl
theorem Qu {P:Program} {s:IState} {r:ResultVar} {l:List ResultVar}:Dy P s (r::l)=(Gx P s r).bind fun p=>(Dy P s l).map fun ps=>p::ps:=nrfl rfl
theorem S5 {P:Program} {s:IState} {t:Nat}:Gx P s (.tmp t)=some (s.env t):=nrfl rfl
theorem Qv {P:Program} {s:IState} {a:Nat} {t:TypeId}:Gx P s (.cell a t)=(BC P t).bind fun q=>Dq s.st q.1 q.2 (s.env a):=nrfl rfl
theorem As {α β:Type} {x y:Option α} {f:α→Option β} (h:x=y):x.bind f=y.bind f:=by rw[h]
theorem Az {α β:Type} {x y:Option α} {f:α→β} (h:x=y):x.map f=y.map f:=by rw[h]
theorem wG {X:Cfg} {f k:Nat} {l:List PV} {st:Store}:Ac9 X f k l st=if (DV l).all (fun i=>i==k)=true then (B3 (st.only [k]) l).bind fun as=>X.tab f as (st.again k)else none:=nrfl rfl
theorem jL {ob:Nat→Option IObj} {n k:Nat}:Store.again ⟨ob,n⟩ k=⟨Aa ob k ((ob k).bind Co),n⟩:=nrfl rfl
theorem wH {X:Cfg} {f:Nat} {l:List PV} {st:Store}:Ac8 X f l st=(B3 (st.only (DV l)) l).bind fun as=>X.tab f as (st.seal (DV l)):=nrfl rfl
theorem jM {st:Store} {ids:List Nat} {i:Nat}:(st.seal ids).obj i=if ids.contains i=true then (st.obj i).bind Co else (st.obj i).map (RH (st.only ids)):=nrfl rfl
theorem aE {st:Store} {ids:List Nat}:(st.seal ids).next=st.next:=nrfl rfl
theorem Wa {g z:Nat} {es:List PV}:Co (.arr g z es)=some (.arr (g+1) z []):=nrfl rfl
theorem aG {st:Store} {g z:Nat} {es:List PV}:RH st (.arr g z es)=.arr g z (es.map (K9 st)):=nrfl rfl
theorem aH {st:Store} {cs:List PV}:K9 st (.agg cs)=.agg (cs.map (sealC st)):=nrfl rfl
theorem aI {st:Store} {k:IntKind} {n:Int}:K9 st (.int k n)=.int k n:=nrfl rfl
theorem aJ {st:Store} {k:IntKind} {n:Int}:sealC st (.int k n)=.int k n:=nrfl rfl
theorem Wb {st:Store} {b:Bool}:sealC st (.bool b)=.bool b:=nrfl rfl
theorem Wc {st:Store} {z:Nat} {l:List PV}:sealC st (.lits z l)=.lits z l:=nrfl rfl
theorem Wd {st:Store}:sealC st .nils=.nils:=nrfl rfl
theorem aK {st:Store} {id g s n:Nat}:sealC st (.ref id g s n)=((st.arr? id g).bind fun q=>if s+n≤q.2.length∧AU q.2=true then some (.lits q.1 ((q.2.drop s).take n))else none).getD (.ref id g s n):=nrfl rfl
theorem wI {X:Cfg} {f:Nat} {l:List PV} {st:Store}:Ac7 X f l st=(B3 (st.only (DV l)) l).bind fun as=>X.tab f as (st.without (DV l)):=nrfl rfl
theorem We {st:Store} {c:PV} {l:List PV}:B3 st (c::l)=(rdP st c).bind fun d=>(B3 st l).map fun ds=>d::ds:=by simp only[B3]
theorem aM {st:Store}:B3 st []=some []:=by simp only[B3]
theorem jN {st:Store} {c:PV} {l:List PV}:rdL st (c::l)=(rdC st c).bind fun d=>(rdL st l).map fun ds=>d::ds:=by simp only[rdL]
theorem wJ {st:Store}:rdL st []=some []:=by simp only[rdL]
theorem wK {spec:List PV→Option PV} {args:List PV} {st:Store}:Zi spec args st=if AU args=true then (spec args).map fun r=>(r,st)else (B3 st args).bind fun as=>(spec as).bind fun r=>if r.scal=true then some (r,st)else none:=nrfl rfl
theorem DC {c:PV} {l:List PV}:AU (c::l)=(c.pur&&AU l):=by simp only[AU]
theorem FW:AU []=true:=by simp only[AU]
end Sim
namespace Sim
open Go
def Bn:Code→Code
 | .region id ops _=>.region id ops false
 | .seq a b=>.seq (Bn a) (Bn b)
 | .cond c a b=>.cond c (Bn a) (Bn b)
 | .block id c=>.block id (Bn c)
 | .loop c=>.loop (Bn c)
 | .scope c=>.scope (Bn c)
 | c=>c
def Bq (X:Cfg):Code→Bool
 | .region _ ops dr => !dr||I0 X ops
 | .seq a b=>Bq X a&&Bq X b
 | .cond _ a b=>Bq X a&&Bq X b
 | .block _ c=>Bq X c
 | .loop c=>Bq X c
 | .scope c=>Bq X c
 | _=>true
theorem Ff {G:WP} (hG:G.Mono) {X:Cfg} (hm:Bh X) {N:Nat} {c:Code}:∀ {Q:IExit→IState→Prop} {s:IState},Bq X c=true→wpC G X N (Bn c) Q s→wpC G X N c Q s:=by
 induction c with
 | skip=>intro Q s hd hs;exact hs
 | region id ops dr =>
  intro Q s hd hs
  rcases hs with hs | hs
  ·refine .inl ⟨fun h=>?_,hs.2⟩
   subst h
   simpa [Bq]using hd
  ·cases hs.1
 | seq a b iha ihb =>
  intro Q s hd hs
  simp only[Bq,Bool.and_eq_true]at hd
  refine iha hd.1 (CL hG X N _ _ _ _ hm (fun e s' he=>?_) hs)
  cases e with
  | normal=>exact ihb hd.2 he
  | exit i=>exact he
  | ret=>exact he
 | cond c a b iha ihb =>
  intro Q s hd hs
  simp only[Bq,Bool.and_eq_true]at hd
  simp only[Bn,wpC]at hs ⊢
  split at hs
  ·exact ⟨fun hv=>iha hd.1 (hs.1 hv),fun hv=>ihb hd.2 (hs.2 hv)⟩
  ·exact hs.elim
 | block id c ih=>intro Q s hd hs;exact ih hd hs
 | loop c ih =>
  intro Q s hd hs
  obtain ⟨J,n,h0,hr⟩:=hs
  exact ⟨J,n,h0,fun m s' hs'=>ih hd (hr m s' hs')⟩
 | exit id=>intro Q s hd hs;exact hs
 | ret=>intro Q s hd hs;exact hs
 | rangeFunc=>intro Q s hd hs;exact hs
 | scope c ih=>intro Q s hd hs;exact ih hd hs
 | label=>intro Q s hd hs;exact hs
 | goto=>intro Q s hd hs;exact hs
 | refuse=>intro Q s hd hs;exact hs
theorem Dc {X:Cfg} (hm:Bh X) {N:Nat} {c:Code} {Q:IExit→IState→Prop} {s:IState} (hd:Bq X c=true) (h:wpI X N (Bn c) Q s):wpI X N c Q s:=Ff (DY X.dep) hm hd h
section
variable {X:Cfg} {N:Nat} {Q:IExit→IState→Prop} {ks:List Kf} {s:IState}
theorem wL:run X N Q (Bn .skip) ks s=Gs X N Q ks s:=nrfl rfl
theorem Ads {a b:Code}:run X N Q (Bn (.seq a b)) ks s=run X N Q (Bn a) (.seq (Bn b)::ks) s:=P8
theorem jO {id:Nat} {c:Code}:run X N Q (Bn (.block id c)) ks s=run X N Q (Bn c) (.blk id::ks) s:=Kz
theorem wM {id:Nat}:run X N Q (Bn (.exit id)) ks s=GX X N Q ks id s:=nrfl rfl
theorem Adt:run X N Q (Bn .ret) ks s=done X N Q ks s:=nrfl rfl
theorem aN {id:Nat} {l:List Oper} {dr:Bool}:run X N Q (Bn (.region id l.toArray dr)) ks s=ops X N Q l.toArray l ks s:=I3
theorem wO {c:Operand} {a b:Code}:run X N Q (Bn (.cond c a b)) ks s=GY (AD s.env c) (run X N Q (Bn a) ks s) (run X N Q (Bn b) ks s):=Me
theorem jP {g:Operand} {ps:Array Tmp} {a b:Code}:run X N Q (Bn (.rangeFunc g ps a b)) ks s=run X N Q (.rangeFunc g ps a b) ks s:=nrfl rfl
end
theorem A3 {P:Program} (hmix:P.follows .mixedOrders=true) {l:AV} (hl:Bp P l) (muts:List Nat) (frz:List Nat) {f:FuncId} {fn:Func} {c:Code} (hf:P.funcs[f]?=some fn) (hb:fn.body=some c)
  (hname : (fn.name == "runtime.NumGoroutine") = false) {args : List PV} {N : Nat} (hN : fn.ntmps = N) (hn : args.length ≤ N) {rs : List ResultVar} (hrs : fn.results.toList = rs) (hd : Bq (cfg P l muts frz) c = true) {r : PV}
  (h : AJ args→run (cfg P l muts frz) N (Ai P rs (fun p st=>DRx st p r)) (Bn c) [] ⟨FJ args,st0⟩):VC P f args r :=
 Abw hmix hl muts frz hf hb hname hN hn hrs 0 fun hs=>Dc (AX rfl) hd (by
  have e:stR 0=st0:=by simp[stR,st0]
  rw [e];exact h hs)
theorem Wf {P:Program} (hmix:P.follows .mixedOrders=true) {l:AV} (hl:Bp P l) (muts:List Nat) (frz:List Nat) (n dep:Nat) {f:FuncId} {fn:Func} {c:Code} (hf:P.funcs[f]?=some fn) (hb:fn.body=some c)
  (hname : (fn.name == "runtime.NumGoroutine") = false) {args : List PV} {N : Nat} (hN : fn.ntmps = N) (hn : args.length ≤ N) {rs : List ResultVar} (hrs : fn.results.toList = rs) (hd : Bq (cfg P l muts frz dep) c = true) {r : PV}
  (h : AJ args→run (cfg P l muts frz dep) N (Ai P rs (fun p st=>DRx st p r)) (Bn c) [] ⟨FJ args,⟨fun i=>if i<n then some (.arr 0 1 [])else none,n⟩⟩):VC P f args r :=
 Abw hmix hl muts frz hf hb hname hN hn hrs n (dep:=dep) fun hs=>Dc (AX rfl) hd (h hs)
theorem Cj {P:Program} (hmix:P.follows .mixedOrders=true) {l:AV} (hl:Bp P l) (muts:List Nat) (frz:List Nat) (dep:Nat) {f:FuncId} {fn:Func} {c:Code} (hf:P.funcs[f]?=some fn) (hb:fn.body=some c)
  (hname : (fn.name == "runtime.NumGoroutine") = false) {args : List PV} {N : Nat} (hN : fn.ntmps = N) (hn : args.length ≤ N) {rs : List ResultVar} (hrs : fn.results.toList = rs) (hd : Bq (cfg P l muts frz dep) c = true) {st : Store} {Q : PV → Store → Prop}
  (h : run (cfg P l muts frz dep) N (Ai P rs Q) (Bn c) [] ⟨FJ args,st⟩):IXC P f args st Q :=
 Xg hmix hl muts frz hf hb hname hN hn hrs (dep:=dep) (Dc (AX rfl) hd h)
theorem wP {P:Program} (hmix:P.follows .mixedOrders=true) {l:AV} (hl:Bp P l) (muts:List Nat) (frz:List Nat) (n dep:Nat) {f:FuncId} {fn:Func} {c:Code} (hf:P.funcs[f]?=some fn) (hb:fn.body=some c)
  (hname : (fn.name == "runtime.NumGoroutine") = false) {args : List PV} {N : Nat} (hN : fn.ntmps = N) (hn : args.length ≤ N) {rs : List ResultVar} (hrs : fn.results.toList = rs) (hd : Bq (cfg P l muts frz dep) c = true) {z : Nat} {es : List PV}
  (hs : ∀e∈es,e.scal=true)
  (h : run (cfg P l muts frz dep) N (Ai P rs (fun p st=>(∃id g,p=.ref id g 0 es.length∧st.obj id=some (.arr g z es))∨(es = []∧0<z∧p=.nils))) (Bn c) [] ⟨FJ args,⟨fun i=>if i<n then some (.arr 0 1 [])else none,n⟩⟩):VCA P f args z es :=
 tZ hmix hl muts frz hf hb hname hN hn hrs n (dep:=dep) hs (Dc (AX rfl) hd h)
theorem aQ {X:Cfg} {N:Nat} {Q:IExit→IState→Prop} {ks:List Kf} {s:IState} {all:Array Oper} {l:List Oper} {d:Option Nat} {c:Prop} [Decidable c] {x y:PV×Store}:Bo X N Q all l ks d s (if c then some x else some y)=((c→Bo X N Q all l ks d s (some x))∧(¬c→Bo X N Q all l ks d s (some y))):=by
 by_cases h:c <;> simp[h]
theorem wQ {k:IntKind} {l:List Int} {i:Nat} {n:Int}:(l.map (PV.int k)).set i (PV.int k n)=(l.set i n).map (PV.int k):=by simp
theorem Es {α:Type} {f:α→PV} {l:List α} {i:Nat} (d:α) (h:i<l.length):nth (l.map f) i=f (l.getD i d):=by simp[nth,h]
theorem H9 {α:Type} {f:α→PV} {l:List α} (h:∀x,(f x).pur=true):AU (l.map f)=true:=Kw h
theorem Ia {α:Type} {f:α→PV} {l m:List α} (h:∀x y,f x=f y→x=y):(l.map f=m.map f)=(l=m):=propext ⟨FV h,fun h=>by rw[h]⟩
theorem aR {p:Prop} [Decidable p] {A B:Prop}:BV (.bool (decide p)) true A B=((p→A)∧(¬p→B)):=by simp[BV]
theorem aS {p:Prop} [Decidable p] {A B:Prop}:BV (.bool (decide p)) false A B=((¬p→A)∧(p→B)):=by simp[BV]
theorem wR {p:Prop} [Decidable p] {A B:Prop}:GY (.bool (decide p)) A B=((p→A)∧(¬p→B)):=by simp[GY]
theorem wS {P:Program} {t:TypeId} {x y:Bool}:BR P .eql t (.bool x) (.bool y)=if He P t=true then some (.bool (decide (x=y)))else none:=by rw[Ado];cases x <;> cases y <;> rfl
theorem wT {P:Program} {t:TypeId} {x y:Bool}:BR P .neq t (.bool x) (.bool y)=if He P t=true then some (.bool (decide (¬x=y)))else none:=by rw[Adp];cases x <;> cases y <;> rfl
theorem AG {o o':Option Nat} {ρ:Nat→PV} (h:o=o'):grd o ρ=grd o' ρ:=by rw[h]
theorem At {c c' a b:PV} {st:Store} (h:c=c'):OD c a b st=OD c' a b st:=by rw[h]
theorem jQ {st:Store} {ids:List Nat} {i:Nat}:(st.only ids).obj i=if ids.contains i=true then st.obj i else none:=nrfl rfl
theorem aU {st:Store} {ids:List Nat}:(st.only ids).next=st.next:=nrfl rfl
theorem S6 {st:Store} {ids:List Nat} {i:Nat}:(st.without ids).obj i=if ids.contains i=true then none else st.obj i:=nrfl rfl
theorem Qw {st:Store} {ids:List Nat}:(st.without ids).next=st.next:=nrfl rfl
theorem Wg {p:PV} {l:List PV}:DV (p::l)=idC p++DV l:=nrfl rfl
theorem aV:DV [] = []:=nrfl rfl
theorem wU {i g s n:Nat}:idC (.ref i g s n) = [i]:=nrfl rfl
theorem wV {k:IntKind} {n:Int}:idC (.int k n) = []:=nrfl rfl
theorem jR {b:Bool}:idC (.bool b) = []:=nrfl rfl
theorem wX {b:List UInt8}:idC (.str b) = []:=nrfl rfl
theorem jT:idC .nils = []:=nrfl rfl
theorem jU {z:Nat} {l:List PV}:idC (.lits z l) = []:=nrfl rfl
def idE:PV→List Nat | .ref id _ _ _ => [id] | _ => []
def idL:List PV→List Nat | [] => [] | c::l=>idE c++idL l
theorem wY {cs:List PV}:idC (.agg cs)=idL cs:=by
 induction cs with
 | nil=>rfl
 | cons c l ih=>simp only[idC,List.flatMap_cons]at ih ⊢;rw[ih];cases c <;> rfl
theorem jV {c:PV} {l:List PV}:idL (c::l)=idE c++idL l:=nrfl rfl
theorem wZ:idL [] = []:=nrfl rfl
theorem xA {i g s n:Nat}:idE (.ref i g s n) = [i]:=nrfl rfl
theorem xB {k:IntKind} {n:Int}:idE (.int k n) = []:=nrfl rfl
theorem jW {b:Bool}:idE (.bool b) = []:=nrfl rfl
theorem xC {b:List UInt8}:idE (.str b) = []:=nrfl rfl
theorem jX:idE .nils = []:=nrfl rfl
theorem jZ {z:Nat} {l:List PV}:idE (.lits z l) = []:=nrfl rfl
theorem AI {W W2:List Nat} {ρ0 ρ1 ρ:Nat→PV} (h:(W2.all fun t=>W.contains t)=true):GZ W ρ0 (IL W2 ρ1 ρ)=GZ W ρ0 ρ1:=by
 refine propext ⟨fun g u hu=>?_,fun g u hu=>?_⟩
 all_goals
  have hn:W2.contains u=false:=by
   cases hc:W2.contains u with
   | false=>rfl
   | true =>
    have := List.all_eq_true.1 h u (List.contains_iff_mem.1 hc)
    rw [this]at hu;cases hu
  have e:IL W2 ρ1 ρ u=ρ1 u:=H8 hn
 ·rw [←e];exact g u hu
 ·rw [e];exact g u hu
theorem kA:IntKind.i64.bits=64:=nrfl rfl
theorem kB:IntKind.u64.bits=64:=nrfl rfl
theorem kC:IntKind.u32.bits=32:=nrfl rfl
theorem xD:IntKind.u8.bits=8:=nrfl rfl
def orI (a b:Int):Int:=IntKind.i64.wrap (BitVec.ofInt 64 a ||| BitVec.ofInt 64 b).toNat
theorem Adu {a b:Int}:Cu .or .i64 a b=some (orI a b):=nrfl rfl
end Sim
