/- Operations, shape by shape. -/
import Derived.Test.YtppljhpecoeakaaSimP
set_option linter.unusedVariables false
set_option linter.unusedSimpArgs false
namespace Sim
open Go
theorem Adc {ρ:Nat→PV} {n:Nat}:AG ρ (.tmp n)=ρ n:=nrfl rfl
theorem Ade {ρ:Nat→PV} {k:IntKind} {n:Int}:AG ρ (.const (.int k n))=.int k n:=nrfl rfl
theorem vH {ρ:Nat→PV} {b:Bool}:AG ρ (.const (.bool b))=.bool b:=nrfl rfl
theorem Adf {ρ:Nat→PV} {s:ByteArray}:AG ρ (.const (.string s))=if s.data.toList.length≤9223372036854775807 then .str s.data.toList else .bad:=nrfl rfl
theorem vI {ρ:Nat→PV}:AG ρ (.const (.slice none 0 0))=.nils:=nrfl rfl
theorem vJ {ρ:Nat→PV}:AG ρ (.const (.pointer none))=.nilp:=nrfl rfl
theorem vK {ρ:Nat→PV}:AG ρ (.const .nilFunc)=.nilf:=nrfl rfl
theorem vL {ρ:Nat→PV}:AG ρ (.const .nilIface)=.nili:=nrfl rfl
theorem Adg {ρ:Nat→PV} {cs:Array Value}:AG ρ (.const (.agg cs))=if (cs.toList.map CX).all PV.isCell then .agg (cs.toList.map CX)else .bad:=nrfl rfl
theorem vM {ρ:Nat→PV} {f:FuncId}:AG ρ (.func f)=.func (.func f) [] []:=nrfl rfl
theorem Adh {k:IntKind} {n:Int}:CX (.int k n)=.int k n:=nrfl rfl
theorem vO {b:Bool}:CX (.bool b)=.bool b:=nrfl rfl
theorem vP:CX (.slice none 0 0)=.nils:=nrfl rfl
theorem Adi {s:ByteArray}:CX (.string s)=if s.data.toList.length≤9223372036854775807 then .str s.data.toList else .bad:=nrfl rfl
def grd (o:Option Nat) (ρ:Nat→PV):PV:=match o with | some d=>ρ d | none=>.bad
theorem ZH {ops:Array Oper} {ρ:Nat→PV} {j:Nat}:Dx ops ρ j=grd ((ops[j]?).bind (·.dst)) ρ:=nrfl rfl
theorem iE {d:Nat} {ρ:Nat→PV}:grd (some d) ρ=ρ d:=nrfl rfl
section
variable {X:Cfg} {d:Nat} {ρ:Operand→PV} {st:Store}
theorem iF {x:Operand}:iop X d (.move x) ρ st=some (ρ x,st):=nrfl rfl
theorem VO {x:Operand}:iop X d (.assign x) ρ st=some (ρ x,st):=nrfl rfl
def Ov (c a b:PV) (st:Store):Option (PV×Store):=match c with | .bool v=>some (if v then a else b,st) | _=>none
theorem VP {v:Bool} {a b:PV}:Ov (.bool v) a b st=some (if v=true then a else b,st):=nrfl rfl
theorem VQ {a b:PV}:Ov (.bool true) a b st=some (a,st):=nrfl rfl
theorem SC {a b:PV}:Ov (.bool false) a b st=some (b,st):=nrfl rfl
theorem iG {c a b:Operand}:iop X d (.pick c a b) ρ st=Ov (ρ c) (ρ a) (ρ b) st:=nrfl rfl
theorem ZI {t:TypeId} (h:X.num d=0):iop X d (.alloc t) ρ st=if 0<X.P.cellsOf t∧(AJ X.P t).cells.length=X.P.cellsOf t then some (.ptr st.next 0 0 0,st.new (.arr 0 (X.P.cellsOf t) [AJ X.P t]))else none:=by simp[iop,h]
def Aia (X:Cfg) (d:Nat) (cells:List PV) (p:PV) (st:Store):Option (PV×Store) :=
 if 0<cells.length then (if X.muts d then some (.ptr st.next 0 0 0,st.new (.arr 0 cells.length [p]))else some (.vptr cells 0,st))else none
theorem vQ {t:TypeId} {x:Operand}:iop X d (.box t x) ρ st=Aia X d (ρ x).cells (ρ x) st:=nrfl rfl
theorem vR {cells:List PV} {p:PV}:Aia X d cells p st=if 0<cells.length then (if X.muts d=true then some (.ptr st.next 0 0 0,st.new (.arr 0 cells.length [p]))else some (.vptr cells 0,st))else none:=nrfl rfl
def evp (ρ:Operand→PV):List (Nat×Operand)→List (Nat×PV)
 | [] => []
 | x::l=>(x.1,ρ x.2)::evp ρ l
theorem iH {i:Nat} {x:Operand} {l:List (Nat×Operand)}:evp ρ ((i,x)::l)=(i,ρ x)::evp ρ l:=nrfl rfl
theorem vS:evp ρ [] = []:=nrfl rfl
theorem iI {l:List (Nat×Operand)}:(l.map fun (i,x)=>(i,ρ x))=evp ρ l:=by
 induction l with
 | nil=>rfl
 | cons x l ih=>simp only[List.map_cons,evp,ih]
theorem ZJ {t:TypeId} {parts:List (Nat×Operand)}:iop X d (.build t parts.toArray) ρ st=(Kq X.P t (evp ρ parts)).map fun v=>(v,st):=by rw[←iI];rfl
def Adj (X:Cfg) (d:Nat) (t:TypeId) (len:Nat) (o:Option (List PV)) (st:Store):Option (PV×Store) :=
 if 0<Ae X.P t∧len*Ae X.P t≤16777216 then o.bind fun l=>if X.muts d then (if X.num d=0 then some (.ref st.next 0 0 len,st.new (.arr 0 (Ae X.P t) l))else st.re (X.num d) (Ae X.P t) l len)else some (.lits (Ae X.P t) l,st)else none
theorem Mo {t:TypeId} {len:Nat} {parts:List (Nat×Operand)}:iop X d (.buildSlice t len parts.toArray) ρ st=Adj X d t len (Co (Ae X.P t) (List.replicate len (AJ X.P (BY X.P t))) (evp ρ parts)) st:=by rw[←iI];rfl
theorem vT {t:TypeId} {len:Nat} {l:List PV}:Adj X d t len (some l) st=if 0<Ae X.P t∧len*Ae X.P t≤16777216 then (if X.muts d=true then (if X.num d=0 then some (.ref st.next 0 0 len,st.new (.arr 0 (Ae X.P t) l))else st.re (X.num d) (Ae X.P t) l len)else some (.lits (Ae X.P t) l,st))else none:=by
 simp only[Adj,Option.bind_some]
theorem Adk {ob:Nat→Option IObj} {nx k z n g z0:Nat} {l es:List PV} (h:ob k=some (.arr g z0 es)):Store.re ⟨ob,nx⟩ (k+1) z l n=some (.ref k (g+1) 0 n,Store.set ⟨ob,nx⟩ k (.arr (g+1) z l)):=by simp[Store.re,h]
theorem NO {k id g s n z:Nat} {l:List PV}:Ej k (.ref id g s n) (.lits z l)=(id==k-1):=nrfl rfl
theorem NP {k id g s n:Nat}:Ej k (.ref id g s n) .nils=(id==k-1):=nrfl rfl
theorem iJ {t:TypeId} {x:Operand}:iop X d (.load t x) ρ st=(BC X.P t).bind fun q=>(Dk (X.see d st) q.1 q.2 (ρ x)).map fun v=>(v,st):=nrfl rfl
theorem ZK {t:TypeId} {a x:Operand}:iop X d (.store t a x) ρ st=if (X.frz (800000+Dl a)=true∧N8 st (ρ a) (ρ x)=false)∨(X.frz (900000+Dl a)=true∧N9 (X.num (Dl a)) (ρ a)=false)then none else (EU st (X.P.cellsOf t) (ρ a) (ρ x)).map fun st'=>(.bad,st'):=nrfl rfl
theorem ZL {n:Nat}:Dl (.tmp n)=n:=nrfl rfl
theorem ZM {k id gen i o:Nat}:N9 k (.ptr id gen i o)=(id==k-1):=nrfl rfl
theorem ZN {id gen i o:Nat} {v:PV}:N8 st (.ptr id gen i o) v=(v.isInt1&&match st.arr? id gen with | some q=>decide (q.1≤2)&&q.2.all PV.isInt | none=>false):=nrfl rfl
def Xe (p:PV) (st:Store):Option (PV×Store):=match p with | .vptr c o=>some (.vptr c o,st) | .ptr i g x o=>(st.arr? i g).map fun _=>(.ptr i g x o,st) | _=>none
theorem Qk {x:Operand}:iop X d (.nilCheck x) ρ st=(Xe (ρ x) (X.see d st)).map fun q=>(q.1,st):=by
 simp only[iop];cases ρ x <;> simp[Xe];rfl
theorem VS {c:List PV} {o:Nat}:Xe (.vptr c o) st=some (.vptr c o,st):=nrfl rfl
theorem ZO {i g x o:Nat}:Xe (.ptr i g x o) st=(st.arr? i g).map fun _=>(.ptr i g x o,st):=nrfl rfl
theorem ZP {op:BinOp} {t:TypeId} {x y:Operand} {z:TypeId}:iop X d (.binOp op t x y z) ρ st=(BP X.P op t (ρ x) (ρ y)).map fun v=>(v,st):=nrfl rfl
theorem iK {op:UnOp} {t:TypeId} {x:Operand}:iop X d (.unOp op t x) ρ st=(unP op (ρ x)).map fun v=>(v,st):=nrfl rfl
theorem SD {s t:TypeId} {x:Operand}:iop X d (.convert s t x) ρ st=(N7 X.P s t (ρ x)).map fun v=>(v,st):=nrfl rfl
def evs (ρ:Operand→PV):List Operand→List PV
 | [] => []
 | x::l=>ρ x::evs ρ l
theorem iL {x:Operand} {l:List Operand}:evs ρ (x::l)=ρ x::evs ρ l:=nrfl rfl
theorem vU:evs ρ [] = []:=nrfl rfl
theorem IY {l:List Operand}:l.map ρ=evs ρ l:=by
 induction l with
 | nil=>rfl
 | cons x l ih=>simp only[List.map_cons,evs,ih]
theorem Ql {fn:Fn} {a b:List Operand}:iop X d (.makeFunc fn a.toArray b.toArray) ρ st=some (.func fn (evs ρ a) (evs ρ b),st):=by rw[←IY,←IY];rfl
def SE (X:Cfg) (d:Nat) (t:TypeId) (a b:PV) (st:Store):Option (PV×Store) :=
 match a,b with
 | .int .i64 n,.int .i64 m=>if 0≤n∧n≤m∧m≤4294967296∧0<Ae X.P t then (if X.num d=0 then (if X.frz d=true then some (.lits (Ae X.P t) (List.replicate n.toNat (AJ X.P (BY X.P t))),st)else some (.ref st.next 0 0 n.toNat,st.new (.arr 0 (Ae X.P t) (List.replicate n.toNat (AJ X.P (BY X.P t))))))else st.re (X.num d) (Ae X.P t) (List.replicate n.toNat (AJ X.P (BY X.P t))) n.toNat)else none
 | _,_=>none
theorem NQ {t:TypeId} {l c:Operand}:iop X d (.makeSlice t l c) ρ st=SE X d t (ρ l) (ρ c) st:=by
 simp only[iop,SE]
 cases ρ l <;> try rfl
theorem iM {t:TypeId} {n m:Int} (h:X.num d=0) (hf:X.frz d=false):SE X d t (.int .i64 n) (.int .i64 m) st=if 0≤n∧n≤m∧m≤4294967296∧0<Ae X.P t then some (.ref st.next 0 0 n.toNat,st.new (.arr 0 (Ae X.P t) (List.replicate n.toNat (AJ X.P (BY X.P t)))))else none:=by simp[SE,h,hf]
theorem iN {t:TypeId} {n m:Int} (h:X.num d=0) (hf:X.frz d=true):SE X d t (.int .i64 n) (.int .i64 m) st=if 0≤n∧n≤m∧m≤4294967296∧0<Ae X.P t then some (.lits (Ae X.P t) (List.replicate n.toNat (AJ X.P (BY X.P t))),st)else none:=by simp[SE,h,hf]
theorem vV {t:TypeId} {n m:Int} {k:Nat} (h:X.num d=k+1):SE X d t (.int .i64 n) (.int .i64 m) st=if 0≤n∧n≤m∧m≤4294967296∧0<Ae X.P t then st.re (k+1) (Ae X.P t) (List.replicate n.toNat (AJ X.P (BY X.P t))) n.toNat else none:=by simp[SE,h]
def iO (X:Cfg) (d:Nat) (t:TypeId) (p:PV) (l h:Option (Option Int)) (st:Store):Option (PV×Store) :=
 if X.muts d=true then (match l,h with | none,none=>YM X.P st t p | _,_=>none)else
 match l,h with
 | some none,_ | _,some none=>none
 | l,h=>(Cn (X.see d st) (Ae X.P t) (AT X.P t) (BO X.P t) p (l.bind id) (h.bind id)).map fun v=>(v,st)
theorem ZQ {t:TypeId} {x:Operand} {lo hi:Option Operand}:iop X d (.slice t x lo hi none) ρ st=iO X d t (ρ x) (lo.map fun o=>CZ (ρ o)) (hi.map fun o=>CZ (ρ o)) st:=by
 cases lo <;> cases hi <;> rfl
theorem VT {k:IntKind} {n:Int}:CZ (.int k n)=some n:=nrfl rfl
theorem vW {t:TypeId} {p:PV}:iO X d t p none none st=if X.muts d=true then YM X.P st t p else (Cn (X.see d st) (Ae X.P t) (AT X.P t) (BO X.P t) p none none).map fun v=>(v,st):=nrfl rfl
theorem vX {t:TypeId} {p:PV} {n:Int}:iO X d t p (some (some n)) none st=if X.muts d=true then none else (Cn (X.see d st) (Ae X.P t) (AT X.P t) (BO X.P t) p (some n) none).map fun v=>(v,st):=nrfl rfl
theorem vY {t:TypeId} {p:PV} {m:Int}:iO X d t p none (some (some m)) st=if X.muts d=true then none else (Cn (X.see d st) (Ae X.P t) (AT X.P t) (BO X.P t) p none (some m)).map fun v=>(v,st):=nrfl rfl
theorem vZ {t:TypeId} {p:PV} {n m:Int}:iO X d t p (some (some n)) (some (some m)) st=if X.muts d=true then none else (Cn (X.see d st) (Ae X.P t) (AT X.P t) (BO X.P t) p (some n) (some m)).map fun v=>(v,st):=nrfl rfl
theorem NR {t:TypeId} {x:Operand} {f:Nat}:iop X d (.fieldAddr t x f) ρ st=(Bb X.P t f).bind fun q=>if 0<q.2.1 then (CY (X.see d st) (ρ x) q.1).map fun v=>(v,st)else none:=nrfl rfl
theorem Adl {e:Nat}:X.see e st=if X.frz e=true then⟨fun _=>none,0⟩else if X.frz (600000+e)=true then st.past (X.num e)else if X.frz (700000+e)=true then st.hard else st:=nrfl rfl
theorem wA:st.hard=⟨fun i=>(st.obj i).bind fun o=>if GL o=true then none else some o,st.next⟩:=nrfl rfl
theorem iP {g z:Nat} {es:List PV}:GL (.arr g z es)=(decide (z≤2)&&es.all PV.isInt):=nrfl rfl
theorem VU {k:IntKind} {n:Int}:PV.isInt1 (.int k n)=true:=nrfl rfl
theorem VV {i g s n:Nat}:PV.isInt1 (.ref i g s n)=false:=nrfl rfl
theorem ZR {i g s n:Nat}:PV.isInt (.ref i g s n)=false:=nrfl rfl
theorem ZS {cs:List PV}:PV.isInt (.agg cs)=cs.all PV.isInt1:=nrfl rfl
theorem ZT {id gen s n z:Nat} {l:List PV}:LU st (.ref id gen s n) (.lits z l)=(l.all PV.isInt&&match st.arr? id gen with | some q=>decide (q.1≤2)&&q.2.all PV.isInt | none=>false):=nrfl rfl
theorem ZU {k:IntKind} {n:Int}:PV.isInt (.int k n)=true:=nrfl rfl
theorem iQ {l:List Int} {k:IntKind}:(l.map (PV.int k)).all PV.isInt=true:=by simp[PV.isInt]
theorem ZV {x:Operand} {m:String} {as:List Operand} {ts:List TypeId}:iop X d (.call ⟨.invoke x m,as.toArray,ts.toArray⟩) ρ st=(eJ X.P st (ρ x) m).bind fun q=>DD X d (.func (.func q.1) [q.2] []) (PJ X d ts) (evs ρ as) st:=by rw[←IY];rfl
theorem VW {P:Program} {t:TypeId} {v:PV} {m:String}:eJ P st (.iface t v) m=(Jp P t m).bind fun q=>if q.2.1=true then some (q.1,v)else (BC P q.2.2).bind fun r=>(Dk st r.1 r.2 v).map fun r=>(q.1,r):=nrfl rfl
def KC (P:Program) (t:TypeId):Bool := !Jm P t&&(P.underlying t).isSome
theorem JG {t:TypeId} {x:Operand} (h:KC X.P t=true):iop X d (.makeInterface t x) ρ st=some (.iface t (ρ x),st):=by
 simp only[KC,Bool.and_eq_true,Bool.not_eq_true']at h
 simp only[iop,h,and_self,if_true]
def asT (t:TypeId) (p:PV) (st:Store):Option (PV×Store):=match p with | .iface t' v=>if t'=t then some (v,st)else none | _=>none
theorem Mp {x:Operand} {xt t:TypeId} (h:KC X.P t=true):iop X d (.typeAssert x xt t false) ρ st=asT t (ρ x) st:=by
 simp only[KC,Bool.and_eq_true,Bool.not_eq_true']at h
 simp only[iop,h,and_true,asT]
 cases ρ x <;> rfl
theorem iR {t:TypeId} {v:PV}:asT t (.iface t v) st=some (v,st):=by simp[asT]
theorem wB {k:Nat}:st.past k=⟨fun i=>if i<k then none else st.obj i,st.next⟩:=nrfl rfl
def Aib (X:Cfg) (t:TypeId) (p:PV) (f:Nat) (st:Store):Option (PV×Store):=match p with | .agg cs=>(Bb X.P t f).bind fun (o,_,u)=>(BC X.P u).bind fun (z,ag)=>(CG cs o z ag).map fun v=>(v,st) | _=>none
theorem ZW {t:TypeId} {x:Operand} {f:Nat}:iop X d (.field t x f) ρ st=Aib X t (ρ x) f st:=nrfl rfl
theorem iT {t:TypeId} {cs:List PV} {f:Nat}:Aib X t (.agg cs) f st=(Bb X.P t f).bind fun q=>(BC X.P q.2.2).bind fun r=>(CG cs q.1 r.1 r.2).map fun v=>(v,st):=nrfl rfl
def Aic (X:Cfg) (d:Nat) (t:TypeId) (p i:PV) (st:Store):Option (PV×Store):=match i with | .int _ n=>(Cu X.P (X.see d st) t p n).map fun v=>(v,st) | _=>none
theorem NS {t:TypeId} {x i:Operand}:iop X d (.indexAddr t x i) ρ st=Aic X d t (ρ x) (ρ i) st:=nrfl rfl
theorem iU {t:TypeId} {p:PV} {k:IntKind} {n:Int}:Aic X d t p (.int k n) st=(Cu X.P (X.see d st) t p n).map fun v=>(v,st):=nrfl rfl
def Aid (X:Cfg) (t:TypeId) (p i:PV) (st:Store):Option (PV×Store):=match i with | .int _ n=>(II X.P t p n).map fun v=>(v,st) | _=>none
theorem ZX {t:TypeId} {x i:Operand}:iop X d (.index t x i) ρ st=Aid X t (ρ x) (ρ i) st:=nrfl rfl
theorem iV {t:TypeId} {p:PV} {k:IntKind} {n:Int}:Aid X t p (.int k n) st=(II X.P t p n).map fun v=>(v,st):=nrfl rfl
def Aie (p:PV) (i:Nat) (st:Store):Option (PV×Store):=match p with | .tuple vs=>(vs[i]?).map fun v=>(v,st) | _=>none
theorem SF {x:Operand} {i:Nat}:iop X d (.extract x i) ρ st=Aie (ρ x) i st:=nrfl rfl
theorem VX {vs:List PV} {i:Nat}:Aie (.tuple vs) i st=(vs[i]?).map fun v=>(v,st):=nrfl rfl
theorem KD {f:Operand} {as:List Operand} {ts:List TypeId}:iop X d (.call ⟨.value f,as.toArray,ts.toArray⟩) ρ st=DD X d (ρ f) (PJ X d ts) (evs ρ as) st:=by rw[←IY];rfl
theorem ZY {b:Builtin} {as:List Operand} {ts:List TypeId}:iop X d (.call ⟨.builtin b,as.toArray,ts.toArray⟩) ρ st=Bg X d b ts (evs ρ as) st:=by rw[←IY];rfl
def Adm (X:Cfg) (f:Nat) (l:List PV) (st:Store):Option (PV×Store):=(B3 (st.only (DP l)) l).bind fun as=>X.tab f as (st.without (DP l))
def Adn (X:Cfg) (f:Nat) (l:List PV) (st:Store):Option (PV×Store):=(B3 (st.only (DP l)) l).bind fun as=>X.tab f as (st.seal (DP l))
def Ado (X:Cfg) (f k:Nat) (l:List PV) (st:Store):Option (PV×Store):=if (DP l).all (fun i=>i==k)=true then (B3 (st.only [k]) l).bind fun as=>X.tab f as (st.again k)else none
theorem iW {f:Nat} {a b:List PV} {ts:List TypeId} {args:List PV}:DD X d (.func (.func f) a b) ts args st=if X.frz d=true then (if X.num d=0 then Adm X f (a++nrmAll X.P ts args++b) st else if X.muts d=true then Ado X f (X.num d-1) (a++nrmAll X.P ts args++b) st else Adn X f (a++nrmAll X.P ts args++b) st)else if X.muts d=true∧(AU (a++nrmAll X.P ts args++b)=false∨(X.frz (1200000+d)=true∧X.quiet f=false))then none else X.tab f (a++nrmAll X.P ts args++b) st:=by
 simp only[DD,Adm,Adn,Ado]
 by_cases h1:X.frz d=true <;> by_cases h2:X.num d=0 <;> by_cases h3:X.muts d=true <;> simp[h1,h2,h3]
theorem wC {ts:List TypeId}:PJ X d ts=if X.frz (400000+d)=true then []else ts:=nrfl rfl
theorem SG {P:Program} {t:TypeId} {ts:List TypeId} {p:PV} {l:List PV}:nrmAll P (t::ts) (p::l)=nrm (Bz P t) p::nrmAll P ts l:=nrfl rfl
theorem VY {P:Program} {l:List PV}:nrmAll P [] l=l:=by simp[nrmAll]
def ZZ (st:Store) (q:Option (MK×PV)) (L:Option Int) (x:PV):Option Int:=match q with | some q=>Hb st (some q) x | none=>L
theorem Adp {t:TypeId} {x:PV}:Bg X d .len [t] [x] st=(ZZ st (AZ X.P t) (Jn (X.see d st) (Ae X.P t) (AT X.P t) x) x).map fun n=>(.int .i64 n,st):=by simp only[Bg,ZZ];cases AZ X.P t <;> rfl
theorem Z0 {L:Option Int} {x:PV}:ZZ st none L x=L:=nrfl rfl
theorem wE {t u:TypeId} {x y:PV}:Bg X d .copy [t,u] [x,y] st=(Rw st (Ae X.P t) x y).map fun q=>(.int .i64 q.1,q.2):=nrfl rfl
theorem Z1 {t u:TypeId} {x y:PV} (h:X.num d=0):Bg X d .append [t,u] [x,y] st=if Ae X.P u≠0∨AT X.P u=true then (if X.frz (700000+d)=true∧LU st x y=false then none else (Cm st (Ae X.P t) y).bind fun ys=>Ct st (Ae X.P t) x ys)else none:=by
 simp only[Bg,h]
 by_cases h1:Ae X.P u≠0∨AT X.P u=true <;> by_cases h2:X.frz (700000+d)=true <;> cases h3:LU st x y <;> simp[h1,h2]
theorem Qm {t u:TypeId} {x y:PV} {k:Nat} (h:X.num d=k+1):Bg X d .append [t,u] [x,y] st=if Ej (k+1) x y=true then (if Ae X.P u≠0∨AT X.P u=true then (if X.frz (700000+d)=true then none else (Cm st (Ae X.P t) y).bind fun ys=>Ct st (Ae X.P t) x ys)else none)else none:=by
 simp only[Bg,h]
 by_cases h1:Ej (k+1) x y=true <;> by_cases h2:Ae X.P u≠0∨AT X.P u=true <;> by_cases h3:X.frz (700000+d)=true <;> simp[h1,h2,h3]
theorem Adq {ts:List TypeId} {x y:Int} {k:IntKind}:Bg X d .min ts [.int k x,.int k y] st=some (.int k (if y<x then y else x),st):=by
 cases ts with
 | nil=>simp[Bg,Fm]
 | cons t ts=>cases ts <;> simp[Bg,Fm]
theorem Adr {ts:List TypeId} {x y:Int} {k:IntKind}:Bg X d .max ts [.int k x,.int k y] st=some (.int k (if x<y then y else x),st):=by
 cases ts with
 | nil=>simp[Bg,Fm]
 | cons t ts=>cases ts <;> simp[Bg,Fm]
end
theorem wF {m:List (Nat×Nat)} {cs:List PV}:nrm m (.agg cs)=.agg (Jo m 0 cs):=nrfl rfl
theorem Z2 {m:List (Nat×Nat)} {i:Nat} {c:PV} {l:List PV}:Jo m i (c::l)=nrm1 (m.lookup i) c::Jo m (i+1) l:=nrfl rfl
theorem iX {m:List (Nat×Nat)} {i:Nat}:Jo m i [] = []:=nrfl rfl
theorem iZ {m:List (Nat×Nat)}:nrm m .nils=nrm1 (m.lookup 0) .nils:=nrfl rfl
theorem Z3 {z:Nat}:nrm1 (some z) .nils=.lits z []:=nrfl rfl
theorem Z4:nrm1 none .nils=.nils:=nrfl rfl
theorem wG {p:PV}:nrm1 none p=p:=by cases p <;> rfl
theorem Ads {p:PV}:nrm [] p=p:=by
 cases p <;> try rfl
 rename_i cs
 simp only[nrm,PV.agg.injEq]
 have : ∀(l:List PV) (i:Nat),Jo [] i l=l:=by
  intro l;induction l with
  | nil=>intro i;rfl
  | cons c l ih=>intro i;simp only[Jo,ih,List.lookup_nil,wG]
 exact this cs 0
theorem wH {m:List (Nat×Nat)} {k:IntKind} {n:Int}:nrm m (.int k n)=.int k n:=nrfl rfl
theorem wI {m:List (Nat×Nat)} {s:List UInt8}:nrm m (.str s)=.str s:=nrfl rfl
theorem jA {m:List (Nat×Nat)} {b:Bool}:nrm m (.bool b)=.bool b:=nrfl rfl
theorem jB {m:List (Nat×Nat)} {z:Nat} {l:List PV}:nrm m (.lits z l)=.lits z l:=nrfl rfl
theorem wJ {m:List (Nat×Nat)} {i g s n:Nat}:nrm m (.ref i g s n)=.ref i g s n:=nrfl rfl
theorem jC {m:List (Nat×Nat)} {f:Fn} {a b:List PV}:nrm m (.func f a b)=.func f a b:=nrfl rfl
theorem jD {m:List (Nat×Nat)} {cs:List PV} {o:Nat}:nrm m (.vptr cs o)=.vptr cs o:=nrfl rfl
theorem wK {m:List (Nat×Nat)} {i g x o:Nat}:nrm m (.ptr i g x o)=.ptr i g x o:=nrfl rfl
theorem jE {m:Option Nat} {k:IntKind} {n:Int}:nrm1 m (.int k n)=.int k n:=nrfl rfl
theorem jF {m:Option Nat} {s:List UInt8}:nrm1 m (.str s)=.str s:=nrfl rfl
theorem Z5 {m:Option Nat} {b:Bool}:nrm1 m (.bool b)=.bool b:=nrfl rfl
theorem Z6 {m:Option Nat} {z:Nat} {l:List PV}:nrm1 m (.lits z l)=.lits z l:=nrfl rfl
theorem jG {m:Option Nat} {i g s n:Nat}:nrm1 m (.ref i g s n)=.ref i g s n:=nrfl rfl
section
variable {st:Store}
def Adt (o:Option IObj) (gen:Nat):Option (Nat×List PV):=match o with | some (.arr g z es)=>if gen=g then some (z,es)else none | _=>none
theorem Adu {id g:Nat}:st.arr? id g=Adt (st.obj id) g:=nrfl rfl
theorem Z7 {g h z:Nat} {es:List PV}:Adt (some (.arr h z es)) g=if g=h then some (z,es)else none:=nrfl rfl
theorem wL {cells:List PV} {off sz:Nat}:CG cells off sz false=cells[off]?:=nrfl rfl
theorem wM {cells:List PV} {off sz:Nat}:CG cells off sz true=if off+sz≤cells.length then some (.agg ((cells.drop off).take sz))else none:=nrfl rfl
theorem VZ {sz off:Nat} {ag:Bool} {cells:List PV}:Dk st sz ag (.vptr cells off)=CG cells off sz ag:=nrfl rfl
theorem Z8 {sz off id gen idx:Nat} {ag:Bool}:Dk st sz ag (.ptr id gen idx off)=(st.arr? id gen).bind fun q=>CG (nth q.2 idx).cells off sz ag:=nrfl rfl
theorem Qn {cs vs:List PV} {o:Nat}:Ba (.agg cs) o vs=.agg (Dw cs o vs):=nrfl rfl
theorem Qo {k:IntKind} {n:Int} {v:PV} {o:Nat}:Ba (.int k n) o [v]=v:=nrfl rfl
theorem NT {b:Bool} {v:PV} {o:Nat}:Ba (.bool b) o [v]=v:=nrfl rfl
theorem NU {v:PV} {o:Nat}:Ba .nils o [v]=v:=nrfl rfl
theorem Qp {i g s n:Nat} {v:PV} {o:Nat}:Ba (.ref i g s n) o [v]=v:=nrfl rfl
theorem V0 {sz id gen idx off:Nat} {v:PV}:EU st sz (.ptr id gen idx off) v=(st.arr? id gen).bind fun q=>if v.cells.length=sz∧0<sz∧idx<q.2.length∧off+sz≤q.1 then some (st.set id (.arr gen q.1 (q.2.set idx (Ba (nth q.2 idx) off v.cells))))else none:=nrfl rfl
theorem SH {cells:List PV} {off o:Nat}:CY st (.vptr cells off) o=some (.vptr cells (off+o)):=nrfl rfl
theorem V1 {id gen idx off o:Nat}:CY st (.ptr id gen idx off) o=(st.arr? id gen).map fun _=>.ptr id gen idx (off+o):=nrfl rfl
variable {P:Program} {t:TypeId} {i:Int}
theorem SJ {z:Nat} {l:List PV}:Cu P st t (.lits z l) i=if 0≤i∧i<l.length∧z=Ae P t∧0<z then some (.vptr (nth l i.toNat).cells 0)else none:=nrfl rfl
theorem V2 {id gen s n:Nat}:Cu P st t (.ref id gen s n) i=(st.arr? id gen).bind fun q=>if 0≤i∧i<n∧s+n≤q.2.length∧q.1=Ae P t then some (.ptr id gen (s+i.toNat) 0)else none:=nrfl rfl
theorem SK {cells:List PV} {off:Nat}:Cu P st t (.vptr cells off) i=(BO P t).bind fun q=>if 0≤i∧i<q.1∧0<q.2 then some (.vptr cells (off+i.toNat*q.2))else none:=nrfl rfl
theorem V3 {id gen idx off:Nat}:Cu P st t (.ptr id gen idx off) i=(st.arr? id gen).bind fun _=>(BO P t).bind fun q=>if 0≤i∧i<q.1∧0<q.2 then some (.ptr id gen idx (off+i.toNat*q.2))else none:=nrfl rfl
theorem V4 {s:List UInt8}:II P t (.str s) i=if 0≤i∧i<s.length∧AT P t=true then some (.int .u8 (s.getD i.toNat 0).toNat)else none:=nrfl rfl
theorem V5 {cs:List PV}:II P t (.agg cs) i=(Kp P t).bind fun q=>(BC P q.2).bind fun r=>if 0≤i∧i<q.1 then CG cs (i.toNat*r.1) r.1 r.2 else none:=nrfl rfl
variable {z:Nat} {sb:Bool}
theorem Z9:Jn st z sb .nils=if 0<z then some 0 else none:=nrfl rfl
theorem aA {y:Nat} {l:List PV}:Jn st z sb (.lits y l)=if 0<z then some (l.length:Int)else none:=nrfl rfl
theorem jH {id g s n:Nat}:Jn st z sb (.ref id g s n)=(st.arr? id g).bind fun _=>if 0<z then some (n:Int)else none:=nrfl rfl
theorem jI {s:List UInt8}:Jn st z sb (.str s)=if sb=true then some (s.length:Int)else none:=nrfl rfl
theorem SL:Cm st z .nils=some []:=nrfl rfl
theorem SM {y:Nat} {l:List PV}:Cm st z (.lits y l)=if y=z then some l else none:=nrfl rfl
theorem V6 {id gen s n:Nat}:Cm st z (.ref id gen s n)=(st.arr? id gen).bind fun q=>if s+n≤q.2.length∧q.1=z then some ((q.2.drop s).take n)else none:=nrfl rfl
theorem V7 {s:List UInt8}:Cm st z (.str s)=if z=1 then some (s.map fun b=>.int .u8 b.toNat)else none:=nrfl rfl
theorem SN {lo hi:Option Int} {ar:Option (Nat×Nat)}:Cn st z sb ar .nils lo hi=if lo.getD 0=0∧hi.getD 0=0∧0<z then some .nils else none:=nrfl rfl
theorem SP {y:Nat} {l:List PV} {lo hi:Option Int} {ar:Option (Nat×Nat)}:Cn st z sb ar (.lits y l) lo hi=if 0≤lo.getD 0∧lo.getD 0≤hi.getD l.length∧hi.getD l.length≤l.length∧y=z∧0<z then some (.lits z ((l.drop (lo.getD 0).toNat).take ((hi.getD l.length).toNat-(lo.getD 0).toNat)))else none:=nrfl rfl
theorem V8 {id gen s n:Nat} {lo hi:Option Int} {ar:Option (Nat×Nat)}:Cn st z sb ar (.ref id gen s n) lo hi=(st.arr? id gen).bind fun q=>if 0≤lo.getD 0∧lo.getD 0≤hi.getD n∧hi.getD n≤(q.2.length:Int)-s∧s≤q.2.length∧q.1=z then some (.ref id gen (s+(lo.getD 0).toNat) ((hi.getD n).toNat-(lo.getD 0).toNat))else none:=nrfl rfl
theorem SQ {cs:List PV} {off:Nat} {lo hi:Option Int} {ar:Option (Nat×Nat)}:Cn st z sb ar (.vptr cs off) lo hi=ar.bind fun a=>if a.2=1∧lo=none∧hi=none∧off+a.1≤cs.length∧0<a.1∧a.1≤65536 then some (.lits 1 ((cs.drop off).take a.1))else none:=nrfl rfl
theorem jJ {P:Program} {t:TypeId} {id gen idx off:Nat}:YM P st t (.ptr id gen idx off)=(st.arr? id gen).bind fun q=>(BO P t).bind fun a=>if a.2=1∧idx<q.2.length∧AU q.2=true∧off+a.1≤(nth q.2 idx).cells.length∧0<a.1∧a.1≤65536 then some (.lits 1 (((nth q.2 idx).cells.drop off).take a.1),st.without [id])else none:=nrfl rfl
theorem V9 {s:List UInt8} {lo hi:Option Int} {ar:Option (Nat×Nat)}:Cn st z sb ar (.str s) lo hi=if 0≤lo.getD 0∧lo.getD 0≤hi.getD s.length∧hi.getD s.length≤s.length∧sb=true then some (.str ((s.drop (lo.getD 0).toNat).take ((hi.getD s.length).toNat-(lo.getD 0).toNat)))else none:=nrfl rfl
theorem Qq {ys:List PV}:Ct st z .nils ys=if 0<z∧ys.length≤2147483648 then (if ys.length=0 then some (.nils,st)else some (.ref st.next 0 0 ys.length,st.new (.arr 0 z ys)))else none:=nrfl rfl
theorem SR {id gen s n:Nat} {ys:List PV}:Ct st z (.ref id gen s n) ys=(st.arr? id gen).bind fun q =>
   if s+n≤q.2.length∧q.1=z∧n+ys.length≤2147483648 then
    if s+n+ys.length≤q.2.length then
     some (.ref id gen s (n+ys.length),st.set id (.arr gen z (q.2.take (s+n)++ys++q.2.drop (s+n+ys.length))))
    else some (.ref id (gen+1) 0 (n+ys.length),st.set id (.arr (gen+1) z ((q.2.drop s).take n++ys)))
   else none:=rfl
end
section
variable {P:Program} {t:TypeId} {k k':IntKind} {a b:Int}
theorem Aif:BP P .add t (.int k a) (.int k b)=some (.int k (k.wrap (a+b))):=by simp[BP,GX,GV]
theorem Aig:BP P .sub t (.int k a) (.int k b)=some (.int k (k.wrap (a-b))):=by simp[BP,GX,GV]
theorem Aih:BP P .mul t (.int k a) (.int k b)=some (.int k (k.wrap (a*b))):=by simp[BP,GX,GV]
theorem Aii:BP P .quo t (.int k a) (.int k b)=if b=0 then none else some (.int k (k.wrap (a.tdiv b))):=by simp[BP,GX,GV]
theorem Aij:BP P .rem t (.int k a) (.int k b)=if b=0 then none else some (.int k (a.tmod b)):=by simp[BP,GX,GV]
theorem Aik:BP P .and t (.int k a) (.int k b)=(Cv .and k a b).map (.int k):=by simp[BP,GX,GV]
theorem Aj8:BP P .or t (.int k a) (.int k b)=(Cv .or k a b).map (.int k):=by simp[BP,GX,GV]
theorem Ail:BP P .xor t (.int k a) (.int k b)=(Cv .xor k a b).map (.int k):=by simp[BP,GX,GV]
theorem jK:BP P .andNot t (.int k a) (.int k b)=(Cv .andNot k a b).map (.int k):=by simp[BP,GX,GV]
theorem Aim:BP P .eql t (.int k a) (.int k b)=some (.bool (decide (a=b))):=by simp[BP,GX,GV]
theorem Ain:BP P .neq t (.int k a) (.int k b)=some (.bool (decide (¬a=b))):=by simp[BP,GX,GV]
theorem Aio:BP P .lss t (.int k a) (.int k b)=some (.bool (decide (a<b))):=by simp[BP,GX,GV]
theorem Aip:BP P .leq t (.int k a) (.int k b)=some (.bool (decide (a≤b))):=by simp[BP,GX,GV]
theorem Aiq:BP P .gtr t (.int k a) (.int k b)=some (.bool (decide (b<a))):=by simp[BP,GX,GV]
theorem Air:BP P .geq t (.int k a) (.int k b)=some (.bool (decide (b≤a))):=by simp[BP,GX,GV]
theorem Ais:BP P .shl t (.int k a) (.int k' b)=if b<0 then none else some (.int k (k.wrap (a*2 ^ (min b.toNat k.bits)))):=nrfl rfl
theorem Ait:BP P .shr t (.int k a) (.int k' b)=if b<0 then none else some (.int k (a.fdiv (2 ^ (min b.toNat k.bits)))):=nrfl rfl
variable {s u:List UInt8}
theorem Adv:BP P .add t (.str s) (.str u)=if s.length+u.length≤2147483648 then some (.str (s++u))else none:=nrfl rfl
theorem Adw:BP P .eql t (.str s) (.str u)=some (.bool (decide (s=u))):=nrfl rfl
theorem Adx:BP P .neq t (.str s) (.str u)=some (.bool (decide (¬s=u))):=nrfl rfl
theorem Ady:BP P .lss t (.str s) (.str u)=some (.bool (Op.bytesLess s u)):=nrfl rfl
theorem Adz:BP P .leq t (.str s) (.str u)=some (.bool (Op.bytesLess s u||decide (s=u))):=nrfl rfl
theorem Ad0:BP P .gtr t (.str s) (.str u)=some (.bool !(Op.bytesLess s u||decide (s=u))):=nrfl rfl
theorem Ad1:BP P .geq t (.str s) (.str u)=some (.bool !(Op.bytesLess s u)):=nrfl rfl
variable {x y:Bool}
theorem Ad2:BP P .eql t (.bool x) (.bool y)=if Ha P t=true then some (.bool (x==y))else none:=nrfl rfl
theorem Ad3:BP P .neq t (.bool x) (.bool y)=if Ha P t=true then some (.bool (!(x==y)))else none:=nrfl rfl
theorem Aiu:unP .neg (.int k a)=some (.int k (k.wrap (0-a))):=nrfl rfl
theorem Aiv:unP .not (.bool x)=some (.bool (!x)):=nrfl rfl
theorem Ad4 {src dst:TypeId}:N7 P src dst (.int k a)=(Fl P dst).bind fun k=>(Fl P src).bind fun _=>some (.int k (k.wrap a)):=nrfl rfl
theorem Ad5 {src dst:TypeId}:N7 P src dst (.str s)=if AT P src=true∧AT P dst=true then some (.str s)else none:=nrfl rfl
end
theorem jL {place:Nat→Option (Nat×Nat)} {cells:List PV}:EW place cells []=some cells:=nrfl rfl
def jM (place:Nat→Option (Nat×Nat)) (cells vs:List PV) (rest:List (Nat×PV)) (o:Option (Nat×Nat)):Option (List PV) :=
 match o with | none=>none | some q=>if vs.length=q.2∧q.1+q.2≤cells.length∧0<q.2 then EW place (Dw cells q.1 vs) rest else none
theorem aB {place:Nat→Option (Nat×Nat)} {cells:List PV} {i:Nat} {v:PV} {rest:List (Nat×PV)}:EW place cells ((i,v)::rest)=jM place cells v.cells rest (place i):=by
 simp only[EW,jM];cases place i <;> rfl
theorem Wa {place:Nat→Option (Nat×Nat)} {cells vs:List PV} {rest:List (Nat×PV)} {q:Nat×Nat}:jM place cells vs rest (some q)=if vs.length=q.2∧q.1+q.2≤cells.length∧0<q.2 then EW place (Dw cells q.1 vs) rest else none:=nrfl rfl
def wO (P:Program) (t:TypeId) (cells:List PV) (parts:List (Nat×PV)) (o:Option (Nat×Nat)):Option PV :=
 match o with
 | some q=>(EW (fun i=>some (i*q.2,q.2)) cells parts).map .agg
 | none=>(EW (fun i=>(Bb P t i).map fun q=>(q.1,q.2.1)) cells parts).map .agg
theorem aC {P:Program} {t:TypeId} {parts:List (Nat×PV)}:Kq P t parts=if Ce P t=true then wO P t (AJ P t).cells parts (BO P t)else none:=by
 simp only[Kq,wO];cases BO P t <;> rfl
theorem aD {P:Program} {t:TypeId} {cells:List PV} {parts:List (Nat×PV)}:wO P t cells parts none=(EW (fun i=>(Bb P t i).map fun q=>(q.1,q.2.1)) cells parts).map .agg:=nrfl rfl
theorem aE {P:Program} {t:TypeId} {cells:List PV} {parts:List (Nat×PV)} {q:Nat×Nat}:wO P t cells parts (some q)=(EW (fun i=>some (i*q.2,q.2)) cells parts).map .agg:=nrfl rfl
theorem wP {z:Nat} {l:List PV}:Co z l []=some l:=nrfl rfl
theorem jN {z i:Nat} {l:List PV} {v:PV} {rest:List (Nat×PV)}:Co z l ((i,v)::rest)=if i<l.length∧v.cells.length=z then Co z (l.set i v) rest else none:=nrfl rfl
theorem aG {cells vs:List PV} {off:Nat}:Dw cells off vs=cells.take off++vs++cells.drop (off+vs.length):=nrfl rfl
theorem wQ {args:List PV} {t:Nat}:FC args t=args.getD t .bad:=nrfl rfl
def jO:Option (List PV)→Option PV
 | some [p]=>some p
 | some ps=>some (.tuple ps)
 | none=>none
theorem wR {P:Program} {rs:List ResultVar} {s:IState}:Qd P rs s=jO (Ds P s rs):=by
 unfold Qd;cases Ds P s rs with
 | none=>rfl
 | some l=>cases l with
  | nil=>rfl
  | cons a l=>cases l <;> rfl
theorem wS {p:PV}:jO (some [p])=some p:=nrfl rfl
theorem wT {p q:PV} {l:List PV}:jO (some (p::q::l))=some (.tuple (p::q::l)):=nrfl rfl
theorem SS {P:Program} {s:IState}:Ds P s []=some []:=nrfl rfl
theorem Qr {P:Program} {s:IState} {r:ResultVar} {l:List ResultVar}:Ds P s (r::l)=(Gs P s r).bind fun p=>(Ds P s l).map fun ps=>p::ps:=nrfl rfl
theorem ST {P:Program} {s:IState} {t:Nat}:Gs P s (.tmp t)=some (s.env t):=nrfl rfl
theorem Qs {P:Program} {s:IState} {a:Nat} {t:TypeId}:Gs P s (.cell a t)=(BC P t).bind fun q=>Dk s.st q.1 q.2 (s.env a):=nrfl rfl
theorem Au {α β:Type} {x y:Option α} {f:α→Option β} (h:x=y):x.bind f=y.bind f:=by rw[h]
theorem AA {α β:Type} {x y:Option α} {f:α→β} (h:x=y):x.map f=y.map f:=by rw[h]
theorem wU {X:Cfg} {f k:Nat} {l:List PV} {st:Store}:Ado X f k l st=if (DP l).all (fun i=>i==k)=true then (B3 (st.only [k]) l).bind fun as=>X.tab f as (st.again k)else none:=nrfl rfl
theorem jP {ob:Nat→Option IObj} {n k:Nat}:Store.again ⟨ob,n⟩ k=⟨Aa ob k ((ob k).bind Cp),n⟩:=nrfl rfl
theorem wV {X:Cfg} {f:Nat} {l:List PV} {st:Store}:Adn X f l st=(B3 (st.only (DP l)) l).bind fun as=>X.tab f as (st.seal (DP l)):=nrfl rfl
theorem jQ {st:Store} {ids:List Nat} {i:Nat}:(st.seal ids).obj i=if ids.contains i=true then (st.obj i).bind Cp else (st.obj i).map (Ry (st.only ids)):=nrfl rfl
theorem aH {st:Store} {ids:List Nat}:(st.seal ids).next=st.next:=nrfl rfl
theorem Wb {g z:Nat} {es:List PV}:Cp (.arr g z es)=some (.arr (g+1) z []):=nrfl rfl
theorem aI {st:Store} {g z:Nat} {es:List PV}:Ry st (.arr g z es)=.arr g z (es.map (K8 st)):=nrfl rfl
theorem aJ {st:Store} {cs:List PV}:K8 st (.agg cs)=.agg (cs.map (sealC st)):=nrfl rfl
theorem aK {st:Store} {k:IntKind} {n:Int}:K8 st (.int k n)=.int k n:=nrfl rfl
theorem aM {st:Store} {k:IntKind} {n:Int}:sealC st (.int k n)=.int k n:=nrfl rfl
theorem Wc {st:Store} {b:Bool}:sealC st (.bool b)=.bool b:=nrfl rfl
theorem Wd {st:Store} {z:Nat} {l:List PV}:sealC st (.lits z l)=.lits z l:=nrfl rfl
theorem We {st:Store}:sealC st .nils=.nils:=nrfl rfl
theorem aN {st:Store} {id g s n:Nat}:sealC st (.ref id g s n)=((st.arr? id g).bind fun q=>if s+n≤q.2.length∧AU q.2=true then some (.lits q.1 ((q.2.drop s).take n))else none).getD (.ref id g s n):=nrfl rfl
theorem wX {X:Cfg} {f:Nat} {l:List PV} {st:Store}:Adm X f l st=(B3 (st.only (DP l)) l).bind fun as=>X.tab f as (st.without (DP l)):=nrfl rfl
theorem Wf {st:Store} {c:PV} {l:List PV}:B3 st (c::l)=(rdP st c).bind fun d=>(B3 st l).map fun ds=>d::ds:=by simp only[B3]
theorem aQ {st:Store}:B3 st []=some []:=by simp only[B3]
theorem jR {st:Store} {c:PV} {l:List PV}:rdL st (c::l)=(rdC st c).bind fun d=>(rdL st l).map fun ds=>d::ds:=by simp only[rdL]
theorem wY {st:Store}:rdL st []=some []:=by simp only[rdL]
theorem wZ {spec:List PV→Option PV} {args:List PV} {st:Store}:Zk spec args st=if AU args=true then (spec args).map fun r=>(r,st)else (B3 st args).bind fun as=>(spec as).bind fun r=>if r.scal=true then some (r,st)else none:=nrfl rfl
theorem Dy {c:PV} {l:List PV}:AU (c::l)=(c.pur&&AU l):=by simp only[AU]
theorem FP:AU []=true:=by simp only[AU]
end Sim
namespace Sim
open Go
def Bm:Code→Code
 | .region id ops _=>.region id ops false
 | .seq a b=>.seq (Bm a) (Bm b)
 | .cond c a b=>.cond c (Bm a) (Bm b)
 | .block id c=>.block id (Bm c)
 | .loop c=>.loop (Bm c)
 | .scope c=>.scope (Bm c)
 | c=>c
def Bp (X:Cfg):Code→Bool
 | .region _ ops dr => !dr||IT X ops
 | .seq a b=>Bp X a&&Bp X b
 | .cond _ a b=>Bp X a&&Bp X b
 | .block _ c=>Bp X c
 | .loop c=>Bp X c
 | .scope c=>Bp X c
 | _=>true
theorem E9 {G:WP} (hG:G.Mono) {X:Cfg} (hm:Bh X) {N:Nat} {c:Code}:∀ {Q:IExit→IState→Prop} {s:IState},Bp X c=true→wpC G X N (Bm c) Q s→wpC G X N c Q s:=by
 induction c with
 | skip=>intro Q s hd hs;exact hs
 | region id ops dr =>
  intro Q s hd hs
  rcases hs with hs | hs
  ·refine .inl ⟨fun h=>?_,hs.2⟩
   subst h
   simpa [Bp]using hd
  ·cases hs.1
 | seq a b iha ihb =>
  intro Q s hd hs
  simp only[Bp,Bool.and_eq_true]at hd
  refine iha hd.1 (CO hG X N _ _ _ _ hm (fun e s' he=>?_) hs)
  cases e with
  | normal=>exact ihb hd.2 he
  | exit i=>exact he
  | ret=>exact he
 | cond c a b iha ihb =>
  intro Q s hd hs
  simp only[Bp,Bool.and_eq_true]at hd
  simp only[Bm,wpC]at hs ⊢
  split at hs
  ·exact ⟨fun hv=>iha hd.1 (hs.1 hv),fun hv=>ihb hd.2 (hs.2 hv)⟩
  ·exact hs.elim
 | block id c ih=>intro Q s hd hs;exact ih hd hs
 | loop c ih =>
  intro Q s hd hs
  obtain ⟨J,n,h0,hr⟩:=hs
  exact ⟨J,n,h0,fun m s' hs'=>ih hd (hr m s' hs')⟩
 | exit id=>intro Q s hd hs;exact hs
 | ret=>intro Q s hd hs;exact hs
 | rangeFunc=>intro Q s hd hs;exact hs
 | scope c ih=>intro Q s hd hs;exact ih hd hs
 | label=>intro Q s hd hs;exact hs
 | goto=>intro Q s hd hs;exact hs
 | refuse=>intro Q s hd hs;exact hs
theorem C7 {X:Cfg} (hm:Bh X) {N:Nat} {c:Code} {Q:IExit→IState→Prop} {s:IState} (hd:Bp X c=true) (h:wpI X N (Bm c) Q s):wpI X N c Q s:=E9 (DU X.dep) hm hd h
section
variable {X:Cfg} {N:Nat} {Q:IExit→IState→Prop} {ks:List Kf} {s:IState}
theorem xA:run X N Q (Bm .skip) ks s=Gn X N Q ks s:=nrfl rfl
theorem Ad6 {a b:Code}:run X N Q (Bm (.seq a b)) ks s=run X N Q (Bm a) (.seq (Bm b)::ks) s:=P5
theorem jT {id:Nat} {c:Code}:run X N Q (Bm (.block id c)) ks s=run X N Q (Bm c) (.blk id::ks) s:=Kw
theorem xB {id:Nat}:run X N Q (Bm (.exit id)) ks s=GQ X N Q ks id s:=nrfl rfl
theorem Ad7:run X N Q (Bm .ret) ks s=done X N Q ks s:=nrfl rfl
theorem aR {id:Nat} {l:List Oper} {dr:Bool}:run X N Q (Bm (.region id l.toArray dr)) ks s=ops X N Q l.toArray l ks s:=IU
theorem xC {c:Operand} {a b:Code}:run X N Q (Bm (.cond c a b)) ks s=GR (AG s.env c) (run X N Q (Bm a) ks s) (run X N Q (Bm b) ks s):=Md
theorem jU {g:Operand} {ps:Array Tmp} {a b:Code}:run X N Q (Bm (.rangeFunc g ps a b)) ks s=run X N Q (.rangeFunc g ps a b) ks s:=nrfl rfl
end
theorem AW {P:Program} (hmix:P.follows .mixedOrders=true) {l:AV} (hl:Bo P l) (muts:List Nat) (frz:List Nat) {f:FuncId} {fn:Func} {c:Code} (hf:P.funcs[f]?=some fn) (hb:fn.body=some c)
  (hname : (fn.name == "runtime.NumGoroutine") = false) {args : List PV} {N : Nat} (hN : fn.ntmps = N) (hn : args.length ≤ N) {rs : List ResultVar} (hrs : fn.results.toList = rs) (hd : Bp (cfg P l muts frz) c = true) {r : PV}
  (h : AH args→run (cfg P l muts frz) N (Ai P rs (fun p st=>DRx st p r)) (Bm c) [] ⟨FC args,st0⟩):VC P f args r :=
 Acb hmix hl muts frz hf hb hname hN hn hrs 0 fun hs=>C7 (A3 rfl) hd (by
  have e:stR 0=st0:=by simp[stR,st0]
  rw [e];exact h hs)
theorem Wg {P:Program} (hmix:P.follows .mixedOrders=true) {l:AV} (hl:Bo P l) (muts:List Nat) (frz:List Nat) (n dep:Nat) {f:FuncId} {fn:Func} {c:Code} (hf:P.funcs[f]?=some fn) (hb:fn.body=some c)
  (hname : (fn.name == "runtime.NumGoroutine") = false) {args : List PV} {N : Nat} (hN : fn.ntmps = N) (hn : args.length ≤ N) {rs : List ResultVar} (hrs : fn.results.toList = rs) (hd : Bp (cfg P l muts frz dep) c = true) {r : PV}
  (h : AH args→run (cfg P l muts frz dep) N (Ai P rs (fun p st=>DRx st p r)) (Bm c) [] ⟨FC args,⟨fun i=>if i<n then some (.arr 0 1 [])else none,n⟩⟩):VC P f args r :=
 Acb hmix hl muts frz hf hb hname hN hn hrs n (dep:=dep) fun hs=>C7 (A3 rfl) hd (h hs)
theorem Ck {P:Program} (hmix:P.follows .mixedOrders=true) {l:AV} (hl:Bo P l) (muts:List Nat) (frz:List Nat) (dep:Nat) {f:FuncId} {fn:Func} {c:Code} (hf:P.funcs[f]?=some fn) (hb:fn.body=some c)
  (hname : (fn.name == "runtime.NumGoroutine") = false) {args : List PV} {N : Nat} (hN : fn.ntmps = N) (hn : args.length ≤ N) {rs : List ResultVar} (hrs : fn.results.toList = rs) (hd : Bp (cfg P l muts frz dep) c = true) {st : Store} {Q : PV → Store → Prop}
  (h : run (cfg P l muts frz dep) N (Ai P rs Q) (Bm c) [] ⟨FC args,st⟩):IXC P f args st Q :=
 Xd hmix hl muts frz hf hb hname hN hn hrs (dep:=dep) (C7 (A3 rfl) hd h)
theorem xD {P:Program} (hmix:P.follows .mixedOrders=true) {l:AV} (hl:Bo P l) (muts:List Nat) (frz:List Nat) (n dep:Nat) {f:FuncId} {fn:Func} {c:Code} (hf:P.funcs[f]?=some fn) (hb:fn.body=some c)
  (hname : (fn.name == "runtime.NumGoroutine") = false) {args : List PV} {N : Nat} (hN : fn.ntmps = N) (hn : args.length ≤ N) {rs : List ResultVar} (hrs : fn.results.toList = rs) (hd : Bp (cfg P l muts frz dep) c = true) {z : Nat} {es : List PV}
  (hs : ∀e∈es,e.scal=true)
  (h : run (cfg P l muts frz dep) N (Ai P rs (fun p st=>(∃id g,p=.ref id g 0 es.length∧st.obj id=some (.arr g z es))∨(es = []∧0<z∧p=.nils))) (Bm c) [] ⟨FC args,⟨fun i=>if i<n then some (.arr 0 1 [])else none,n⟩⟩):VCA P f args z es :=
 uM hmix hl muts frz hf hb hname hN hn hrs n (dep:=dep) hs (C7 (A3 rfl) hd h)
theorem aS {X:Cfg} {N:Nat} {Q:IExit→IState→Prop} {ks:List Kf} {s:IState} {all:Array Oper} {l:List Oper} {d:Option Nat} {c:Prop} [Decidable c] {x y:PV×Store}:Bn X N Q all l ks d s (if c then some x else some y)=((c→Bn X N Q all l ks d s (some x))∧(¬c→Bn X N Q all l ks d s (some y))):=by
 by_cases h:c <;> simp[h]
theorem xE {k:IntKind} {l:List Int} {i:Nat} {n:Int}:(l.map (PV.int k)).set i (PV.int k n)=(l.set i n).map (PV.int k):=by simp
theorem El {α:Type} {f:α→PV} {l:List α} {i:Nat} (d:α) (h:i<l.length):nth (l.map f) i=f (l.getD i d):=by simp[nth,h]
theorem H7 {α:Type} {f:α→PV} {l:List α} (h:∀x,(f x).pur=true):AU (l.map f)=true:=Kt h
theorem H8 {α:Type} {f:α→PV} {l m:List α} (h:∀x y,f x=f y→x=y):(l.map f=m.map f)=(l=m):=propext ⟨FO h,fun h=>by rw[h]⟩
theorem aU {p:Prop} [Decidable p] {A B:Prop}:BU (.bool (decide p)) true A B=((p→A)∧(¬p→B)):=by simp[BU]
theorem aV {p:Prop} [Decidable p] {A B:Prop}:BU (.bool (decide p)) false A B=((¬p→A)∧(p→B)):=by simp[BU]
theorem xF {p:Prop} [Decidable p] {A B:Prop}:GR (.bool (decide p)) A B=((p→A)∧(¬p→B)):=by simp[GR]
theorem xG {P:Program} {t:TypeId} {x y:Bool}:BP P .eql t (.bool x) (.bool y)=if Ha P t=true then some (.bool (decide (x=y)))else none:=by rw[Ad2];cases x <;> cases y <;> rfl
theorem xH {P:Program} {t:TypeId} {x y:Bool}:BP P .neq t (.bool x) (.bool y)=if Ha P t=true then some (.bool (decide (¬x=y)))else none:=by rw[Ad3];cases x <;> cases y <;> rfl
theorem AI {o o':Option Nat} {ρ:Nat→PV} (h:o=o'):grd o ρ=grd o' ρ:=by rw[h]
theorem Av {c c' a b:PV} {st:Store} (h:c=c'):Ov c a b st=Ov c' a b st:=by rw[h]
theorem jV {st:Store} {ids:List Nat} {i:Nat}:(st.only ids).obj i=if ids.contains i=true then st.obj i else none:=nrfl rfl
theorem aW {st:Store} {ids:List Nat}:(st.only ids).next=st.next:=nrfl rfl
theorem SU {st:Store} {ids:List Nat} {i:Nat}:(st.without ids).obj i=if ids.contains i=true then none else st.obj i:=nrfl rfl
theorem Qt {st:Store} {ids:List Nat}:(st.without ids).next=st.next:=nrfl rfl
theorem Wh {p:PV} {l:List PV}:DP (p::l)=idC p++DP l:=nrfl rfl
theorem aX:DP [] = []:=nrfl rfl
theorem xI {i g s n:Nat}:idC (.ref i g s n) = [i]:=nrfl rfl
theorem xJ {k:IntKind} {n:Int}:idC (.int k n) = []:=nrfl rfl
theorem jW {b:Bool}:idC (.bool b) = []:=nrfl rfl
theorem xK {b:List UInt8}:idC (.str b) = []:=nrfl rfl
theorem jX:idC .nils = []:=nrfl rfl
theorem jZ {z:Nat} {l:List PV}:idC (.lits z l) = []:=nrfl rfl
def idE:PV→List Nat | .ref id _ _ _ => [id] | _ => []
def idL:List PV→List Nat | [] => [] | c::l=>idE c++idL l
theorem xL {cs:List PV}:idC (.agg cs)=idL cs:=by
 induction cs with
 | nil=>rfl
 | cons c l ih=>simp only[idC,List.flatMap_cons]at ih ⊢;rw[ih];cases c <;> rfl
theorem kA {c:PV} {l:List PV}:idL (c::l)=idE c++idL l:=nrfl rfl
theorem xM:idL [] = []:=nrfl rfl
theorem xN {i g s n:Nat}:idE (.ref i g s n) = [i]:=nrfl rfl
theorem xO {k:IntKind} {n:Int}:idE (.int k n) = []:=nrfl rfl
theorem kB {b:Bool}:idE (.bool b) = []:=nrfl rfl
theorem xP {b:List UInt8}:idE (.str b) = []:=nrfl rfl
theorem kC:idE .nils = []:=nrfl rfl
theorem kE {z:Nat} {l:List PV}:idE (.lits z l) = []:=nrfl rfl
theorem AC {W W2:List Nat} {ρ0 ρ1 ρ:Nat→PV} (h:(W2.all fun t=>W.contains t)=true):GT W ρ0 (IF W2 ρ1 ρ)=GT W ρ0 ρ1:=by
 refine propext ⟨fun g u hu=>?_,fun g u hu=>?_⟩
 all_goals
  have hn:W2.contains u=false:=by
   cases hc:W2.contains u with
   | false=>rfl
   | true =>
    have := List.all_eq_true.1 h u (List.contains_iff_mem.1 hc)
    rw [this]at hu;cases hu
  have e:IF W2 ρ1 ρ u=ρ1 u:=H6 hn
 ·rw [←e];exact g u hu
 ·rw [e];exact g u hu
theorem kF:IntKind.i64.bits=64:=nrfl rfl
theorem kG:IntKind.u64.bits=64:=nrfl rfl
theorem kH:IntKind.u32.bits=32:=nrfl rfl
theorem xQ:IntKind.u8.bits=8:=nrfl rfl
def orI (a b:Int):Int:=IntKind.i64.wrap (BitVec.ofInt 64 a ||| BitVec.ofInt 64 b).toNat
theorem Ad8 {a b:Int}:Cv .or .i64 a b=some (orI a b):=nrfl rfl
end Sim
