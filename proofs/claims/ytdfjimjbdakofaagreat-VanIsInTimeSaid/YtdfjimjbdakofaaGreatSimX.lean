/- Lemmas. -/
import Derived.Test.YtdfjimjbdakofaaGreatSimP
set_option linter.all false
open BitVec renaming ofInt->ap
open Bool renaming and_eq_true->fy,not_eq_true'->j9,false_eq_true->gu,false_ne_true->nr,true_and->ns,eq_iff_iff->nt
open Go.IntKind renaming i64->nm
open Go.Op renaming bytesLess->aq
open List renaming map_cons->nj,replicate->ba,mem_of_getElem?->ac,range->br,mem_iff_getElem?->bt
open Nat renaming le_refl->cg,lt_of_lt_of_le->np
open Option renaming bind_some->aw,some.injEq->bp,some.inj->c7
open Prod renaming mk.injEq->c9
open Sim.PV renaming isInt->kj,isInt1->nk
open Sim.Store renaming set->kd,new->kp,without->nq
namespace Sim
open Go
section
variable {ρ:Nat->PV}
theorem Ahg {n:Nat}:AA ρ (.tmp n)=ρ n:=nrfl rfl
theorem Ahh {k:IntKind} {n:Int}:AA ρ (.const (.int k n))=.int k n:=nrfl rfl
theorem zR {b:Bool}:AA ρ (.const (.bool b))=.bool b:=nrfl rfl
theorem Ahi {s:ByteArray}:AA ρ (.const (.string s))=if s.data.toList.length<=9223372036854775807 then .str s.data.toList else .bad:=nrfl rfl
theorem zS:AA ρ (.const (.slice none 0 0))=.nils:=nrfl rfl
theorem zT:AA ρ (.const (.pointer none))=.nilp:=nrfl rfl
theorem zU:AA ρ (.const .nilFunc)=.nilf:=nrfl rfl
theorem zV:AA ρ (.const .nilIface)=.nili:=nrfl rfl
theorem Ahj {cs:Array Value}:AA ρ (.const (.agg cs))=if (cs.toList.map Dd).all PV.isCell then .agg (cs.toList.map Dd)else .bad:=nrfl rfl
theorem zW {f:FuncId}:AA ρ (.func f)=.func (.func f) [] []:=nrfl rfl
end
theorem Ahk {k:IntKind} {n:Int}:Dd (.int k n)=.int k n:=nrfl rfl
theorem zX {b:Bool}:Dd (.bool b)=.bool b:=nrfl rfl
theorem zY:Dd (.slice none 0 0)=.nils:=nrfl rfl
theorem Ahl {s:ByteArray}:Dd (.string s)=if s.data.toList.length<=9223372036854775807 then .str s.data.toList else .bad:=nrfl rfl
def grd (o:Option Nat) (ρ:Nat->PV):PV:=match o with | some d=>ρ d | none=>.bad
theorem eD {ops:Array Oper} {ρ:Nat->PV} {j:Nat}:DK ops ρ j=grd ((ops[j]?).bind (·.dst)) ρ:=nrfl rfl
theorem oM {d:Nat} {ρ:Nat->PV}:grd (some d) ρ=ρ d:=nrfl rfl
section
variable {X:Cfg} {d:Nat} {ρ:Operand->PV} {st:Store}
theorem oN {x:Operand}:iop X d (.move x) ρ st=some (ρ x,st):=nrfl rfl
theorem XB {x:Operand}:iop X d (.assign x) ρ st=some (ρ x,st):=nrfl rfl
def Rb (c a b:PV) (st:Store):Option (PV×Store):=match c with | .bool v=>some (if v then a else b,st) | _=>none
theorem XC {v:Bool} {a b:PV}:Rb (.bool v) a b st=some (if v=true then a else b,st):=nrfl rfl
theorem XD {a b:PV}:Rb (.bool true) a b st=some (a,st):=nrfl rfl
theorem UW {a b:PV}:Rb (.bool false) a b st=some (b,st):=nrfl rfl
theorem oO {c a b:Operand}:iop X d (.pick c a b) ρ st=Rb (ρ c) (ρ a) (ρ b) st:=nrfl rfl
theorem eG {t:TypeId} (h:X.num d=0):iop X d (.alloc t) ρ st=if 0<X.P.cellsOf t/\(Az X.P t).cells.length=X.P.cellsOf t then some (.ptr st.next 0 0 0,st.new (.arr 0 (X.P.cellsOf t) [Az X.P t]))else none:=by simp[iop,h]
theorem HC {t:TypeId} {k:Nat} (h:X.num d=k+1):iop X d (.alloc t) ρ st=if 0<X.P.cellsOf t/\(Az X.P t).cells.length=X.P.cellsOf t then st.reP (k+1) (X.P.cellsOf t) (Az X.P t)else none:=by simp[iop,h]
def Al6 (X:Cfg) (d:Nat) (cells:List PV) (p:PV) (st:Store):Option (PV×Store) :=
 if 0<cells.length then (if X.muts d then some (.ptr st.next 0 0 0,st.new (.arr 0 cells.length [p]))else some (.vptr cells 0,st))else none
theorem zZ {t:TypeId} {x:Operand}:iop X d (.box t x) ρ st=Al6 X d (ρ x).cells (ρ x) st:=nrfl rfl
theorem Aaa {cells:List PV} {p:PV}:Al6 X d cells p st=if 0<cells.length then (if X.muts d=true then some (.ptr st.next 0 0 0,st.new (.arr 0 cells.length [p]))else some (.vptr cells 0,st))else none:=nrfl rfl
def evp (ρ:Operand->PV):List (Nat×Operand)->List (Nat×PV)
 | [] => []
 | x::l=>(x.1,ρ x.2)::evp ρ l
theorem oP {i:Nat} {x:Operand} {l:List (Nat×Operand)}:evp ρ ((i,x)::l)=(i,ρ x)::evp ρ l:=nrfl rfl
theorem Aab:evp ρ [] = []:=nrfl rfl
theorem oQ {l:List (Nat×Operand)}:(l.map λ(i,x)=>(i,ρ x))=evp ρ l:=by
 induction l with
 | nil=>rfl
 | cons x l ih=>simp only[nj,evp,ih]
theorem eH {t:TypeId} {parts:List (Nat×Operand)}:iop X d (.build t parts.toArray) ρ st=(Mm X.P t (evp ρ parts)).map λv=>(v,st):=by rw[<-oQ];rfl
def Ahm (X:Cfg) (d:Nat) (t:TypeId) (len:Nat) (o:Option (List PV)) (st:Store):Option (PV×Store) :=
 if 0<Ae X.P t/\len*Ae X.P t<=16777216 then o.bind λl=>if X.muts d then (if X.num d=0 then some (.ref st.next 0 0 len,st.new (.arr 0 (Ae X.P t) l))else st.re (X.num d) (Ae X.P t) l len)else some (.lits (Ae X.P t) l,st)else none
theorem OP {t:TypeId} {len:Nat} {parts:List (Nat×Operand)}:iop X d (.buildSlice t len parts.toArray) ρ st=Ahm X d t len (CF (Ae X.P t) (ba len (Az X.P (BO X.P t))) (evp ρ parts)) st:=by rw[<-oQ];rfl
theorem Aac {t:TypeId} {len:Nat} {l:List PV}:Ahm X d t len (some l) st=if 0<Ae X.P t/\len*Ae X.P t<=16777216 then (if X.muts d=true then (if X.num d=0 then some (.ref st.next 0 0 len,st.new (.arr 0 (Ae X.P t) l))else st.re (X.num d) (Ae X.P t) l len)else some (.lits (Ae X.P t) l,st))else none:=by
 simp only[Ahm,aw]
theorem Ahn {ob:Nat->Option IObj} {nx k z n g z0:Nat} {l es:List PV} (h:ob k=some (.arr g z0 es)):Store.re ⟨ob,nx⟩ (k+1) z l n=some (.ref k (g+1) 0 n,kd ⟨ob,nx⟩ k (.arr (g+1) z l)):=by simp[Store.re,h]
theorem Qu {k id g s n z:Nat} {l:List PV}:EN k (.ref id g s n) (.lits z l)=(id==k-1):=nrfl rfl
theorem Qv {k id g s n:Nat}:EN k (.ref id g s n) .nils=(id==k-1):=nrfl rfl
theorem oR {t:TypeId} {x:Operand}:iop X d (.load t x) ρ st=(Bv X.P t).bind λq=>(Ds (X.see d st) q.1 q.2 (ρ x)).map λv=>(v,st):=nrfl rfl
theorem eJ {t:TypeId} {a x:Operand}:iop X d (.store t a x) ρ st=if (X.frz (800000+Dt a)=true/\QP st (ρ a) (ρ x)=false)\/(X.frz (900000+Dt a)=true/\QQ (X.num (Dt a)) (ρ a)=false)then none else (Fz st (X.P.cellsOf t) (ρ a) (ρ x)).map λst'=>(.bad,st'):=nrfl rfl
theorem eM {n:Nat}:Dt (.tmp n)=n:=nrfl rfl
theorem eO {k id gen i o:Nat}:QQ k (.ptr id gen i o)=(id==k-1):=nrfl rfl
theorem eQ {id gen i o:Nat} {v:PV}:QP st (.ptr id gen i o) v=(v.isInt1&&match st.arr? id gen with | some q=>decide (q.1<=2)&&q.2.all kj | none=>false):=nrfl rfl
def Zl (p:PV) (st:Store):Option (PV×Store):=match p with | .vptr c o=>some (.vptr c o,st) | .ptr i g x o=>(st.arr? i g).map λ_=>(.ptr i g x o,st) | _=>none
theorem Su {x:Operand}:iop X d (.nilCheck x) ρ st=(Zl (ρ x) (X.see d st)).map λq=>(q.1,st):=by
 simp only[iop];cases ρ x <;> simp[Zl];rfl
theorem XE {c:List PV} {o:Nat}:Zl (.vptr c o) st=some (.vptr c o,st):=nrfl rfl
theorem eR {i g x o:Nat}:Zl (.ptr i g x o) st=(st.arr? i g).map λ_=>(.ptr i g x o,st):=nrfl rfl
theorem eV {op:BinOp} {t:TypeId} {x y:Operand} {z:TypeId}:iop X d (.binOp op t x y z) ρ st=(BU X.P op t (ρ x) (ρ y)).map λv=>(v,st):=nrfl rfl
theorem oS {op:UnOp} {t:TypeId} {x:Operand}:iop X d (.unOp op t x) ρ st=(unP op (ρ x)).map λv=>(v,st):=nrfl rfl
theorem UX {s t:TypeId} {x:Operand}:iop X d (.convert s t x) ρ st=(QO X.P s t (ρ x)).map λv=>(v,st):=nrfl rfl
def evs (ρ:Operand->PV):List Operand->List PV
 | [] => []
 | x::l=>ρ x::evs ρ l
theorem oT {x:Operand} {l:List Operand}:evs ρ (x::l)=ρ x::evs ρ l:=nrfl rfl
theorem Aad:evs ρ [] = []:=nrfl rfl
theorem Ky {l:List Operand}:l.map ρ=evs ρ l:=by
 induction l with
 | nil=>rfl
 | cons x l ih=>simp only[nj,evs,ih]
theorem Sv {fn:Fn} {a b:List Operand}:iop X d (.makeFunc fn a.toArray b.toArray) ρ st=some (.func fn (evs ρ a) (evs ρ b),st):=by rw[<-Ky,<-Ky];rfl
def UY (X:Cfg) (d:Nat) (t:TypeId) (a b:PV) (st:Store):Option (PV×Store) :=
 match a,b with
 | .int .i64 n,.int .i64 m=>if 0<=n/\n<=m/\m<=4294967296/\0<Ae X.P t then (if X.num d=0 then (if X.frz d=true then some (.lits (Ae X.P t) (ba n.toNat (Az X.P (BO X.P t))),st)else some (.ref st.next 0 0 n.toNat,st.new (.arr 0 (Ae X.P t) (ba n.toNat (Az X.P (BO X.P t))))))else st.re (X.num d) (Ae X.P t) (ba n.toNat (Az X.P (BO X.P t))) n.toNat)else none
 | _,_=>none
section
variable {t:TypeId}
theorem Qw {l c:Operand}:iop X d (.makeSlice t l c) ρ st=UY X d t (ρ l) (ρ c) st:=by
 simp only[iop,UY]
 cases ρ l <;> try rfl
theorem oU {n m:Int} (h:X.num d=0) (hf:X.frz d=false):UY X d t (.int .i64 n) (.int .i64 m) st=if 0<=n/\n<=m/\m<=4294967296/\0<Ae X.P t then some (.ref st.next 0 0 n.toNat,st.new (.arr 0 (Ae X.P t) (ba n.toNat (Az X.P (BO X.P t)))))else none:=by simp[UY,h,hf]
theorem oV {n m:Int} (h:X.num d=0) (hf:X.frz d=true):UY X d t (.int .i64 n) (.int .i64 m) st=if 0<=n/\n<=m/\m<=4294967296/\0<Ae X.P t then some (.lits (Ae X.P t) (ba n.toNat (Az X.P (BO X.P t))),st)else none:=by simp[UY,h,hf]
theorem Aae {n m:Int} {k:Nat} (h:X.num d=k+1):UY X d t (.int .i64 n) (.int .i64 m) st=if 0<=n/\n<=m/\m<=4294967296/\0<Ae X.P t then st.re (k+1) (Ae X.P t) (ba n.toNat (Az X.P (BO X.P t))) n.toNat else none:=by simp[UY,h]
def oW (X:Cfg) (d:Nat) (t:TypeId) (p:PV) (l h:Option (Option Int)) (st:Store):Option (PV×Store) :=
 if X.muts d=true then (match l,h with | none,none=>bN X.P st t p | _,_=>none)else
 match l,h with
 | some none,_ | _,some none=>none
 | l,h=>(CE (X.see d st) (Ae X.P t) (AT X.P t) (BB X.P t) p (l.bind id) (h.bind id)).map λv=>(v,st)
theorem eW {x:Operand} {lo hi:Option Operand}:iop X d (.slice t x lo hi none) ρ st=oW X d t (ρ x) (lo.map λo=>Df (ρ o)) (hi.map λo=>Df (ρ o)) st:=by
 cases lo <;> cases hi <;> rfl
end
theorem XF {k:IntKind} {n:Int}:Df (.int k n)=some n:=nrfl rfl
section
variable {t:TypeId} {p:PV}
theorem Aaf:oW X d t p none none st=if X.muts d=true then bN X.P st t p else (CE (X.see d st) (Ae X.P t) (AT X.P t) (BB X.P t) p none none).map λv=>(v,st):=nrfl rfl
theorem Aag {n:Int}:oW X d t p (some (some n)) none st=if X.muts d=true then none else (CE (X.see d st) (Ae X.P t) (AT X.P t) (BB X.P t) p (some n) none).map λv=>(v,st):=nrfl rfl
theorem Aah {m:Int}:oW X d t p none (some (some m)) st=if X.muts d=true then none else (CE (X.see d st) (Ae X.P t) (AT X.P t) (BB X.P t) p none (some m)).map λv=>(v,st):=nrfl rfl
theorem Aai {n m:Int}:oW X d t p (some (some n)) (some (some m)) st=if X.muts d=true then none else (CE (X.see d st) (Ae X.P t) (AT X.P t) (BB X.P t) p (some n) (some m)).map λv=>(v,st):=nrfl rfl
end
theorem Qx {t:TypeId} {x:Operand} {f:Nat}:iop X d (.fieldAddr t x f) ρ st=(A5 X.P t f).bind λq=>if 0<q.2.1 then (De (X.see d st) (ρ x) q.1).map λv=>(v,st)else none:=nrfl rfl
theorem Aho {e:Nat}:X.see e st=if X.frz e=true then⟨λ_=>none,0⟩else if X.frz (600000+e)=true then st.past (X.num e)else if X.frz (700000+e)=true then st.hard else st:=nrfl rfl
theorem Aaj:st.hard=⟨λi=>(st.obj i).bind λo=>if Ir o=true then none else some o,st.next⟩:=nrfl rfl
theorem oX {g z:Nat} {es:List PV}:Ir (.arr g z es)=(decide (z<=2)&&es.all kj):=nrfl rfl
theorem XG {k:IntKind} {n:Int}:nk (.int k n)=true:=nrfl rfl
theorem XH {i g s n:Nat}:nk (.ref i g s n)=false:=nrfl rfl
theorem eY {i g s n:Nat}:kj (.ref i g s n)=false:=nrfl rfl
theorem eZ {cs:List PV}:kj (.agg cs)=cs.all nk:=nrfl rfl
theorem fA {id gen s n z:Nat} {l:List PV}:Ol st (.ref id gen s n) (.lits z l)=(l.all kj&&match st.arr? id gen with | some q=>decide (q.1<=2)&&q.2.all kj | none=>false):=nrfl rfl
theorem fB {k:IntKind} {n:Int}:kj (.int k n)=true:=nrfl rfl
theorem oY {l:List Int} {k:IntKind}:(l.map (PV.int k)).all kj=true:=by simp[kj]
theorem fC {x:Operand} {m:String} {as:List Operand} {ts:List TypeId}:iop X d (.call ⟨.invoke x m,as.toArray,ts.toArray⟩) ρ st=(lJ X.P st (ρ x) m).bind λq=>DP X d (.func (.func q.1) [q.2] []) (RY X d ts) (evs ρ as) st:=by rw[<-Ky];rfl
theorem XI {P:Program} {t:TypeId} {v:PV} {m:String}:lJ P st (.iface t v) m=(K4 P t m).bind λq=>if q.2.1=true then some (q.1,v)else (Bv P q.2.2).bind λr=>(Ds st r.1 r.2 v).map λr=>(q.1,r):=nrfl rfl
def My (P:Program) (t:TypeId):Bool := !K1 P t&&(P.underlying t).isSome
theorem Lo {t:TypeId} {x:Operand} (h:My X.P t=true):iop X d (.makeInterface t x) ρ st=some (.iface t (ρ x),st):=by
 simp only[My,fy,j9]at h
 simp only[iop,h,and_self,if_true]
def asT (t:TypeId) (p:PV) (st:Store):Option (PV×Store):=match p with | .iface t' v=>if t'=t then some (v,st)else none | _=>none
theorem OQ {x:Operand} {xt t:TypeId} (h:My X.P t=true):iop X d (.typeAssert x xt t false) ρ st=asT t (ρ x) st:=by
 simp only[My,fy,j9]at h
 simp only[iop,h,and_true,asT]
 cases ρ x <;> rfl
theorem oZ {t:TypeId} {v:PV}:asT t (.iface t v) st=some (v,st):=by simp[asT]
theorem Aak {k:Nat}:st.past k=⟨λi=>if i<k then none else st.obj i,st.next⟩:=nrfl rfl
def Al7 (X:Cfg) (t:TypeId) (p:PV) (f:Nat) (st:Store):Option (PV×Store):=match p with | .agg cs=>(A5 X.P t f).bind λ(o,_,u)=>(Bv X.P u).bind λ(z,ag)=>(CV cs o z ag).map λv=>(v,st) | _=>none
section
variable {t:TypeId}
theorem fD {x:Operand} {f:Nat}:iop X d (.field t x f) ρ st=Al7 X t (ρ x) f st:=nrfl rfl
theorem pA {cs:List PV} {f:Nat}:Al7 X t (.agg cs) f st=(A5 X.P t f).bind λq=>(Bv X.P q.2.2).bind λr=>(CV cs q.1 r.1 r.2).map λv=>(v,st):=nrfl rfl
def Al8 (X:Cfg) (d:Nat) (t:TypeId) (p i:PV) (st:Store):Option (PV×Store):=match i with | .int _ n=>(CL X.P (X.see d st) t p n).map λv=>(v,st) | _=>none
theorem Qy {x i:Operand}:iop X d (.indexAddr t x i) ρ st=Al8 X d t (ρ x) (ρ i) st:=nrfl rfl
theorem pC {p:PV} {k:IntKind} {n:Int}:Al8 X d t p (.int k n) st=(CL X.P (X.see d st) t p n).map λv=>(v,st):=nrfl rfl
def Al9 (X:Cfg) (t:TypeId) (p i:PV) (st:Store):Option (PV×Store):=match i with | .int _ n=>(Kj X.P t p n).map λv=>(v,st) | _=>none
theorem fE {x i:Operand}:iop X d (.index t x i) ρ st=Al9 X t (ρ x) (ρ i) st:=nrfl rfl
theorem pE {p:PV} {k:IntKind} {n:Int}:Al9 X t p (.int k n) st=(Kj X.P t p n).map λv=>(v,st):=nrfl rfl
end
def Ama (p:PV) (i:Nat) (st:Store):Option (PV×Store):=match p with | .tuple vs=>(vs[i]?).map λv=>(v,st) | _=>none
theorem UZ {x:Operand} {i:Nat}:iop X d (.extract x i) ρ st=Ama (ρ x) i st:=nrfl rfl
theorem XJ {vs:List PV} {i:Nat}:Ama (.tuple vs) i st=(vs[i]?).map λv=>(v,st):=nrfl rfl
theorem Mz {f:Operand} {as:List Operand} {ts:List TypeId}:iop X d (.call ⟨.value f,as.toArray,ts.toArray⟩) ρ st=DP X d (ρ f) (RY X d ts) (evs ρ as) st:=by rw[<-Ky];rfl
theorem fF {b:Builtin} {as:List Operand} {ts:List TypeId}:iop X d (.call ⟨.builtin b,as.toArray,ts.toArray⟩) ρ st=Bj X d b ts (evs ρ as) st:=by rw[<-Ky];rfl
def Ahp (X:Cfg) (f:Nat) (l:List PV) (st:Store):Option (PV×Store):=(Ce (st.only (D8 l)) l).bind λas=>X.tab f as (st.without (D8 l))
def Ahq (X:Cfg) (f:Nat) (l:List PV) (st:Store):Option (PV×Store):=(Ce (st.only (D8 l)) l).bind λas=>X.tab f as (st.seal (D8 l))
def Ahr (X:Cfg) (f k:Nat) (l:List PV) (st:Store):Option (PV×Store):=if (D8 l).all (λi=>i==k)=true then (Ce (st.only [k]) l).bind λas=>X.tab f as (st.again k)else none
theorem pF {f:Nat} {a b:List PV} {ts:List TypeId} {args:List PV}:DP X d (.func (.func f) a b) ts args st=if X.frz d=true then (if X.num d=0 then Ahp X f (a++nrmAll X.P ts args++b) st else if X.muts d=true then Ahr X f (X.num d-1) (a++nrmAll X.P ts args++b) st else Ahq X f (a++nrmAll X.P ts args++b) st)else if X.muts d=true/\(AU (a++nrmAll X.P ts args++b)=false\/(X.frz (1200000+d)=true/\X.quiet f=false))then none else X.tab f (a++nrmAll X.P ts args++b) st:=by
 simp only[DP,Ahp,Ahq,Ahr]
 by_cases h1:X.frz d=true <;> by_cases h2:X.num d=0 <;> by_cases h3:X.muts d=true <;> simp[h1,h2,h3]
theorem Aal {ts:List TypeId}:RY X d ts=if X.frz (400000+d)=true then []else ts:=nrfl rfl
theorem U3 {P:Program} {t:TypeId} {ts:List TypeId} {p:PV} {l:List PV}:nrmAll P (t::ts) (p::l)=nrm (Bp P t) p::nrmAll P ts l:=nrfl rfl
theorem XK {P:Program} {l:List PV}:nrmAll P [] l=l:=by simp[nrmAll]
def fG (st:Store) (q:Option (MK×PV)) (L:Option Int) (x:PV):Option Int:=match q with | some q=>IM st (some q) x | none=>L
theorem Ahs {t:TypeId} {x:PV}:Bj X d .len [t] [x] st=(fG st (AW X.P t) (K2 (X.see d st) (Ae X.P t) (AT X.P t) x) x).map λn=>(.int .i64 n,st):=by simp only[Bj,fG];cases AW X.P t <;> rfl
theorem fH {L:Option Int} {x:PV}:fG st none L x=L:=nrfl rfl
section
variable {t u:TypeId} {x y:PV}
theorem Aam:Bj X d .copy [t,u] [x,y] st=(TY st (Ae X.P t) x y).map λq=>(.int .i64 q.1,q.2):=nrfl rfl
theorem fI (h:X.num d=0):Bj X d .append [t,u] [x,y] st=if Ae X.P u≠0\/AT X.P u=true then (if X.frz (700000+d)=true/\Ol st x y=false then none else (CD st (Ae X.P t) y).bind λys=>CJ st (Ae X.P t) x ys)else none:=by
 simp only[Bj,h]
 by_cases h1:Ae X.P u≠0\/AT X.P u=true <;> by_cases h2:X.frz (700000+d)=true <;> cases h3:Ol st x y <;> simp[h1,h2]
theorem Sw {k:Nat} (h:X.num d=k+1):Bj X d .append [t,u] [x,y] st=if EN (k+1) x y=true then (if Ae X.P u≠0\/AT X.P u=true then (if X.frz (700000+d)=true then none else (CD st (Ae X.P t) y).bind λys=>CJ st (Ae X.P t) x ys)else none)else none:=by
 simp only[Bj,h]
 by_cases h1:EN (k+1) x y=true <;> by_cases h2:Ae X.P u≠0\/AT X.P u=true <;> by_cases h3:X.frz (700000+d)=true <;> simp[h1,h2,h3]
end
section
variable {ts:List TypeId} {x y:Int} {k:IntKind}
theorem Aht:Bj X d .min ts [.int k x,.int k y] st=some (.int k (if y<x then y else x),st):=by
 cases ts with
 | nil=>simp[Bj,Gp]
 | cons t ts=>cases ts <;> simp[Bj,Gp]
theorem Ahu:Bj X d .max ts [.int k x,.int k y] st=some (.int k (if x<y then y else x),st):=by
 cases ts with
 | nil=>simp[Bj,Gp]
 | cons t ts=>cases ts <;> simp[Bj,Gp]
end
end
section
variable {m:List (Nat×Nat)}
theorem Aan {cs:List PV}:nrm m (.agg cs)=.agg (K3 m 0 cs):=nrfl rfl
theorem fJ {i:Nat} {c:PV} {l:List PV}:K3 m i (c::l)=nrm1 (m.lookup i) c::K3 m (i+1) l:=nrfl rfl
theorem pG {i:Nat}:K3 m i [] = []:=nrfl rfl
theorem pI:nrm m .nils=nrm1 (m.lookup 0) .nils:=nrfl rfl
end
theorem fK {z:Nat}:nrm1 (some z) .nils=.lits z []:=nrfl rfl
theorem fL:nrm1 none .nils=.nils:=nrfl rfl
theorem Aao {p:PV}:nrm1 none p=p:=by cases p <;> rfl
theorem Ahv {p:PV}:nrm [] p=p:=by
 cases p <;> try rfl
 rename_i cs
 simp only[nrm,PV.agg.injEq]
 have : ∀(l:List PV) (i:Nat),K3 [] i l=l:=by
  intro l;induction l with
  | nil=>intro i;rfl
  | cons c l ih=>intro i;simp only[K3,ih,List.lookup_nil,Aao]
 exact this cs 0
section
variable {m:List (Nat×Nat)}
theorem Aap {k:IntKind} {n:Int}:nrm m (.int k n)=.int k n:=nrfl rfl
theorem Aaq {s:List UInt8}:nrm m (.str s)=.str s:=nrfl rfl
theorem pJ {b:Bool}:nrm m (.bool b)=.bool b:=nrfl rfl
theorem pK {z:Nat} {l:List PV}:nrm m (.lits z l)=.lits z l:=nrfl rfl
theorem Aar {i g s n:Nat}:nrm m (.ref i g s n)=.ref i g s n:=nrfl rfl
theorem pM {f:Fn} {a b:List PV}:nrm m (.func f a b)=.func f a b:=nrfl rfl
theorem pN {cs:List PV} {o:Nat}:nrm m (.vptr cs o)=.vptr cs o:=nrfl rfl
theorem Aas {i g x o:Nat}:nrm m (.ptr i g x o)=.ptr i g x o:=nrfl rfl
end
section
variable {m:Option Nat}
theorem pO {k:IntKind} {n:Int}:nrm1 m (.int k n)=.int k n:=nrfl rfl
theorem pP {s:List UInt8}:nrm1 m (.str s)=.str s:=nrfl rfl
theorem fM {b:Bool}:nrm1 m (.bool b)=.bool b:=nrfl rfl
theorem fN {z:Nat} {l:List PV}:nrm1 m (.lits z l)=.lits z l:=nrfl rfl
theorem pQ {i g s n:Nat}:nrm1 m (.ref i g s n)=.ref i g s n:=nrfl rfl
end
section
variable {st:Store}
def Ahw (o:Option IObj) (gen:Nat):Option (Nat×List PV):=match o with | some (.arr g z es)=>if gen=g then some (z,es)else none | _=>none
theorem Ahx {id g:Nat}:st.arr? id g=Ahw (st.obj id) g:=nrfl rfl
theorem fO {g h z:Nat} {es:List PV}:Ahw (some (.arr h z es)) g=if g=h then some (z,es)else none:=nrfl rfl
section
variable {cells:List PV} {off sz:Nat}
theorem Aat:CV cells off sz false=cells[off]?:=nrfl rfl
theorem Aau:CV cells off sz true=if off+sz<=cells.length then some (.agg ((cells.drop off).take sz))else none:=nrfl rfl
end
theorem XL {sz off:Nat} {ag:Bool} {cells:List PV}:Ds st sz ag (.vptr cells off)=CV cells off sz ag:=nrfl rfl
theorem fP {sz off id gen idx:Nat} {ag:Bool}:Ds st sz ag (.ptr id gen idx off)=(st.arr? id gen).bind λq=>CV (nth q.2 idx).cells off sz ag:=nrfl rfl
theorem Sx {cs vs:List PV} {o:Nat}:Bi (.agg cs) o vs=.agg (DJ cs o vs):=nrfl rfl
theorem Sy {k:IntKind} {n:Int} {v:PV} {o:Nat}:Bi (.int k n) o [v]=v:=nrfl rfl
theorem Qz {b:Bool} {v:PV} {o:Nat}:Bi (.bool b) o [v]=v:=nrfl rfl
theorem QA {v:PV} {o:Nat}:Bi .nils o [v]=v:=nrfl rfl
theorem Sz {i g s n:Nat} {v:PV} {o:Nat}:Bi (.ref i g s n) o [v]=v:=nrfl rfl
theorem XM {sz id gen idx off:Nat} {v:PV}:Fz st sz (.ptr id gen idx off) v=(st.arr? id gen).bind λq=>if v.cells.length=sz/\0<sz/\idx<q.2.length/\off+sz<=q.1 then some (st.set id (.arr gen q.1 (q.2.set idx (Bi (nth q.2 idx) off v.cells))))else none:=nrfl rfl
theorem U4 {cells:List PV} {off o:Nat}:De st (.vptr cells off) o=some (.vptr cells (off+o)):=nrfl rfl
theorem XN {id gen idx off o:Nat}:De st (.ptr id gen idx off) o=(st.arr? id gen).map λ_=>.ptr id gen idx (off+o):=nrfl rfl
variable {P:Program} {t:TypeId} {i:Int}
theorem U5 {z:Nat} {l:List PV}:CL P st t (.lits z l) i=if 0<=i/\i<l.length/\z=Ae P t/\0<z then some (.vptr (nth l i.toNat).cells 0)else none:=nrfl rfl
theorem XO {id gen s n:Nat}:CL P st t (.ref id gen s n) i=(st.arr? id gen).bind λq=>if 0<=i/\i<n/\s+n<=q.2.length/\q.1=Ae P t then some (.ptr id gen (s+i.toNat) 0)else none:=nrfl rfl
theorem U6 {cells:List PV} {off:Nat}:CL P st t (.vptr cells off) i=(BB P t).bind λq=>if 0<=i/\i<q.1/\0<q.2 then some (.vptr cells (off+i.toNat*q.2))else none:=nrfl rfl
theorem XP {id gen idx off:Nat}:CL P st t (.ptr id gen idx off) i=(st.arr? id gen).bind λ_=>(BB P t).bind λq=>if 0<=i/\i<q.1/\0<q.2 then some (.ptr id gen idx (off+i.toNat*q.2))else none:=nrfl rfl
theorem XQ {s:List UInt8}:Kj P t (.str s) i=if 0<=i/\i<s.length/\AT P t=true then some (.int .u8 (s.getD i.toNat 0).toNat)else none:=nrfl rfl
theorem XR {cs:List PV}:Kj P t (.agg cs) i=(IK P t).bind λq=>(Bv P q.2).bind λr=>if 0<=i/\i<q.1 then CV cs (i.toNat*r.1) r.1 r.2 else none:=nrfl rfl
variable {z:Nat} {sb:Bool}
theorem fQ:K2 st z sb .nils=if 0<z then some 0 else none:=nrfl rfl
theorem fR {y:Nat} {l:List PV}:K2 st z sb (.lits y l)=if 0<z then some (l.length:Int)else none:=nrfl rfl
theorem pR {id g s n:Nat}:K2 st z sb (.ref id g s n)=(st.arr? id g).bind λ_=>if 0<z then some (n:Int)else none:=nrfl rfl
theorem pS {s:List UInt8}:K2 st z sb (.str s)=if sb=true then some (s.length:Int)else none:=nrfl rfl
theorem U7:CD st z .nils=some []:=nrfl rfl
theorem U8 {y:Nat} {l:List PV}:CD st z (.lits y l)=if y=z then some l else none:=nrfl rfl
theorem XS {id gen s n:Nat}:CD st z (.ref id gen s n)=(st.arr? id gen).bind λq=>if s+n<=q.2.length/\q.1=z then some ((q.2.drop s).take n)else none:=nrfl rfl
theorem XT {s:List UInt8}:CD st z (.str s)=if z=1 then some (s.map λb=>.int .u8 b.toNat)else none:=nrfl rfl
theorem U9 {lo hi:Option Int} {ar:Option (Nat×Nat)}:CE st z sb ar .nils lo hi=if lo.getD 0=0/\hi.getD 0=0/\0<z then some .nils else none:=nrfl rfl
theorem Va {y:Nat} {l:List PV} {lo hi:Option Int} {ar:Option (Nat×Nat)}:CE st z sb ar (.lits y l) lo hi=if 0<=lo.getD 0/\lo.getD 0<=hi.getD l.length/\hi.getD l.length<=l.length/\y=z/\0<z then some (.lits z ((l.drop (lo.getD 0).toNat).take ((hi.getD l.length).toNat-(lo.getD 0).toNat)))else none:=nrfl rfl
theorem XU {id gen s n:Nat} {lo hi:Option Int} {ar:Option (Nat×Nat)}:CE st z sb ar (.ref id gen s n) lo hi=(st.arr? id gen).bind λq=>if 0<=lo.getD 0/\lo.getD 0<=hi.getD n/\hi.getD n<=(q.2.length:Int)-s/\s<=q.2.length/\q.1=z then some (.ref id gen (s+(lo.getD 0).toNat) ((hi.getD n).toNat-(lo.getD 0).toNat))else none:=nrfl rfl
theorem Vb {cs:List PV} {off:Nat} {lo hi:Option Int} {ar:Option (Nat×Nat)}:CE st z sb ar (.vptr cs off) lo hi=ar.bind λa=>if a.2=1/\lo=none/\hi=none/\off+a.1<=cs.length/\0<a.1/\a.1<=65536 then some (.lits 1 ((cs.drop off).take a.1))else none:=nrfl rfl
theorem pT {P:Program} {t:TypeId} {id gen idx off:Nat}:bN P st t (.ptr id gen idx off)=(st.arr? id gen).bind λq=>(BB P t).bind λa=>if a.2=1/\idx<q.2.length/\AU q.2=true/\off+a.1<=(nth q.2 idx).cells.length/\0<a.1/\a.1<=65536 then some (.lits 1 (((nth q.2 idx).cells.drop off).take a.1),st.without [id])else none:=nrfl rfl
theorem XV {s:List UInt8} {lo hi:Option Int} {ar:Option (Nat×Nat)}:CE st z sb ar (.str s) lo hi=if 0<=lo.getD 0/\lo.getD 0<=hi.getD s.length/\hi.getD s.length<=s.length/\sb=true then some (.str ((s.drop (lo.getD 0).toNat).take ((hi.getD s.length).toNat-(lo.getD 0).toNat)))else none:=nrfl rfl
theorem SA {ys:List PV}:CJ st z .nils ys=if 0<z/\ys.length<=2147483648 then (if ys.length=0 then some (.nils,st)else some (.ref st.next 0 0 ys.length,st.new (.arr 0 z ys)))else none:=nrfl rfl
theorem Vc {id gen s n:Nat} {ys:List PV}:CJ st z (.ref id gen s n) ys=(st.arr? id gen).bind λq =>
   if s+n<=q.2.length/\q.1=z/\n+ys.length<=2147483648 then
    if s+n+ys.length<=q.2.length then
     some (.ref id gen s (n+ys.length),st.set id (.arr gen z (q.2.take (s+n)++ys++q.2.drop (s+n+ys.length))))
    else some (.ref id (gen+1) 0 (n+ys.length),st.set id (.arr (gen+1) z ((q.2.drop s).take n++ys)))
   else none:=rfl
end
section
variable {P:Program} {t:TypeId} {k k':IntKind} {a b:Int}
theorem Amb:BU P .add t (.int k a) (.int k b)=some (.int k (k.wrap (a+b))):=by simp[BU,ID,IC]
theorem Amc:BU P .sub t (.int k a) (.int k b)=some (.int k (k.wrap (a-b))):=by simp[BU,ID,IC]
theorem Amd:BU P .mul t (.int k a) (.int k b)=some (.int k (k.wrap (a*b))):=by simp[BU,ID,IC]
theorem Ame:BU P .quo t (.int k a) (.int k b)=if b=0 then none else some (.int k (k.wrap (a.tdiv b))):=by simp[BU,ID,IC]
theorem Amf:BU P .rem t (.int k a) (.int k b)=if b=0 then none else some (.int k (a.tmod b)):=by simp[BU,ID,IC]
theorem Amg:BU P .and t (.int k a) (.int k b)=(Cw .and k a b).map (.int k):=by simp[BU,ID,IC]
theorem An7:BU P .or t (.int k a) (.int k b)=(Cw .or k a b).map (.int k):=by simp[BU,ID,IC]
theorem Amh:BU P .xor t (.int k a) (.int k b)=(Cw .xor k a b).map (.int k):=by simp[BU,ID,IC]
theorem pU:BU P .andNot t (.int k a) (.int k b)=(Cw .andNot k a b).map (.int k):=by simp[BU,ID,IC]
theorem Ami:BU P .eql t (.int k a) (.int k b)=some (.bool (decide (a=b))):=by simp[BU,ID,IC]
theorem Amj:BU P .neq t (.int k a) (.int k b)=some (.bool (decide (¬a=b))):=by simp[BU,ID,IC]
theorem Amk:BU P .lss t (.int k a) (.int k b)=some (.bool (decide (a<b))):=by simp[BU,ID,IC]
theorem Aml:BU P .leq t (.int k a) (.int k b)=some (.bool (decide (a<=b))):=by simp[BU,ID,IC]
theorem Amm:BU P .gtr t (.int k a) (.int k b)=some (.bool (decide (b<a))):=by simp[BU,ID,IC]
theorem Amn:BU P .geq t (.int k a) (.int k b)=some (.bool (decide (b<=a))):=by simp[BU,ID,IC]
theorem Amo:BU P .shl t (.int k a) (.int k' b)=if b<0 then none else some (.int k (k.wrap (a*2 ^ (min b.toNat k.bits)))):=nrfl rfl
theorem Amp:BU P .shr t (.int k a) (.int k' b)=if b<0 then none else some (.int k (a.fdiv (2 ^ (min b.toNat k.bits)))):=nrfl rfl
variable {s u:List UInt8}
theorem Ahy:BU P .add t (.str s) (.str u)=if s.length+u.length<=2147483648 then some (.str (s++u))else none:=nrfl rfl
theorem Ahz:BU P .eql t (.str s) (.str u)=some (.bool (decide (s=u))):=nrfl rfl
theorem Ah0:BU P .neq t (.str s) (.str u)=some (.bool (decide (¬s=u))):=nrfl rfl
theorem Ah1:BU P .lss t (.str s) (.str u)=some (.bool (aq s u)):=nrfl rfl
theorem Ah2:BU P .leq t (.str s) (.str u)=some (.bool (aq s u||decide (s=u))):=nrfl rfl
theorem Ah3:BU P .gtr t (.str s) (.str u)=some (.bool !(aq s u||decide (s=u))):=nrfl rfl
theorem Ah4:BU P .geq t (.str s) (.str u)=some (.bool !(aq s u)):=nrfl rfl
variable {x y:Bool}
theorem Ah5:BU P .eql t (.bool x) (.bool y)=if IL P t=true then some (.bool (x==y))else none:=nrfl rfl
theorem Ah6:BU P .neq t (.bool x) (.bool y)=if IL P t=true then some (.bool (!(x==y)))else none:=nrfl rfl
theorem Amq:unP .neg (.int k a)=some (.int k (k.wrap (0-a))):=nrfl rfl
theorem Amr:unP .not (.bool x)=some (.bool (!x)):=nrfl rfl
theorem Ah7 {src dst:TypeId}:QO P src dst (.int k a)=(Gn P dst).bind λk=>(Gn P src).bind λ_=>some (.int k (k.wrap a)):=nrfl rfl
theorem Ah8 {src dst:TypeId}:QO P src dst (.str s)=if AT P src=true/\AT P dst=true then some (.str s)else none:=nrfl rfl
end
section
variable {place:Nat->Option (Nat×Nat)}
theorem pV {cells:List PV}:FC place cells []=some cells:=nrfl rfl
def pW (place:Nat->Option (Nat×Nat)) (cells vs:List PV) (rest:List (Nat×PV)) (o:Option (Nat×Nat)):Option (List PV) :=
 match o with | none=>none | some q=>if vs.length=q.2/\q.1+q.2<=cells.length/\0<q.2 then FC place (DJ cells q.1 vs) rest else none
theorem fS {cells:List PV} {i:Nat} {v:PV} {rest:List (Nat×PV)}:FC place cells ((i,v)::rest)=pW place cells v.cells rest (place i):=by
 simp only[FC,pW];cases place i <;> rfl
theorem XW {cells vs:List PV} {rest:List (Nat×PV)} {q:Nat×Nat}:pW place cells vs rest (some q)=if vs.length=q.2/\q.1+q.2<=cells.length/\0<q.2 then FC place (DJ cells q.1 vs) rest else none:=nrfl rfl
end
def Aav (P:Program) (t:TypeId) (cells:List PV) (parts:List (Nat×PV)) (o:Option (Nat×Nat)):Option PV :=
 match o with
 | some q=>(FC (λi=>some (i*q.2,q.2)) cells parts).map .agg
 | none=>(FC (λi=>(A5 P t i).map λq=>(q.1,q.2.1)) cells parts).map .agg
section
variable {P:Program} {t:TypeId}
theorem fU {parts:List (Nat×PV)}:Mm P t parts=if B3 P t=true then Aav P t (Az P t).cells parts (BB P t)else none:=by
 simp only[Mm,Aav];cases BB P t <;> rfl
theorem fV {cells:List PV} {parts:List (Nat×PV)}:Aav P t cells parts none=(FC (λi=>(A5 P t i).map λq=>(q.1,q.2.1)) cells parts).map .agg:=nrfl rfl
theorem fW {cells:List PV} {parts:List (Nat×PV)} {q:Nat×Nat}:Aav P t cells parts (some q)=(FC (λi=>some (i*q.2,q.2)) cells parts).map .agg:=nrfl rfl
end
theorem Aaw {z:Nat} {l:List PV}:CF z l []=some l:=nrfl rfl
theorem pX {z i:Nat} {l:List PV} {v:PV} {rest:List (Nat×PV)}:CF z l ((i,v)::rest)=if i<l.length/\v.cells.length=z then CF z (l.set i v) rest else none:=nrfl rfl
theorem fX {cells vs:List PV} {off:Nat}:DJ cells off vs=cells.take off++vs++cells.drop (off+vs.length):=nrfl rfl
theorem Aax {args:List PV} {t:Nat}:GX args t=args.getD t .bad:=nrfl rfl
def pY:Option (List PV)->Option PV
 | some [p]=>some p
 | some ps=>some (.tuple ps)
 | none=>none
theorem Aay {P:Program} {rs:List ResultVar} {s:IState}:Sn P rs s=pY (DG P s rs):=by
 unfold Sn;cases DG P s rs with
 | none=>rfl
 | some l=>cases l with
  | nil=>rfl
  | cons a l=>cases l <;> rfl
theorem Aaz {p:PV}:pY (some [p])=some p:=nrfl rfl
theorem Aa0 {p q:PV} {l:List PV}:pY (some (p::q::l))=some (.tuple (p::q::l)):=nrfl rfl
section
variable {P:Program} {s:IState}
theorem Vd:DG P s []=some []:=nrfl rfl
theorem SC {r:ResultVar} {l:List ResultVar}:DG P s (r::l)=(Hy P s r).bind λp=>(DG P s l).map λps=>p::ps:=nrfl rfl
theorem Ve {t:Nat}:Hy P s (.tmp t)=some (s.env t):=nrfl rfl
theorem SD {a:Nat} {t:TypeId}:Hy P s (.cell a t)=(Bv P t).bind λq=>Ds s.st q.1 q.2 (s.env a):=nrfl rfl
end
section
variable {α β:Type} {x y:Option α}
theorem Aj {f:α->Option β} (h:x=y):x.bind f=y.bind f:=by rw[h]
theorem Aq {f:α->β} (h:x=y):x.map f=y.map f:=by rw[h]
end
theorem Aa1 {X:Cfg} {f k:Nat} {l:List PV} {st:Store}:Ahr X f k l st=if (D8 l).all (λi=>i==k)=true then (Ce (st.only [k]) l).bind λas=>X.tab f as (st.again k)else none:=nrfl rfl
theorem pZ {ob:Nat->Option IObj} {n k:Nat}:Store.again ⟨ob,n⟩ k=⟨Ab ob k ((ob k).bind CG),n⟩:=nrfl rfl
theorem Aa2 {X:Cfg} {f:Nat} {l:List PV} {st:Store}:Ahq X f l st=(Ce (st.only (D8 l)) l).bind λas=>X.tab f as (st.seal (D8 l)):=nrfl rfl
section
variable {st:Store} {ids:List Nat}
theorem qA {i:Nat}:(st.seal ids).obj i=if ids.contains i=true then (st.obj i).bind CG else (st.obj i).map (T0 (st.only ids)):=nrfl rfl
theorem fY:(st.seal ids).next=st.next:=nrfl rfl
end
theorem XX {g z:Nat} {es:List PV}:CG (.arr g z es)=some (.arr (g+1) z []):=nrfl rfl
section
variable {st:Store}
theorem fZ {g z:Nat} {es:List PV}:T0 st (.arr g z es)=.arr g z (es.map (Nn st)):=nrfl rfl
theorem gD {cs:List PV}:Nn st (.agg cs)=.agg (cs.map (sealC st)):=nrfl rfl
theorem gE {k:IntKind} {n:Int}:Nn st (.int k n)=.int k n:=nrfl rfl
theorem gF {k:IntKind} {n:Int}:sealC st (.int k n)=.int k n:=nrfl rfl
theorem XY {b:Bool}:sealC st (.bool b)=.bool b:=nrfl rfl
theorem XZ {z:Nat} {l:List PV}:sealC st (.lits z l)=.lits z l:=nrfl rfl
theorem X0:sealC st .nils=.nils:=nrfl rfl
theorem gG {id g s n:Nat}:sealC st (.ref id g s n)=((st.arr? id g).bind λq=>if s+n<=q.2.length/\AU q.2=true then some (.lits q.1 ((q.2.drop s).take n))else none).getD (.ref id g s n):=nrfl rfl
end
theorem Aa3 {X:Cfg} {f:Nat} {l:List PV} {st:Store}:Ahp X f l st=(Ce (st.only (D8 l)) l).bind λas=>X.tab f as (st.without (D8 l)):=nrfl rfl
section
variable {st:Store}
theorem X1 {c:PV} {l:List PV}:Ce st (c::l)=(rdP st c).bind λd=>(Ce st l).map λds=>d::ds:=by simp only[Ce]
theorem gH:Ce st []=some []:=by simp only[Ce]
theorem qB {c:PV} {l:List PV}:rdL st (c::l)=(rdC st c).bind λd=>(rdL st l).map λds=>d::ds:=by simp only[rdL]
theorem Aa4:rdL st []=some []:=by simp only[rdL]
end
theorem Aa5 {spec:List PV->Option PV} {args:List PV} {st:Store}:cX spec args st=if AU args=true then (spec args).map λr=>(r,st)else (Ce st args).bind λas=>(spec as).bind λr=>if r.scal=true then some (r,st)else none:=nrfl rfl
theorem CX {c:PV} {l:List PV}:AU (c::l)=(c.pur&&AU l):=by simp only[AU]
theorem Eu:AU []=true:=by simp only[AU]
def Bo:Code->Code
 | .region id ops _=>.region id ops false
 | .seq a b=>.seq (Bo a) (Bo b)
 | .cond c a b=>.cond c (Bo a) (Bo b)
 | .block id c=>.block id (Bo c)
 | .loop c=>.loop (Bo c)
 | .scope c=>.scope (Bo c)
 | c=>c
def Bt (X:Cfg):Code->Bool
 | .region _ ops dr => !dr||Ku X ops
 | .seq a b=>Bt X a&&Bt X b
 | .cond _ a b=>Bt X a&&Bt X b
 | .block _ c=>Bt X c
 | .loop c=>Bt X c
 | .scope c=>Bt X c
 | _=>true
theorem FK {G:WP} (hG:G.Mono) {X:Cfg} (hm:Bk X) {N:Nat} {c:Code}:∀ {Q:IExit->IState->Prop} {s:IState},Bt X c=true->wpC G X N (Bo c) Q s->wpC G X N c Q s:=by
 induction c with
 | skip=>intro Q s hd hs;exact hs
 | region id ops dr =>
  intro Q s hd hs
  rcases hs with hs | hs
  .refine .inl ⟨λh=>?_,hs.2⟩
   subst h
   simpa [Bt]using hd
  .cases hs.1
 | seq a b iha ihb =>
  intro Q s hd hs
  simp only[Bt,fy]at hd
  refine iha hd.1 (CZ hG X N _ _ _ _ hm (λe s' he=>?_) hs)
  cases e with
  | normal=>exact ihb hd.2 he
  | exit i=>exact he
  | ret=>exact he
 | cond c a b iha ihb =>
  intro Q s hd hs
  simp only[Bt,fy]at hd
  simp only[Bo,wpC]at hs ⊢
  split at hs
  .exact ⟨λhv=>iha hd.1 (hs.1 hv),λhv=>ihb hd.2 (hs.2 hv)⟩
  .exact hs.elim
 | block id c ih=>intro Q s hd hs;exact ih hd hs
 | loop c ih =>
  intro Q s hd hs
  obtain ⟨J,n,h0,hr⟩:=hs
  exact ⟨J,n,h0,λm s' hs'=>ih hd (hr m s' hs')⟩
 | exit id=>intro Q s hd hs;exact hs
 | ret=>intro Q s hd hs;exact hs
 | rangeFunc=>intro Q s hd hs;exact hs
 | scope c ih=>intro Q s hd hs;exact ih hd hs
 | label=>intro Q s hd hs;exact hs
 | goto=>intro Q s hd hs;exact hs
 | refuse=>intro Q s hd hs;exact hs
theorem Dh {X:Cfg} (hm:Bk X) {N:Nat} {c:Code} {Q:IExit->IState->Prop} {s:IState} (hd:Bt X c=true) (h:wpI X N (Bo c) Q s):wpI X N c Q s:=FK (EP X.dep) hm hd h
section
variable {X:Cfg} {N:Nat} {Q:IExit->IState->Prop} {ks:List Kf} {s:IState}
theorem Aa6:run X N Q (Bo .skip) ks s=Hu X N Q ks s:=nrfl rfl
theorem Ah9 {a b:Code}:run X N Q (Bo (.seq a b)) ks s=run X N Q (Bo a) (.seq (Bo b)::ks) s:=Se
theorem qC {id:Nat} {c:Code}:run X N Q (Bo (.block id c)) ks s=run X N Q (Bo c) (.blk id::ks) s:=Mt
theorem Aa7 {id:Nat}:run X N Q (Bo (.exit id)) ks s=Iv X N Q ks id s:=nrfl rfl
theorem Aia:run X N Q (Bo .ret) ks s=done X N Q ks s:=nrfl rfl
theorem gI {id:Nat} {l:List Oper} {dr:Bool}:run X N Q (Bo (.region id l.toArray dr)) ks s=ops X N Q l.toArray l ks s:=Kw
theorem Aa8 {c:Operand} {a b:Code}:run X N Q (Bo (.cond c a b)) ks s=Iw (AA s.env c) (run X N Q (Bo a) ks s) (run X N Q (Bo b) ks s):=OE
theorem qD {g:Operand} {ps:Array Tmp} {a b:Code}:run X N Q (Bo (.rangeFunc g ps a b)) ks s=run X N Q (.rangeFunc g ps a b) ks s:=nrfl rfl
end
section
variable {P:Program}
theorem Bd (hmix:P.follows .mixedOrders=true) {l:AX} (hl:Bw P l) (muts:List Nat) (frz:List Nat) {f:FuncId} {fn:Func} {c:Code} (hf:P.funcs[f]?=some fn) (hb:fn.body=some c)
  (hname : (fn.name == "runtime.NumGoroutine") = false) {args : List PV} {N : Nat} (hN : fn.ntmps = N) (hn : args.length ≤ N) {rs : List ResultVar} (hrs : fn.results.toList = rs) (hd : Bt (cfg P l muts frz) c = true) {r : PV}
  (h : AK args->run (cfg P l muts frz) N (Ao P rs (λp st=>DRx st p r)) (Bo c) [] ⟨GX args,st0⟩):VC P f args r :=
 Agh hmix hl muts frz hf hb hname hN hn hrs 0 λhs=>Dh (A8 rfl) hd (by
  have e:stR 0=st0:=by simp[stR,st0]
  rw [e];exact h hs)
theorem X2 (hmix:P.follows .mixedOrders=true) {l:AX} (hl:Bw P l) (muts:List Nat) (frz:List Nat) (n dep:Nat) {f:FuncId} {fn:Func} {c:Code} (hf:P.funcs[f]?=some fn) (hb:fn.body=some c)
  (hname : (fn.name == "runtime.NumGoroutine") = false) {args : List PV} {N : Nat} (hN : fn.ntmps = N) (hn : args.length ≤ N) {rs : List ResultVar} (hrs : fn.results.toList = rs) (hd : Bt (cfg P l muts frz dep) c = true) {r : PV}
  (h : AK args->run (cfg P l muts frz dep) N (Ao P rs (λp st=>DRx st p r)) (Bo c) [] ⟨GX args,⟨λi=>if i<n then some (.arr 0 1 [])else none,n⟩⟩):VC P f args r :=
 Agh hmix hl muts frz hf hb hname hN hn hrs n (dep:=dep) λhs=>Dh (A8 rfl) hd (h hs)
theorem BT (hmix:P.follows .mixedOrders=true) {l:AX} (hl:Bw P l) (muts:List Nat) (frz:List Nat) (dep:Nat) {f:FuncId} {fn:Func} {c:Code} (hf:P.funcs[f]?=some fn) (hb:fn.body=some c)
  (hname : (fn.name == "runtime.NumGoroutine") = false) {args : List PV} {N : Nat} (hN : fn.ntmps = N) (hn : args.length ≤ N) {rs : List ResultVar} (hrs : fn.results.toList = rs) (hd : Bt (cfg P l muts frz dep) c = true) {st : Store} {Q : PV → Store → Prop}
  (h : run (cfg P l muts frz dep) N (Ao P rs Q) (Bo c) [] ⟨GX args,st⟩):IXC P f args st Q :=
 yW hmix hl muts frz hf hb hname hN hn hrs (dep:=dep) (Dh (A8 rfl) hd h)
theorem NO (hmix:P.follows .mixedOrders=true) {l:AX} (hl:Bw P l) (muts:List Nat) (frz:List Nat) (n dep:Nat) {f:FuncId} {fn:Func} {c:Code} (hf:P.funcs[f]?=some fn) (hb:fn.body=some c)
  (hname : (fn.name == "runtime.NumGoroutine") = false) {args : List PV} {N : Nat} (hN : fn.ntmps = N) (hn : args.length ≤ N) {rs : List ResultVar} (hrs : fn.results.toList = rs) (hd : Bt (cfg P l muts frz dep) c = true) {z : Nat} {es : List PV}
  (hs : ∀e∈es,e.scal=true)
  (h : run (cfg P l muts frz dep) N (Ao P rs (λp st=>(∃id g,p=.ref id g 0 es.length/\st.obj id=some (.arr g z es))\/(es = []/\0<z/\p=.nils))) (Bo c) [] ⟨GX args,⟨λi=>if i<n then some (.arr 0 1 [])else none,n⟩⟩):VCA P f args z es :=
 yX hmix hl muts frz hf hb hname hN hn hrs n (dep:=dep) hs (Dh (A8 rfl) hd h)
end
theorem gJ {X:Cfg} {N:Nat} {Q:IExit->IState->Prop} {ks:List Kf} {s:IState} {all:Array Oper} {l:List Oper} {d:Option Nat} {c:Prop} [Decidable c] {x y:PV×Store}:Bq X N Q all l ks d s (if c then some x else some y)=((c->Bq X N Q all l ks d s (some x))/\(¬c->Bq X N Q all l ks d s (some y))):=by
 by_cases h:c <;> simp[h]
theorem Aa9 {k:IntKind} {l:List Int} {i:Nat} {n:Int}:(l.map (PV.int k)).set i (PV.int k n)=(l.set i n).map (PV.int k):=by simp
section
variable {α:Type} {f:α->PV}
theorem BW {l:List α} {i:Nat} (d:α) (h:i<l.length):nth (l.map f) i=f (l.getD i d):=by simp[nth,h]
theorem Gx {l:List α} (h:∀x,(f x).pur=true):AU (l.map f)=true:=Mp h
theorem Gy {l m:List α} (h:∀x y,f x=f y->x=y):(l.map f=m.map f)=(l=m):=propext ⟨GZ h,λh=>by rw[h]⟩
end
theorem gL {p:Prop} [Decidable p] {A B:Prop}:BZ (.bool (decide p)) true A B=((p->A)/\(¬p->B)):=by simp[BZ]
theorem gM {p:Prop} [Decidable p] {A B:Prop}:BZ (.bool (decide p)) false A B=((¬p->A)/\(p->B)):=by simp[BZ]
theorem Aba {p:Prop} [Decidable p] {A B:Prop}:Iw (.bool (decide p)) A B=((p->A)/\(¬p->B)):=by simp[Iw]
section
variable {P:Program} {t:TypeId} {x y:Bool}
theorem Abb:BU P .eql t (.bool x) (.bool y)=if IL P t=true then some (.bool (decide (x=y)))else none:=by rw[Ah5];cases x <;> cases y <;> rfl
theorem Abc:BU P .neq t (.bool x) (.bool y)=if IL P t=true then some (.bool (decide (¬x=y)))else none:=by rw[Ah6];cases x <;> cases y <;> rfl
end
theorem At {o o':Option Nat} {ρ:Nat->PV} (h:o=o'):grd o ρ=grd o' ρ:=by rw[h]
theorem Al {c c' a b:PV} {st:Store} (h:c=c'):Rb c a b st=Rb c' a b st:=by rw[h]
section
variable {st:Store} {ids:List Nat}
theorem qE {i:Nat}:(st.only ids).obj i=if ids.contains i=true then st.obj i else none:=nrfl rfl
theorem gQ:(st.only ids).next=st.next:=nrfl rfl
theorem Vf {i:Nat}:(st.without ids).obj i=if ids.contains i=true then none else st.obj i:=nrfl rfl
theorem SE:(st.without ids).next=st.next:=nrfl rfl
end
theorem X3 {p:PV} {l:List PV}:D8 (p::l)=idC p++D8 l:=nrfl rfl
theorem gR:D8 [] = []:=nrfl rfl
theorem Abd {i g s n:Nat}:idC (.ref i g s n) = [i]:=nrfl rfl
theorem Abe {k:IntKind} {n:Int}:idC (.int k n) = []:=nrfl rfl
theorem qF {b:Bool}:idC (.bool b) = []:=nrfl rfl
theorem Abf {b:List UInt8}:idC (.str b) = []:=nrfl rfl
theorem qG:idC .nils = []:=nrfl rfl
theorem qH {z:Nat} {l:List PV}:idC (.lits z l) = []:=nrfl rfl
def idE:PV->List Nat | .ref id _ _ _ => [id] | _ => []
def idL:List PV->List Nat | [] => [] | c::l=>idE c++idL l
theorem Abg {cs:List PV}:idC (.agg cs)=idL cs:=by
 induction cs with
 | nil=>rfl
 | cons c l ih=>simp only[idC,List.flatMap_cons]at ih ⊢;rw[ih];cases c <;> rfl
theorem qI {c:PV} {l:List PV}:idL (c::l)=idE c++idL l:=nrfl rfl
theorem Abh:idL [] = []:=nrfl rfl
theorem Abi {i g s n:Nat}:idE (.ref i g s n) = [i]:=nrfl rfl
theorem Abj {k:IntKind} {n:Int}:idE (.int k n) = []:=nrfl rfl
theorem qJ {b:Bool}:idE (.bool b) = []:=nrfl rfl
theorem Abk {b:List UInt8}:idE (.str b) = []:=nrfl rfl
theorem qK:idE .nils = []:=nrfl rfl
theorem qL {z:Nat} {l:List PV}:idE (.lits z l) = []:=nrfl rfl
theorem AL {W W2:List Nat} {ρ0 ρ1 ρ:Nat->PV} (h:(W2.all λt=>W.contains t)=true):Iy W ρ0 (Kh W2 ρ1 ρ)=Iy W ρ0 ρ1:=by
 refine propext ⟨λg u hu=>?_,λg u hu=>?_⟩
 all_goals
  have hn:W2.contains u=false:=by
   cases hc:W2.contains u with
   | false=>rfl
   | true =>
    have := List.all_eq_true.1 h u (List.contains_iff_mem.1 hc)
    rw [this]at hu;cases hu
  have e:Kh W2 ρ1 ρ u=ρ1 u:=Js hn
 .rw [<-e];exact g u hu
 .rw [e];exact g u hu
theorem qM:nm.bits=64:=nrfl rfl
theorem qN:IntKind.u64.bits=64:=nrfl rfl
theorem qO:IntKind.u32.bits=32:=nrfl rfl
theorem Abl:IntKind.u8.bits=8:=nrfl rfl
def orI (a b:Int):Int:=nm.wrap (ap 64 a ||| ap 64 b).toNat
theorem Aib {a b:Int}:Cw .or .i64 a b=some (orI a b):=nrfl rfl
section
variable {X:Cfg} {d:Nat} {ρ:Operand->PV} {st:Store}
section
variable {t:TypeId}
theorem Vg:iop X d (.makeMap t none) ρ st=(AW X.P t).bind λq=>some (.mref st.next 0,st.new (.map 0 q.1 [])):=nrfl rfl
theorem SF {r:Operand}:iop X d (.makeMap t (some r)) ρ st=(AW X.P t).bind λq=>(Df (ρ r)).map λ_=>(.mref st.next 0,st.new (.map 0 q.1 [])):=nrfl rfl
theorem X4 {m k v:Operand}:iop X d (.insert t m k v) ρ st=(Kk st (AW X.P t) (ρ m) (ρ k) (ρ v)).map λst'=>(.bad,st'):=nrfl rfl
theorem QB {m k v:Operand}:iop X d (.mapUpdate t m k v) ρ st=(Kk st (AW X.P t) (ρ m) (ρ k) (ρ v)).map λst'=>(.bad,st'):=nrfl rfl
theorem X5 {m k:Operand} {ok:Bool}:iop X d (.lookup t m k ok) ρ st=(CW st (AW X.P t) (ρ m) (ρ k) ok).map λv=>(v,st):=nrfl rfl
theorem gT {m:Operand}:iop X d (.range t m) ρ st=FA st (AW X.P t) (ρ m):=nrfl rfl
end
theorem gU {x:Operand}:iop X d (.entry x) ρ st=(mapEntry st (ρ x)).map λv=>(v,st):=nrfl rfl
def MA (o:Option IObj) (gen:Nat):Option (MK×List (PV×PV)):=match o with | some (.map g mk es)=>if gen=g then some (mk,es)else none | _=>none
theorem gV {g h:Nat} {mk:MK} {es:List (PV×PV)}:MA (some (.map h mk es)) g=if g=h then some (mk,es)else none:=nrfl rfl
section
variable {mk:MK}
theorem Vh {z:PV} {id gen:Nat} {k v:PV}:Kk st (some (mk,z)) (.mref id gen) k v=(MA (st.obj id) gen).bind λq=>if mk=q.1/\BN q.1 k=true then some (st.set id (.map gen q.1 (CR q.2 k v)))else none:=by
 simp only[Kk,MA]
 cases st.obj id with
 | none=>rfl
 | some o =>
  cases o <;> try rfl
  rename_i g mk' es
  by_cases h:gen=g
  .subst h;simp
  .simp [h]
def OR (mk:MK) (z:PV) (k:PV) (ok:Bool) (q:MK×List (PV×PV)):Option PV:=if q.1=mk then (match Cd q.2 k with
    | some v=>some (if ok then .tuple [v,.bool true]else v)
    | none=>some (if ok then .tuple [z,.bool false]else z))else none
theorem Vi {z:PV} {id gen:Nat} {k:PV} {ok:Bool}:CW st (some (mk,z)) (.mref id gen) k ok=if BN mk k=true then (MA (st.obj id) gen).bind (OR mk z k ok)else none:=by
 simp only[CW,MA,aw]
 split
 .cases st.obj id with
  | none=>rfl
  | some o =>
   cases o <;> try rfl
   rename_i g mk' es
   by_cases h:gen=g
   .subst h
    by_cases hm:mk'=mk
    .simp [OR,hm];cases Cd es k <;> rfl
    .simp [OR,hm]
   .simp [h]
 .rfl
theorem qP {z k:PV} {es:List (PV×PV)}:OR mk z k true (mk,es)=some (.tuple [(Cd es k).getD z,.bool (Cd es k).isSome]):=by
 cases h:Cd es k <;> simp[OR,h]
theorem qQ {z k:PV} {es:List (PV×PV)}:OR mk z k false (mk,es)=some ((Cd es k).getD z):=by
 cases h:Cd es k <;> simp[OR,h]
theorem Vj {z k:PV} {ok:Bool}:CW st (some (mk,z)) .nilm k ok=if BN mk k=true then some (if ok then .tuple [z,.bool false]else z)else none:=nrfl rfl
end
section
variable {q:MK×PV}
theorem QC {id gen:Nat}:FA st (some q) (.mref id gen)=(MA (st.obj id) gen).bind λr=>some (.iter st.next 0,st.new (.it (some (id,gen)) r.2.length [])):=by
 simp only[FA,MA,aw]
 cases st.obj id with
 | none=>rfl
 | some o =>
  cases o <;> try rfl
  rename_i g mk' es
  by_cases h:gen=g
  .subst h;simp
  .simp [h]
theorem QD:FA st (some q) .nilm=some (.iter st.next 0,st.new (.it none 0 [])):=nrfl rfl
theorem gW {L:Option Int} {id gen:Nat}:fG st (some q) L (.mref id gen)=(MA (st.obj id) gen).bind λr=>some (r.2.length:Int):=by
 simp only[fG,IM,MA,aw]
 cases st.obj id with
 | none=>rfl
 | some o =>
  cases o <;> try rfl
  rename_i g mk' es
  by_cases h:gen=g
  .subst h;simp
  .simp [h]
theorem gZ {L:Option Int}:fG st (some q) L .nilm=some 0:=nrfl rfl
end
theorem hZ {k k':IntKind} {n:Int}:BN (.int k) (.int k' n)=decide (k=k'):=nrfl rfl
theorem iB {s:List UInt8}:BN .str (.str s)=true:=nrfl rfl
theorem X6 {b:Bool}:BN .bool (.bool b)=true:=nrfl rfl
theorem iC {z id gen s n:Nat} {y:PV}:TY st z (.ref id gen s n) y=(Ahw (st.obj id) gen).bind λq=>if s+n<=q.2.length/\q.1=z/\0<z/\y.isStr=false then (CD st z y).bind λys=>some (min ys.length n,st.set id (.arr gen z (q.2.take s++ys.take (min ys.length n)++q.2.drop (s+min ys.length n))))else none:=nrfl rfl
theorem iD {i g s n:Nat}:PV.isStr (.ref i g s n)=false:=nrfl rfl
theorem X7 {z:Nat} {l:List PV}:PV.isStr (.lits z l)=false:=nrfl rfl
theorem X8:PV.isStr .nils=false:=nrfl rfl
theorem SG {t:TypeId} {m k:Operand}:iop X d (.mapEntry t m k) ρ st=EG st (AW X.P t) (ρ m) (ρ k):=nrfl rfl
theorem OS {t:TypeId} {m s x:Operand}:iop X d (.entryStore t m s x) ρ st=(GR st (ρ m) (ρ s) (ρ x)).map λst'=>(.bad,st'):=nrfl rfl
theorem SH {mk:MK} {z:PV} {id gen:Nat} {k:PV}:EG st (some (mk,z)) (.mref id gen) k=(MA (st.obj id) gen).bind λq=>if q.1=mk/\BN q.1 k=true then some (.tuple [(Cd q.2 k).getD z,.int .i64 (Qj q.2 k)],st.set id (.map gen q.1 (CR q.2 k ((Cd q.2 k).getD z))))else none:=by
 simp only[EG,MA,aw]
 cases st.obj id with
 | none=>rfl
 | some o =>
  cases o <;> try rfl
  rename_i g mk' es
  by_cases h:gen=g
  .subst h;simp
  .simp [h]
def Abm (es:List (PV×PV)) (n:Nat) (x:PV):Option (List (PV×PV)):=(es[n]?).map λe=>es.set n (e.1,x)
theorem Abn {es:List (PV×PV)} {k v x:PV}:Abm (CR es k v) (Qj es k) x=some (CR es k x):=by
 induction es with
 | nil=>rfl
 | cons e es ih =>
  simp only[CR,Qj]
  split
  .rfl
  .simp only[Abm,List.getElem?_cons_succ,List.set_cons_succ]at ih ⊢
   simp only[Option.map_eq_some_iff]at ih ⊢
   obtain ⟨a,h1,h2⟩:=ih
   exact ⟨a,h1,by rw[h2]⟩
theorem QE {id gen:Nat} {ik:IntKind} {n:Int} {x:PV}:GR st (.mref id gen) (.int ik n) x=(MA (st.obj id) gen).bind λq=>if 0<=n then (Abm q.2 n.toNat x).map λes=>st.set id (.map gen q.1 es)else none:=by
 simp only[GR,MA]
 cases st.obj id with
 | none=>rfl
 | some o =>
  cases o <;> try rfl
  rename_i g mk' es
  by_cases h:gen=g
  .subst h
   by_cases hn:0<=n
   .simp [hn,Abm,Option.map_map,Function.comp_def]
   .simp [hn]
  .simp [h]
theorem Vk {a b:Int}:BN (.ints 2) (.agg [.int .i64 a,.int .i64 b])=decide ((-9223372036854775808<=a/\a<=9223372036854775807)/\(-9223372036854775808<=b/\b<=9223372036854775807)):=by
 simp [BN,J9]
section
variable {id m g n:Nat} {seen:List Nat}
theorem X9 {mk:MK} {es:List (PV×PV)} (h1:st.obj id=some (.it (some (m,g)) n seen)) (h2:st.obj m=some (.map g mk es)) {K:PV->Store->Prop} :
  EH st (.iter id 0) K=(es.length=n/\(seen.length=n->K (.tuple [.bool false]) st)/\(∀i k v,es[i]?=some (k,v)->i ∉ seen->K (.tuple [.bool true,k,v]) (st.set id (.it (some (m,g)) n (seen ++ [i]))))):=by
 simp [EH,h1,h2]
theorem Vl {i:Nat} {mk:MK} {es:List (PV×PV)} {k v:PV} (h1:st.obj id=some (.it (some (m,g)) n (seen ++ [i]))) (h2:st.obj m=some (.map g mk es)) (h3:es.length=n) (h4:es[i]?=some (k,v)) :
  mapEntry st (.iter id 0)=some (.tuple [k,v]):=by
 simp [mapEntry,h1,h2,h3,h4]
end
end
section
variable {X:Cfg} {N:Nat} {Q:IExit->IState->Prop} {ks:List Kf} {s:IState}
section
variable {all:Array Oper} {rest:List Oper} {dst:Option Nat} {op:Op} {ty:TypeId} {pos:String} {after:Array Edge}
theorem iE (hn:BV X op=true) :
  ops X N Q all (⟨dst,op,ty,pos,after,none⟩::rest) ks s=Bq X N Q all rest ks dst s (iop X (dst.getD 0) op (AA s.env) s.st):=OF (Sc hn)
theorem Ya {j:Nat} {want:Bool} (hn:BV X op=true) :
  ops X N Q all (⟨dst,op,ty,pos,after,some (j,want)⟩::rest) ks s =
   BZ (DK all s.env j) want (Bq X N Q all rest ks dst s (iop X (dst.getD 0) op (AA s.env) s.st)) (Bq X N Q all rest ks dst s (some (.tuple [],s.st))):=Q2 (Sc hn)
end
theorem I6 {all:Array Oper} {l:List Oper} {o:Oper} {r:PV×Store}:(∃s',Hs N o s r=some s'/\ops X N Q all l ks s')=Bq X N Q all l ks o.dst s (some r):=by
 simp only[Hs,Bq]
 cases o.dst with
 | none=>simp
 | some d =>
  by_cases hd:d<N
  .simp [hd]
  .simp [hd]
def MC (p:PV) (l:Nat) (A B:Prop):Prop:=match p with | .func (.yield l') [] []=>if l'=l then B else A | _=>A
theorem HD {p p':PV} {l:Nat} {A B:Prop} (h:p=p'):MC p l A B=MC p' l A B:=by rw[h]
theorem iF {f l:Nat} {a b:List PV} {A B:Prop}:MC (.func (.func f) a b) l A B=A:=nrfl rfl
theorem Kz {l:Nat} {A B:Prop}:MC (.func (.yield l) [] []) l A B=B:=by simp[MC]
theorem iG {l:Nat} {H:GI} (hy:X.yl=some (l,H)) {all:Array Oper} {rest:List Oper} {dst:Option Nat} {f:Operand} {as:List Operand} {ts:List TypeId} {ty:TypeId} {pos:String} {after:Array Edge} :
  ops X N Q all (⟨dst,.call ⟨.value f,as.toArray,ts.toArray⟩,ty,pos,after,none⟩::rest) ks s =
   MC (AA s.env f) l (Bq X N Q all rest ks dst s (DP X (dst.getD 0) (AA s.env f) (RY X (dst.getD 0) ts) (evs (AA s.env) as) s.st)) (H (evs (AA s.env) as) s.st λb st'=>Bq X N Q all rest ks dst s (some (.bool b,st'))):=by
 by_cases h:AA s.env f=.func (.yield l) [] []
 .rw [h,Kz]
  simp only[ops,EO,DU,DF,if_true,yOf,hy,h]
  simp only[Ky]
  have : (λ(b:Bool) (st':Store)=>∃s',Hs N ⟨dst,.call ⟨.value f,as.toArray,ts.toArray⟩,ty,pos,after,none⟩ s (.bool b,st')=some s'/\EO X N all rest s' (Hu X N Q ks))=λb st'=>Bq X N Q all rest ks dst s (some (.bool b,st')):=by
   funext b st';exact I6 (o:=⟨dst,.call ⟨.value f,as.toArray,ts.toArray⟩,ty,pos,after,none⟩)
  rw [this]
 .have hn:yOf X (.call ⟨.value f,as.toArray,ts.toArray⟩) (AA s.env)=none:=by
   simp only[yOf,hy]
   split
   .rename_i l' hl
    split
    .rename_i e;subst e;exact absurd hl h
    .rfl
   .rfl
  rw [OF hn,Mz]
  have : ∀A B:Prop,MC (AA s.env f) l A B=A:=λA B=>by
   unfold MC
   split
   .rename_i l' hl
    split
    .rename_i e;subst e;exact absurd hl h
    .rfl
   .rfl
  rw [this]
theorem Yb {l:Nat} {H:GI} (hy:X.yl=some (l,H)) {all:Array Oper} {rest:List Oper} {dst:Option Nat} {f:Operand} {as:List Operand} {ts:List TypeId} {ty:TypeId} {pos:String} {after:Array Edge} {j:Nat} {want:Bool} :
  ops X N Q all (⟨dst,.call ⟨.value f,as.toArray,ts.toArray⟩,ty,pos,after,some (j,want)⟩::rest) ks s =
   BZ (DK all s.env j) want (MC (AA s.env f) l (Bq X N Q all rest ks dst s (DP X (dst.getD 0) (AA s.env f) (RY X (dst.getD 0) ts) (evs (AA s.env) as) s.st)) (H (evs (AA s.env) as) s.st λb st'=>Bq X N Q all rest ks dst s (some (.bool b,st'))))
    (Bq X N Q all rest ks dst s (some (.tuple [],s.st))):=by
 by_cases h:AA s.env f=.func (.yield l) [] []
 .rw [h,Kz]
  have skip:DF all ⟨dst,.call ⟨.value f,as.toArray,ts.toArray⟩,ty,pos,after,some (j,want)⟩ s.env=false->ops X N Q all (⟨dst,.call ⟨.value f,as.toArray,ts.toArray⟩,ty,pos,after,some (j,want)⟩::rest) ks s=∃s',stepG X N all ⟨dst,.call ⟨.value f,as.toArray,ts.toArray⟩,ty,pos,after,some (j,want)⟩ s=some s'/\ops X N Q all rest ks s':=λhg=>by
   simp only[ops,EO,DU,hg,gu,if_false]
  have out:(∃s',(Option.bind (some (PV.tuple [],s.st)) (Hs N ⟨dst,.call ⟨.value f,as.toArray,ts.toArray⟩,ty,pos,after,some (j,want)⟩ s))=some s'/\ops X N Q all rest ks s')=Bq X N Q all rest ks dst s (some (.tuple [],s.st)):=I6 (o:=⟨dst,.call ⟨.value f,as.toArray,ts.toArray⟩,ty,pos,after,some (j,want)⟩)
  cases hg:DK all s.env j with
  | bool b =>
   by_cases hb:b=want
   .subst hb
    have h1:ops X N Q all (⟨dst,.call ⟨.value f,as.toArray,ts.toArray⟩,ty,pos,after,some (j,b)⟩::rest) ks s=H (evs (AA s.env) as) s.st λb' st'=>Bq X N Q all rest ks dst s (some (.bool b',st')):=by
     have e1:DF all ⟨dst,.call ⟨.value f,as.toArray,ts.toArray⟩,ty,pos,after,some (j,b)⟩ s.env=true:=by simp[DF,hg]
     simp only[ops,EO,DU,e1,if_true,yOf,hy,h]
     simp only[Ky]
     have : (λ(b':Bool) (st':Store)=>∃s',Hs N ⟨dst,.call ⟨.value f,as.toArray,ts.toArray⟩,ty,pos,after,some (j,b)⟩ s (.bool b',st')=some s'/\EO X N all rest s' (Hu X N Q ks))=λb' st'=>Bq X N Q all rest ks dst s (some (.bool b',st')):=by
      funext b' st';exact I6 (o:=⟨dst,.call ⟨.value f,as.toArray,ts.toArray⟩,ty,pos,after,some (j,b)⟩)
     rw [this]
    rw [h1]
    cases b <;> simp[BZ]
   .rw [skip (by simp[DF,hg,hb])]
    simp only[stepG,Bx,hg,if_neg hb]
    rw [out]
    cases b <;> cases want <;> simp[BZ]at hb ⊢
  | tuple t =>
   rw [skip (by simp[DF,hg])]
   cases t with
   | nil =>
    simp only[stepG,Bx,hg]
    rw [out,Um]
   | cons a t=>simp[stepG,Bx,hg,BZ]
  | _ =>
   rw [skip (by simp[DF,hg])]
   simp [stepG,Bx,hg,BZ]
 .have hn:yOf X (.call ⟨.value f,as.toArray,ts.toArray⟩) (AA s.env)=none:=by
   simp only[yOf,hy]
   split
   .rename_i l' hl
    split
    .rename_i e;subst e;exact absurd hl h
    .rfl
   .rfl
  rw [Q2 hn,Mz]
  have : ∀A B:Prop,MC (AA s.env f) l A B=A:=λA B=>by
   unfold MC
   split
   .rename_i l' hl
    split
    .rename_i e;subst e;exact absurd hl h
    .rfl
   .rfl
  rw [this]
theorem iH {all:Array Oper} {rest:List Oper} {dst:Option Nat} {x:Operand} {ty:TypeId} {pos:String} {after:Array Edge} :
  ops X N Q all (⟨dst,.next x false,ty,pos,after,none⟩::rest) ks s=EH s.st (AA s.env x) λr st'=>Bq X N Q all rest ks dst s (some (r,st')):=by
 simp only[ops,EO,DU,DF,if_true,yOf]
 have : (λ(r:PV) (st':Store)=>∃s',Hs N ⟨dst,.next x false,ty,pos,after,none⟩ s (r,st')=some s'/\EO X N all rest s' (Hu X N Q ks))=λr st'=>Bq X N Q all rest ks dst s (some (r,st')):=by
  funext r st';exact I6 (o:=⟨dst,.next x false,ty,pos,after,none⟩)
 rw [this]
end
def SJ (p:PV) (op:BinOp) (ok:Bool) (A:Prop) (K:PV->Prop):Prop:=match p with | .lits _ []=>∃p q,GT op ok true=some p/\GT op ok false=some q/\K p/\K q | _=>A
section
variable {op:BinOp} {ok:Bool} {A:Prop} {K:PV->Prop}
theorem iI:SJ .nils op ok A K=A:=nrfl rfl
theorem iJ {z:Nat} {x:PV} {l:List PV}:SJ (.lits z (x::l)) op ok A K=A:=nrfl rfl
end
section
variable {A:Prop} {K:PV->Prop} {z:Nat}
theorem qR:SJ (.lits z []) .eql true A K=(K (.bool true)/\K (.bool false)):=by simp[SJ,GT]
theorem iK:SJ (.lits z []) .neq true A K=(K (.bool false)/\K (.bool true)):=by simp[SJ,GT]
end
section
variable {P:Program} {t:TypeId}
theorem qS {z:Nat} {x:PV} {l:List PV}:BU P .eql t (.lits z (x::l)) .nils=if (Ae P t != 0)=true then some (.bool false)else none:=by
 simp [BU,GT]
theorem Aic {z:Nat} {x:PV} {l:List PV}:BU P .neq t (.lits z (x::l)) .nils=if (Ae P t != 0)=true then some (.bool true)else none:=by
 simp [BU,GT]
theorem Abo:BU P .eql t .nils .nils=if (Ae P t != 0)=true then some (.bool true)else none:=by
 simp [BU,GT]
theorem Abp:BU P .neq t .nils .nils=if (Ae P t != 0)=true then some (.bool false)else none:=by
 simp [BU,GT]
end
section
variable {X:Cfg}
theorem iL {N:Nat} {Q:IExit->IState->Prop} {ks:List Kf} {s:IState} {all:Array Oper} {rest:List Oper} {dst:Option Nat} {op:BinOp} {t u:TypeId} {x:Operand} {ty:TypeId} {pos:String} {after:Array Edge} :
  ops X N Q all (⟨dst,.binOp op t x (.const (.slice none 0 0)) u,ty,pos,after,none⟩::rest) ks s=SJ (AA s.env x) op (Ae X.P t != 0) (Bq X N Q all rest ks dst s (iop X (dst.getD 0) (.binOp op t x (.const (.slice none 0 0)) u) (AA s.env) s.st)) (λp=>Bq X N Q all rest ks dst s (some (p,s.st))):=by
 have ex:∀r:PV×Store,(∃s',Hs N ⟨dst,.binOp op t x (.const (.slice none 0 0)) u,ty,pos,after,none⟩ s r=some s'/\EO X N all rest s' (Hu X N Q ks))=Bq X N Q all rest ks dst s (some r):=λr=>I6 (o:=⟨dst,.binOp op t x (.const (.slice none 0 0)) u,ty,pos,after,none⟩)
 generalize hp:AA s.env x=p
 have rest_:yOf X (.binOp op t x (.const (.slice none 0 0)) u) (AA s.env)=none->ops X N Q all (⟨dst,.binOp op t x (.const (.slice none 0 0)) u,ty,pos,after,none⟩::rest) ks s=Bq X N Q all rest ks dst s (iop X (dst.getD 0) (.binOp op t x (.const (.slice none 0 0)) u) (AA s.env) s.st):=λh=>OF h
 unfold SJ
 split
 .simp only[ops,EO,DU,DF,if_true,yOf]
  rw [if_pos (show NI (.const (.slice none 0 0))=true from rfl)]
  simp only[hp]
  have := ex
  simp only[ex]
 .rename_i hne
  apply rest_
  simp only[yOf]
  rw [if_pos (show NI (.const (.slice none 0 0))=true from rfl)]
  split
  .rename_i he;exact absurd (hp.symm.trans he) (hne _)
  .rfl
theorem Abq:∀a0,BV X (.move a0)=true:=by intros;exact nrfl rfl
theorem iM:∀a0,BV X (.assign a0)=true:=by intros;exact nrfl rfl
theorem Abr:∀a0 a1 a2,BV X (.pick a0 a1 a2)=true:=by intros;exact nrfl rfl
theorem qU:∀a0,BV X (.alloc a0)=true:=by intros;exact nrfl rfl
theorem Aid:∀a0 a1,BV X (.box a0 a1)=true:=by intros;exact nrfl rfl
theorem qV:∀a0 a1,BV X (.build a0 a1)=true:=by intros;exact nrfl rfl
theorem QF:∀a0 a1 a2,BV X (.buildSlice a0 a1 a2)=true:=by intros;exact nrfl rfl
theorem iN:∀a0 a1 a2 a3,BV X (.insert a0 a1 a2 a3)=true:=by intros;exact nrfl rfl
theorem Abs:∀a0 a1,BV X (.load a0 a1)=true:=by intros;exact nrfl rfl
theorem qW:∀a0 a1 a2,BV X (.store a0 a1 a2)=true:=by intros;exact nrfl rfl
theorem Vm:∀a0,BV X (.nilCheck a0)=true:=by intros;exact nrfl rfl
theorem qX:∀a0 a1 a2 a3 a4,BV X (.binOp a0 a1 a2 a3 a4) = !NI a3:=by intros;exact nrfl rfl
end
theorem qY {t:Nat}:NI (.tmp t)=false:=nrfl rfl
theorem qZ {k:IntKind} {n:Int}:NI (.const (.int k n))=false:=nrfl rfl
theorem iO {b:Bool}:NI (.const (.bool b))=false:=nrfl rfl
theorem rB {s:ByteArray}:NI (.const (.string s))=false:=nrfl rfl
theorem rC {a:Option Addr}:NI (.const (.pointer a))=false:=nrfl rfl
theorem Yc:NI (.const .nilIface)=false:=nrfl rfl
section
variable {X:Cfg}
theorem Abt:∀a0 a1 a2,BV X (.unOp a0 a1 a2)=true:=by intros;exact nrfl rfl
theorem Yd:∀a0 a1 a2,BV X (.convert a0 a1 a2)=true:=by intros;exact nrfl rfl
theorem MD:∀a0 a1,BV X (.makeInterface a0 a1)=true:=by intros;exact nrfl rfl
theorem Vn:∀a0 a1 a2,BV X (.makeFunc a0 a1 a2)=true:=by intros;exact nrfl rfl
theorem Ye:∀a0 a1,BV X (.makeMap a0 a1)=true:=by intros;exact nrfl rfl
theorem SK:∀a0 a1 a2,BV X (.makeSlice a0 a1 a2)=true:=by intros;exact nrfl rfl
theorem rD:∀a0 a1 a2 a3 a4,BV X (.slice a0 a1 a2 a3 a4)=true:=by intros;exact nrfl rfl
theorem SL:∀a0 a1 a2,BV X (.fieldAddr a0 a1 a2)=true:=by intros;exact nrfl rfl
theorem rF:∀a0 a1 a2,BV X (.field a0 a1 a2)=true:=by intros;exact nrfl rfl
theorem SM:∀a0 a1 a2,BV X (.indexAddr a0 a1 a2)=true:=by intros;exact nrfl rfl
theorem rG:∀a0 a1 a2,BV X (.index a0 a1 a2)=true:=by intros;exact nrfl rfl
theorem iP:∀a0 a1 a2 a3,BV X (.lookup a0 a1 a2 a3)=true:=by intros;exact nrfl rfl
theorem SN:∀a0 a1 a2 a3,BV X (.mapUpdate a0 a1 a2 a3)=true:=by intros;exact nrfl rfl
theorem Vo:∀a0 a1 a2,BV X (.mapEntry a0 a1 a2)=true:=by intros;exact nrfl rfl
theorem QG:∀a0 a1 a2 a3,BV X (.entryStore a0 a1 a2 a3)=true:=by intros;exact nrfl rfl
theorem rH:∀a0 a1,BV X (.range a0 a1)=true:=by intros;exact nrfl rfl
theorem rI:∀a0,BV X (.entry a0)=true:=by intros;exact nrfl rfl
theorem QH:∀a0 a1 a2 a3,BV X (.typeAssert a0 a1 a2 a3)=true:=by intros;exact nrfl rfl
theorem Yf:∀a0 a1,BV X (.extract a0 a1)=true:=by intros;exact nrfl rfl
theorem rJ:∀a0,BV X (.panic a0)=true:=by intros;exact nrfl rfl
theorem rK {f:FuncId} {a:Array Operand} {b:Array TypeId}:BV X (.call ⟨.value (.func f),a,b⟩)=true:=nrfl rfl
theorem rL {f:Builtin} {a:Array Operand} {b:Array TypeId}:BV X (.call ⟨.builtin f,a,b⟩)=true:=nrfl rfl
theorem rM {r:Operand} {m:String} {a:Array Operand} {b:Array TypeId}:BV X (.call ⟨.invoke r m,a,b⟩)=true:=nrfl rfl
theorem rN {t:Nat} {a:Array Operand} {b:Array TypeId}:BV X (.call ⟨.value (.tmp t),a,b⟩)=X.yl.isNone:=nrfl rfl
end
theorem Vp {α:Type}:(none:Option α).isNone=true:=nrfl rfl
section
variable {P:Program} {E:AX} {m f:List Nat} {dp:Nat} {rd:Bool} {l:Nat} {H:GI} {N:Nat} {Q:IExit->IState->Prop} {ks:List Kf} {s:IState} {all:Array Oper} {rest:List Oper} {dst:Option Nat} {t:Nat} {as:List Operand} {ts:List TypeId} {ty:TypeId} {pos:String} {after:Array Edge}
theorem Yg:
  ops (cfg P E m f dp (some (l,H)) rd) N Q all (⟨dst,.call ⟨.value (.tmp t),as.toArray,ts.toArray⟩,ty,pos,after,none⟩::rest) ks s =
   MC (AA s.env (.tmp t)) l (Bq (cfg P E m f dp (some (l,H)) rd) N Q all rest ks dst s (DP (cfg P E m f dp (some (l,H)) rd) (dst.getD 0) (AA s.env (.tmp t)) (RY (cfg P E m f dp (some (l,H)) rd) (dst.getD 0) ts) (evs (AA s.env) as) s.st))
    (H (evs (AA s.env) as) s.st λb st'=>Bq (cfg P E m f dp (some (l,H)) rd) N Q all rest ks dst s (some (.bool b,st'))):=iG rfl
theorem Vq {j:Nat} {want:Bool} :
  ops (cfg P E m f dp (some (l,H)) rd) N Q all (⟨dst,.call ⟨.value (.tmp t),as.toArray,ts.toArray⟩,ty,pos,after,some (j,want)⟩::rest) ks s =
   BZ (DK all s.env j) want (MC (AA s.env (.tmp t)) l (Bq (cfg P E m f dp (some (l,H)) rd) N Q all rest ks dst s (DP (cfg P E m f dp (some (l,H)) rd) (dst.getD 0) (AA s.env (.tmp t)) (RY (cfg P E m f dp (some (l,H)) rd) (dst.getD 0) ts) (evs (AA s.env) as) s.st))
    (H (evs (AA s.env) as) s.st λb st'=>Bq (cfg P E m f dp (some (l,H)) rd) N Q all rest ks dst s (some (.bool b,st'))))
    (Bq (cfg P E m f dp (some (l,H)) rd) N Q all rest ks dst s (some (.tuple [],s.st))):=Yb rfl
end
section
variable {P:Program} {l:AX} {m f:List Nat} {dp:Nat} {yl:Option (Nat×GI)} {rnd:Bool}
theorem Aie:(cfg P l m f dp yl rnd).yl=yl:=nrfl rfl
theorem rO:D6 (cfg P l m f dp yl rnd)=cfg P l m f dp yl true:=nrfl rfl
end
theorem iQ {X:Cfg} {N:Nat} {Q:IExit->IState->Prop} {i:Nat} {s:IState}:Iv X N Q [] i s=Q (.exit i) s:=nrfl rfl
section
variable {i g:Nat}
theorem Yh:(PV.mref i g).cells = [.mref i g]:=nrfl rfl
theorem Yi:(PV.iter i g).cells = [.iter i g]:=nrfl rfl
theorem Vr:(PV.mref i g).isCell=true:=nrfl rfl
theorem Vs:(PV.iter i g).isCell=true:=nrfl rfl
end
theorem QI {v:PV}:Bi .nilm 0 [v]=v:=nrfl rfl
theorem QJ {i g:Nat} {v:PV}:Bi (.mref i g) 0 [v]=v:=nrfl rfl
theorem Yj {ρ:Nat->PV} {p:Nat} {ps:List Nat} {v:PV} {vs:List PV}:Gw ρ (p::ps) (v::vs)=Gw (upd ρ p v) ps vs:=nrfl rfl
theorem iR {ρ:Nat->PV} {vs:List PV}:Gw ρ [] vs=ρ:=nrfl rfl
def Later (st st':Store):Prop:=st.next<=st'.next/\∀x o,x<st.next->st.obj x=some o->(∀r,o≠.lp r)->st'.obj x=some o
theorem Later.refl (st:Store):Later st st:=⟨cg _,λ_ _ _ h _=>h⟩
def Stays (J:Store->Prop):Prop:=∀st st',J st->Later st st'->J st'
theorem Stays.obj {x:Nat} {o:IObj} (h:∀r,o≠.lp r):Stays λst=>st.obj x=some o/\x<st.next:=λst st' ⟨h1,h2⟩ hl=>⟨hl.2 x o h2 h1 h,np h2 hl.1⟩
theorem Stays.and {J K:Store->Prop} (h:Stays J) (g:Stays K):Stays λst=>J st/\K st:=λst st' ⟨a,b⟩ hl=>⟨h st st' a hl,g st st' b hl⟩
theorem Stays.const {P:Prop}:Stays λ_=>P:=λ_ _ h _=>h
theorem Stays.ex {α:Type} {J:α->Store->Prop} (h:∀a,Stays (J a)):Stays λst=>∃a,J a st:=λst st' ⟨a,g⟩ hl=>⟨a,h a st st' g hl⟩
def CM (id:Nat) (rb:Loop) (J1:Store->Prop) (Ex:IExit->Store->Prop):IExit->IState->Prop:=λe s2 =>
 s2.st.obj id=some (.lp rb)/\id<s2.st.next/\match e with | .normal=>J1 s2.st | e=>Ex e s2.st
def GL (X:Cfg) (N id:Nat) (r:Loop) (J1:Store->Prop) (Ex:IExit->Store->Prop) (body:Code):IExit->IState->Prop:=λe s1 =>
 e = .normal/\s1.st.obj id=some (.lp r)/\∀rb,run (D6 X) N (CM id rb J1 Ex) (Bo body) [] ⟨s1.env,s1.st.set id (.lp rb)⟩
theorem Cv {st:Store} {id:Nat} {r r':Loop} (h:st.obj id=some (.lp r)):Later st (st.set id (.lp r')):=by
 refine ⟨cg _,λx o hx ho hl=>?_⟩
 have hne:x≠id:=λe=>by subst e;rw[h]at ho;cases ho;exact hl r rfl
 simp [kd,Ab,hne,ho]
theorem Rc {st:Store} {o:IObj}:Later st (st.new o):=by
 refine ⟨by simp[kp],λx o' hx ho _=>?_⟩
 have : x≠st.next:=by omega
 simp [kp,Ab,this,ho]
def Keep (base:Nat) (st st':Store):Prop:=st.next<=st'.next/\∀x,base<=x->x<st.next->(∀r,st.obj x≠some (.lp r))->st'.obj x=st.obj x
theorem Keep.mono {b b':Nat} {st st':Store} (h:Keep b st st') (hb:b<=b'):Keep b' st st':=⟨h.1,λx hx=>h.2 x (by omega)⟩
def SP (P:Program) (d:Nat) (f:FuncId) (first captured:List PV) (ys:List (List PV)):Prop :=
 ∃ fn c, P.funcs[f]? = some fn ∧ fn.body = some c ∧ (fn.name == "runtime.NumGoroutine") = false ∧ fn.results.toList = [] ∧ first.length + 1 + captured.length ≤ fn.ntmps ∧
  ∀ (l:Nat) (H:GI) (J:Nat->Store->Prop) (E:Store->Prop) (st:Store) (X:Cfg),X.P=P->X.yl=some (l,H)->X.rnd=false->Bk X->J 0 st ->
   (∀ i st st',J i st->st.next<=st'.next->(∀x,x<st.next->st'.obj x=st.obj x)->J i st') ->
   (∀ i y st1,ys[i]?=some y->J i st1->H y st1 λb st'=>if b=true then J (i+1) st'/\Keep st.next st1 st' else E st') ->
   gen (d+1) X fn.ntmps c (λe s=>(e=.normal\/e=.ret)/\(J ys.length s.st\/E s.st)) ⟨GX (first++.func (.yield l) [] []::captured),st⟩
theorem Yk {P:Program} {l:AX} (hl:Bw P l) (muts frz:List Nat) (dep:Nat) {f:FuncId} {fn:Func} {c:Code} (hf:P.funcs[f]?=some fn) (hb:fn.body=some c)
  (hname : (fn.name == "runtime.NumGoroutine") = false) (hrs : fn.results.toList = []) {first captured : List PV} {N : Nat} (hN : fn.ntmps = N) (hn : first.length + 1 + captured.length ≤ N)
  (hd : ∀y,Bt (cfg P l muts frz dep (some y)) c=true) {ys:List (List PV)}
  (h : ∀(y:Nat) (H:GI) (J:Nat->Store->Prop) (E:Store->Prop) (st:Store),Bk (cfg P l muts frz dep (some (y,H)))->J 0 st ->
   (∀ i st st',J i st->st.next<=st'.next->(∀x,x<st.next->st'.obj x=st.obj x)->J i st') ->
   (∀ i v st1 (K:Bool->Store->Prop),ys[i]?=some v->J i st1->(∀st',J (i+1) st'->Keep st.next st1 st'->K true st')->(∀st',E st'->K false st')->H v st1 K) ->
   run (cfg P l muts frz dep (some (y,H))) N (λe s=>(e=.normal\/e=.ret)/\(J ys.length s.st\/E s.st)) (Bo c) [] ⟨GX (first++.func (.yield y) [] []::captured),st⟩) :
  SP P dep f first captured ys:=by
 subst hN
 refine ⟨fn,c,hf,hb,hname,hrs,hn,λy H J E st X hP hyl hrnd hm h0 hst hH=>⟨cfg P l muts frz dep (some (y,H)),hP.symm,hyl.symm,hrnd.symm,rfl,GY hl,DW hl,?_⟩⟩
 have hm':Bk (cfg P l muts frz dep (some (y,H))):=λl' H' he=>hm l' H' (by rw[hyl];exact he)
 have := h y H J E st hm' h0 hst (λi v st K hv hJ ht hf=>hm' y H rfl _ _ _ _ (λb st' hb=>by
  cases b
  .exact hf st' (by simpa using hb)
  .have :=(show _/\_ by simpa using hb);exact ht st' this.1 this.2) (hH i v st hv hJ))
 exact Dh hm' (hd _) this
theorem Yl {X:Cfg} {N:Nat} {Q:IExit->IState->Prop} {ks:List Kf} {ρ:Nat->PV} {st:Store} {g:Operand} {ps:Array Tmp} {assign body:Code} {d:Nat} {f:FuncId} {first captured:List PV} {ys:List (List PV)}
  (hr : X.rnd=false) (hd:X.dep=d+1) (hm:Bk X) (hg:AA ρ g=.func (.func f) first captured) (hy:SP X.P d f first captured ys) (hps:(ps.toList.all λp=>decide (p<N))=true) (hlen:∀y∈ys,y.length=ps.size)
  (ha : Bt (D6 X) assign=true) (hb:Bt (D6 X) body=true)
  (J : Nat->Store->Prop) (Ex:IExit->Store->Prop) (hJ:∀i,Stays (J i)) (hE:∀e,Stays (Ex e)) (h0:J 0 st)
  (hround : ∀i y st1 id r,ys[i]?=some y->id<st1.next->st1.obj id=some (.lp r)->st.next<=id->J i st1->run (D6 X) N (GL X N id r (λst'=>J (i+1) st'/\Keep st.next st1 st') Ex body) (Bo assign) [] ⟨Gw ρ ps.toList y,st1⟩)
  (hend : ∀st,J ys.length st->Hu X N Q ks ⟨ρ,st⟩) (hex:∀i st,Ex (.exit i) st->Iv X N Q ks i ⟨ρ,st⟩) (hret:∀st,Ex .ret st->done X N Q ks ⟨ρ,st⟩) :
  run X N Q (.rangeFunc g ps assign body) ks ⟨ρ,st⟩:=by
 have hmr:Bk (D6 X):=hm
 simp only[run,wpI,wpC]
 refine ⟨_,.refl _,hr,?_⟩
 rw [hg]
 obtain ⟨fn,c,h1,h2,h3,h4,h5,h6⟩:=hy
 refine ⟨fn,c,h1,h2,h3,h4,h5,hps,λl r hr1 hr2=>?_⟩
 have hgm:=EP X.dep
 generalize hH:(λ(args:List PV) (st1:Store) (K:Bool->Store->Prop)=>st1.obj st.next=some (IObj.lp r)/\args.length=ps.size /\
       wpC (gen X.dep) (D6 X) N assign (λe s1=>e=.normal/\s1.st.obj st.next=some (.lp r) /\
        wpC (gen X.dep) (D6 X) N body (λe s2=>s2.st.obj st.next=some (.lp { r with state:=.busy }) /\
         match e with
         | .normal=>K true (s2.st.set st.next (.lp r))
         | .ret=>K false (s2.st.set st.next (.lp { r with state:=.done,pending:=some .ret }))
         | .exit i=>K false (s2.st.set st.next (.lp { r with state:=.done,pending:=some (.exit i) })))
         ⟨s1.env, s1.st.set st.next (.lp { r with state:=.busy })⟩)
        ⟨Gw ρ ps.toList args,st1⟩)=H
 have hHm:Bk (OC X (l,H)):=by
  intro l' H' he args st K K' hk hh
  simp only[OC,bp,c9]at he
  obtain ⟨rfl,rfl⟩:=he
  subst hH
  obtain ⟨g1,g2,g3⟩:=hh
  refine ⟨g1,g2,CZ hgm (D6 X) N assign _ _ _ hmr (λe s1 he=>⟨he.1,he.2.1,CZ hgm (D6 X) N body _ _ _ hmr (λe s2 he2=>⟨he2.1,?_⟩) he.2.2⟩) g3⟩
  cases e with
  | normal=>exact hk _ _ he2.2
  | exit i=>exact hk _ _ he2.2
  | ret=>exact hk _ _ he2.2
 have key:=h6 l H (λi st1=>st1.obj st.next=some (.lp r)/\st.next<st1.next/\J i st1)
  (λst1=>(st1.obj st.next=some (.lp { r with state:=.done,pending:=some .ret })/\Ex .ret st1)\/∃i,st1.obj st.next=some (.lp { r with state:=.done,pending:=some (.exit i) })/\Ex (.exit i) st1)
  (st.new (.lp r)) (OC X (l,H)) rfl rfl rfl hHm ⟨by simp[kp,Ab],by simp[kp],hJ 0 _ _ h0 Rc⟩
  (λi s1 s2 ⟨a1,a2,a3⟩ hn ho=>⟨by rw[ho _ a2];exact a1,by omega,hJ i _ _ a3 ⟨hn,λx o hx hox _=>by rw[ho x hx];exact hox⟩⟩)
  (λi y s1 hy' ⟨a1,a2,a3⟩=>by
   subst hH
   refine ⟨a1,hlen y (ac hy'),?_⟩
   have hrn:=FK hgm hmr ha (hround i y s1 st.next r hy' a2 a1 (cg _) a3)
   refine CZ hgm (D6 X) N assign _ _ _ hmr (λe t1 he=>?_) hrn
   obtain ⟨rfl,b2,b3⟩:=he
   refine ⟨rfl,b2,?_⟩
   have hrb:=FK hgm hmr hb (b3 { r with state:=.busy })
   refine CZ hgm (D6 X) N body _ _ _ hmr (λe t2 he=>?_) hrb
   obtain ⟨c1,c2,c3⟩:=he
   refine ⟨c1,?_⟩
   cases e with
   | normal =>
    obtain ⟨c3,c4,c5⟩:=c3
    simp only[if_true]
    refine ⟨⟨by simp[kd,Ab],c2,hJ (i+1) _ _ c3 (Cv c1)⟩,c4,λx hx hlt hlp=>?_⟩
    have hne:x≠st.next:=λe=>by subst e;exact hlp r a1
    rw [<-c5 x (by simp[kp]at hx;omega) hlt hlp]
    simp [kd,Ab,hne]
   | ret=>simp only[gu,if_false];exact .inl ⟨by simp[kd,Ab],hE _ _ _ c3 (Cv c1)⟩
   | exit j=>simp only[gu,if_false];exact .inr ⟨j,by simp[kd,Ab],hE _ _ _ c3 (Cv c1)⟩)
 rw [<-hd]at key
 refine EP X.dep _ _ _ _ _ _ hHm (λe s1 he=>⟨he.1,?_⟩) key
 rcases he.2 with ⟨a1,a2,a3⟩ | ⟨a1,a2⟩ | ⟨i,a1,a2⟩
 .exact .inl ⟨a1,hend _ (hJ _ _ _ a3 (Cv a1))⟩
 .exact .inr (.inl ⟨a1,hret _ (hE _ _ _ a2 (Cv a1))⟩)
 .exact .inr (.inr ⟨i,a1,hex i _ (hE _ _ _ a2 (Cv a1))⟩)
noncomputable def A9 {ι:Type} (A:ι->List PV) (H:ι->Store->Prop) (R:ι->Store->PV×Store):List PV->Store->Option (PV×Store):=λargs st =>
 @dite _ (∃i,A i=args/\H i st) (Classical.propDecidable _) (λh=>some (R h.choose st)) (λ_=>none)
theorem Bc {ι:Type} {A:ι->List PV} {H:ι->Store->Prop} {R:ι->Store->PV×Store} (hj:∀i j st,A i=A j->H i st->H j st->R i st=R j st) {i:ι} {st:Store} (hi:H i st):A9 A H R (A i) st=some (R i st):=by
 unfold A9
 have h:∃j,A j=A i/\H j st:=⟨i,rfl,hi⟩
 rw [dif_pos h]
 exact congrArg some (hj _ _ _ h.choose_spec.1 h.choose_spec.2 hi)
def Left (r:PV) (st':Store) (p:PV) (st1:Store):Prop :=
 ∃ ids:List Nat,(p=r\/rdP (st1.only ids) p=some r)/\(∀i o,st'.obj i=some o->ids.contains i=false/\st1.obj i=some o)/\st1.next<=st'.next
theorem Inv.skip {C:Ctx} {st:Store} {w:World} (h:Inv C st w) {n:Nat} (hn:st.next<=n):Inv C ⟨st.obj,n⟩ w where
 os := h.os
 out := h.out
 hB := h.hB
 old := h.old
 imm := h.imm
 next := λid hid=>h.next id (Nat.le_trans hn hid)
 none_ := h.none_
 obj := h.obj
 sep := h.sep
 keep := h.keep
theorem IXC.left {P:Program} {f:FuncId} {args:List PV} {st:Store} {r:PV} {st':Store} (h:IXC P f args st (Left r st')):IXC P f args st λr' st''=>r'=r/\st''=st':=by
 refine ⟨h.1,λC w vals hi hv=>Calls.mono (h.2 C w vals hi hv) λe w' he=>?_⟩
 obtain ⟨v,C1,p,st1,rfl,hle,hi1,hvr,ids,hp,ho,hn⟩:=he
 obtain ⟨a1,a2,_⟩:=hi1.without ids
 have hv2:VR (C1.closeIn ids w') v r:=by
  rcases hp with rfl | hp
  .exact hvr.mono a1
  .exact VR.freeze hi1 ids hp hvr
 obtain ⟨b1,b2,_⟩:=a2.without ((br st1.next).filter λi=>(st'.obj i).isNone)
 have e:((st1.without ids).without ((br st1.next).filter λi=>(st'.obj i).isNone)).obj=st'.obj:=by
  funext i
  unfold nq
  dsimp only
  cases hs:st'.obj i with
  | some o =>
   obtain ⟨g1,g2⟩:=ho i o hs
   rw [if_neg (by simp[hs]),if_neg (by rw[g1];exact nr),g2]
  | none =>
   by_cases c:i<st1.next
   .rw [if_pos (by simp[hs,c])]
   .rw [if_neg (by simp[c])]
    cases hs1:st1.obj i with
    | none=>split <;> rfl
    | some o=>exact absurd (hi1.obj i o hs1).1 (hi1.next i (by omega))
 refine ⟨v,_,r,st',rfl,(hle.trans a1).trans b1,?_,hv2.mono b1,rfl,rfl⟩
 have := b2.skip (n:=st'.next) (by show st1.next<=_;exact hn)
 rw [e]at this
 exact this
theorem Left.refl {r:PV} {st:Store}:Left r st r st:=⟨[],.inl rfl,λi o h=>⟨rfl,h⟩,cg _⟩
theorem Left.same {r p:PV} {st st':Store} (h:p=r) (ho:∀i o,st'.obj i=some o->st.obj i=some o) (hn:st.next<=st'.next):Left r st' p st:=⟨[],.inl h,λi o g=>⟨rfl,ho i o g⟩,hn⟩
theorem Cf {ι:Type} {P:Program} {f:FuncId} {A:ι->List PV} {H:ι->Store->Prop} {R:ι->Store->PV×Store} (h:∀i st,H i st->IXC P f (A i) st (Left (R i st).1 (R i st).2)):AM P f (.x (A9 A H R)):=by
 intro args st r st' hs
 unfold A9 at hs
 split at hs
 .rename_i hc
  have e:=c7 hs
  have h1:=hc.choose_spec
  have :=(h hc.choose st h1.2).left
  rw [h1.1,e]at this
  exact this
 .cases hs
inductive PV.In (K:Nat->Prop):PV->Prop where
 | bad:PV.In K .bad
 | bool (b:Bool):PV.In K (.bool b)
 | int (k:IntKind) (n:Int):PV.In K (.int k n)
 | str (s:List UInt8):PV.In K (.str s)
 | nilp:PV.In K .nilp
 | ptr (id gen idx off:Nat) (h:K id):PV.In K (.ptr id gen idx off)
 | vptr (cells:List PV) (off:Nat) (h:∀c∈cells,PV.In K c):PV.In K (.vptr cells off)
 | nils:PV.In K .nils
 | lits (z:Nat) (l:List PV) (h:∀e∈l,∀c∈e.cells,PV.In K c):PV.In K (.lits z l)
 | ref (id gen s n:Nat) (h:K id):PV.In K (.ref id gen s n)
 | func (fn:Fn) (a b:List PV) (h1:∀c∈a,PV.In K c) (h2:∀c∈b,PV.In K c):PV.In K (.func fn a b)
 | nilf:PV.In K .nilf
 | iface (t:TypeId) (v:PV) (h:PV.In K v):PV.In K (.iface t v)
 | nili:PV.In K .nili
 | agg (l:List PV) (h:∀c∈l,PV.In K c):PV.In K (.agg l)
 | tuple (l:List PV) (h:∀c∈l,PV.In K c):PV.In K (.tuple l)
 | nilm:PV.In K .nilm
 | mref (id gen:Nat) (h:K id):PV.In K (.mref id gen)
 | iter (id gen:Nat) (h:K id):PV.In K (.iter id gen)
def OIn (K:Nat->Prop):IObj->Prop
 | .arr _ _ es=>∀e∈es,∀c∈e.cells,c.In K
 | .map _ _ es=>∀e∈es,e.1.In K/\e.2.In K
 | .it m _ _=>∀id g,m=some (id,g)->K id
 | .lp _=>True
theorem PV.In.mono {K K':Nat->Prop} (hk:∀i,K i->K' i) {p:PV} (h:p.In K):p.In K':=by
 induction h with
 | bad=>exact .bad
 | bool b=>exact .bool b
 | int k n=>exact .int k n
 | str s=>exact .str s
 | nilp=>exact .nilp
 | ptr id gen idx off h=>exact .ptr id gen idx off (hk _ h)
 | vptr cells off h ih=>exact .vptr cells off ih
 | nils=>exact .nils
 | lits z l h ih=>exact .lits z l ih
 | ref id gen s n h=>exact .ref id gen s n (hk _ h)
 | func fn a b h1 h2 ih1 ih2=>exact .func fn a b ih1 ih2
 | nilf=>exact .nilf
 | iface t v h ih=>exact .iface t v ih
 | nili=>exact .nili
 | agg l h ih=>exact .agg l ih
 | tuple l h ih=>exact .tuple l ih
 | nilm=>exact .nilm
 | mref id gen h=>exact .mref id gen (hk _ h)
 | iter id gen h=>exact .iter id gen (hk _ h)
theorem OIn.mono {K K':Nat->Prop} (hk:∀i,K i->K' i) {o:IObj} (h:OIn K o):OIn K' o:=by
 cases o with
 | arr g z es=>exact λe he c hc=>(h e he c hc).mono hk
 | map g mk es=>exact λe he=>⟨(h e he).1.mono hk,(h e he).2.mono hk⟩
 | it m n s=>exact λid g e=>hk _ (h id g e)
 | lp r=>trivial
theorem HE {α:Type} {l:List α} {P:α->Prop} (h:∀(j:Nat) (c:α),l[j]?=some c->P c):∀c∈l,P c:=λc hc=>by
 obtain ⟨j,hj⟩:=bt.1 hc
 exact h j c hj
theorem VR.born {C:Ctx} {v:Value} {p:PV} (h:VR C v p):p.In C.born:=by
 induction h with
 | bad v=>exact .bad
 | bool b=>exact .bool b
 | int k n=>exact .int k n
 | str s l h hm=>exact .str l
 | nilp=>exact .nilp
 | ptr v id g i o hv hb hg h=>exact .ptr id g i o hb
 | vptr b o off cells hc hi h ih=>exact .vptr cells off (HE ih)
 | nils=>exact .nils
 | lits b o size cap l hcap hmax hsz hl hi h ih=>exact .lits size l (HE λi e hi=>HE λj c hj=>ih i j e c hi hj)
 | lits0 a cap z=>exact .lits z [] λe he=>by simp at he
 | ref v id g s n hv hb hg h=>exact .ref id g s n hb
 | func fn first captured pf pc hf hc h1 h2 ih1 ih2=>exact .func fn pf pc (HE ih1) (HE ih2)
 | nilf=>exact .nilf
 | iface t v p h ih=>exact .iface t p ih
 | nili=>exact .nili
 | agg cs l hn hc h ih=>exact .agg l (HE ih)
 | tuple cs l hn h ih=>exact .tuple l (HE ih)
 | nilm=>exact .nilm
 | mref v id g hv hb hg h=>exact .mref id g hb
 | iter v id g hv hb hg h=>exact .iter id g hb
def Ctx.lower (C:Ctx) (K:Nat->Prop):Ctx:={ C with born:=λi=>C.born i/\K i }
theorem VR.lower {C:Ctx} {K:Nat->Prop} {v:Value} {p:PV} (h:VR C v p):p.In K->VR (C.lower K) v p:=by
 induction h with
 | bad v=>exact λ_=>.bad v
 | bool b=>exact λ_=>.bool b
 | int k n=>exact λ_=>.int k n
 | str s l h hm=>exact λ_=>.str s l h hm
 | nilp=>exact λ_=>.nilp
 | ptr v id g i o hv hb hg h=>intro hk;cases hk with | ptr _ _ _ _ hk=>exact .ptr v id g i o hv ⟨hb,hk⟩ hg h
 | vptr b o off cells hc hi h ih=>intro hk;cases hk with | vptr _ _ hk=>exact .vptr b o off cells hc hi λj c hj=>ih j c hj (hk c (ac hj))
 | nils=>exact λ_=>.nils
 | lits b o size cap l hcap hmax hsz hl hi h ih=>intro hk;cases hk with | lits _ _ hk=>exact .lits b o size cap l hcap hmax hsz hl hi λi j e c he hc=>ih i j e c he hc (hk e (ac he) c (ac hc))
 | lits0 a cap z=>exact λ_=>.lits0 a cap z
 | ref v id g s n hv hb hg h=>intro hk;cases hk with | ref _ _ _ _ hk=>exact .ref v id g s n hv ⟨hb,hk⟩ hg h
 | func fn first captured pf pc hf hc h1 h2 ih1 ih2=>intro hk;cases hk with | func _ _ _ k1 k2=>exact .func fn first captured pf pc hf hc (λi p hp=>ih1 i p hp (k1 p (ac hp))) (λi p hp=>ih2 i p hp (k2 p (ac hp)))
 | nilf=>exact λ_=>.nilf
 | iface t v p h ih=>intro hk;cases hk with | iface _ _ hk=>exact .iface t v p (ih hk)
 | nili=>exact λ_=>.nili
 | agg cs l hn hc h ih=>intro hk;cases hk with | agg _ hk=>exact .agg cs l hn hc λi p hp=>ih i p hp (hk p (ac hp))
 | tuple cs l hn h ih=>intro hk;cases hk with | tuple _ hk=>exact .tuple cs l hn λi p hp=>ih i p hp (hk p (ac hp))
 | nilm=>exact λ_=>.nilm
 | mref v id g hv hb hg h=>intro hk;cases hk with | mref _ _ hk=>exact .mref v id g hv ⟨hb,hk⟩ hg h
 | iter v id g hv hb hg h=>intro hk;cases hk with | iter _ _ hk=>exact .iter v id g hv ⟨hb,hk⟩ hg h
theorem ObjAt.born {C:Ctx} {w:World} {L:Loc} {o:IObj} (h:ObjAt C w L o):OIn C.born o:=by
 cases o with
 | arr gen z es =>
  obtain ⟨h1,h1',h2,h3,h4⟩:=h
  intro e he c hc
  obtain ⟨i,hi⟩:=bt.1 he
  have hlt:i<es.length:=(List.getElem?_eq_some_iff.1 hi).1
  obtain ⟨h5,h6,cs,T,h7,h8,h9⟩:=h4 (by omega)
  obtain ⟨j,hj⟩:=bt.1 hc
  exact ((h9 i e hi).2.2 j c hj).born
 | map gen mk es =>
  obtain ⟨h1,h2,h3,h4,ces,h5,h6,h7⟩:=h
  intro e he
  obtain ⟨i,hi⟩:=bt.1 he
  obtain ⟨x,g1,g2,g3,g4,g5⟩:=h7 i e.1 e.2 hi
  exact ⟨g2.born,g3.born⟩
 | it m n seen =>
  obtain ⟨h1,h2,h3,h4,h5,h6,h7⟩:=h
  intro id g e
  subst e
  exact h7.1
 | lp r=>trivial
theorem ObjAt.lower {C:Ctx} {w:World} {L:Loc} {o:IObj} {K:Nat->Prop} (h:ObjAt C w L o) (hk:OIn K o):ObjAt (C.lower K) w L o:=by
 cases o with
 | arr gen z es =>
  obtain ⟨h1,h1',h2,h3,h4⟩:=h
  refine ⟨h1,h1',h2,h3,λhc=>?_⟩
  obtain ⟨h5,h6,cs,T,h7,h8,h9⟩:=h4 hc
  exact ⟨h5,h6,cs,T,h7,h8,λi e he=>⟨(h9 i e he).1,(h9 i e he).2.1,λj c hj=>((h9 i e he).2.2 j c hj).lower (hk e (ac he) c (ac hj))⟩⟩
 | map gen mk es =>
  obtain ⟨h1,h2,h3,h4,ces,h5,h6,h7⟩:=h
  refine ⟨h1,h2,h3,h4,ces,h5,h6,λi k v he=>?_⟩
  obtain ⟨e,g1,g2,g3,g4,g5⟩:=h7 i k v he
  have := hk _ (ac he)
  exact ⟨e,g1,g2.lower this.1,g3.lower this.2,g4,g5⟩
 | it m n seen =>
  obtain ⟨h1,h2,h3,h4,h5,h6,h7⟩:=h
  refine ⟨h1,h2,h3,h4,h5,h6,?_⟩
  cases m with
  | none=>exact h7
  | some q =>
   obtain ⟨g1,g2,mb,g3,g4⟩:=h7
   exact ⟨⟨g1,hk _ _ rfl⟩,g2,mb,g3,g4⟩
 | lp r=>exact h
theorem Inv.lower {C:Ctx} {st:Store} {w:World} (h:Inv C st w) {n:Nat} (hk:∀i o,st.obj i=some o->i<n/\OIn (· < n) o):Inv (C.lower (· < n)) ⟨st.obj,n⟩ w where
 os := h.os
 out := h.out
 hB := h.hB
 old := h.old
 imm := h.imm
 next := λid hid hb=>Nat.lt_irrefl _ (np hb.2 hid)
 none_ := h.none_
 obj := λid o ho=>by
  obtain ⟨a1,L,a2,a3⟩:=h.obj id o ho
  obtain ⟨b1,b2⟩:=hk id o ho
  exact ⟨⟨a1,b1⟩,L,a2,a3.lower b2⟩
 sep := h.sep
 keep := h.keep
theorem Ctx.le.lower {C C':Ctx} (h:C.le C') {K:Nat->Prop} (hk:∀i,C.born i->K i):C.le (C'.lower K) :=
 ⟨h.imm, h.old,λid hb=>⟨h.born id hb,hk id hb⟩,h.loc,h.B,h.h,h.os,h.out,h.keep,h.caller⟩
def OT (st0:Store) (r:PV) (st':Store) (p:PV) (st1:Store):Prop :=
 ∃ ids:List Nat,(p=r\/rdP (st1.only ids) p=some r)/\(∀i o,st'.obj i=some o->i<st'.next/\ids.contains i=false/\st1.obj i=some o/\(st0.obj i=some o\/OIn (· < st'.next) o))/\st0.next<=st'.next/\r.In (· < st'.next)
theorem IXC.left0 {P:Program} {f:FuncId} {args:List PV} {st:Store} {r:PV} {st':Store} (h:IXC P f args st (OT st r st')):IXC P f args st λr' st''=>r'=r/\st''=st':=by
 refine ⟨h.1,λC w vals hi hv=>Calls.mono (h.2 C w vals hi hv) λe w' he=>?_⟩
 obtain ⟨v,C1,p,st1,rfl,hle,hi1,hvr,ids,hp,ho,hn,hr⟩:=he
 obtain ⟨a1,a2,_⟩:=hi1.without ids
 have hv2:VR (C1.closeIn ids w') v r:=by
  rcases hp with rfl | hp
  .exact hvr.mono a1
  .exact VR.freeze hi1 ids hp hvr
 obtain ⟨b1,b2,_⟩:=a2.without ((br st1.next).filter λi=>(st'.obj i).isNone)
 have e:((st1.without ids).without ((br st1.next).filter λi=>(st'.obj i).isNone)).obj=st'.obj:=by
  funext i
  unfold nq
  dsimp only
  cases hs:st'.obj i with
  | some o =>
   obtain ⟨_,g1,g2,_⟩:=ho i o hs
   rw [if_neg (by simp[hs]),if_neg (by rw[g1];exact nr),g2]
  | none =>
   by_cases c:i<st1.next
   .rw [if_pos (by simp[hs,c])]
   .rw [if_neg (by simp[c])]
    cases hs1:st1.obj i with
    | none=>split <;> rfl
    | some o=>exact absurd (hi1.obj i o hs1).1 (hi1.next i (by omega))
 have hborn:∀i,C.born i->i<st'.next:=λi hb=>by
  rcases Nat.lt_or_ge i st.next with c | c
  .exact np c hn
  .exact absurd hb (hi.next i c)
 have hlow:=b2.lower (n:=st'.next) (λi o hio=>by
  rw [e]at hio
  obtain ⟨g0,g1,g2,g3⟩:=ho i o hio
  refine ⟨g0,?_⟩
  rcases g3 with g3 | g3
  .obtain ⟨_,L,_,hat⟩:=hi.obj i o g3
   exact hat.born.mono hborn
  .exact g3)
 rw [e]at hlow
 exact ⟨v,_,r,st',rfl,((hle.trans a1).trans b1).lower hborn,hlow,(hv2.mono b1).lower hr,rfl,rfl⟩
theorem Fy {ι:Type} {P:Program} {f:FuncId} {A:ι->List PV} {H:ι->Store->Prop} {R:ι->Store->PV×Store} (h:∀i st,H i st->IXC P f (A i) st (OT st (R i st).1 (R i st).2)):AM P f (.x (A9 A H R)):=by
 intro args st r st' hs
 unfold A9 at hs
 split at hs
 .rename_i hc
  have e:=c7 hs
  have h1:=hc.choose_spec
  have :=(h hc.choose st h1.2).left0
  rw [h1.1,e]at this
  exact this
 .cases hs
theorem IXC.of_wf {P:Program} {f:FuncId} {args:List PV} {st:Store} {Q:PV->Store->Prop} (hen:DE P f) (h:WF st->IXC P f args st Q):IXC P f args st Q :=
 ⟨hen, λC w vals hi hv=>(h hi.wf).2 C w vals hi hv⟩
def NP (G:Store->Prop) (P:Program) (d:Nat) (f:FuncId) (first captured:List PV) (ys:List (List PV)):Prop :=
 ∃ fn c, P.funcs[f]? = some fn ∧ fn.body = some c ∧ (fn.name == "runtime.NumGoroutine") = false ∧ fn.results.toList = [] ∧ first.length + 1 + captured.length ≤ fn.ntmps ∧
  ∀ (l:Nat) (H:GI) (J:Nat->Store->Prop) (E:Store->Prop) (st:Store) (X:Cfg),X.P=P->X.yl=some (l,H)->X.rnd=false->Bk X->J 0 st ->
   (∀ i st st',J i st->st.next<=st'.next->(∀x,x<st.next->st'.obj x=st.obj x)->J i st')->(∀i st,J i st->G st) ->
   (∀ i y st,ys[i]?=some y->J i st->H y st λb st'=>if b=true then J (i+1) st' else E st') ->
   gen (d+1) X fn.ntmps c (λe s=>(e=.normal\/e=.ret)/\(J ys.length s.st\/E s.st)) ⟨GX (first++.func (.yield l) [] []::captured),st⟩
theorem OU (G:Store->Prop) {P:Program} {l:AX} (hl:Bw P l) (muts frz:List Nat) (dep:Nat) {f:FuncId} {fn:Func} {c:Code} (hf:P.funcs[f]?=some fn) (hb:fn.body=some c)
  (hname : (fn.name == "runtime.NumGoroutine") = false) (hrs : fn.results.toList = []) {first captured : List PV} {N : Nat} (hN : fn.ntmps = N) (hn : first.length + 1 + captured.length ≤ N)
  (hd : ∀y,Bt (cfg P l muts frz dep (some y)) c=true) {ys:List (List PV)}
  (h : ∀(y:Nat) (H:GI) (J:Nat->Store->Prop) (E:Store->Prop) (st:Store),Bk (cfg P l muts frz dep (some (y,H)))->J 0 st ->
   (∀ i st st',J i st->st.next<=st'.next->(∀x,x<st.next->st'.obj x=st.obj x)->J i st')->(∀i st,J i st->G st) ->
   (∀ i v st (K:Bool->Store->Prop),ys[i]?=some v->J i st->(∀st',J (i+1) st'->K true st')->(∀st',E st'->K false st')->H v st K) ->
   run (cfg P l muts frz dep (some (y,H))) N (λe s=>(e=.normal\/e=.ret)/\(J ys.length s.st\/E s.st)) (Bo c) [] ⟨GX (first++.func (.yield y) [] []::captured),st⟩) :
  NP G P dep f first captured ys:=by
 subst hN
 refine ⟨fn,c,hf,hb,hname,hrs,hn,λy H J E st X hP hyl hrnd hm h0 hst hG hH=>⟨cfg P l muts frz dep (some (y,H)),hP.symm,hyl.symm,hrnd.symm,rfl,GY hl,DW hl,?_⟩⟩
 have hm':Bk (cfg P l muts frz dep (some (y,H))):=λl' H' he=>hm l' H' (by rw[hyl];exact he)
 have := h y H J E st hm' h0 hst hG (λi v st K hv hJ ht hf=>hm' y H rfl _ _ _ _ (λb st' hb=>by
  cases b
  .exact hf st' (by simpa using hb)
  .exact ht st' (by simpa using hb)) (hH i v st hv hJ))
 exact Dh hm' (hd _) this
theorem HF {G:Store->Prop} {X:Cfg} {N:Nat} {Q:IExit->IState->Prop} {ks:List Kf} {ρ:Nat->PV} {st:Store} {g:Operand} {ps:Array Tmp} {assign body:Code} {d:Nat} {f:FuncId} {first captured:List PV} {ys:List (List PV)}
  (hr : X.rnd=false) (hd:X.dep=d+1) (hm:Bk X) (hg:AA ρ g=.func (.func f) first captured) (hy:NP G X.P d f first captured ys) (hps:(ps.toList.all λp=>decide (p<N))=true) (hlen:∀y∈ys,y.length=ps.size)
  (ha : Bt (D6 X) assign=true) (hb:Bt (D6 X) body=true)
  (J : Nat->Store->Prop) (Ex:IExit->Store->Prop) (hJ:∀i,Stays (J i)) (hE:∀e,Stays (Ex e)) (h0:J 0 st) (hG:∀i st,J i st->G st)
  (hround : ∀i y st id r,ys[i]?=some y->id<st.next->st.obj id=some (.lp r)->J i st->run (D6 X) N (GL X N id r (J (i+1)) Ex body) (Bo assign) [] ⟨Gw ρ ps.toList y,st⟩)
  (hend : ∀st,J ys.length st->Hu X N Q ks ⟨ρ,st⟩) (hex:∀i st,Ex (.exit i) st->Iv X N Q ks i ⟨ρ,st⟩) (hret:∀st,Ex .ret st->done X N Q ks ⟨ρ,st⟩) :
  run X N Q (.rangeFunc g ps assign body) ks ⟨ρ,st⟩:=by
 have hmr:Bk (D6 X):=hm
 simp only[run,wpI,wpC]
 refine ⟨_,.refl _,hr,?_⟩
 rw [hg]
 obtain ⟨fn,c,h1,h2,h3,h4,h5,h6⟩:=hy
 refine ⟨fn,c,h1,h2,h3,h4,h5,hps,λl r hr1 hr2=>?_⟩
 have hgm:=EP X.dep
 generalize hH:(λ(args:List PV) (st1:Store) (K:Bool->Store->Prop)=>st1.obj st.next=some (IObj.lp r)/\args.length=ps.size /\
       wpC (gen X.dep) (D6 X) N assign (λe s1=>e=.normal/\s1.st.obj st.next=some (.lp r) /\
        wpC (gen X.dep) (D6 X) N body (λe s2=>s2.st.obj st.next=some (.lp { r with state:=.busy }) /\
         match e with
         | .normal=>K true (s2.st.set st.next (.lp r))
         | .ret=>K false (s2.st.set st.next (.lp { r with state:=.done,pending:=some .ret }))
         | .exit i=>K false (s2.st.set st.next (.lp { r with state:=.done,pending:=some (.exit i) })))
         ⟨s1.env, s1.st.set st.next (.lp { r with state:=.busy })⟩)
        ⟨Gw ρ ps.toList args,st1⟩)=H
 have hHm:Bk (OC X (l,H)):=by
  intro l' H' he args st K K' hk hh
  simp only[OC,bp,c9]at he
  obtain ⟨rfl,rfl⟩:=he
  subst hH
  obtain ⟨g1,g2,g3⟩:=hh
  refine ⟨g1,g2,CZ hgm (D6 X) N assign _ _ _ hmr (λe s1 he=>⟨he.1,he.2.1,CZ hgm (D6 X) N body _ _ _ hmr (λe s2 he2=>⟨he2.1,?_⟩) he.2.2⟩) g3⟩
  cases e with
  | normal=>exact hk _ _ he2.2
  | exit i=>exact hk _ _ he2.2
  | ret=>exact hk _ _ he2.2
 have key:=h6 l H (λi st1=>st1.obj st.next=some (.lp r)/\st.next<st1.next/\J i st1)
  (λst1=>(st1.obj st.next=some (.lp { r with state:=.done,pending:=some .ret })/\Ex .ret st1)\/∃i,st1.obj st.next=some (.lp { r with state:=.done,pending:=some (.exit i) })/\Ex (.exit i) st1)
  (st.new (.lp r)) (OC X (l,H)) rfl rfl rfl hHm ⟨by simp[kp,Ab],by simp[kp],hJ 0 _ _ h0 Rc⟩
  (λi s1 s2 ⟨a1,a2,a3⟩ hn ho=>⟨by rw[ho _ a2];exact a1,by omega,hJ i _ _ a3 ⟨hn,λx o hx hox _=>by rw[ho x hx];exact hox⟩⟩)
  (λi s1 ⟨_,_,a3⟩=>hG i s1 a3)
  (λi y s1 hy' ⟨a1,a2,a3⟩=>by
   subst hH
   refine ⟨a1,hlen y (ac hy'),?_⟩
   have hrn:=FK hgm hmr ha (hround i y s1 st.next r hy' a2 a1 a3)
   refine CZ hgm (D6 X) N assign _ _ _ hmr (λe t1 he=>?_) hrn
   obtain ⟨rfl,b2,b3⟩:=he
   refine ⟨rfl,b2,?_⟩
   have hrb:=FK hgm hmr hb (b3 { r with state:=.busy })
   refine CZ hgm (D6 X) N body _ _ _ hmr (λe t2 he=>?_) hrb
   obtain ⟨c1,c2,c3⟩:=he
   refine ⟨c1,?_⟩
   cases e with
   | normal =>
    simp only[if_true]
    exact ⟨by simp[kd,Ab],c2,hJ (i+1) _ _ c3 (Cv c1)⟩
   | ret=>simp only[gu,if_false];exact .inl ⟨by simp[kd,Ab],hE _ _ _ c3 (Cv c1)⟩
   | exit j=>simp only[gu,if_false];exact .inr ⟨j,by simp[kd,Ab],hE _ _ _ c3 (Cv c1)⟩)
 rw [<-hd]at key
 refine EP X.dep _ _ _ _ _ _ hHm (λe s1 he=>⟨he.1,?_⟩) key
 rcases he.2 with ⟨a1,a2,a3⟩ | ⟨a1,a2⟩ | ⟨i,a1,a2⟩
 .exact .inl ⟨a1,hend _ (hJ _ _ _ a3 (Cv a1))⟩
 .exact .inr (.inl ⟨a1,hret _ (hE _ _ _ a2 (Cv a1))⟩)
 .exact .inr (.inr ⟨i,a1,hex i _ (hE _ _ _ a2 (Cv a1))⟩)
def Dw (P:Program) (l:AX) (muts frz:List Nat) (base:Nat):Cfg:={ cfg P l muts frz with num:=λd=>if Ll frz d=0 then 0 else base+Ll frz d }
section
variable {P:Program} {l:AX} {m f:List Nat}
theorem HG {b:Nat}:(Dw P l m f b).P=P:=nrfl rfl
theorem Vt {b:Nat}:(Dw P l m f b).tab=Fd l:=nrfl rfl
theorem ME {b d:Nat}:(Dw P l m f b).muts d=m.contains d:=nrfl rfl
theorem OV {b d:Nat}:(Dw P l m f b).num d=if Ll f d=0 then 0 else b+Ll f d:=nrfl rfl
theorem G3 {b d:Nat}:(Dw P l m f b).frz d=f.contains d:=nrfl rfl
theorem Zm {b:Nat}:(Dw P l m f b).yl=none:=nrfl rfl
theorem iT {b:Nat} {c:Code}:Bt (Dw P l m f b) c=Bt (cfg P l m f) c:=by
 induction c <;> simp only[Bt]
 case region id ops dr =>
  cases dr
  .rfl
  have h1:∀op,BV (Dw P l m f b) op=BV (cfg P l m f) op:=λ_=>rfl
  have h2:∀o,Ht (Dw P l m f b) o=Ht (cfg P l m f) o:=λ_=>rfl
  have h3:∀o,Oz (Dw P l m f b) o=Oz (cfg P l m f) o:=λ_=>rfl
  have h4:∀o,OA (Dw P l m f b) o=OA (cfg P l m f) o:=λ_=>rfl
  have h5:∀o,Fc (Dw P l m f b) o=Fc (cfg P l m f) o:=λ_=>rfl
  have hn:∀d,(Dw P l m f b).num d=if (cfg P l m f).num d=0 then 0 else b+(cfg P l m f).num d:=λ_=>rfl
  have hz:∀d,((Dw P l m f b).num d==0)=((cfg P l m f).num d==0):=λd=>by
   rw [hn]
   by_cases e:(cfg P l m f).num d=0
   .rw [if_pos e,e]
   .rw [if_neg e]
    have e2:¬b+(cfg P l m f).num d=0:=by omega
    rw [beq_eq_false_iff_ne.2 e,beq_eq_false_iff_ne.2 e2]
  have hz2:∀d,((Dw P l m f b).num d != 0)=((cfg P l m f).num d != 0):=λd=>by simp only[bne,hz]
  have h6:∀o,FG (Dw P l m f b) o=FG (cfg P l m f) o:=λo=>by
   unfold FG
   simp only[hz]
   rfl
  have h7:∀o,BE (Dw P l m f b) o=BE (cfg P l m f) o:=λo=>by
   unfold BE
   rw [hz2]
   rfl
  have h9:∀o,OB (Dw P l m f b) o=OB (cfg P l m f) o:=λ_=>rfl
  have h8:∀o,EY (Dw P l m f b) o=EY (cfg P l m f) o:=λo=>by
   unfold EY
   rw [hz]
   rfl
  have loc0:∀o,BE (cfg P l m f) o=true->(Dw P l m f b).num (o.dst.getD 0)=b+(cfg P l m f).num (o.dst.getD 0)/\0<(cfg P l m f).num (o.dst.getD 0):=λo ho=>by
   unfold BE at ho
   simp only[fy,bne_iff_ne]at ho
   rw [hn,if_neg ho.1]
   exact ⟨rfl,by omega⟩
  have hc:∀(x y:Oper),FH (Dw P l m f b) ops x y=FH (cfg P l m f) ops x y:=λx y=>by
   unfold FH
   simp only[h1,h2,h3,h4,h5,h6,h7,h8,h9]
   have e1:(BE (cfg P l m f) x&&BE (cfg P l m f) y&&((Dw P l m f b).num (x.dst.getD 0)-1 !=(Dw P l m f b).num (y.dst.getD 0)-1))=(BE (cfg P l m f) x&&BE (cfg P l m f) y&&((cfg P l m f).num (x.dst.getD 0)-1 !=(cfg P l m f).num (y.dst.getD 0)-1)):=by
    cases hx:BE (cfg P l m f) x with
    | false=>rfl
    | true =>
     cases hy:BE (cfg P l m f) y with
     | false=>rfl
     | true =>
      obtain ⟨a1,a2⟩:=loc0 x hx
      obtain ⟨b1,b2⟩:=loc0 y hy
      rw [a1,b1]
      simp only[ns]
      rw [nt,bne_iff_ne,bne_iff_ne]
      omega
   have e0:∀(x y:Oper),(Fc (cfg P l m f) x&&BE (cfg P l m f) y&&decide ((Dw P l m f b).num (y.dst.getD 0)-1<(Dw P l m f b).num (x.dst.getD 0)))=(Fc (cfg P l m f) x&&BE (cfg P l m f) y&&decide ((cfg P l m f).num (y.dst.getD 0)-1<(cfg P l m f).num (x.dst.getD 0))):=λx y=>by
    cases hx:Fc (cfg P l m f) x with
    | false=>rfl
    | true =>
     cases hy:BE (cfg P l m f) y with
     | false=>rfl
     | true =>
      obtain ⟨b1,b2⟩:=loc0 y hy
      rw [b1,hn (x.dst.getD 0)]
      simp only[ns]
      rw [nt,decide_eq_true_eq,decide_eq_true_eq]
      split <;> omega
   have e4:∀(x y:Oper),(BE (cfg P l m f) x&&Fc (cfg P l m f) y&&decide ((Dw P l m f b).num (x.dst.getD 0)-1<(Dw P l m f b).num (y.dst.getD 0)))=(BE (cfg P l m f) x&&Fc (cfg P l m f) y&&decide ((cfg P l m f).num (x.dst.getD 0)-1<(cfg P l m f).num (y.dst.getD 0))):=λx y=>by
    rw [Bool.and_comm (BE (cfg P l m f) x),e0 y x]
   have e6:∀x,Ld (Dw P l m f b) x=Ld (cfg P l m f) x:=λx=>rfl
   have e5:Ny (Dw P l m f b) x y=Ny (cfg P l m f) x y:=by
    unfold Ny
    rw [h5]
    cases hx:Fc (cfg P l m f) x with
    | false=>rfl
    | true =>
     simp only[ns]
     split
     .rename_i t a v _
      have hf:(Dw P l m f b).frz (900000+Dt a)=(cfg P l m f).frz (900000+Dt a):=rfl
      rw [hf,hz2]
      cases hk:((cfg P l m f).num (Dt a) != 0)with
      | false=>simp
      | true =>
       simp only[Bool.and_true]
       congr 1
       have hk0:¬(cfg P l m f).num (Dt a)=0:=by simpa using hk
       rw [hn (Dt a),if_neg hk0,hn (x.dst.getD 0),decide_eq_decide]
       split <;> omega
     .rfl
   rw [e1,e0,e4,e5,e6,e6]
  simp only[Ku,hc]
 case seq a b iha ihb=>rw[iha,ihb]
 case cond iha ihb=>rw[iha,ihb]
 case block ih=>rw[ih]
 case loop ih=>rw[ih]
 case scope ih=>rw[ih]
end
def stB (st:Store) (n:Nat):Store:=⟨λi=>if st.next<=i/\i<st.next+n then some (.arr 0 1 [])else st.obj i,st.next+n⟩
theorem Rd {ρ:Nat->PV} {st:Store}:∀n,Ghost ⟨ρ,st⟩ ⟨ρ,stB st n⟩
 | 0=>by
  have : stB st 0=st:=by
   unfold stB
   congr 1
   funext i
   rw [if_neg (by omega)]
  rw [this];exact .refl _
 | n+1=>by
  refine .trans (Rd n) ?_
  have : stB st (n+1)=(stB st n).new (.arr 0 1 []):=by
   simp only[stB,kp]
   congr 1
   funext i
   simp only[Ab]
   by_cases h:i=st.next+n
   .rw [if_pos (by omega),if_pos h]
   .rw [if_neg h]
    by_cases h2:st.next<=i/\i<st.next+n
    .rw [if_pos h2,if_pos (by omega)]
    .rw [if_neg h2,if_neg (by omega)]
  rw [this]
  exact .res _ 1 (by omega)
theorem Abu {P:Program} (hmix:P.follows .mixedOrders=true) {l:AX} (hl:Bw P l) (muts:List Nat) (frz:List Nat) (n:Nat) {f:FuncId} {fn:Func} {c:Code} (hf:P.funcs[f]?=some fn) (hb:fn.body=some c)
  (hname : (fn.name == "runtime.NumGoroutine") = false) {args : List PV} {N : Nat} (hN : fn.ntmps = N) (hn : args.length ≤ N) {rs : List ResultVar} (hrs : fn.results.toList = rs) (hd : Bt (cfg P l muts frz) c = true) {st : Store} {Q : PV → Store → Prop}
  (h : run (Dw P l muts frz st.next) N (Ao P rs Q) (Bo c) [] ⟨GX args,stB st n⟩):IXC P f args st Q:=by
 subst hN;subst hrs
 exact Hz (X:=Dw P l muts frz st.next) rfl (GY hl) (DW hl) hmix hf hb hname hn (Rd n) (Dh (A8 rfl) (by rw[iT];exact hd) h)
end Sim
