/- The ideal run of code. -/
import Derived.Test.YtppljhpecoeakaaSimL
set_option linter.unusedVariables false
set_option linter.unusedSimpArgs false
namespace Sim
open Go
structure IState where
 env : Nat→PV
 st : Store
def upd (ρ:Nat→PV) (d:Nat) (v:PV):Nat→PV:=fun t=>if t=d then v else ρ t
theorem dB (ρ:Nat→PV) (d:Nat) (v:PV):upd ρ d v d=v:=by simp[upd]
theorem Ab1 (ρ:Nat→PV) (d t:Nat) (v:PV) (h:(t==d)=false):upd ρ d v t=ρ t:=by
 have : t≠d:=by simpa using h
 simp [upd,this]
def Ds (ops:Array Oper) (ρ:Nat→PV) (j:Nat):PV:=match (ops[j]?).bind (·.dst)with | some d=>ρ d | none=>.bad
def Bs (X:Cfg) (all:Array Oper) (o:Oper) (s:IState):Option (PV×Store) :=
 let go:=iop X (o.dst.getD 0) o.op (Ay s.env) s.st
 match o.guard with
 | none=>go
 | some (j,want)=>match Ds all s.env j with
  | .bool b=>if b=want then go else some (.tuple [],s.st)
  | .tuple []=>some (.tuple [],s.st)
  | _=>none
def Gi (N:Nat) (o:Oper) (s:IState) (r:PV×Store):Option IState :=
 match o.dst with
 | none=>some ⟨s.env,r.2⟩
 | some d=>if d<N then some ⟨upd s.env d r.1,r.2⟩else none
def stepG (X:Cfg) (N:Nat) (all:Array Oper) (o:Oper) (s:IState):Option IState:=(Bs X all o s).bind (Gi N o s)
def dC (X:Cfg) (N:Nat) (all:Array Oper):List Oper→IState→Option IState
 | [],s=>some s
 | o::rest,s=>(stepG X N all o s).bind (dC X N all rest)
def rwp (X:Cfg) (N:Nat) (all:Array Oper) (l:List Oper) (s:IState) (K:IState→Prop):Prop:=∃s',dC X N all l s=some s'∧K s'
def Lr (x:Operand):Bool:=match x with | .const (.slice none 0 0)=>true | _=>false
def yOf (X:Cfg) (op:Op) (ρ:Operand→PV):Option (Store→(PV→Store→Prop)→Prop) :=
 match op with
 | .next x false=>some fun st K=>Ef st (ρ x) K
 | .call c=>match X.yl,c.callee with
  | some (l,H),.value f=>match ρ f with
   | .func (.yield l') [] []=>if l'=l then some (fun st K=>H (c.args.toList.map ρ) st fun b st'=>K (.bool b) st')else none
   | _=>none
  | _,_=>none
 | .binOp op t x y _=>if Lr y=true then (match ρ x with
  | .lits _ []=>some (fun st K=>∃p q,FJ op (Ad X.P t != 0) true=some p∧FJ op (Ad X.P t != 0) false=some q∧K p st∧K q st)
  | _=>none)else none
 | _=>none
def Dn (all:Array Oper) (o:Oper) (ρ:Nat→PV):Bool :=
 match o.guard with
 | none=>true
 | some (j,want)=>match Ds all ρ j with | .bool b=>b==want | _=>false
def Dl (X:Cfg) (N:Nat) (all:Array Oper) (o:Oper) (s:IState) (K:IState→Prop):Prop :=
 match (if Dn all o s.env=true then yOf X o.op (Ay s.env)else none)with
 | some D=>D s.st (fun r st'=>∃s',Gi N o s (r,st')=some s'∧K s')
 | none=>∃s',stepG X N all o s=some s'∧K s'
def DZ (X:Cfg) (N:Nat) (all:Array Oper):List Oper→IState→(IState→Prop)→Prop
 | [],s,K=>K s
 | o::rest,s,K=>Dl X N all o s (fun s'=>DZ X N all rest s' K)
def BO (X:Cfg) (op:Op):Bool:=match op with | .next ..=>false | .binOp _ _ _ y _ => !Lr y | .call { callee:=.value (.func _),.. }=>true | .call { callee:=.value _,.. }=>X.yl.isNone | _=>true
def noY (X:Cfg) (all:Array Oper):Bool:=all.toList.all fun o=>BO X o.op
theorem Py {X:Cfg} {op:Op} (ho:BO X op=true) {s:IState}:yOf X op (Ay s.env)=none:=by
 cases op <;> simp only[BO,Bool.false_eq_true]at ho <;> simp only[yOf]
 case binOp=>rw[if_neg (by intro h;rw[h]at ho;cases ho)]
 rename_i c
 obtain ⟨callee,cargs,ats⟩:=c
 cases callee with
 | value f =>
  cases hy:X.yl with
  | none=>rfl
  | some q=>cases f <;> simp[hy]at ho <;> simp[Ay]
 | invoke=>cases X.yl <;> rfl
 | builtin=>cases X.yl <;> rfl
theorem D9 {X:Cfg} {N:Nat} {all:Array Oper} {o:Oper} {s:IState} (ho:BO X o.op=true) {K:IState→Prop}:Dl X N all o s K=∃s',stepG X N all o s=some s'∧K s':=by
 simp only[Dl,Py ho,ite_self]
theorem LX {X:Cfg} {N:Nat} {all:Array Oper}:∀ {l:List Oper} {s:IState} {K:IState→Prop},(∀o∈l,BO X o.op=true)→(DZ X N all l s K↔rwp X N all l s K)
 | [],s,K,_=>by simp[DZ,rwp,dC]
 | o::rest,s,K,ho=>by
  have ho2:∀o∈rest,BO X o.op=true:=fun o h=>ho o (by simp[h])
  simp only[DZ,D9 (ho o (by simp)),rwp,dC,Option.bind_eq_some_iff]
  constructor
  ·rintro ⟨s1,h1,h2⟩
   obtain ⟨s2,h3,h4⟩:=(LX ho2).1 h2
   exact ⟨s2,⟨s1,h1,h3⟩,h4⟩
  ·rintro ⟨s2,⟨s1,h1,h3⟩,h4⟩
   exact ⟨s1,h1,(LX ho2).2 ⟨s2,h3,h4⟩⟩
theorem Pz {st:Store} {x:PV} {K K':PV→Store→Prop} (hk:∀r st,K r st→K' r st) (h:Ef st x K):Ef st x K':=by
 unfold Ef at h ⊢
 split at h
 ·split at h
  ·exact hk _ _ h
  ·split at h
   ·exact ⟨h.1,h.2.1,fun hl=>hk _ _ (h.2.2.1 hl),fun i k v he hs=>hk _ _ (h.2.2.2 i k v he hs)⟩
   ·exact h
  ·exact h
 ·exact h
theorem UD {X:Cfg} (hm:∀l H,X.yl=some (l,H)→∀args st (K K':Bool→Store→Prop),(∀b st,K b st→K' b st)→H args st K→H args st K') {N:Nat} {all:Array Oper} {o:Oper} {s:IState} {K K':IState→Prop} (hk:∀s,K s→K' s) (h:Dl X N all o s K):Dl X N all o s K':=by
 unfold Dl at h ⊢
 split at h
 ·rename_i D he
  split at he
  ·unfold yOf at he
   split at he
   ·cases he
    exact Pz (fun r st ⟨s',h1,h2⟩=>⟨s',h1,hk _ h2⟩) h
   ·split at he
    ·rename_i l H f hy hc
     split at he
     ·split at he
      ·cases he
       exact hm l H hy _ _ _ _ (fun b st ⟨s',h1,h2⟩=>⟨s',h1,hk _ h2⟩) h
      ·cases he
     ·cases he
    ·cases he
   ·split at he
    ·split at he
     ·cases he
      obtain ⟨p,q,h1,h2,⟨s3,h3,h4⟩,s5,h5,h6⟩:=h
      exact ⟨p,q,h1,h2,⟨s3,h3,hk _ h4⟩,s5,h5,hk _ h6⟩
     ·cases he
    ·cases he
   ·cases he
  ·cases he
 ·rename_i he
  obtain ⟨s',h1,h2⟩:=h
  exact ⟨s',h1,hk _ h2⟩
def Gj (X:Cfg) (o:Oper):Bool :=
 match o.op with
 | .move _ | .assign _ | .pick .. | .load .. | .nilCheck _ | .binOp .. | .unOp .. | .convert .. | .makeInterface .. | .typeAssert .. | .makeFunc .. | .fieldAddr .. | .field .. | .indexAddr .. | .index .. | .extract .. | .build .. | .lookup ..=>true
 | .box .. | .buildSlice .. | .slice .. => !X.muts (o.dst.getD 0)
 | .call { callee:=.builtin b,.. }=>match b with | .len | .min | .max=>true | _=>false
 | .call { callee:=.value (.func f),.. }=>X.quiet f && !X.frz (o.dst.getD 0)
 | _=>false
def EX (X:Cfg) (o:Oper):Bool :=
 match o.op with
 | .move _ | .assign _ | .pick .. | .binOp .. | .unOp .. | .convert .. | .makeInterface .. | .typeAssert .. | .makeFunc .. | .field .. | .index .. | .extract .. | .build ..=>true
 | .box .. | .buildSlice .. => !X.muts (o.dst.getD 0)
 | .call { callee:=.builtin b,.. }=>match b with | .min | .max=>true | _=>false
 | .load .. | .fieldAddr .. | .indexAddr ..=>X.frz (o.dst.getD 0)
 | .slice ..=>X.frz (o.dst.getD 0) && !X.muts (o.dst.getD 0)
 | .makeSlice ..=>X.frz (o.dst.getD 0)&&X.num (o.dst.getD 0)==0
 | .call { callee:=.value (.func f),.. }=>X.quiet f&&X.muts (o.dst.getD 0) && !X.frz (o.dst.getD 0)
 | .call { callee:=.value (.tmp _),.. }=>X.frz (1200000+o.dst.getD 0)&&X.muts (o.dst.getD 0) && !X.frz (o.dst.getD 0)
 | _=>false
def Bx (X:Cfg) (o:Oper):Bool :=
 X.num (o.dst.getD 0) != 0&&match o.op with
 | .buildSlice ..=>X.muts (o.dst.getD 0)
 | .makeSlice .. | .alloc _=>true
 | .call { callee:=.builtin b,.. }=>match b with | .append=>true | _=>false
 | .call { callee:=.value (.func f),.. }=>X.quiet f&&X.frz (o.dst.getD 0)&&X.muts (o.dst.getD 0)
 | _=>false
def LY (x y:Oper):Bool:=match x.op,y.op with | .lookup t _ _ false,.mapEntry u _ _=>decide (t=u) | .load ..,.mapEntry ..=>true | .fieldAddr ..,.mapEntry ..=>true | .indexAddr ..,.mapEntry ..=>true | _,_=>false
def Le (x:Oper):Bool:=match x.op with | .lookup ..=>true | .load ..=>true | .fieldAddr ..=>true | .indexAddr ..=>true | .call { callee:=.builtin .len,.. }=>true | _=>false
def Ey (X:Cfg) (y:Oper):Bool:=X.num (y.dst.getD 0)==0&&match y.op with | .alloc _=>true | .makeSlice .. => !X.frz (y.dst.getD 0) | .call { callee:=.value (.func f),.. }=>X.calm (1000000+f) && !X.frz (y.dst.getD 0) && !X.muts (y.dst.getD 0) | _=>false
def EF (X:Cfg) (o:Oper):Bool:=X.frz (600000+o.dst.getD 0)&&match o.op with | .load .. | .fieldAddr .. | .indexAddr ..=>true | _=>false
def sF:Builtin→Bool
 | .len=>true
 | _=>false
def LZ (X:Cfg) (o:Oper):Bool:=X.frz (700000+o.dst.getD 0) && !X.frz (600000+o.dst.getD 0)&&match o.op with | .load .. | .fieldAddr .. | .indexAddr .. | .nilCheck _=>true | .call { callee:=.builtin b,argTypes:=ats,.. }=>sF b&&(match ats.toList with | [t]=>(AY X.P t).isNone | _=>false) | _=>false
def L3 (X:Cfg) (o:Oper):Bool:=match o.op with | .call { callee:=.builtin b,.. }=>X.frz (700000+o.dst.getD 0)&&(match b with | .append=>true | _=>false) | .store _ a _=>X.frz (800000+Di a) | _=>false
def Lf (X:Cfg) (x y:Oper):Bool:=EF X x&&match y.op with | .store _ a _=>X.frz (900000+Di a)&&(X.num (Di a) != 0)&&decide (X.num (Di a)-1<X.num (x.dst.getD 0)) | _=>false
def L4 (X:Cfg) (o:Oper):Bool:=match o.op with | .call { callee:=.value (.func f),.. }=>decide (f<1000000)&&X.calm f && !X.frz (o.dst.getD 0) && !X.muts (o.dst.getD 0) | _=>false
def JA (X:Cfg) (o:Oper):Bool := !X.frz (o.dst.getD 0) && !X.frz (600000+o.dst.getD 0) && !X.frz (700000+o.dst.getD 0)&&match o.op with | .fieldAddr .. | .indexAddr ..=>true | _=>false
def UE (o:Oper):Bool:=match o.op with | .store ..=>true | _=>false
def Fr (X:Cfg) (all:Array Oper) (x y:Oper):Bool:=x.apart all y&&BO X x.op&&BO X y.op&&((Gj X x&&Gj X y)||EX X x||EX X y||(Bx X x&&Bx X y&&(X.num (x.dst.getD 0)-1 != X.num (y.dst.getD 0)-1))||LY x y||(Le x&&Ey X y)||(EF X x&&Bx X y&&decide (X.num (y.dst.getD 0)-1<X.num (x.dst.getD 0)))||(Bx X x&&EF X y&&decide (X.num (x.dst.getD 0)-1<X.num (y.dst.getD 0)))||(LZ X x&&L3 X y)||(L3 X x&&LZ X y)||Lf X x y||(L4 X x&&Ey X y)||(JA X x&&UE y)||(UE x&&JA X y))
def PC (all:Array Oper):Nat→Nat→Nat→Bool
 | 0,_,_=>false
 | n+1,i,j=>match all[j]? with
  | some y=>y.after.toList.any fun e=>Region.binds .any e&&(e.on==i||PC all n i e.on)
  | none=>false
def IU (X:Cfg) (all:Array Oper):Bool :=
 all.toList.zipIdx.all fun (y,j) =>
  (y.after.toList.all fun e => !Region.binds .any e||e.on<j) &&
  ((all.toList.take j).zipIdx.all fun (x,i)=>(y.after.toList.any fun e=>Region.binds .any e&&e.on==i)||(Fr X all x y||PC all 8 i j))
def FA (X:Cfg) (all:Array Oper) (i j:Nat):Bool:=match all[i]?,all[j]? with
 | some x,some y=>(y.after.toList.any fun e=>Region.binds .any e&&e.on==i)||Fr X all x y||PC all 8 i j
 | _,_=>false
def EG (all:Array Oper) (i j:Nat):Bool:=match all[i]? with
 | some x=>x.after.toList.all fun e => !Region.binds .any e||e.on != j
 | none=>false
def Hj (p:Nat→Nat→Bool):List Nat→Bool
 | []=>true
 | i::l=>l.all (p i)&&Hj p l
def Kt (n a b:Nat):List Nat:=(List.range n).flatMap fun i=>if i=a then []else if i=b then (if a<b then [b,a]else [a,b])else [i]
def JB (X:Cfg) (all:Array Oper) (a b:Nat):Bool :=
 decide (a≠b)&&decide (a<all.size∧b<all.size)&&(all.toList.all fun o=>BO X o.op&&o.after.toList.all fun e => !Region.binds .any e||decide (e.on<all.size))&&((List.range all.size).all fun i=>EG all i i) &&
 (Hj (fun i j=>(FA X all i j||(i==min a b&&j==max a b))&&EG all i j) (List.range all.size)) &&
 (Hj (fun i j=>(FA X all i j||(i==max a b&&j==min a b))&&EG all i j) (Kt all.size a b)) &&
 ((Kt all.size a b).all fun i=>decide (i<all.size))&&((List.range all.size).all fun i=>(Kt all.size a b).contains i)&&decide (Kt all.size a b).Nodup
def atO (all:Array Oper) (l:List Nat):List Oper:=l.filterMap fun i=>all[i]?
inductive Ghost:IState→IState→Prop where
 | refl (s:IState):Ghost s s
 | slot (s:IState) (d z:Nat) (h:s.env d=.nils) (hz:0<z):Ghost s ⟨upd s.env d (.ref s.st.next 0 0 0),s.st.new (.arr 0 z [])⟩
 | cell (s:IState) (id gen z z':Nat) (es:List PV) (idx off:Nat) (h:s.st.obj id=some (.arr gen z es)) (hc:(nth es idx).cells[off]?=some .nils) (hz:0<z') :
   Ghost s ⟨s.env,(s.st.new (.arr 0 z' [])).set id (.arr gen z (es.set idx (A6 (nth es idx) off [.ref s.st.next 0 0 0])))⟩
 | res (s:IState) (z:Nat) (hz:0<z):Ghost s ⟨s.env,s.st.new (.arr 0 z [])⟩
 | sealv (s:IState) (d:Nat) (q:PV) (ids:List Nat) (hb:s.env d≠.bad) (h:rdP (s.st.only ids) (s.env d)=some q):Ghost s ⟨upd s.env d q,s.st.seal ids⟩
 | fix (s:IState) (d id gen idx z:Nat) (es:List PV) (h:s.env d=.ptr id gen idx 0) (ho:s.st.arr? id gen=some (z,es)) (hi:idx<es.length) (hp:AN es=true):Ghost s ⟨upd s.env d (.vptr (nth es idx).cells 0),s.st.without [id]⟩
 | trans {s s' s'':IState} (h:Ghost s s') (g:Ghost s' s''):Ghost s s''
inductive IExit where
 | normal
 | exit (id:Nat)
 | ret
def FC (args:List PV):Nat→PV:=fun t=>args.getD t .bad
def Fs (ρ:Nat→PV):List Nat→List PV→(Nat→PV)
 | p::ps,v::vs=>Fs (upd ρ p v) ps vs
 | _,_=>ρ
def Bo (X:Cfg):Prop:=(∀f args st r st',X.quiet f=true→X.tab f args st=some (r,st')→st'=st∧(AN args=true→∀st2,X.tab f args st2=some (r,st2))) ∧
 (∀ f args st r st',X.calm (1000000+f)=true→X.tab f args st=some (r,st')→(∀i o,st.obj i=some o→i<st.next)→∀i o,st.obj i=some o→st'.obj i=some o) ∧
 ∀ f args st r st',f<1000000→X.calm f=true→X.tab f args st=some (r,st')→st'=st∧∀st2:Store,(∀i o,st.obj i=some o→st2.obj i=some o)→X.tab f args st2=some (r,st2)
def L5 (X:Cfg) (y:Nat×Fk):Cfg:={ X with yl:=some y,rnd:=false }
def DJ (X:Cfg):Cfg:={ X with rnd:=true }
abbrev WP:=Cfg→Nat→Code→(IExit→IState→Prop)→IState→Prop
def wpC (G:WP):WP
 | X,N,.skip,Q,s=>Q .normal s
 | X,N,.region _ ops dr,Q,s=>((dr=true→IU X ops=true)∧DZ X N ops ops.toList s (Q .normal))∨(dr=true∧∃a b,JB X ops a b=true∧DZ X N ops ops.toList s (Q .normal)∧DZ X N ops (atO ops (Kt ops.size a b)) s (Q .normal))
 | X,N,.seq a b,Q,s=>wpC G X N a (fun e s'=>match e with | .normal=>wpC G X N b Q s' | e=>Q e s') s
 | X,N,.cond c a b,Q,s=>match Ay s.env c with | .bool v=>(v=true→wpC G X N a Q s)∧(v=false→wpC G X N b Q s) | _=>False
 | X,N,.block id c,Q,s=>wpC G X N c (fun e s'=>match e with | .exit i=>if i=id then Q .normal s' else Q (.exit i) s' | e=>Q e s') s
 | X,N,.loop c,Q,s=>∃(J:Nat→IState→Prop) (n:Nat),(∃s0,Ghost s s0∧J n s0)∧∀m s',J m s'→wpC G X N c (fun e s''=>match e with | .normal=>∃m',m'<m∧∃s3,Ghost s'' s3∧J m' s3 | e=>Q e s'') s'
 | X,N,.exit id,Q,s=>Q (.exit id) s
 | X,N,.ret,Q,s=>Q .ret s
 | X, N, .rangeFunc g ps assign body,Q,s00=>∃s,Ghost s00 s∧X.rnd=false∧(match Ay s.env g with
  | .func (.func f) first captured => ∃ fn c, X.P.funcs[f]? = some fn ∧ fn.body = some c ∧ (fn.name == "runtime.NumGoroutine") = false ∧ fn.results.toList = [] ∧ first.length + 1 + captured.length ≤ fn.ntmps ∧ (ps.toList.all fun p => decide (p < N)) = true ∧
    ∀ (l : Nat) (r:Loop),r.state=.ready→r.pending=none →
     G (L5 X (l,fun args st K=>st.obj s.st.next=some (.lp r)∧args.length=ps.size ∧
       wpC G (DJ X) N assign (fun e s1=>e=.normal∧s1.st.obj s.st.next=some (.lp r) ∧
        wpC G (DJ X) N body (fun e s2=>s2.st.obj s.st.next=some (.lp { r with state:=.busy }) ∧
         match e with
         | .normal=>K true (s2.st.set s.st.next (.lp r))
         | .ret=>K false (s2.st.set s.st.next (.lp { r with state:=.done,pending:=some .ret }))
         | .exit i=>K false (s2.st.set s.st.next (.lp { r with state:=.done,pending:=some (.exit i) })))
         ⟨s1.env, s1.st.set s.st.next (.lp { r with state:=.busy })⟩)
        ⟨Fs s.env ps.toList args,st⟩))
      fn.ntmps c
      (fun e s'=>(e=.normal∨e=.ret)∧((s'.st.obj s.st.next=some (.lp r)∧Q .normal ⟨s.env,s'.st.set s.st.next (.lp { r with state:=.exhausted })⟩) ∨
       (s'.st.obj s.st.next=some (.lp { r with state:=.done,pending:=some .ret })∧Q .ret ⟨s.env,s'.st.set s.st.next (.lp { r with state:=.exhausted,pending:=some .ret })⟩) ∨
       (∃ i,s'.st.obj s.st.next=some (.lp { r with state:=.done,pending:=some (.exit i) })∧Q (.exit i) ⟨s.env,s'.st.set s.st.next (.lp { r with state:=.exhausted,pending:=some (.exit i) })⟩)))
      ⟨FC (first++.func (.yield l) [] []::captured),s.st.new (.lp r)⟩
  | _=>False)
 | X,N,.scope c,Q,s=>wpC G X N c Q s
 | X,N,.label _,Q,s=>Q .normal s
 | _,_,_,_,_=>False
def gen:Nat→WP
 | 0=>fun _ _ _ _ _=>False
 | d+1=>fun X N c Q s=>∃X':Cfg,X'.P=X.P∧X'.yl=X.yl∧X'.rnd=X.rnd∧X'.dep=d∧El X'∧Bo X'∧wpC (gen d) X' N c Q s
def wpI (X:Cfg) (N:Nat) (c:Code) (Q:IExit→IState→Prop) (s:IState):Prop:=wpC (gen X.dep) X N c Q s
def A8 (X:Cfg):Prop:=∀l H,X.yl=some (l,H)→∀args st (K K':Bool→Store→Prop),(∀b st,K b st→K' b st)→H args st K→H args st K'
theorem AV {X:Cfg} (h:X.yl=none):A8 X:=fun l H hl=>by rw[h]at hl;cases hl
theorem HZ {X:Cfg} (hm:A8 X) {N:Nat} {all:Array Oper}:∀ {l:List Oper} {s:IState} {K K':IState→Prop},(∀s,K s→K' s)→DZ X N all l s K→DZ X N all l s K'
 | [],s,K,K',hk,h=>hk s h
 | o::rest,s,K,K',hk,h=>UD hm (fun s' h'=>HZ hm hk h') h
def WP.Mono (G:WP):Prop:=∀X N c Q Q' s,A8 X→(∀e s,Q e s→Q' e s)→G X N c Q s→G X N c Q' s
theorem CO {G:WP} (hG:G.Mono):(wpC G).Mono:=by
 intro X N c
 induction c generalizing X with
 | skip=>intro Q Q' s hm h hs;exact h _ _ hs
 | region id ops dr =>
  intro Q Q' s hm h hs
  rcases hs with hs | ⟨h1,a,b,h2,h3,h4⟩
  ·exact .inl ⟨hs.1,HZ hm (fun s h'=>h _ _ h') hs.2⟩
  ·exact .inr ⟨h1,a,b,h2,HZ hm (fun s h'=>h _ _ h') h3,HZ hm (fun s h'=>h _ _ h') h4⟩
 | seq a b iha ihb =>
  intro Q Q' s hm h hs
  refine iha X _ _ _ hm (fun e s' he=>?_) hs
  cases e with
  | normal=>exact ihb X _ _ _ hm h he
  | exit i=>exact h _ _ he
  | ret=>exact h _ _ he
 | cond c a b iha ihb =>
  intro Q Q' s hm h hs
  simp only[wpC]at hs ⊢
  split at hs
  ·exact ⟨fun hv=>iha X _ _ _ hm h (hs.1 hv),fun hv=>ihb X _ _ _ hm h (hs.2 hv)⟩
  ·exact hs.elim
 | block id c ih =>
  intro Q Q' s hm h hs
  refine ih X _ _ _ hm (fun e s' he=>?_) hs
  cases e with
  | normal=>exact h _ _ he
  | exit i =>
   dsimp only at he ⊢
   split at he
   ·rw [if_pos (by assumption)];exact h _ _ he
   ·rw [if_neg (by assumption)];exact h _ _ he
  | ret=>exact h _ _ he
 | loop c ih =>
  intro Q Q' s hm h hs
  obtain ⟨J,n,h0,hr⟩:=hs
  refine ⟨J,n,h0,fun m s' hs'=>ih X _ _ _ hm (fun e s'' he=>?_) (hr m s' hs')⟩
  cases e with
  | normal=>exact he
  | exit i=>exact h _ _ he
  | ret=>exact h _ _ he
 | exit id=>intro Q Q' s hm h hs;exact h _ _ hs
 | ret=>intro Q Q' s hm h hs;exact h _ _ hs
 | rangeFunc g ps assign body iha ihb =>
  intro Q Q' s hm h hs
  simp only[wpC]at hs ⊢
  obtain ⟨s0,hgh,hr,hs⟩:=hs
  refine ⟨s0,hgh,hr,?_⟩
  split at hs
  ·rename_i f first captured
   obtain ⟨fn,c,h1,h2,h3,h3',h4,h4',h5⟩:=hs
   refine ⟨fn,c,h1,h2,h3,h3',h4,h4',fun l r hr1 hr2=>hG _ _ _ _ _ _ ?_ (fun e s' he=>⟨he.1,?_⟩) (h5 l r hr1 hr2)⟩
   ·intro l' H' he args st K K' hk hH
    simp only[L5,Option.some.injEq,Prod.mk.injEq]at he
    obtain ⟨rfl,rfl⟩:=he
    obtain ⟨g1,g2,g3⟩:=hH
    refine ⟨g1,g2,iha (DJ X) _ _ _ hm (fun e s1 he=>⟨he.1,he.2.1,ihb (DJ X) _ _ _ hm (fun e s2 he2=>⟨he2.1,?_⟩) he.2.2⟩) g3⟩
    cases e with
    | normal=>exact hk _ _ he2.2
    | exit i=>exact hk _ _ he2.2
    | ret=>exact hk _ _ he2.2
   ·rcases he.2 with ⟨a,b⟩ | ⟨a,b⟩ | ⟨i,a,b⟩
    ·exact .inl ⟨a,h _ _ b⟩
    ·exact .inr (.inl ⟨a,h _ _ b⟩)
    ·exact .inr (.inr ⟨i,a,h _ _ b⟩)
  ·exact hs.elim
 | scope c ih=>intro Q Q' s hm h hs;exact ih X _ _ _ hm h hs
 | label l=>intro Q Q' s hm h hs;exact h _ _ hs
 | goto=>intro Q Q' s hm h hs;exact hs
 | refuse=>intro Q Q' s hm h hs;exact hs
theorem DO:∀d,(gen d).Mono
 | 0=>fun _ _ _ _ _ _ _ _ h=>h.elim
 | d+1=>fun X N c Q Q' s hm hk ⟨X',h1,h2,h3,h4,h5,h6,h⟩=>⟨X',h1,h2,h3,h4,h5,h6,CO (DO d) X' N c Q Q' s (fun l H hl=>hm l H (h2▸hl)) hk h⟩
theorem Ob {X:Cfg} (hm:A8 X) {N:Nat} {c:Code} {Q Q':IExit→IState→Prop} {s:IState} (h:∀e s,Q e s→Q' e s) (hs:wpI X N c Q s):wpI X N c Q' s:=CO (DO X.dep) X N c Q Q' s hm h hs
inductive Kf where
 | seq (c:Code)
 | blk (id:Nat)
 | lp (J:IState→Prop)
def post (X:Cfg) (N:Nat) (Q:IExit→IState→Prop):List Kf→IExit→IState→Prop
 | [],e,s=>Q e s
 | .seq c::ks,e,s=>match e with | .normal=>wpI X N c (post X N Q ks) s | e=>post X N Q ks e s
 | .blk id::ks,e,s=>match e with | .exit i=>if i=id then post X N Q ks .normal s else post X N Q ks (.exit i) s | e=>post X N Q ks e s
 | .lp J::ks,e,s=>match e with | .normal=>J s | e=>post X N Q ks e s
def run (X:Cfg) (N:Nat) (Q:IExit→IState→Prop) (c:Code) (ks:List Kf) (s:IState):Prop:=wpI X N c (post X N Q ks) s
def Gk (X:Cfg) (N:Nat) (Q:IExit→IState→Prop) (ks:List Kf) (s:IState):Prop:=post X N Q ks .normal s
def GN (X:Cfg) (N:Nat) (Q:IExit→IState→Prop) (ks:List Kf) (id:Nat) (s:IState):Prop:=post X N Q ks (.exit id) s
def done (X:Cfg) (N:Nat) (Q:IExit→IState→Prop) (ks:List Kf) (s:IState):Prop:=post X N Q ks .ret s
def ops (X:Cfg) (N:Nat) (Q:IExit→IState→Prop) (all:Array Oper) (l:List Oper) (ks:List Kf) (s:IState):Prop:=DZ X N all l s (Gk X N Q ks)
def Bl (X:Cfg) (N:Nat) (Q:IExit→IState→Prop) (all:Array Oper) (l:List Oper) (ks:List Kf) (d:Option Nat) (s:IState) (r:Option (PV×Store)):Prop :=
 match r with
 | some r=>match d with
  | none=>ops X N Q all l ks ⟨s.env,r.2⟩
  | some d=>d<N∧ops X N Q all l ks ⟨upd s.env d r.1,r.2⟩
 | none=>False
def GO (g:PV) (A B:Prop):Prop:=match g with | .bool v=>(v=true→A)∧(v=false→B) | _=>False
def BM (g:PV) (want:Bool) (A B:Prop):Prop:=match g with | .bool b=>(b=want→A)∧(b=(!want)→B) | .tuple []=>B | _=>False
theorem RC {w:Bool} {A B:Prop}:BM (.tuple []) w A B=B:=nrfl rfl
theorem UF {A B:Prop}:GO (.bool true) A B=A:=by simp[GO]
theorem RD {A B:Prop}:GO (.bool false) A B=B:=by simp[GO]
theorem Yq {A B:Prop}:BM (.bool true) true A B=A:=by simp[BM]
theorem Yr {A B:Prop}:BM (.bool true) false A B=B:=by simp[BM]
theorem Ys {A B:Prop}:BM (.bool false) true A B=B:=by simp[BM]
theorem Yt {A B:Prop}:BM (.bool false) false A B=A:=by simp[BM]
section
variable {X:Cfg} {N:Nat} {Q:IExit→IState→Prop} {ks:List Kf} {s:IState}
theorem dD:run X N Q .skip ks s=Gk X N Q ks s:=nrfl rfl
theorem PD {a b:Code}:run X N Q (.seq a b) ks s=run X N Q a (.seq b::ks) s:=by
 simp only[run,wpI,wpC];congr 1
theorem Ku {id:Nat} {c:Code}:run X N Q (.block id c) ks s=run X N Q c (.blk id::ks) s:=by
 simp only[run,wpI,wpC];congr 1
theorem Yu {c:Code}:run X N Q (.scope c) ks s=run X N Q c ks s:=by
 simp only[run,wpI,wpC]
theorem Yv {l:Nat}:run X N Q (.label l) ks s=Gk X N Q ks s:=nrfl rfl
theorem dE {id:Nat}:run X N Q (.exit id) ks s=GN X N Q ks id s:=nrfl rfl
theorem sG:run X N Q .ret ks s=done X N Q ks s:=nrfl rfl
theorem IV {id:Nat} {l:List Oper}:run X N Q (.region id l.toArray false) ks s=ops X N Q l.toArray l ks s:=by
 simp only[run,wpI,wpC,ops];simp;rfl
theorem L6 {id:Nat} {l:List Oper} (a b:Nat) (h:JB X l.toArray a b=true) (h1:ops X N Q l.toArray l ks s) (h2:ops X N Q l.toArray (atO l.toArray (Kt l.length a b)) ks s):run X N Q (.region id l.toArray true) ks s:=by
 refine .inr ⟨rfl,a,b,h,?_,?_⟩
 ·exact h1
 ·rw [List.size_toArray];exact h2
theorem L7 {c:Operand} {a b:Code}:run X N Q (.cond c a b) ks s=GO (Ay s.env c) (run X N Q a ks s) (run X N Q b ks s):=by
 simp only[run,wpI,wpC,GO]
theorem L8 {c:Code} (J:Nat→IState→Prop) (n:Nat) {s0:IState} (hg:Ghost s s0) (h0:J n s0) (h:∀m s',J m s'→run X N Q c (.lp (fun s''=>∃m',m'<m∧∃s3,Ghost s'' s3∧J m' s3)::ks) s') :
  run X N Q (.loop c) ks s:=by
 simp only[run,wpI,wpC]
 refine ⟨J,n,⟨s0,hg,h0⟩,fun m s' hs'=>?_⟩
 have e:(fun (e:IExit) s''=>match e with | .normal=>∃m',m'<m∧∃s3,Ghost s'' s3∧J m' s3 | e=>post X N Q ks e s'')=post X N Q (.lp (fun s''=>∃m',m'<m∧∃s3,Ghost s'' s3∧J m' s3)::ks):=by
  funext e s'';cases e <;> rfl
 exact e▸h m s' hs'
theorem Hk {c:Code} {J J':IState→Prop} (hm:A8 X) (hj:∀s,J s→J' s) (h:run X N Q c (.lp J::ks) s):run X N Q c (.lp J'::ks) s:=by
 simp only[run]at h ⊢
 refine Ob hm ?_ h
 intro e s'' he
 cases e with
 | normal=>exact hj _ he
 | exit i=>exact he
 | ret=>exact he
theorem PE {c:Code} (hm:A8 X) (n:Nat) (I:Nat→IState→Prop) {s0:IState} (hg:Ghost s s0) (h0:I 0 s0) (h:∀k s',k≤n→I k s'→run X N Q c (.lp (fun s''=>k<n∧I (k+1) s'')::ks) s'):run X N Q (.loop c) ks s :=
 L8 (fun m s=>∃k,k+m=n∧I k s) n hg ⟨0,by omega,h0⟩ fun m s' ⟨k,hk,hI⟩ =>
  Hk hm (fun s'' ⟨h1,h2⟩=>⟨m-1,by omega,s'',.refl _,k+1,by omega,h2⟩) (h k s' (by omega) hI)
theorem dF:Gk X N Q [] s=Q .normal s:=nrfl rfl
theorem dG {c:Code}:Gk X N Q (.seq c::ks) s=run X N Q c ks s:=nrfl rfl
theorem dH {id:Nat}:Gk X N Q (.blk id::ks) s=Gk X N Q ks s:=nrfl rfl
theorem sH {J:IState→Prop}:Gk X N Q (.lp J::ks) s=J s:=nrfl rfl
theorem Yw {c:Code} {id:Nat}:GN X N Q (.seq c::ks) id s=GN X N Q ks id s:=nrfl rfl
theorem Yx {i id:Nat}:GN X N Q (.blk i::ks) id s=if id=i then Gk X N Q ks s else GN X N Q ks id s:=nrfl rfl
theorem dJ {J:IState→Prop} {id:Nat}:GN X N Q (.lp J::ks) id s=GN X N Q ks id s:=nrfl rfl
theorem dK:done X N Q [] s=Q .ret s:=nrfl rfl
theorem dM {c:Code}:done X N Q (.seq c::ks) s=done X N Q ks s:=nrfl rfl
theorem dN {id:Nat}:done X N Q (.blk id::ks) s=done X N Q ks s:=nrfl rfl
theorem sJ {J:IState→Prop}:done X N Q (.lp J::ks) s=done X N Q ks s:=nrfl rfl
theorem sK {all:Array Oper}:ops X N Q all [] ks s=Gk X N Q ks s:=by
 simp [ops,DZ]
theorem Hl {all:Array Oper} {o:Oper} {rest:List Oper} {r:Option (PV×Store)} (hy:yOf X o.op (Ay s.env)=none) (h:Bs X all o s=r):ops X N Q all (o::rest) ks s=Bl X N Q all rest ks o.dst s r:=by
 subst h
 simp only[ops,DZ,Dl,hy,ite_self,stepG]
 cases hr:Bs X all o s with
 | none=>simp[Bl]
 | some r =>
  simp only[Option.bind_some,Gi,Bl]
  cases o.dst with
  | none=>simp[ops]
  | some d =>
   by_cases hd:d<N
   ·simp [hd,ops]
   ·simp [hd]
theorem L9 {all:Array Oper} {rest:List Oper} {dst:Option Nat} {op:Op} {ty:TypeId} {pos:String} {after:Array Edge} (hy:yOf X op (Ay s.env)=none) :
  ops X N Q all (⟨dst,op,ty,pos,after,none⟩::rest) ks s=Bl X N Q all rest ks dst s (iop X (dst.getD 0) op (Ay s.env) s.st):=Hl hy rfl
theorem Oc {all:Array Oper} {rest:List Oper} {dst:Option Nat} {op:Op} {ty:TypeId} {pos:String} {after:Array Edge} {j:Nat} {want:Bool} (hy:yOf X op (Ay s.env)=none) :
  ops X N Q all (⟨dst,op,ty,pos,after,some (j,want)⟩::rest) ks s =
   BM (Ds all s.env j) want (Bl X N Q all rest ks dst s (iop X (dst.getD 0) op (Ay s.env) s.st)) (Bl X N Q all rest ks dst s (some (.tuple [],s.st))):=by
 cases h:Ds all s.env j with
 | bool b =>
  rw [Hl hy (r:=if b=want then iop X (dst.getD 0) op (Ay s.env) s.st else some (.tuple [],s.st)) (by simp[Bs,h])]
  cases b <;> cases want <;> simp[BM]
 | tuple l =>
  cases l with
  | nil=>rw[Hl hy (r:=some (.tuple [],s.st)) (by simp[Bs,h])];simp[BM]
  | cons x l=>rw[Hl hy (r:=none) (by simp[Bs,h])];simp[BM,Bl]
 | _=>rw[Hl hy (r:=none) (by simp[Bs,h])];simp[BM,Bl]
theorem UG {all:Array Oper} {l:List Oper} {d:Nat} {p:PV} {st:Store}:Bl X N Q all l ks (some d) s (some (p,st))=(d<N∧ops X N Q all l ks ⟨upd s.env d p,st⟩):=nrfl rfl
theorem UH {all:Array Oper} {l:List Oper} {p:PV} {st:Store}:Bl X N Q all l ks none s (some (p,st))=ops X N Q all l ks ⟨s.env,st⟩:=nrfl rfl
theorem dO {all:Array Oper} {l:List Oper} {d:Option Nat} {c:Prop} [Decidable c] {x:Option (PV×Store)}:Bl X N Q all l ks d s (if c then x else none)=(c∧Bl X N Q all l ks d s x):=by
 by_cases h:c <;> simp[h,Bl]
theorem Yy {all:Array Oper} {l:List Oper} {d:Option Nat} {c:Prop} [Decidable c] {x:Option (PV×Store)}:Bl X N Q all l ks d s (if c then none else x)=(¬c∧Bl X N Q all l ks d s x):=by
 by_cases h:c <;> simp[h,Bl]
end
section
variable {X:Cfg} {N:Nat} {Q:IExit→IState→Prop} {ks:List Kf} {s:IState}
theorem Ap {all:Array Oper} {l:List Oper} {d:Option Nat} {r r':Option (PV×Store)} (h:r=r'):Bl X N Q all l ks d s r=Bl X N Q all l ks d s r':=by rw[h]
theorem Aq {g g':PV} {A B:Prop} (h:g=g'):GO g A B=GO g' A B:=by rw[h]
theorem Al {g g':PV} {w:Bool} {A B:Prop} (h:g=g'):BM g w A B=BM g' w A B:=by rw[h]
end
theorem Ab2 {α β:Type} {c:Prop} [Decidable c] {f:α→β} {x y:Option α}:(if c then x else y).map f=if c then x.map f else y.map f:=by split <;> rfl
theorem sL {α β:Type} {c:Prop} [Decidable c] {f:α→Option β} {x y:Option α}:(if c then x else y).bind f=if c then x.bind f else y.bind f:=by split <;> rfl
end Sim
