/- The ideal run of code. -/
import Derived.Test.YtppljhpecoeakaaSimL
set_option linter.unusedVariables false
set_option linter.unusedSimpArgs false
namespace Sim
open Go
structure IState where
 env : Nat→PV
 st : Store
def upd (ρ:Nat→PV) (d:Nat) (v:PV):Nat→PV:=fun t=>if t=d then v else ρ t
theorem ZQ (ρ:Nat→PV) (d:Nat) (v:PV):upd ρ d v d=v:=by simp[upd]
theorem xJ (ρ:Nat→PV) (d t:Nat) (v:PV) (h:(t==d)=false):upd ρ d v t=ρ t:=by
 have : t≠d:=by simpa using h
 simp [upd,this]
def Dk (ops:Array Oper) (ρ:Nat→PV) (j:Nat):PV:=match (ops[j]?).bind (·.dst)with | some d=>ρ d | none=>.bad
def Bp (X:Cfg) (all:Array Oper) (o:Oper) (s:IState):Option (PV×Store) :=
 let go:=iop X (o.dst.getD 0) o.op (Av s.env) s.st
 match o.guard with
 | none=>go
 | some (j,want)=>match Dk all s.env j with
  | .bool b=>if b=want then go else some (.tuple [],s.st)
  | .tuple []=>some (.tuple [],s.st)
  | _=>none
def FW (N:Nat) (o:Oper) (s:IState) (r:PV×Store):Option IState :=
 match o.dst with
 | none=>some ⟨s.env,r.2⟩
 | some d=>if d<N then some ⟨upd s.env d r.1,r.2⟩else none
def stepG (X:Cfg) (N:Nat) (all:Array Oper) (o:Oper) (s:IState):Option IState:=(Bp X all o s).bind (FW N o s)
def ZR (X:Cfg) (N:Nat) (all:Array Oper):List Oper→IState→Option IState
 | [],s=>some s
 | o::rest,s=>(stepG X N all o s).bind (ZR X N all rest)
def rwp (X:Cfg) (N:Nat) (all:Array Oper) (l:List Oper) (s:IState) (K:IState→Prop):Prop:=∃s',ZR X N all l s=some s'∧K s'
def KZ (x:Operand):Bool:=match x with | .const (.slice none 0 0)=>true | _=>false
def yOf (X:Cfg) (op:Op) (ρ:Operand→PV):Option (Store→(PV→Store→Prop)→Prop) :=
 match op with
 | .next x false=>some fun st K=>D0 st (ρ x) K
 | .call c=>match X.yl,c.callee with
  | some (l,H),.value f=>match ρ f with
   | .func (.yield l') [] []=>if l'=l then some (fun st K=>H (c.args.toList.map ρ) st fun b st'=>K (.bool b) st')else none
   | _=>none
  | _,_=>none
 | .binOp op t x y _=>if KZ y=true then (match ρ x with
  | .lits _ []=>some (fun st K=>∃p q,Ft op (Ac X.P t != 0) true=some p∧Ft op (Ac X.P t != 0) false=some q∧K p st∧K q st)
  | _=>none)else none
 | _=>none
def Df (all:Array Oper) (o:Oper) (ρ:Nat→PV):Bool :=
 match o.guard with
 | none=>true
 | some (j,want)=>match Dk all ρ j with | .bool b=>b==want | _=>false
def Dd (X:Cfg) (N:Nat) (all:Array Oper) (o:Oper) (s:IState) (K:IState→Prop):Prop :=
 match (if Df all o s.env=true then yOf X o.op (Av s.env)else none)with
 | some D=>D s.st (fun r st'=>∃s',FW N o s (r,st')=some s'∧K s')
 | none=>∃s',stepG X N all o s=some s'∧K s'
def DM (X:Cfg) (N:Nat) (all:Array Oper):List Oper→IState→(IState→Prop)→Prop
 | [],s,K=>K s
 | o::rest,s,K=>Dd X N all o s (fun s'=>DM X N all rest s' K)
def BK (X:Cfg) (op:Op):Bool:=match op with | .next ..=>false | .binOp _ _ _ y _ => !KZ y | .call { callee:=.value (.func _),.. }=>true | .call { callee:=.value _,.. }=>X.yl.isNone | _=>true
def noY (X:Cfg) (all:Array Oper):Bool:=all.toList.all fun o=>BK X o.op
theorem OI {X:Cfg} {op:Op} (ho:BK X op=true) {s:IState}:yOf X op (Av s.env)=none:=by
 cases op <;> simp only[BK,Bool.false_eq_true]at ho <;> simp only[yOf]
 case binOp=>rw[if_neg (by intro h;rw[h]at ho;cases ho)]
 rename_i c
 obtain ⟨callee,cargs,ats⟩:=c
 cases callee with
 | value f =>
  cases hy:X.yl with
  | none=>rfl
  | some q=>cases f <;> simp[hy]at ho <;> simp[Av]
 | invoke=>cases X.yl <;> rfl
 | builtin=>cases X.yl <;> rfl
theorem DV {X:Cfg} {N:Nat} {all:Array Oper} {o:Oper} {s:IState} (ho:BK X o.op=true) {K:IState→Prop}:Dd X N all o s K=∃s',stepG X N all o s=some s'∧K s':=by
 simp only[Dd,OI ho,ite_self]
theorem Lw {X:Cfg} {N:Nat} {all:Array Oper}:∀ {l:List Oper} {s:IState} {K:IState→Prop},(∀o∈l,BK X o.op=true)→(DM X N all l s K↔rwp X N all l s K)
 | [],s,K,_=>by simp[DM,rwp,ZR]
 | o::rest,s,K,ho=>by
  have ho2:∀o∈rest,BK X o.op=true:=fun o h=>ho o (by simp[h])
  simp only[DM,DV (ho o (by simp)),rwp,ZR,Option.bind_eq_some_iff]
  constructor
  ·rintro ⟨s1,h1,h2⟩
   obtain ⟨s2,h3,h4⟩:=(Lw ho2).1 h2
   exact ⟨s2,⟨s1,h1,h3⟩,h4⟩
  ·rintro ⟨s2,⟨s1,h1,h3⟩,h4⟩
   exact ⟨s1,h1,(Lw ho2).2 ⟨s2,h3,h4⟩⟩
theorem OJ {st:Store} {x:PV} {K K':PV→Store→Prop} (hk:∀r st,K r st→K' r st) (h:D0 st x K):D0 st x K':=by
 unfold D0 at h ⊢
 split at h
 ·split at h
  ·exact hk _ _ h
  ·split at h
   ·exact ⟨h.1,h.2.1,fun hl=>hk _ _ (h.2.2.1 hl),fun i k v he hs=>hk _ _ (h.2.2.2 i k v he hs)⟩
   ·exact h
  ·exact h
 ·exact h
theorem Ty {X:Cfg} (hm:∀l H,X.yl=some (l,H)→∀args st (K K':Bool→Store→Prop),(∀b st,K b st→K' b st)→H args st K→H args st K') {N:Nat} {all:Array Oper} {o:Oper} {s:IState} {K K':IState→Prop} (hk:∀s,K s→K' s) (h:Dd X N all o s K):Dd X N all o s K':=by
 unfold Dd at h ⊢
 split at h
 ·rename_i D he
  split at he
  ·unfold yOf at he
   split at he
   ·cases he
    exact OJ (fun r st ⟨s',h1,h2⟩=>⟨s',h1,hk _ h2⟩) h
   ·split at he
    ·rename_i l H f hy hc
     split at he
     ·split at he
      ·cases he
       exact hm l H hy _ _ _ _ (fun b st ⟨s',h1,h2⟩=>⟨s',h1,hk _ h2⟩) h
      ·cases he
     ·cases he
    ·cases he
   ·split at he
    ·split at he
     ·cases he
      obtain ⟨p,q,h1,h2,⟨s3,h3,h4⟩,s5,h5,h6⟩:=h
      exact ⟨p,q,h1,h2,⟨s3,h3,hk _ h4⟩,s5,h5,hk _ h6⟩
     ·cases he
    ·cases he
   ·cases he
  ·cases he
 ·rename_i he
  obtain ⟨s',h1,h2⟩:=h
  exact ⟨s',h1,hk _ h2⟩
def FX (X:Cfg) (o:Oper):Bool :=
 match o.op with
 | .move _ | .assign _ | .pick .. | .load .. | .nilCheck _ | .binOp .. | .unOp .. | .convert .. | .makeInterface .. | .typeAssert .. | .makeFunc .. | .fieldAddr .. | .field .. | .indexAddr .. | .index .. | .extract .. | .build .. | .lookup ..=>true
 | .box .. | .buildSlice .. | .slice .. => !X.muts (o.dst.getD 0)
 | .call { callee:=.builtin b,.. }=>match b with | .len | .min | .max=>true | _=>false
 | .call { callee:=.value (.func f),.. }=>X.quiet f && !X.frz (o.dst.getD 0)
 | _=>false
def EI (X:Cfg) (o:Oper):Bool :=
 match o.op with
 | .move _ | .assign _ | .pick .. | .binOp .. | .unOp .. | .convert .. | .makeInterface .. | .typeAssert .. | .makeFunc .. | .field .. | .index .. | .extract .. | .build ..=>true
 | .box .. | .buildSlice .. => !X.muts (o.dst.getD 0)
 | .call { callee:=.builtin b,.. }=>match b with | .min | .max=>true | _=>false
 | .load .. | .fieldAddr .. | .indexAddr ..=>X.frz (o.dst.getD 0)
 | .slice ..=>X.frz (o.dst.getD 0) && !X.muts (o.dst.getD 0)
 | .makeSlice ..=>X.frz (o.dst.getD 0)&&X.num (o.dst.getD 0)==0
 | .call { callee:=.value (.func f),.. }=>X.quiet f&&X.muts (o.dst.getD 0) && !X.frz (o.dst.getD 0)
 | .call { callee:=.value (.tmp _),.. }=>X.frz (1200000+o.dst.getD 0)&&X.muts (o.dst.getD 0) && !X.frz (o.dst.getD 0)
 | _=>false
def Bu (X:Cfg) (o:Oper):Bool :=
 X.num (o.dst.getD 0) != 0&&match o.op with
 | .buildSlice ..=>X.muts (o.dst.getD 0)
 | .makeSlice .. | .alloc _=>true
 | .call { callee:=.builtin b,.. }=>match b with | .append=>true | _=>false
 | .call { callee:=.value (.func f),.. }=>X.quiet f&&X.frz (o.dst.getD 0)&&X.muts (o.dst.getD 0)
 | _=>false
def Lx (x y:Oper):Bool:=match x.op,y.op with | .lookup t _ _ false,.mapEntry u _ _=>decide (t=u) | .load ..,.mapEntry ..=>true | .fieldAddr ..,.mapEntry ..=>true | .indexAddr ..,.mapEntry ..=>true | _,_=>false
def KP (x:Oper):Bool:=match x.op with | .lookup ..=>true | .load ..=>true | .fieldAddr ..=>true | .indexAddr ..=>true | .call { callee:=.builtin .len,.. }=>true | _=>false
def Eg (X:Cfg) (y:Oper):Bool:=X.num (y.dst.getD 0)==0&&match y.op with | .alloc _=>true | .makeSlice .. => !X.frz (y.dst.getD 0) | .call { callee:=.value (.func f),.. }=>X.calm (1000000+f) && !X.frz (y.dst.getD 0) && !X.muts (y.dst.getD 0) | _=>false
def Eo (X:Cfg) (o:Oper):Bool:=X.frz (600000+o.dst.getD 0)&&match o.op with | .load .. | .fieldAddr .. | .indexAddr ..=>true | _=>false
def nO:Builtin→Bool
 | .len=>true
 | _=>false
def Ly (X:Cfg) (o:Oper):Bool:=X.frz (700000+o.dst.getD 0) && !X.frz (600000+o.dst.getD 0)&&match o.op with | .load .. | .fieldAddr .. | .indexAddr .. | .nilCheck _=>true | .call { callee:=.builtin b,argTypes:=ats,.. }=>nO b&&(match ats.toList with | [t]=>(AS X.P t).isNone | _=>false) | _=>false
def Lz (X:Cfg) (o:Oper):Bool:=match o.op with | .call { callee:=.builtin b,.. }=>X.frz (700000+o.dst.getD 0)&&(match b with | .append=>true | _=>false) | .store _ a _=>X.frz (800000+Da a) | _=>false
def KQ (X:Cfg) (x y:Oper):Bool:=Eo X x&&match y.op with | .store _ a _=>X.frz (900000+Da a)&&(X.num (Da a) != 0)&&decide (X.num (Da a)-1<X.num (x.dst.getD 0)) | _=>false
def LA (X:Cfg) (o:Oper):Bool:=match o.op with | .call { callee:=.value (.func f),.. }=>decide (f<1000000)&&X.calm f && !X.frz (o.dst.getD 0) && !X.muts (o.dst.getD 0) | _=>false
def Jc (X:Cfg) (o:Oper):Bool := !X.frz (o.dst.getD 0) && !X.frz (600000+o.dst.getD 0) && !X.frz (700000+o.dst.getD 0)&&match o.op with | .fieldAddr .. | .indexAddr ..=>true | _=>false
def Tz (o:Oper):Bool:=match o.op with | .store ..=>true | _=>false
def E8 (X:Cfg) (all:Array Oper) (x y:Oper):Bool:=x.apart all y&&BK X x.op&&BK X y.op&&((FX X x&&FX X y)||EI X x||EI X y||(Bu X x&&Bu X y&&(X.num (x.dst.getD 0)-1 != X.num (y.dst.getD 0)-1))||Lx x y||(KP x&&Eg X y)||(Eo X x&&Bu X y&&decide (X.num (y.dst.getD 0)-1<X.num (x.dst.getD 0)))||(Bu X x&&Eo X y&&decide (X.num (x.dst.getD 0)-1<X.num (y.dst.getD 0)))||(Ly X x&&Lz X y)||(Lz X x&&Ly X y)||KQ X x y||(LA X x&&Eg X y)||(Jc X x&&Tz y)||(Tz x&&Jc X y))
def OL (all:Array Oper):Nat→Nat→Nat→Bool
 | 0,_,_=>false
 | n+1,i,j=>match all[j]? with
  | some y=>y.after.toList.any fun e=>Region.binds .any e&&(e.on==i||OL all n i e.on)
  | none=>false
def Iw (X:Cfg) (all:Array Oper):Bool :=
 all.toList.zipIdx.all fun (y,j) =>
  (y.after.toList.all fun e => !Region.binds .any e||e.on<j) &&
  ((all.toList.take j).zipIdx.all fun (x,i)=>(y.after.toList.any fun e=>Region.binds .any e&&e.on==i)||(E8 X all x y||OL all 8 i j))
def Fj (X:Cfg) (all:Array Oper) (i j:Nat):Bool:=match all[i]?,all[j]? with
 | some x,some y=>(y.after.toList.any fun e=>Region.binds .any e&&e.on==i)||E8 X all x y||OL all 8 i j
 | _,_=>false
def Ep (all:Array Oper) (i j:Nat):Bool:=match all[i]? with
 | some x=>x.after.toList.all fun e => !Region.binds .any e||e.on != j
 | none=>false
def GZ (p:Nat→Nat→Bool):List Nat→Bool
 | []=>true
 | i::l=>l.all (p i)&&GZ p l
def J3 (n a b:Nat):List Nat:=(List.range n).flatMap fun i=>if i=a then []else if i=b then (if a<b then [b,a]else [a,b])else [i]
def Jd (X:Cfg) (all:Array Oper) (a b:Nat):Bool :=
 decide (a≠b)&&decide (a<all.size∧b<all.size)&&(all.toList.all fun o=>BK X o.op&&o.after.toList.all fun e => !Region.binds .any e||decide (e.on<all.size))&&((List.range all.size).all fun i=>Ep all i i) &&
 (GZ (fun i j=>(Fj X all i j||(i==min a b&&j==max a b))&&Ep all i j) (List.range all.size)) &&
 (GZ (fun i j=>(Fj X all i j||(i==max a b&&j==min a b))&&Ep all i j) (J3 all.size a b)) &&
 ((J3 all.size a b).all fun i=>decide (i<all.size))&&((List.range all.size).all fun i=>(J3 all.size a b).contains i)&&decide (J3 all.size a b).Nodup
def atO (all:Array Oper) (l:List Nat):List Oper:=l.filterMap fun i=>all[i]?
inductive Ghost:IState→IState→Prop where
 | refl (s:IState):Ghost s s
 | slot (s:IState) (d z:Nat) (h:s.env d=.nils) (hz:0<z):Ghost s ⟨upd s.env d (.ref s.st.next 0 0 0),s.st.new (.arr 0 z [])⟩
 | cell (s:IState) (id gen z z':Nat) (es:List PV) (idx off:Nat) (h:s.st.obj id=some (.arr gen z es)) (hc:(nth es idx).cells[off]?=some .nils) (hz:0<z') :
   Ghost s ⟨s.env,(s.st.new (.arr 0 z' [])).set id (.arr gen z (es.set idx (A4 (nth es idx) off [.ref s.st.next 0 0 0])))⟩
 | res (s:IState) (z:Nat) (hz:0<z):Ghost s ⟨s.env,s.st.new (.arr 0 z [])⟩
 | sealv (s:IState) (d:Nat) (q:PV) (ids:List Nat) (hb:s.env d≠.bad) (h:rdP (s.st.only ids) (s.env d)=some q):Ghost s ⟨upd s.env d q,s.st.seal ids⟩
 | fix (s:IState) (d id gen idx z:Nat) (es:List PV) (h:s.env d=.ptr id gen idx 0) (ho:s.st.arr? id gen=some (z,es)) (hi:idx<es.length) (hp:AL es=true):Ghost s ⟨upd s.env d (.vptr (nth es idx).cells 0),s.st.without [id]⟩
 | trans {s s' s'':IState} (h:Ghost s s') (g:Ghost s' s''):Ghost s s''
inductive IExit where
 | normal
 | exit (id:Nat)
 | ret
def Fk (args:List PV):Nat→PV:=fun t=>args.getD t .bad
def E9 (ρ:Nat→PV):List Nat→List PV→(Nat→PV)
 | p::ps,v::vs=>E9 (upd ρ p v) ps vs
 | _,_=>ρ
def Bl (X:Cfg):Prop:=(∀f args st r st',X.quiet f=true→X.tab f args st=some (r,st')→st'=st∧(AL args=true→∀st2,X.tab f args st2=some (r,st2))) ∧
 (∀ f args st r st',X.calm (1000000+f)=true→X.tab f args st=some (r,st')→(∀i o,st.obj i=some o→i<st.next)→∀i o,st.obj i=some o→st'.obj i=some o) ∧
 ∀ f args st r st',f<1000000→X.calm f=true→X.tab f args st=some (r,st')→st'=st∧∀st2:Store,(∀i o,st.obj i=some o→st2.obj i=some o)→X.tab f args st2=some (r,st2)
def LB (X:Cfg) (y:Nat×ES):Cfg:={ X with yl:=some y,rnd:=false }
def Dy (X:Cfg):Cfg:={ X with rnd:=true }
abbrev WP:=Cfg→Nat→Code→(IExit→IState→Prop)→IState→Prop
def wpC (G:WP):WP
 | X,N,.skip,Q,s=>Q .normal s
 | X,N,.region _ ops dr,Q,s=>((dr=true→Iw X ops=true)∧DM X N ops ops.toList s (Q .normal))∨(dr=true∧∃a b,Jd X ops a b=true∧DM X N ops ops.toList s (Q .normal)∧DM X N ops (atO ops (J3 ops.size a b)) s (Q .normal))
 | X,N,.seq a b,Q,s=>wpC G X N a (fun e s'=>match e with | .normal=>wpC G X N b Q s' | e=>Q e s') s
 | X,N,.cond c a b,Q,s=>match Av s.env c with | .bool v=>(v=true→wpC G X N a Q s)∧(v=false→wpC G X N b Q s) | _=>False
 | X,N,.block id c,Q,s=>wpC G X N c (fun e s'=>match e with | .exit i=>if i=id then Q .normal s' else Q (.exit i) s' | e=>Q e s') s
 | X,N,.loop c,Q,s=>∃(J:Nat→IState→Prop) (n:Nat),(∃s0,Ghost s s0∧J n s0)∧∀m s',J m s'→wpC G X N c (fun e s''=>match e with | .normal=>∃m',m'<m∧∃s3,Ghost s'' s3∧J m' s3 | e=>Q e s'') s'
 | X,N,.exit id,Q,s=>Q (.exit id) s
 | X,N,.ret,Q,s=>Q .ret s
 | X, N, .rangeFunc g ps assign body,Q,s00=>∃s,Ghost s00 s∧X.rnd=false∧(match Av s.env g with
  | .func (.func f) first captured => ∃ fn c, X.P.funcs[f]? = some fn ∧ fn.body = some c ∧ (fn.name == "runtime.NumGoroutine") = false ∧ fn.results.toList = [] ∧ first.length + 1 + captured.length ≤ fn.ntmps ∧ (ps.toList.all fun p => decide (p < N)) = true ∧
    ∀ (l : Nat) (r:Loop),r.state=.ready→r.pending=none →
     G (LB X (l,fun args st K=>st.obj s.st.next=some (.lp r)∧args.length=ps.size ∧
       wpC G (Dy X) N assign (fun e s1=>e=.normal∧s1.st.obj s.st.next=some (.lp r) ∧
        wpC G (Dy X) N body (fun e s2=>s2.st.obj s.st.next=some (.lp { r with state:=.busy }) ∧
         match e with
         | .normal=>K true (s2.st.set s.st.next (.lp r))
         | .ret=>K false (s2.st.set s.st.next (.lp { r with state:=.done,pending:=some .ret }))
         | .exit i=>K false (s2.st.set s.st.next (.lp { r with state:=.done,pending:=some (.exit i) })))
         ⟨s1.env, s1.st.set s.st.next (.lp { r with state:=.busy })⟩)
        ⟨E9 s.env ps.toList args,st⟩))
      fn.ntmps c
      (fun e s'=>(e=.normal∨e=.ret)∧((s'.st.obj s.st.next=some (.lp r)∧Q .normal ⟨s.env,s'.st.set s.st.next (.lp { r with state:=.exhausted })⟩) ∨
       (s'.st.obj s.st.next=some (.lp { r with state:=.done,pending:=some .ret })∧Q .ret ⟨s.env,s'.st.set s.st.next (.lp { r with state:=.exhausted,pending:=some .ret })⟩) ∨
       (∃ i,s'.st.obj s.st.next=some (.lp { r with state:=.done,pending:=some (.exit i) })∧Q (.exit i) ⟨s.env,s'.st.set s.st.next (.lp { r with state:=.exhausted,pending:=some (.exit i) })⟩)))
      ⟨Fk (first++.func (.yield l) [] []::captured),s.st.new (.lp r)⟩
  | _=>False)
 | X,N,.scope c,Q,s=>wpC G X N c Q s
 | X,N,.label _,Q,s=>Q .normal s
 | _,_,_,_,_=>False
def gen:Nat→WP
 | 0=>fun _ _ _ _ _=>False
 | d+1=>fun X N c Q s=>∃X':Cfg,X'.P=X.P∧X'.yl=X.yl∧X'.rnd=X.rnd∧X'.dep=d∧D6 X'∧Bl X'∧wpC (gen d) X' N c Q s
def wpI (X:Cfg) (N:Nat) (c:Code) (Q:IExit→IState→Prop) (s:IState):Prop:=wpC (gen X.dep) X N c Q s
def Bb (X:Cfg):Prop:=∀l H,X.yl=some (l,H)→∀args st (K K':Bool→Store→Prop),(∀b st,K b st→K' b st)→H args st K→H args st K'
theorem AQ {X:Cfg} (h:X.yl=none):Bb X:=fun l H hl=>by rw[h]at hl;cases hl
theorem HH {X:Cfg} (hm:Bb X) {N:Nat} {all:Array Oper}:∀ {l:List Oper} {s:IState} {K K':IState→Prop},(∀s,K s→K' s)→DM X N all l s K→DM X N all l s K'
 | [],s,K,K',hk,h=>hk s h
 | o::rest,s,K,K',hk,h=>Ty hm (fun s' h'=>HH hm hk h') h
def WP.Mono (G:WP):Prop:=∀X N c Q Q' s,Bb X→(∀e s,Q e s→Q' e s)→G X N c Q s→G X N c Q' s
theorem CB {G:WP} (hG:G.Mono):(wpC G).Mono:=by
 intro X N c
 induction c generalizing X with
 | skip=>intro Q Q' s hm h hs;exact h _ _ hs
 | region id ops dr =>
  intro Q Q' s hm h hs
  rcases hs with hs | ⟨h1,a,b,h2,h3,h4⟩
  ·exact .inl ⟨hs.1,HH hm (fun s h'=>h _ _ h') hs.2⟩
  ·exact .inr ⟨h1,a,b,h2,HH hm (fun s h'=>h _ _ h') h3,HH hm (fun s h'=>h _ _ h') h4⟩
 | seq a b iha ihb =>
  intro Q Q' s hm h hs
  refine iha X _ _ _ hm (fun e s' he=>?_) hs
  cases e with
  | normal=>exact ihb X _ _ _ hm h he
  | exit i=>exact h _ _ he
  | ret=>exact h _ _ he
 | cond c a b iha ihb =>
  intro Q Q' s hm h hs
  simp only[wpC]at hs ⊢
  split at hs
  ·exact ⟨fun hv=>iha X _ _ _ hm h (hs.1 hv),fun hv=>ihb X _ _ _ hm h (hs.2 hv)⟩
  ·exact hs.elim
 | block id c ih =>
  intro Q Q' s hm h hs
  refine ih X _ _ _ hm (fun e s' he=>?_) hs
  cases e with
  | normal=>exact h _ _ he
  | exit i =>
   dsimp only at he ⊢
   split at he
   ·rw [if_pos (by assumption)];exact h _ _ he
   ·rw [if_neg (by assumption)];exact h _ _ he
  | ret=>exact h _ _ he
 | loop c ih =>
  intro Q Q' s hm h hs
  obtain ⟨J,n,h0,hr⟩:=hs
  refine ⟨J,n,h0,fun m s' hs'=>ih X _ _ _ hm (fun e s'' he=>?_) (hr m s' hs')⟩
  cases e with
  | normal=>exact he
  | exit i=>exact h _ _ he
  | ret=>exact h _ _ he
 | exit id=>intro Q Q' s hm h hs;exact h _ _ hs
 | ret=>intro Q Q' s hm h hs;exact h _ _ hs
 | rangeFunc g ps assign body iha ihb =>
  intro Q Q' s hm h hs
  simp only[wpC]at hs ⊢
  obtain ⟨s0,hgh,hr,hs⟩:=hs
  refine ⟨s0,hgh,hr,?_⟩
  split at hs
  ·rename_i f first captured
   obtain ⟨fn,c,h1,h2,h3,h3',h4,h4',h5⟩:=hs
   refine ⟨fn,c,h1,h2,h3,h3',h4,h4',fun l r hr1 hr2=>hG _ _ _ _ _ _ ?_ (fun e s' he=>⟨he.1,?_⟩) (h5 l r hr1 hr2)⟩
   ·intro l' H' he args st K K' hk hH
    simp only[LB,Option.some.injEq,Prod.mk.injEq]at he
    obtain ⟨rfl,rfl⟩:=he
    obtain ⟨g1,g2,g3⟩:=hH
    refine ⟨g1,g2,iha (Dy X) _ _ _ hm (fun e s1 he=>⟨he.1,he.2.1,ihb (Dy X) _ _ _ hm (fun e s2 he2=>⟨he2.1,?_⟩) he.2.2⟩) g3⟩
    cases e with
    | normal=>exact hk _ _ he2.2
    | exit i=>exact hk _ _ he2.2
    | ret=>exact hk _ _ he2.2
   ·rcases he.2 with ⟨a,b⟩ | ⟨a,b⟩ | ⟨i,a,b⟩
    ·exact .inl ⟨a,h _ _ b⟩
    ·exact .inr (.inl ⟨a,h _ _ b⟩)
    ·exact .inr (.inr ⟨i,a,h _ _ b⟩)
  ·exact hs.elim
 | scope c ih=>intro Q Q' s hm h hs;exact ih X _ _ _ hm h hs
 | label l=>intro Q Q' s hm h hs;exact h _ _ hs
 | goto=>intro Q Q' s hm h hs;exact hs
 | refuse=>intro Q Q' s hm h hs;exact hs
theorem DE:∀d,(gen d).Mono
 | 0=>fun _ _ _ _ _ _ _ _ h=>h.elim
 | d+1=>fun X N c Q Q' s hm hk ⟨X',h1,h2,h3,h4,h5,h6,h⟩=>⟨X',h1,h2,h3,h4,h5,h6,CB (DE d) X' N c Q Q' s (fun l H hl=>hm l H (h2▸hl)) hk h⟩
theorem NI {X:Cfg} (hm:Bb X) {N:Nat} {c:Code} {Q Q':IExit→IState→Prop} {s:IState} (h:∀e s,Q e s→Q' e s) (hs:wpI X N c Q s):wpI X N c Q' s:=CB (DE X.dep) X N c Q Q' s hm h hs
inductive Kf where
 | seq (c:Code)
 | blk (id:Nat)
 | lp (J:IState→Prop)
def post (X:Cfg) (N:Nat) (Q:IExit→IState→Prop):List Kf→IExit→IState→Prop
 | [],e,s=>Q e s
 | .seq c::ks,e,s=>match e with | .normal=>wpI X N c (post X N Q ks) s | e=>post X N Q ks e s
 | .blk id::ks,e,s=>match e with | .exit i=>if i=id then post X N Q ks .normal s else post X N Q ks (.exit i) s | e=>post X N Q ks e s
 | .lp J::ks,e,s=>match e with | .normal=>J s | e=>post X N Q ks e s
def run (X:Cfg) (N:Nat) (Q:IExit→IState→Prop) (c:Code) (ks:List Kf) (s:IState):Prop:=wpI X N c (post X N Q ks) s
def FY (X:Cfg) (N:Nat) (Q:IExit→IState→Prop) (ks:List Kf) (s:IState):Prop:=post X N Q ks .normal s
def Gq (X:Cfg) (N:Nat) (Q:IExit→IState→Prop) (ks:List Kf) (id:Nat) (s:IState):Prop:=post X N Q ks (.exit id) s
def done (X:Cfg) (N:Nat) (Q:IExit→IState→Prop) (ks:List Kf) (s:IState):Prop:=post X N Q ks .ret s
def ops (X:Cfg) (N:Nat) (Q:IExit→IState→Prop) (all:Array Oper) (l:List Oper) (ks:List Kf) (s:IState):Prop:=DM X N all l s (FY X N Q ks)
def Bh (X:Cfg) (N:Nat) (Q:IExit→IState→Prop) (all:Array Oper) (l:List Oper) (ks:List Kf) (d:Option Nat) (s:IState) (r:Option (PV×Store)):Prop :=
 match r with
 | some r=>match d with
  | none=>ops X N Q all l ks ⟨s.env,r.2⟩
  | some d=>d<N∧ops X N Q all l ks ⟨upd s.env d r.1,r.2⟩
 | none=>False
def Gs (g:PV) (A B:Prop):Prop:=match g with | .bool v=>(v=true→A)∧(v=false→B) | _=>False
def BG (g:PV) (want:Bool) (A B:Prop):Prop:=match g with | .bool b=>(b=want→A)∧(b=(!want)→B) | .tuple []=>B | _=>False
theorem QV {w:Bool} {A B:Prop}:BG (.tuple []) w A B=B:=nrfl rfl
theorem TA {A B:Prop}:Gs (.bool true) A B=A:=by simp[Gs]
theorem QW {A B:Prop}:Gs (.bool false) A B=B:=by simp[Gs]
theorem Xd {A B:Prop}:BG (.bool true) true A B=A:=by simp[BG]
theorem Xe {A B:Prop}:BG (.bool true) false A B=B:=by simp[BG]
theorem Xf {A B:Prop}:BG (.bool false) true A B=B:=by simp[BG]
theorem Xg {A B:Prop}:BG (.bool false) false A B=A:=by simp[BG]
section
variable {X:Cfg} {N:Nat} {Q:IExit→IState→Prop} {ks:List Kf} {s:IState}
theorem ZS:run X N Q .skip ks s=FY X N Q ks s:=nrfl rfl
theorem OM {a b:Code}:run X N Q (.seq a b) ks s=run X N Q a (.seq b::ks) s:=by
 simp only[run,wpI,wpC];congr 1
theorem J4 {id:Nat} {c:Code}:run X N Q (.block id c) ks s=run X N Q c (.blk id::ks) s:=by
 simp only[run,wpI,wpC];congr 1
theorem Xh {c:Code}:run X N Q (.scope c) ks s=run X N Q c ks s:=by
 simp only[run,wpI,wpC]
theorem Xi {l:Nat}:run X N Q (.label l) ks s=FY X N Q ks s:=nrfl rfl
theorem ZT {id:Nat}:run X N Q (.exit id) ks s=Gq X N Q ks id s:=nrfl rfl
theorem nP:run X N Q .ret ks s=done X N Q ks s:=nrfl rfl
theorem Ix {id:Nat} {l:List Oper}:run X N Q (.region id l.toArray false) ks s=ops X N Q l.toArray l ks s:=by
 simp only[run,wpI,wpC,ops];simp;rfl
theorem LC {id:Nat} {l:List Oper} (a b:Nat) (h:Jd X l.toArray a b=true) (h1:ops X N Q l.toArray l ks s) (h2:ops X N Q l.toArray (atO l.toArray (J3 l.length a b)) ks s):run X N Q (.region id l.toArray true) ks s:=by
 refine .inr ⟨rfl,a,b,h,?_,?_⟩
 ·exact h1
 ·rw [List.size_toArray];exact h2
theorem LD {c:Operand} {a b:Code}:run X N Q (.cond c a b) ks s=Gs (Av s.env c) (run X N Q a ks s) (run X N Q b ks s):=by
 simp only[run,wpI,wpC,Gs]
theorem QX {c:Code} (J:Nat→IState→Prop) (n:Nat) {s0:IState} (hg:Ghost s s0) (h0:J n s0) (h:∀m s',J m s'→run X N Q c (.lp (fun s''=>∃m',m'<m∧∃s3,Ghost s'' s3∧J m' s3)::ks) s') :
  run X N Q (.loop c) ks s:=by
 simp only[run,wpI,wpC]
 refine ⟨J,n,⟨s0,hg,h0⟩,fun m s' hs'=>?_⟩
 have e:(fun (e:IExit) s''=>match e with | .normal=>∃m',m'<m∧∃s3,Ghost s'' s3∧J m' s3 | e=>post X N Q ks e s'')=post X N Q (.lp (fun s''=>∃m',m'<m∧∃s3,Ghost s'' s3∧J m' s3)::ks):=by
  funext e s'';cases e <;> rfl
 exact e▸h m s' hs'
theorem KR {c:Code} {J J':IState→Prop} (hm:Bb X) (hj:∀s,J s→J' s) (h:run X N Q c (.lp J::ks) s):run X N Q c (.lp J'::ks) s:=by
 simp only[run]at h ⊢
 refine NI hm ?_ h
 intro e s'' he
 cases e with
 | normal=>exact hj _ he
 | exit i=>exact he
 | ret=>exact he
theorem ON {c:Code} (hm:Bb X) (n:Nat) (I:Nat→IState→Prop) {s0:IState} (hg:Ghost s s0) (h0:I 0 s0) (h:∀k s',k≤n→I k s'→run X N Q c (.lp (fun s''=>k<n∧I (k+1) s'')::ks) s'):run X N Q (.loop c) ks s :=
 QX (fun m s=>∃k,k+m=n∧I k s) n hg ⟨0,by omega,h0⟩ fun m s' ⟨k,hk,hI⟩ =>
  KR hm (fun s'' ⟨h1,h2⟩=>⟨m-1,by omega,s'',.refl _,k+1,by omega,h2⟩) (h k s' (by omega) hI)
theorem ZU:FY X N Q [] s=Q .normal s:=nrfl rfl
theorem ZV {c:Code}:FY X N Q (.seq c::ks) s=run X N Q c ks s:=nrfl rfl
theorem ZW {id:Nat}:FY X N Q (.blk id::ks) s=FY X N Q ks s:=nrfl rfl
theorem nQ {J:IState→Prop}:FY X N Q (.lp J::ks) s=J s:=nrfl rfl
theorem Xj {c:Code} {id:Nat}:Gq X N Q (.seq c::ks) id s=Gq X N Q ks id s:=nrfl rfl
theorem Xk {i id:Nat}:Gq X N Q (.blk i::ks) id s=if id=i then FY X N Q ks s else Gq X N Q ks id s:=nrfl rfl
theorem ZX {J:IState→Prop} {id:Nat}:Gq X N Q (.lp J::ks) id s=Gq X N Q ks id s:=nrfl rfl
theorem ZY:done X N Q [] s=Q .ret s:=nrfl rfl
theorem ZZ {c:Code}:done X N Q (.seq c::ks) s=done X N Q ks s:=nrfl rfl
theorem Z0 {id:Nat}:done X N Q (.blk id::ks) s=done X N Q ks s:=nrfl rfl
theorem nR {J:IState→Prop}:done X N Q (.lp J::ks) s=done X N Q ks s:=nrfl rfl
theorem nS {all:Array Oper}:ops X N Q all [] ks s=FY X N Q ks s:=by
 simp [ops,DM]
theorem G5 {all:Array Oper} {o:Oper} {rest:List Oper} {r:Option (PV×Store)} (hy:yOf X o.op (Av s.env)=none) (h:Bp X all o s=r):ops X N Q all (o::rest) ks s=Bh X N Q all rest ks o.dst s r:=by
 subst h
 simp only[ops,DM,Dd,hy,ite_self,stepG]
 cases hr:Bp X all o s with
 | none=>simp[Bh]
 | some r =>
  simp only[Option.bind_some,FW,Bh]
  cases o.dst with
  | none=>simp[ops]
  | some d =>
   by_cases hd:d<N
   ·simp [hd,ops]
   ·simp [hd]
theorem LF {all:Array Oper} {rest:List Oper} {dst:Option Nat} {op:Op} {ty:TypeId} {pos:String} {after:Array Edge} (hy:yOf X op (Av s.env)=none) :
  ops X N Q all (⟨dst,op,ty,pos,after,none⟩::rest) ks s=Bh X N Q all rest ks dst s (iop X (dst.getD 0) op (Av s.env) s.st):=G5 hy rfl
theorem NJ {all:Array Oper} {rest:List Oper} {dst:Option Nat} {op:Op} {ty:TypeId} {pos:String} {after:Array Edge} {j:Nat} {want:Bool} (hy:yOf X op (Av s.env)=none) :
  ops X N Q all (⟨dst,op,ty,pos,after,some (j,want)⟩::rest) ks s =
   BG (Dk all s.env j) want (Bh X N Q all rest ks dst s (iop X (dst.getD 0) op (Av s.env) s.st)) (Bh X N Q all rest ks dst s (some (.tuple [],s.st))):=by
 cases h:Dk all s.env j with
 | bool b =>
  rw [G5 hy (r:=if b=want then iop X (dst.getD 0) op (Av s.env) s.st else some (.tuple [],s.st)) (by simp[Bp,h])]
  cases b <;> cases want <;> simp[BG]
 | tuple l =>
  cases l with
  | nil=>rw[G5 hy (r:=some (.tuple [],s.st)) (by simp[Bp,h])];simp[BG]
  | cons x l=>rw[G5 hy (r:=none) (by simp[Bp,h])];simp[BG,Bh]
 | _=>rw[G5 hy (r:=none) (by simp[Bp,h])];simp[BG,Bh]
theorem TB {all:Array Oper} {l:List Oper} {d:Nat} {p:PV} {st:Store}:Bh X N Q all l ks (some d) s (some (p,st))=(d<N∧ops X N Q all l ks ⟨upd s.env d p,st⟩):=nrfl rfl
theorem TC {all:Array Oper} {l:List Oper} {p:PV} {st:Store}:Bh X N Q all l ks none s (some (p,st))=ops X N Q all l ks ⟨s.env,st⟩:=nrfl rfl
theorem Z1 {all:Array Oper} {l:List Oper} {d:Option Nat} {c:Prop} [Decidable c] {x:Option (PV×Store)}:Bh X N Q all l ks d s (if c then x else none)=(c∧Bh X N Q all l ks d s x):=by
 by_cases h:c <;> simp[h,Bh]
theorem Xl {all:Array Oper} {l:List Oper} {d:Option Nat} {c:Prop} [Decidable c] {x:Option (PV×Store)}:Bh X N Q all l ks d s (if c then none else x)=(¬c∧Bh X N Q all l ks d s x):=by
 by_cases h:c <;> simp[h,Bh]
end
section
variable {X:Cfg} {N:Nat} {Q:IExit→IState→Prop} {ks:List Kf} {s:IState}
theorem Am {all:Array Oper} {l:List Oper} {d:Option Nat} {r r':Option (PV×Store)} (h:r=r'):Bh X N Q all l ks d s r=Bh X N Q all l ks d s r':=by rw[h]
theorem An {g g':PV} {A B:Prop} (h:g=g'):Gs g A B=Gs g' A B:=by rw[h]
theorem Ai {g g':PV} {w:Bool} {A B:Prop} (h:g=g'):BG g w A B=BG g' w A B:=by rw[h]
end
theorem xK {α β:Type} {c:Prop} [Decidable c] {f:α→β} {x y:Option α}:(if c then x else y).map f=if c then x.map f else y.map f:=by split <;> rfl
theorem nT {α β:Type} {c:Prop} [Decidable c] {f:α→Option β} {x y:Option α}:(if c then x else y).bind f=if c then x.bind f else y.bind f:=by split <;> rfl
end Sim
