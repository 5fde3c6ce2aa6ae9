/- Maps, iterators and generators, for walks. -/
import Derived.Test.YtppljhpecoeakaaSimS
set_option linter.unusedVariables false
set_option linter.unusedSimpArgs false
namespace Sim
open Go
section
variable {X:Cfg} {d:Nat} {ρ:Operand→PV} {st:Store}
theorem Sm {t:TypeId}:iop X d (.makeMap t none) ρ st=(AZ X.P t).bind fun q=>some (.mref st.next 0,st.new (.map 0 q.1 [])):=nrfl rfl
theorem PZ {t:TypeId} {r:Operand}:iop X d (.makeMap t (some r)) ρ st=(AZ X.P t).bind fun q=>(CT (ρ r)).map fun _=>(.mref st.next 0,st.new (.map 0 q.1 [])):=nrfl rfl
theorem Vx {t:TypeId} {m k v:Operand}:iop X d (.insert t m k v) ρ st=(IE st (AZ X.P t) (ρ m) (ρ k) (ρ v)).map fun st'=>(.bad,st'):=nrfl rfl
theorem NG {t:TypeId} {m k v:Operand}:iop X d (.mapUpdate t m k v) ρ st=(IE st (AZ X.P t) (ρ m) (ρ k) (ρ v)).map fun st'=>(.bad,st'):=nrfl rfl
theorem Vy {t:TypeId} {m k:Operand} {ok:Bool}:iop X d (.lookup t m k ok) ρ st=(CC st (AZ X.P t) (ρ m) (ρ k) ok).map fun v=>(v,st):=nrfl rfl
theorem ZA {t:TypeId} {m:Operand}:iop X d (.range t m) ρ st=EL st (AZ X.P t) (ρ m):=nrfl rfl
theorem ZB {x:Operand}:iop X d (.entry x) ρ st=(mapEntry st (ρ x)).map fun v=>(v,st):=nrfl rfl
def Kv (o:Option IObj) (gen:Nat):Option (MK×List (PV×PV)):=match o with | some (.map g mk es)=>if gen=g then some (mk,es)else none | _=>none
theorem ZC {g h:Nat} {mk:MK} {es:List (PV×PV)}:Kv (some (.map h mk es)) g=if g=h then some (mk,es)else none:=nrfl rfl
theorem Sn {mk:MK} {z:PV} {id gen:Nat} {k v:PV}:IE st (some (mk,z)) (.mref id gen) k v=(Kv (st.obj id) gen).bind fun q=>if mk=q.1∧BC q.1 k=true then some (st.set id (.map gen q.1 (Cy q.2 k v)))else none:=by
 simp only[IE,Kv]
 cases st.obj id with
 | none=>rfl
 | some o =>
  cases o <;> try rfl
  rename_i g mk' es
  by_cases h:gen=g
  ·subst h;simp
  ·simp [h]
def Mg (mk:MK) (z:PV) (k:PV) (ok:Bool) (q:MK×List (PV×PV)):Option PV:=if q.1=mk then (match BV q.2 k with
    | some v=>some (if ok then .tuple [v,.bool true]else v)
    | none=>some (if ok then .tuple [z,.bool false]else z))else none
theorem So {mk:MK} {z:PV} {id gen:Nat} {k:PV} {ok:Bool}:CC st (some (mk,z)) (.mref id gen) k ok=if BC mk k=true then (Kv (st.obj id) gen).bind (Mg mk z k ok)else none:=by
 simp only[CC,Kv,Option.bind_some]
 split
 ·cases st.obj id with
  | none=>rfl
  | some o =>
   cases o <;> try rfl
   rename_i g mk' es
   by_cases h:gen=g
   ·subst h
    by_cases hm:mk'=mk
    ·simp [Mg,hm];cases BV es k <;> rfl
    ·simp [Mg,hm]
   ·simp [h]
 ·rfl
theorem gW {mk:MK} {z k:PV} {es:List (PV×PV)}:Mg mk z k true (mk,es)=some (.tuple [(BV es k).getD z,.bool (BV es k).isSome]):=by
 cases h:BV es k <;> simp[Mg,h]
theorem gX {mk:MK} {z k:PV} {es:List (PV×PV)}:Mg mk z k false (mk,es)=some ((BV es k).getD z):=by
 cases h:BV es k <;> simp[Mg,h]
theorem Sp {mk:MK} {z k:PV} {ok:Bool}:CC st (some (mk,z)) .nilm k ok=if BC mk k=true then some (if ok then .tuple [z,.bool false]else z)else none:=nrfl rfl
theorem NH {q:MK×PV} {id gen:Nat}:EL st (some q) (.mref id gen)=(Kv (st.obj id) gen).bind fun r=>some (.iter st.next 0,st.new (.it (some (id,gen)) r.2.length [])):=by
 simp only[EL,Kv,Option.bind_some]
 cases st.obj id with
 | none=>rfl
 | some o =>
  cases o <;> try rfl
  rename_i g mk' es
  by_cases h:gen=g
  ·subst h;simp
  ·simp [h]
theorem NI {q:MK×PV}:EL st (some q) .nilm=some (.iter st.next 0,st.new (.it none 0 [])):=nrfl rfl
theorem ZD {q:MK×PV} {L:Option Int} {id gen:Nat}:Y6 st (some q) L (.mref id gen)=(Kv (st.obj id) gen).bind fun r=>some (r.2.length:Int):=by
 simp only[Y6,GV,Kv,Option.bind_some]
 cases st.obj id with
 | none=>rfl
 | some o =>
  cases o <;> try rfl
  rename_i g mk' es
  by_cases h:gen=g
  ·subst h;simp
  ·simp [h]
theorem ZE {q:MK×PV} {L:Option Int}:Y6 st (some q) L .nilm=some 0:=nrfl rfl
theorem ZF {k k':IntKind} {n:Int}:BC (.int k) (.int k' n)=decide (k=k'):=nrfl rfl
theorem ZG {s:List UInt8}:BC .str (.str s)=true:=nrfl rfl
theorem Vz {b:Bool}:BC .bool (.bool b)=true:=nrfl rfl
theorem ZH {z id gen s n:Nat} {y:PV}:Q0 st z (.ref id gen s n) y=(Aa8 (st.obj id) gen).bind fun q=>if s+n≤q.2.length∧q.1=z∧0<z∧y.isStr=false then (Ce st z y).bind fun ys=>some (min ys.length n,st.set id (.arr gen z (q.2.take s++ys.take (min ys.length n)++q.2.drop (s+min ys.length n))))else none:=nrfl rfl
theorem ZI {i g s n:Nat}:PV.isStr (.ref i g s n)=false:=nrfl rfl
theorem VA {z:Nat} {l:List PV}:PV.isStr (.lits z l)=false:=nrfl rfl
theorem VB:PV.isStr .nils=false:=nrfl rfl
theorem P1 {t:TypeId} {m k:Operand}:iop X d (.mapEntry t m k) ρ st=Ea st (AZ X.P t) (ρ m) (ρ k):=nrfl rfl
theorem Mh {t:TypeId} {m s x:Operand}:iop X d (.entryStore t m s x) ρ st=(FE st (ρ m) (ρ s) (ρ x)).map fun st'=>(.bad,st'):=nrfl rfl
theorem P3 {mk:MK} {z:PV} {id gen:Nat} {k:PV}:Ea st (some (mk,z)) (.mref id gen) k=(Kv (st.obj id) gen).bind fun q=>if q.1=mk∧BC q.1 k=true then some (.tuple [(BV q.2 k).getD z,.int .i64 (Np q.2 k)],st.set id (.map gen q.1 (Cy q.2 k ((BV q.2 k).getD z))))else none:=by
 simp only[Ea,Kv,Option.bind_some]
 cases st.obj id with
 | none=>rfl
 | some o =>
  cases o <;> try rfl
  rename_i g mk' es
  by_cases h:gen=g
  ·subst h;simp
  ·simp [h]
def uL (es:List (PV×PV)) (n:Nat) (x:PV):Option (List (PV×PV)):=(es[n]?).map fun e=>es.set n (e.1,x)
theorem uM {es:List (PV×PV)} {k v x:PV}:uL (Cy es k v) (Np es k) x=some (Cy es k x):=by
 induction es with
 | nil=>rfl
 | cons e es ih =>
  simp only[Cy,Np]
  split
  ·rfl
  ·simp only[uL,List.getElem?_cons_succ,List.set_cons_succ]at ih ⊢
   simp only[Option.map_eq_some_iff]at ih ⊢
   obtain ⟨a,h1,h2⟩:=ih
   exact ⟨a,h1,by rw[h2]⟩
theorem NJ {id gen:Nat} {ik:IntKind} {n:Int} {x:PV}:FE st (.mref id gen) (.int ik n) x=(Kv (st.obj id) gen).bind fun q=>if 0≤n then (uL q.2 n.toNat x).map fun es=>st.set id (.map gen q.1 es)else none:=by
 simp only[FE,Kv]
 cases st.obj id with
 | none=>rfl
 | some o =>
  cases o <;> try rfl
  rename_i g mk' es
  by_cases h:gen=g
  ·subst h
   by_cases hn:0≤n
   ·simp [hn,uL,Option.map_map,Function.comp_def]
   ·simp [hn]
  ·simp [h]
theorem Sq {a b:Int}:BC (.ints 2) (.agg [.int .i64 a,.int .i64 b])=decide ((-9223372036854775808≤a∧a≤9223372036854775807)∧(-9223372036854775808≤b∧b≤9223372036854775807)):=by
 simp [BC,Iq]
theorem VD {id m g n:Nat} {seen:List Nat} {mk:MK} {es:List (PV×PV)} (h1:st.obj id=some (.it (some (m,g)) n seen)) (h2:st.obj m=some (.map g mk es)) {K:PV→Store→Prop} :
  Eb st (.iter id 0) K=(es.length=n∧(seen.length=n→K (.tuple [.bool false]) st)∧(∀i k v,es[i]?=some (k,v)→i ∉ seen→K (.tuple [.bool true,k,v]) (st.set id (.it (some (m,g)) n (seen ++ [i]))))):=by
 simp [Eb,h1,h2]
theorem Sr {id m g n:Nat} {seen:List Nat} {i:Nat} {mk:MK} {es:List (PV×PV)} {k v:PV} (h1:st.obj id=some (.it (some (m,g)) n (seen ++ [i]))) (h2:st.obj m=some (.map g mk es)) (h3:es.length=n) (h4:es[i]?=some (k,v)) :
  mapEntry st (.iter id 0)=some (.tuple [k,v]):=by
 simp [mapEntry,h1,h2,h3,h4]
end
section
variable {X:Cfg} {N:Nat} {Q:IExit→IState→Prop} {ks:List Kf} {s:IState}
theorem ZJ {all:Array Oper} {rest:List Oper} {dst:Option Nat} {op:Op} {ty:TypeId} {pos:String} {after:Array Edge} (hn:BN X op=true) :
  ops X N Q all (⟨dst,op,ty,pos,after,none⟩::rest) ks s=Bi X N Q all rest ks dst s (iop X (dst.getD 0) op (Ax s.env) s.st):=L4 (Pn hn)
theorem VE {all:Array Oper} {rest:List Oper} {dst:Option Nat} {op:Op} {ty:TypeId} {pos:String} {after:Array Edge} {j:Nat} {want:Bool} (hn:BN X op=true) :
  ops X N Q all (⟨dst,op,ty,pos,after,some (j,want)⟩::rest) ks s =
   BK (Dt all s.env j) want (Bi X N Q all rest ks dst s (iop X (dst.getD 0) op (Ax s.env) s.st)) (Bi X N Q all rest ks dst s (some (.tuple [],s.st))):=N3 (Pn hn)
theorem Hm {all:Array Oper} {l:List Oper} {o:Oper} {r:PV×Store}:(∃s',Ge N o s r=some s'∧ops X N Q all l ks s')=Bi X N Q all l ks o.dst s (some r):=by
 simp only[Ge,Bi]
 cases o.dst with
 | none=>simp
 | some d =>
  by_cases hd:d<N
  ·simp [hd]
  ·simp [hd]
def Kw (p:PV) (l:Nat) (A B:Prop):Prop:=match p with | .func (.yield l') [] []=>if l'=l then B else A | _=>A
theorem Gl {p p':PV} {l:Nat} {A B:Prop} (h:p=p'):Kw p l A B=Kw p' l A B:=by rw[h]
theorem ZK {f l:Nat} {a b:List PV} {A B:Prop}:Kw (.func (.func f) a b) l A B=A:=nrfl rfl
theorem IU {l:Nat} {A B:Prop}:Kw (.func (.yield l) [] []) l A B=B:=by simp[Kw]
theorem ZL {l:Nat} {H:Fc} (hy:X.yl=some (l,H)) {all:Array Oper} {rest:List Oper} {dst:Option Nat} {f:Operand} {as:List Operand} {ts:List TypeId} {ty:TypeId} {pos:String} {after:Array Edge} :
  ops X N Q all (⟨dst,.call ⟨.value f,as.toArray,ts.toArray⟩,ty,pos,after,none⟩::rest) ks s =
   Kw (Ax s.env f) l (Bi X N Q all rest ks dst s (Dz X (dst.getD 0) (Ax s.env f) (Pc X (dst.getD 0) ts) (evs (Ax s.env) as) s.st)) (H (evs (Ax s.env) as) s.st fun b st'=>Bi X N Q all rest ks dst s (some (.bool b,st'))):=by
 by_cases h:Ax s.env f=.func (.yield l) [] []
 ·rw [h,IU]
  simp only[ops,DY,Dl,Do,if_true,yOf,hy,h]
  simp only[IT]
  have : (fun (b:Bool) (st':Store)=>∃s',Ge N ⟨dst,.call ⟨.value f,as.toArray,ts.toArray⟩,ty,pos,after,none⟩ s (.bool b,st')=some s'∧DY X N all rest s' (Gg X N Q ks))=fun b st'=>Bi X N Q all rest ks dst s (some (.bool b,st')):=by
   funext b st';exact Hm (o:=⟨dst,.call ⟨.value f,as.toArray,ts.toArray⟩,ty,pos,after,none⟩)
  rw [this]
 ·have hn:yOf X (.call ⟨.value f,as.toArray,ts.toArray⟩) (Ax s.env)=none:=by
   simp only[yOf,hy]
   split
   ·rename_i l' hl
    split
    ·rename_i e;subst e;exact absurd hl h
    ·rfl
   ·rfl
  rw [L4 hn,Ku]
  have : ∀A B:Prop,Kw (Ax s.env f) l A B=A:=fun A B=>by
   unfold Kw
   split
   ·rename_i l' hl
    split
    ·rename_i e;subst e;exact absurd hl h
    ·rfl
   ·rfl
  rw [this]
theorem VF {l:Nat} {H:Fc} (hy:X.yl=some (l,H)) {all:Array Oper} {rest:List Oper} {dst:Option Nat} {f:Operand} {as:List Operand} {ts:List TypeId} {ty:TypeId} {pos:String} {after:Array Edge} {j:Nat} {want:Bool} :
  ops X N Q all (⟨dst,.call ⟨.value f,as.toArray,ts.toArray⟩,ty,pos,after,some (j,want)⟩::rest) ks s =
   BK (Dt all s.env j) want (Kw (Ax s.env f) l (Bi X N Q all rest ks dst s (Dz X (dst.getD 0) (Ax s.env f) (Pc X (dst.getD 0) ts) (evs (Ax s.env) as) s.st)) (H (evs (Ax s.env) as) s.st fun b st'=>Bi X N Q all rest ks dst s (some (.bool b,st'))))
    (Bi X N Q all rest ks dst s (some (.tuple [],s.st))):=by
 by_cases h:Ax s.env f=.func (.yield l) [] []
 ·rw [h,IU]
  have skip:Do all ⟨dst,.call ⟨.value f,as.toArray,ts.toArray⟩,ty,pos,after,some (j,want)⟩ s.env=false→ops X N Q all (⟨dst,.call ⟨.value f,as.toArray,ts.toArray⟩,ty,pos,after,some (j,want)⟩::rest) ks s=∃s',stepG X N all ⟨dst,.call ⟨.value f,as.toArray,ts.toArray⟩,ty,pos,after,some (j,want)⟩ s=some s'∧ops X N Q all rest ks s':=fun hg=>by
   simp only[ops,DY,Dl,hg,Bool.false_eq_true,if_false]
  have out:(∃s',(Option.bind (some (PV.tuple [],s.st)) (Ge N ⟨dst,.call ⟨.value f,as.toArray,ts.toArray⟩,ty,pos,after,some (j,want)⟩ s))=some s'∧ops X N Q all rest ks s')=Bi X N Q all rest ks dst s (some (.tuple [],s.st)):=Hm (o:=⟨dst,.call ⟨.value f,as.toArray,ts.toArray⟩,ty,pos,after,some (j,want)⟩)
  cases hg:Dt all s.env j with
  | bool b =>
   by_cases hb:b=want
   ·subst hb
    have h1:ops X N Q all (⟨dst,.call ⟨.value f,as.toArray,ts.toArray⟩,ty,pos,after,some (j,b)⟩::rest) ks s=H (evs (Ax s.env) as) s.st fun b' st'=>Bi X N Q all rest ks dst s (some (.bool b',st')):=by
     have e1:Do all ⟨dst,.call ⟨.value f,as.toArray,ts.toArray⟩,ty,pos,after,some (j,b)⟩ s.env=true:=by simp[Do,hg]
     simp only[ops,DY,Dl,e1,if_true,yOf,hy,h]
     simp only[IT]
     have : (fun (b':Bool) (st':Store)=>∃s',Ge N ⟨dst,.call ⟨.value f,as.toArray,ts.toArray⟩,ty,pos,after,some (j,b)⟩ s (.bool b',st')=some s'∧DY X N all rest s' (Gg X N Q ks))=fun b' st'=>Bi X N Q all rest ks dst s (some (.bool b',st')):=by
      funext b' st';exact Hm (o:=⟨dst,.call ⟨.value f,as.toArray,ts.toArray⟩,ty,pos,after,some (j,b)⟩)
     rw [this]
    rw [h1]
    cases b <;> simp[BK]
   ·rw [skip (by simp[Do,hg,hb])]
    simp only[stepG,Bp,hg,if_neg hb]
    rw [out]
    cases b <;> cases want <;> simp[BK]at hb ⊢
  | tuple t =>
   rw [skip (by simp[Do,hg])]
   cases t with
   | nil =>
    simp only[stepG,Bp,hg]
    rw [out,Rn]
   | cons a t=>simp[stepG,Bp,hg,BK]
  | _ =>
   rw [skip (by simp[Do,hg])]
   simp [stepG,Bp,hg,BK]
 ·have hn:yOf X (.call ⟨.value f,as.toArray,ts.toArray⟩) (Ax s.env)=none:=by
   simp only[yOf,hy]
   split
   ·rename_i l' hl
    split
    ·rename_i e;subst e;exact absurd hl h
    ·rfl
   ·rfl
  rw [N3 hn,Ku]
  have : ∀A B:Prop,Kw (Ax s.env f) l A B=A:=fun A B=>by
   unfold Kw
   split
   ·rename_i l' hl
    split
    ·rename_i e;subst e;exact absurd hl h
    ·rfl
   ·rfl
  rw [this]
theorem ZM {all:Array Oper} {rest:List Oper} {dst:Option Nat} {x:Operand} {ty:TypeId} {pos:String} {after:Array Edge} :
  ops X N Q all (⟨dst,.next x false,ty,pos,after,none⟩::rest) ks s=Eb s.st (Ax s.env x) fun r st'=>Bi X N Q all rest ks dst s (some (r,st')):=by
 simp only[ops,DY,Dl,Do,if_true,yOf]
 have : (fun (r:PV) (st':Store)=>∃s',Ge N ⟨dst,.next x false,ty,pos,after,none⟩ s (r,st')=some s'∧DY X N all rest s' (Gg X N Q ks))=fun r st'=>Bi X N Q all rest ks dst s (some (r,st')):=by
  funext r st';exact Hm (o:=⟨dst,.next x false,ty,pos,after,none⟩)
 rw [this]
end
def P4 (p:PV) (op:BinOp) (ok:Bool) (A:Prop) (K:PV→Prop):Prop:=match p with | .lits _ []=>∃p q,FF op ok true=some p∧FF op ok false=some q∧K p∧K q | _=>A
theorem ZN {op:BinOp} {ok:Bool} {A:Prop} {K:PV→Prop}:P4 .nils op ok A K=A:=nrfl rfl
theorem ZO {op:BinOp} {ok:Bool} {A:Prop} {K:PV→Prop} {z:Nat} {x:PV} {l:List PV}:P4 (.lits z (x::l)) op ok A K=A:=nrfl rfl
theorem gY {A:Prop} {K:PV→Prop} {z:Nat}:P4 (.lits z []) .eql true A K=(K (.bool true)∧K (.bool false)):=by simp[P4,FF]
theorem ZP {A:Prop} {K:PV→Prop} {z:Nat}:P4 (.lits z []) .neq true A K=(K (.bool false)∧K (.bool true)):=by simp[P4,FF]
theorem gZ {P:Program} {t:TypeId} {z:Nat} {x:PV} {l:List PV}:BG P .eql t (.lits z (x::l)) .nils=if (Ad P t != 0)=true then some (.bool false)else none:=by
 simp [BG,FF]
theorem Abo {P:Program} {t:TypeId} {z:Nat} {x:PV} {l:List PV}:BG P .neq t (.lits z (x::l)) .nils=if (Ad P t != 0)=true then some (.bool true)else none:=by
 simp [BG,FF]
theorem uO {P:Program} {t:TypeId}:BG P .eql t .nils .nils=if (Ad P t != 0)=true then some (.bool true)else none:=by
 simp [BG,FF]
theorem uP {P:Program} {t:TypeId}:BG P .neq t .nils .nils=if (Ad P t != 0)=true then some (.bool false)else none:=by
 simp [BG,FF]
theorem ZQ {X:Cfg} {N:Nat} {Q:IExit→IState→Prop} {ks:List Kf} {s:IState} {all:Array Oper} {rest:List Oper} {dst:Option Nat} {op:BinOp} {t u:TypeId} {x:Operand} {ty:TypeId} {pos:String} {after:Array Edge} :
  ops X N Q all (⟨dst,.binOp op t x (.const (.slice none 0 0)) u,ty,pos,after,none⟩::rest) ks s=P4 (Ax s.env x) op (Ad X.P t != 0) (Bi X N Q all rest ks dst s (iop X (dst.getD 0) (.binOp op t x (.const (.slice none 0 0)) u) (Ax s.env) s.st)) (fun p=>Bi X N Q all rest ks dst s (some (p,s.st))):=by
 have ex:∀r:PV×Store,(∃s',Ge N ⟨dst,.binOp op t x (.const (.slice none 0 0)) u,ty,pos,after,none⟩ s r=some s'∧DY X N all rest s' (Gg X N Q ks))=Bi X N Q all rest ks dst s (some r):=fun r=>Hm (o:=⟨dst,.binOp op t x (.const (.slice none 0 0)) u,ty,pos,after,none⟩)
 generalize hp:Ax s.env x=p
 have rest_:yOf X (.binOp op t x (.const (.slice none 0 0)) u) (Ax s.env)=none→ops X N Q all (⟨dst,.binOp op t x (.const (.slice none 0 0)) u,ty,pos,after,none⟩::rest) ks s=Bi X N Q all rest ks dst s (iop X (dst.getD 0) (.binOp op t x (.const (.slice none 0 0)) u) (Ax s.env) s.st):=fun h=>L4 h
 unfold P4
 split
 ·simp only[ops,DY,Dl,Do,if_true,yOf]
  rw [if_pos (show Ln (.const (.slice none 0 0))=true from rfl)]
  simp only[hp]
  have := ex
  simp only[ex]
 ·rename_i hne
  apply rest_
  simp only[yOf]
  rw [if_pos (show Ln (.const (.slice none 0 0))=true from rfl)]
  split
  ·rename_i he;exact absurd (hp.symm.trans he) (hne _)
  ·rfl
theorem uQ {X:Cfg}:∀a0,BN X (.move a0)=true:=by intros;exact nrfl rfl
theorem ZR {X:Cfg}:∀a0,BN X (.assign a0)=true:=by intros;exact nrfl rfl
theorem uR {X:Cfg}:∀a0 a1 a2,BN X (.pick a0 a1 a2)=true:=by intros;exact nrfl rfl
theorem hZ {X:Cfg}:∀a0,BN X (.alloc a0)=true:=by intros;exact nrfl rfl
theorem Abp {X:Cfg}:∀a0 a1,BN X (.box a0 a1)=true:=by intros;exact nrfl rfl
theorem iA {X:Cfg}:∀a0 a1,BN X (.build a0 a1)=true:=by intros;exact nrfl rfl
theorem NK {X:Cfg}:∀a0 a1 a2,BN X (.buildSlice a0 a1 a2)=true:=by intros;exact nrfl rfl
theorem ZS {X:Cfg}:∀a0 a1 a2 a3,BN X (.insert a0 a1 a2 a3)=true:=by intros;exact nrfl rfl
theorem uS {X:Cfg}:∀a0 a1,BN X (.load a0 a1)=true:=by intros;exact nrfl rfl
theorem iB {X:Cfg}:∀a0 a1 a2,BN X (.store a0 a1 a2)=true:=by intros;exact nrfl rfl
theorem Ss {X:Cfg}:∀a0,BN X (.nilCheck a0)=true:=by intros;exact nrfl rfl
theorem iC {X:Cfg}:∀a0 a1 a2 a3 a4,BN X (.binOp a0 a1 a2 a3 a4) = !Ln a3:=by intros;exact nrfl rfl
theorem iD {t:Nat}:Ln (.tmp t)=false:=nrfl rfl
theorem iE {k:IntKind} {n:Int}:Ln (.const (.int k n))=false:=nrfl rfl
theorem ZT {b:Bool}:Ln (.const (.bool b))=false:=nrfl rfl
theorem iF {s:ByteArray}:Ln (.const (.string s))=false:=nrfl rfl
theorem iG {a:Option Addr}:Ln (.const (.pointer a))=false:=nrfl rfl
theorem VG:Ln (.const .nilIface)=false:=nrfl rfl
theorem uT {X:Cfg}:∀a0 a1 a2,BN X (.unOp a0 a1 a2)=true:=by intros;exact nrfl rfl
theorem VH {X:Cfg}:∀a0 a1 a2,BN X (.convert a0 a1 a2)=true:=by intros;exact nrfl rfl
theorem Kx {X:Cfg}:∀a0 a1,BN X (.makeInterface a0 a1)=true:=by intros;exact nrfl rfl
theorem St {X:Cfg}:∀a0 a1 a2,BN X (.makeFunc a0 a1 a2)=true:=by intros;exact nrfl rfl
theorem VI {X:Cfg}:∀a0 a1,BN X (.makeMap a0 a1)=true:=by intros;exact nrfl rfl
theorem P5 {X:Cfg}:∀a0 a1 a2,BN X (.makeSlice a0 a1 a2)=true:=by intros;exact nrfl rfl
theorem iH {X:Cfg}:∀a0 a1 a2 a3 a4,BN X (.slice a0 a1 a2 a3 a4)=true:=by intros;exact nrfl rfl
theorem P6 {X:Cfg}:∀a0 a1 a2,BN X (.fieldAddr a0 a1 a2)=true:=by intros;exact nrfl rfl
theorem iI {X:Cfg}:∀a0 a1 a2,BN X (.field a0 a1 a2)=true:=by intros;exact nrfl rfl
theorem P7 {X:Cfg}:∀a0 a1 a2,BN X (.indexAddr a0 a1 a2)=true:=by intros;exact nrfl rfl
theorem iJ {X:Cfg}:∀a0 a1 a2,BN X (.index a0 a1 a2)=true:=by intros;exact nrfl rfl
theorem ZU {X:Cfg}:∀a0 a1 a2 a3,BN X (.lookup a0 a1 a2 a3)=true:=by intros;exact nrfl rfl
theorem P8 {X:Cfg}:∀a0 a1 a2 a3,BN X (.mapUpdate a0 a1 a2 a3)=true:=by intros;exact nrfl rfl
theorem Su {X:Cfg}:∀a0 a1 a2,BN X (.mapEntry a0 a1 a2)=true:=by intros;exact nrfl rfl
theorem NL {X:Cfg}:∀a0 a1 a2 a3,BN X (.entryStore a0 a1 a2 a3)=true:=by intros;exact nrfl rfl
theorem iK {X:Cfg}:∀a0 a1,BN X (.range a0 a1)=true:=by intros;exact nrfl rfl
theorem iL {X:Cfg}:∀a0,BN X (.entry a0)=true:=by intros;exact nrfl rfl
theorem NM {X:Cfg}:∀a0 a1 a2 a3,BN X (.typeAssert a0 a1 a2 a3)=true:=by intros;exact nrfl rfl
theorem VJ {X:Cfg}:∀a0 a1,BN X (.extract a0 a1)=true:=by intros;exact nrfl rfl
theorem iM {X:Cfg}:∀a0,BN X (.panic a0)=true:=by intros;exact nrfl rfl
theorem iN {X:Cfg} {f:FuncId} {a:Array Operand} {b:Array TypeId}:BN X (.call ⟨.value (.func f),a,b⟩)=true:=nrfl rfl
theorem iO {X:Cfg} {f:Builtin} {a:Array Operand} {b:Array TypeId}:BN X (.call ⟨.builtin f,a,b⟩)=true:=nrfl rfl
theorem iP {X:Cfg} {r:Operand} {m:String} {a:Array Operand} {b:Array TypeId}:BN X (.call ⟨.invoke r m,a,b⟩)=true:=nrfl rfl
theorem iQ {X:Cfg} {t:Nat} {a:Array Operand} {b:Array TypeId}:BN X (.call ⟨.value (.tmp t),a,b⟩)=X.yl.isNone:=nrfl rfl
theorem Sv {α:Type}:(none:Option α).isNone=true:=nrfl rfl
theorem VK {P:Program} {E:AT} {m f:List Nat} {dp:Nat} {rd:Bool} {l:Nat} {H:Fc} {N:Nat} {Q:IExit→IState→Prop} {ks:List Kf} {s:IState} {all:Array Oper} {rest:List Oper} {dst:Option Nat} {t:Nat} {as:List Operand} {ts:List TypeId} {ty:TypeId} {pos:String} {after:Array Edge} :
  ops (cfg P E m f dp (some (l,H)) rd) N Q all (⟨dst,.call ⟨.value (.tmp t),as.toArray,ts.toArray⟩,ty,pos,after,none⟩::rest) ks s =
   Kw (Ax s.env (.tmp t)) l (Bi (cfg P E m f dp (some (l,H)) rd) N Q all rest ks dst s (Dz (cfg P E m f dp (some (l,H)) rd) (dst.getD 0) (Ax s.env (.tmp t)) (Pc (cfg P E m f dp (some (l,H)) rd) (dst.getD 0) ts) (evs (Ax s.env) as) s.st))
    (H (evs (Ax s.env) as) s.st fun b st'=>Bi (cfg P E m f dp (some (l,H)) rd) N Q all rest ks dst s (some (.bool b,st'))):=ZL rfl
theorem Sw {P:Program} {E:AT} {m f:List Nat} {dp:Nat} {rd:Bool} {l:Nat} {H:Fc} {N:Nat} {Q:IExit→IState→Prop} {ks:List Kf} {s:IState} {all:Array Oper} {rest:List Oper} {dst:Option Nat} {t:Nat} {as:List Operand} {ts:List TypeId} {ty:TypeId} {pos:String} {after:Array Edge} {j:Nat} {want:Bool} :
  ops (cfg P E m f dp (some (l,H)) rd) N Q all (⟨dst,.call ⟨.value (.tmp t),as.toArray,ts.toArray⟩,ty,pos,after,some (j,want)⟩::rest) ks s =
   BK (Dt all s.env j) want (Kw (Ax s.env (.tmp t)) l (Bi (cfg P E m f dp (some (l,H)) rd) N Q all rest ks dst s (Dz (cfg P E m f dp (some (l,H)) rd) (dst.getD 0) (Ax s.env (.tmp t)) (Pc (cfg P E m f dp (some (l,H)) rd) (dst.getD 0) ts) (evs (Ax s.env) as) s.st))
    (H (evs (Ax s.env) as) s.st fun b st'=>Bi (cfg P E m f dp (some (l,H)) rd) N Q all rest ks dst s (some (.bool b,st'))))
    (Bi (cfg P E m f dp (some (l,H)) rd) N Q all rest ks dst s (some (.tuple [],s.st))):=VF rfl
theorem Abq {P:Program} {l:AT} {m f:List Nat} {dp:Nat} {yl:Option (Nat×Fc)} {rnd:Bool}:(cfg P l m f dp yl rnd).yl=yl:=nrfl rfl
theorem iR {P:Program} {l:AT} {m f:List Nat} {dp:Nat} {yl:Option (Nat×Fc)} {rnd:Bool}:DK (cfg P l m f dp yl rnd)=cfg P l m f dp yl true:=nrfl rfl
theorem ZV {X:Cfg} {N:Nat} {Q:IExit→IState→Prop} {i:Nat} {s:IState}:GH X N Q [] i s=Q (.exit i) s:=nrfl rfl
theorem VL {i g:Nat}:(PV.mref i g).cells = [.mref i g]:=nrfl rfl
theorem VM {i g:Nat}:(PV.iter i g).cells = [.iter i g]:=nrfl rfl
theorem Sx {i g:Nat}:(PV.mref i g).isCell=true:=nrfl rfl
theorem Sy {i g:Nat}:(PV.iter i g).isCell=true:=nrfl rfl
theorem NN {v:PV}:A6 .nilm 0 [v]=v:=nrfl rfl
theorem NO {i g:Nat} {v:PV}:A6 (.mref i g) 0 [v]=v:=nrfl rfl
theorem VN {ρ:Nat→PV} {p:Nat} {ps:List Nat} {v:PV} {vs:List PV}:Fo ρ (p::ps) (v::vs)=Fo (upd ρ p v) ps vs:=nrfl rfl
theorem ZW {ρ:Nat→PV} {vs:List PV}:Fo ρ [] vs=ρ:=nrfl rfl
def Later (st st':Store):Prop:=st.next≤st'.next∧∀x o,x<st.next→st.obj x=some o→(∀r,o≠.lp r)→st'.obj x=some o
theorem Later.refl (st:Store):Later st st:=⟨Nat.le_refl _,fun _ _ _ h _=>h⟩
def Stays (J:Store→Prop):Prop:=∀st st',J st→Later st st'→J st'
theorem Stays.obj {x:Nat} {o:IObj} (h:∀r,o≠.lp r):Stays fun st=>st.obj x=some o∧x<st.next:=fun st st' ⟨h1,h2⟩ hl=>⟨hl.2 x o h2 h1 h,Nat.lt_of_lt_of_le h2 hl.1⟩
theorem Stays.and {J K:Store→Prop} (h:Stays J) (g:Stays K):Stays fun st=>J st∧K st:=fun st st' ⟨a,b⟩ hl=>⟨h st st' a hl,g st st' b hl⟩
theorem Stays.const {P:Prop}:Stays fun _=>P:=fun _ _ h _=>h
theorem Stays.ex {α:Type} {J:α→Store→Prop} (h:∀a,Stays (J a)):Stays fun st=>∃a,J a st:=fun st st' ⟨a,g⟩ hl=>⟨a,h a st st' g hl⟩
def Cj (id:Nat) (rb:Loop) (J1:Store→Prop) (Ex:IExit→Store→Prop):IExit→IState→Prop:=fun e s2 =>
 s2.st.obj id=some (.lp rb)∧id<s2.st.next∧match e with | .normal=>J1 s2.st | e=>Ex e s2.st
def ES (X:Cfg) (N id:Nat) (r:Loop) (J1:Store→Prop) (Ex:IExit→Store→Prop) (body:Code):IExit→IState→Prop:=fun e s1 =>
 e = .normal∧s1.st.obj id=some (.lp r)∧∀rb,run (DK X) N (Cj id rb J1 Ex) (Bh body) [] ⟨s1.env,s1.st.set id (.lp rb)⟩
theorem Ca {st:Store} {id:Nat} {r r':Loop} (h:st.obj id=some (.lp r)):Later st (st.set id (.lp r')):=by
 refine ⟨Nat.le_refl _,fun x o hx ho hl=>?_⟩
 have hne:x≠id:=fun e=>by subst e;rw[h]at ho;cases ho;exact hl r rfl
 simp [Store.set,Aa,hne,ho]
theorem Od {st:Store} {o:IObj}:Later st (st.new o):=by
 refine ⟨by simp[Store.new],fun x o' hx ho _=>?_⟩
 have : x≠st.next:=by omega
 simp [Store.new,Aa,this,ho]
def Keep (base:Nat) (st st':Store):Prop:=st.next≤st'.next∧∀x,base≤x→x<st.next→(∀r,st.obj x≠some (.lp r))→st'.obj x=st.obj x
theorem Keep.mono {b b':Nat} {st st':Store} (h:Keep b st st') (hb:b≤b'):Keep b' st st':=⟨h.1,fun x hx=>h.2 x (by omega)⟩
def P9 (P:Program) (d:Nat) (f:FuncId) (first captured:List PV) (ys:List (List PV)):Prop :=
 ∃ fn c, P.funcs[f]? = some fn ∧ fn.body = some c ∧ (fn.name == "runtime.NumGoroutine") = false ∧ fn.results.toList = [] ∧ first.length + 1 + captured.length ≤ fn.ntmps ∧
  ∀ (l:Nat) (H:Fc) (J:Nat→Store→Prop) (E:Store→Prop) (st:Store) (X:Cfg),X.P=P→X.yl=some (l,H)→X.rnd=false→Bc X→J 0 st →
   (∀ i st st',J i st→st.next≤st'.next→(∀x,x<st.next→st'.obj x=st.obj x)→J i st') →
   (∀ i y st1,ys[i]?=some y→J i st1→H y st1 fun b st'=>if b=true then J (i+1) st'∧Keep st.next st1 st' else E st') →
   gen (d+1) X fn.ntmps c (fun e s=>(e=.normal∨e=.ret)∧(J ys.length s.st∨E s.st)) ⟨Fy (first++.func (.yield l) [] []::captured),st⟩
theorem VO {P:Program} {l:AT} (hl:Bj P l) (muts frz:List Nat) (dep:Nat) {f:FuncId} {fn:Func} {c:Code} (hf:P.funcs[f]?=some fn) (hb:fn.body=some c)
  (hname : (fn.name == "runtime.NumGoroutine") = false) (hrs : fn.results.toList = []) {first captured : List PV} {N : Nat} (hN : fn.ntmps = N) (hn : first.length + 1 + captured.length ≤ N)
  (hd : ∀y,Bk (cfg P l muts frz dep (some y)) c=true) {ys:List (List PV)}
  (h : ∀(y:Nat) (H:Fc) (J:Nat→Store→Prop) (E:Store→Prop) (st:Store),Bc (cfg P l muts frz dep (some (y,H)))→J 0 st →
   (∀ i st st',J i st→st.next≤st'.next→(∀x,x<st.next→st'.obj x=st.obj x)→J i st') →
   (∀ i v st1 (K:Bool→Store→Prop),ys[i]?=some v→J i st1→(∀st',J (i+1) st'→Keep st.next st1 st'→K true st')→(∀st',E st'→K false st')→H v st1 K) →
   run (cfg P l muts frz dep (some (y,H))) N (fun e s=>(e=.normal∨e=.ret)∧(J ys.length s.st∨E s.st)) (Bh c) [] ⟨Fy (first++.func (.yield y) [] []::captured),st⟩) :
  P9 P dep f first captured ys:=by
 subst hN
 refine ⟨fn,c,hf,hb,hname,hrs,hn,fun y H J E st X hP hyl hrnd hm h0 hst hH=>⟨cfg P l muts frz dep (some (y,H)),hP.symm,hyl.symm,hrnd.symm,rfl,FI hl,DD hl,?_⟩⟩
 have hm':Bc (cfg P l muts frz dep (some (y,H))):=fun l' H' he=>hm l' H' (by rw[hyl];exact he)
 have := h y H J E st hm' h0 hst (fun i v st K hv hJ ht hf=>hm' y H rfl _ _ _ _ (fun b st' hb=>by
  cases b
  ·exact hf st' (by simpa using hb)
  ·have :=(show _∧_ by simpa using hb);exact ht st' this.1 this.2) (hH i v st hv hJ))
 exact CV hm' (hd _) this
theorem VP {X:Cfg} {N:Nat} {Q:IExit→IState→Prop} {ks:List Kf} {ρ:Nat→PV} {st:Store} {g:Operand} {ps:Array Tmp} {assign body:Code} {d:Nat} {f:FuncId} {first captured:List PV} {ys:List (List PV)}
  (hr : X.rnd=false) (hd:X.dep=d+1) (hm:Bc X) (hg:Ax ρ g=.func (.func f) first captured) (hy:P9 X.P d f first captured ys) (hps:(ps.toList.all fun p=>decide (p<N))=true) (hlen:∀y∈ys,y.length=ps.size)
  (ha : Bk (DK X) assign=true) (hb:Bk (DK X) body=true)
  (J : Nat→Store→Prop) (Ex:IExit→Store→Prop) (hJ:∀i,Stays (J i)) (hE:∀e,Stays (Ex e)) (h0:J 0 st)
  (hround : ∀i y st1 id r,ys[i]?=some y→id<st1.next→st1.obj id=some (.lp r)→st.next≤id→J i st1→run (DK X) N (ES X N id r (fun st'=>J (i+1) st'∧Keep st.next st1 st') Ex body) (Bh assign) [] ⟨Fo ρ ps.toList y,st1⟩)
  (hend : ∀st,J ys.length st→Gg X N Q ks ⟨ρ,st⟩) (hex:∀i st,Ex (.exit i) st→GH X N Q ks i ⟨ρ,st⟩) (hret:∀st,Ex .ret st→done X N Q ks ⟨ρ,st⟩) :
  run X N Q (.rangeFunc g ps assign body) ks ⟨ρ,st⟩:=by
 have hmr:Bc (DK X):=hm
 simp only[run,wpI,wpC]
 refine ⟨_,.refl _,hr,?_⟩
 rw [hg]
 obtain ⟨fn,c,h1,h2,h3,h4,h5,h6⟩:=hy
 refine ⟨fn,c,h1,h2,h3,h4,h5,hps,fun l r hr1 hr2=>?_⟩
 have hgm:=DP X.dep
 generalize hH:(fun (args:List PV) (st1:Store) (K:Bool→Store→Prop)=>st1.obj st.next=some (IObj.lp r)∧args.length=ps.size ∧
       wpC (gen X.dep) (DK X) N assign (fun e s1=>e=.normal∧s1.st.obj st.next=some (.lp r) ∧
        wpC (gen X.dep) (DK X) N body (fun e s2=>s2.st.obj st.next=some (.lp { r with state:=.busy }) ∧
         match e with
         | .normal=>K true (s2.st.set st.next (.lp r))
         | .ret=>K false (s2.st.set st.next (.lp { r with state:=.done,pending:=some .ret }))
         | .exit i=>K false (s2.st.set st.next (.lp { r with state:=.done,pending:=some (.exit i) })))
         ⟨s1.env, s1.st.set st.next (.lp { r with state:=.busy })⟩)
        ⟨Fo ρ ps.toList args,st1⟩)=H
 have hHm:Bc (LY X (l,H)):=by
  intro l' H' he args st K K' hk hh
  simp only[LY,Option.some.injEq,Prod.mk.injEq]at he
  obtain ⟨rfl,rfl⟩:=he
  subst hH
  obtain ⟨g1,g2,g3⟩:=hh
  refine ⟨g1,g2,CG hgm (DK X) N assign _ _ _ hmr (fun e s1 he=>⟨he.1,he.2.1,CG hgm (DK X) N body _ _ _ hmr (fun e s2 he2=>⟨he2.1,?_⟩) he.2.2⟩) g3⟩
  cases e with
  | normal=>exact hk _ _ he2.2
  | exit i=>exact hk _ _ he2.2
  | ret=>exact hk _ _ he2.2
 have key:=h6 l H (fun i st1=>st1.obj st.next=some (.lp r)∧st.next<st1.next∧J i st1)
  (fun st1=>(st1.obj st.next=some (.lp { r with state:=.done,pending:=some .ret })∧Ex .ret st1)∨∃i,st1.obj st.next=some (.lp { r with state:=.done,pending:=some (.exit i) })∧Ex (.exit i) st1)
  (st.new (.lp r)) (LY X (l,H)) rfl rfl rfl hHm ⟨by simp[Store.new,Aa],by simp[Store.new],hJ 0 _ _ h0 Od⟩
  (fun i s1 s2 ⟨a1,a2,a3⟩ hn ho=>⟨by rw[ho _ a2];exact a1,by omega,hJ i _ _ a3 ⟨hn,fun x o hx hox _=>by rw[ho x hx];exact hox⟩⟩)
  (fun i y s1 hy' ⟨a1,a2,a3⟩=>by
   subst hH
   refine ⟨a1,hlen y (List.mem_of_getElem? hy'),?_⟩
   have hrn:=ER hgm hmr ha (hround i y s1 st.next r hy' a2 a1 (Nat.le_refl _) a3)
   refine CG hgm (DK X) N assign _ _ _ hmr (fun e t1 he=>?_) hrn
   obtain ⟨rfl,b2,b3⟩:=he
   refine ⟨rfl,b2,?_⟩
   have hrb:=ER hgm hmr hb (b3 { r with state:=.busy })
   refine CG hgm (DK X) N body _ _ _ hmr (fun e t2 he=>?_) hrb
   obtain ⟨c1,c2,c3⟩:=he
   refine ⟨c1,?_⟩
   cases e with
   | normal =>
    obtain ⟨c3,c4,c5⟩:=c3
    simp only[if_true]
    refine ⟨⟨by simp[Store.set,Aa],c2,hJ (i+1) _ _ c3 (Ca c1)⟩,c4,fun x hx hlt hlp=>?_⟩
    have hne:x≠st.next:=fun e=>by subst e;exact hlp r a1
    rw [←c5 x (by simp[Store.new]at hx;omega) hlt hlp]
    simp [Store.set,Aa,hne]
   | ret=>simp only[Bool.false_eq_true,if_false];exact .inl ⟨by simp[Store.set,Aa],hE _ _ _ c3 (Ca c1)⟩
   | exit j=>simp only[Bool.false_eq_true,if_false];exact .inr ⟨j,by simp[Store.set,Aa],hE _ _ _ c3 (Ca c1)⟩)
 rw [←hd]at key
 refine DP X.dep _ _ _ _ _ _ hHm (fun e s1 he=>⟨he.1,?_⟩) key
 rcases he.2 with ⟨a1,a2,a3⟩ | ⟨a1,a2⟩ | ⟨i,a1,a2⟩
 ·exact .inl ⟨a1,hend _ (hJ _ _ _ a3 (Ca a1))⟩
 ·exact .inr (.inl ⟨a1,hret _ (hE _ _ _ a2 (Ca a1))⟩)
 ·exact .inr (.inr ⟨i,a1,hex i _ (hE _ _ _ a2 (Ca a1))⟩)
end Sim
