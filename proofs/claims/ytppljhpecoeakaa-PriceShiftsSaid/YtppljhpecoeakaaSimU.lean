/- Maps, iterators and generators, for walks. -/
import Derived.Test.YtppljhpecoeakaaSimS
set_option linter.unusedVariables false
set_option linter.unusedSimpArgs false
namespace Sim
open Go
section
variable {X:Cfg} {d:Nat} {ρ:Operand→PV} {st:Store}
theorem SA {t:TypeId}:iop X d (.makeMap t none) ρ st=(AY X.P t).bind fun q=>some (.mref st.next 0,st.new (.map 0 q.1 [])):=nrfl rfl
theorem Qb {t:TypeId} {r:Operand}:iop X d (.makeMap t (some r)) ρ st=(AY X.P t).bind fun q=>(CY (ρ r)).map fun _=>(.mref st.next 0,st.new (.map 0 q.1 [])):=nrfl rfl
theorem VS {t:TypeId} {m k v:Operand}:iop X d (.insert t m k v) ρ st=(IK st (AY X.P t) (ρ m) (ρ k) (ρ v)).map fun st'=>(.bad,st'):=nrfl rfl
theorem NP {t:TypeId} {m k v:Operand}:iop X d (.mapUpdate t m k v) ρ st=(IK st (AY X.P t) (ρ m) (ρ k) (ρ v)).map fun st'=>(.bad,st'):=nrfl rfl
theorem VT {t:TypeId} {m k:Operand} {ok:Bool}:iop X d (.lookup t m k ok) ρ st=(CK st (AY X.P t) (ρ m) (ρ k) ok).map fun v=>(v,st):=nrfl rfl
theorem ZX {t:TypeId} {m:Operand}:iop X d (.range t m) ρ st=ET st (AY X.P t) (ρ m):=nrfl rfl
theorem ZY {x:Operand}:iop X d (.entry x) ρ st=(mapEntry st (ρ x)).map fun v=>(v,st):=nrfl rfl
def KC (o:Option IObj) (gen:Nat):Option (MK×List (PV×PV)):=match o with | some (.map g mk es)=>if gen=g then some (mk,es)else none | _=>none
theorem ZZ {g h:Nat} {mk:MK} {es:List (PV×PV)}:KC (some (.map h mk es)) g=if g=h then some (mk,es)else none:=nrfl rfl
theorem SC {mk:MK} {z:PV} {id gen:Nat} {k v:PV}:IK st (some (mk,z)) (.mref id gen) k v=(KC (st.obj id) gen).bind fun q=>if mk=q.1∧BE q.1 k=true then some (st.set id (.map gen q.1 (CF q.2 k v)))else none:=by
 simp only[IK,KC]
 cases st.obj id with
 | none=>rfl
 | some o =>
  cases o <;> try rfl
  rename_i g mk' es
  by_cases h:gen=g
  ·subst h;simp
  ·simp [h]
def Ml (mk:MK) (z:PV) (k:PV) (ok:Bool) (q:MK×List (PV×PV)):Option PV:=if q.1=mk then (match BY q.2 k with
    | some v=>some (if ok then .tuple [v,.bool true]else v)
    | none=>some (if ok then .tuple [z,.bool false]else z))else none
theorem SD {mk:MK} {z:PV} {id gen:Nat} {k:PV} {ok:Bool}:CK st (some (mk,z)) (.mref id gen) k ok=if BE mk k=true then (KC (st.obj id) gen).bind (Ml mk z k ok)else none:=by
 simp only[CK,KC,Option.bind_some]
 split
 ·cases st.obj id with
  | none=>rfl
  | some o =>
   cases o <;> try rfl
   rename_i g mk' es
   by_cases h:gen=g
   ·subst h
    by_cases hm:mk'=mk
    ·simp [Ml,hm];cases BY es k <;> rfl
    ·simp [Ml,hm]
   ·simp [h]
 ·rfl
theorem iV {mk:MK} {z k:PV} {es:List (PV×PV)}:Ml mk z k true (mk,es)=some (.tuple [(BY es k).getD z,.bool (BY es k).isSome]):=by
 cases h:BY es k <;> simp[Ml,h]
theorem iW {mk:MK} {z k:PV} {es:List (PV×PV)}:Ml mk z k false (mk,es)=some ((BY es k).getD z):=by
 cases h:BY es k <;> simp[Ml,h]
theorem SE {mk:MK} {z k:PV} {ok:Bool}:CK st (some (mk,z)) .nilm k ok=if BE mk k=true then some (if ok then .tuple [z,.bool false]else z)else none:=nrfl rfl
theorem NQ {q:MK×PV} {id gen:Nat}:ET st (some q) (.mref id gen)=(KC (st.obj id) gen).bind fun r=>some (.iter st.next 0,st.new (.it (some (id,gen)) r.2.length [])):=by
 simp only[ET,KC,Option.bind_some]
 cases st.obj id with
 | none=>rfl
 | some o =>
  cases o <;> try rfl
  rename_i g mk' es
  by_cases h:gen=g
  ·subst h;simp
  ·simp [h]
theorem NR {q:MK×PV}:ET st (some q) .nilm=some (.iter st.next 0,st.new (.it none 0 [])):=nrfl rfl
theorem Z0 {q:MK×PV} {L:Option Int} {id gen:Nat}:Zt st (some q) L (.mref id gen)=(KC (st.obj id) gen).bind fun r=>some (r.2.length:Int):=by
 simp only[Zt,G5,KC,Option.bind_some]
 cases st.obj id with
 | none=>rfl
 | some o =>
  cases o <;> try rfl
  rename_i g mk' es
  by_cases h:gen=g
  ·subst h;simp
  ·simp [h]
theorem Z1 {q:MK×PV} {L:Option Int}:Zt st (some q) L .nilm=some 0:=nrfl rfl
theorem Z2 {k k':IntKind} {n:Int}:BE (.int k) (.int k' n)=decide (k=k'):=nrfl rfl
theorem Z3 {s:List UInt8}:BE .str (.str s)=true:=nrfl rfl
theorem VU {b:Bool}:BE .bool (.bool b)=true:=nrfl rfl
theorem Z4 {z id gen s n:Nat} {y:PV}:Rf st z (.ref id gen s n) y=(Acl (st.obj id) gen).bind fun q=>if s+n≤q.2.length∧q.1=z∧0<z∧y.isStr=false then (Cj st z y).bind fun ys=>some (min ys.length n,st.set id (.arr gen z (q.2.take s++ys.take (min ys.length n)++q.2.drop (s+min ys.length n))))else none:=nrfl rfl
theorem Z5 {i g s n:Nat}:PV.isStr (.ref i g s n)=false:=nrfl rfl
theorem VV {z:Nat} {l:List PV}:PV.isStr (.lits z l)=false:=nrfl rfl
theorem VW:PV.isStr .nils=false:=nrfl rfl
theorem Qc {t:TypeId} {m k:Operand}:iop X d (.mapEntry t m k) ρ st=Ee st (AY X.P t) (ρ m) (ρ k):=nrfl rfl
theorem Mm {t:TypeId} {m s x:Operand}:iop X d (.entryStore t m s x) ρ st=(FI st (ρ m) (ρ s) (ρ x)).map fun st'=>(.bad,st'):=nrfl rfl
theorem Qd {mk:MK} {z:PV} {id gen:Nat} {k:PV}:Ee st (some (mk,z)) (.mref id gen) k=(KC (st.obj id) gen).bind fun q=>if q.1=mk∧BE q.1 k=true then some (.tuple [(BY q.2 k).getD z,.int .i64 (Ny q.2 k)],st.set id (.map gen q.1 (CF q.2 k ((BY q.2 k).getD z))))else none:=by
 simp only[Ee,KC,Option.bind_some]
 cases st.obj id with
 | none=>rfl
 | some o =>
  cases o <;> try rfl
  rename_i g mk' es
  by_cases h:gen=g
  ·subst h;simp
  ·simp [h]
def vV (es:List (PV×PV)) (n:Nat) (x:PV):Option (List (PV×PV)):=(es[n]?).map fun e=>es.set n (e.1,x)
theorem vW {es:List (PV×PV)} {k v x:PV}:vV (CF es k v) (Ny es k) x=some (CF es k x):=by
 induction es with
 | nil=>rfl
 | cons e es ih =>
  simp only[CF,Ny]
  split
  ·rfl
  ·simp only[vV,List.getElem?_cons_succ,List.set_cons_succ]at ih ⊢
   simp only[Option.map_eq_some_iff]at ih ⊢
   obtain ⟨a,h1,h2⟩:=ih
   exact ⟨a,h1,by rw[h2]⟩
theorem NS {id gen:Nat} {ik:IntKind} {n:Int} {x:PV}:FI st (.mref id gen) (.int ik n) x=(KC (st.obj id) gen).bind fun q=>if 0≤n then (vV q.2 n.toNat x).map fun es=>st.set id (.map gen q.1 es)else none:=by
 simp only[FI,KC]
 cases st.obj id with
 | none=>rfl
 | some o =>
  cases o <;> try rfl
  rename_i g mk' es
  by_cases h:gen=g
  ·subst h
   by_cases hn:0≤n
   ·simp [hn,vV,Option.map_map,Function.comp_def]
   ·simp [hn]
  ·simp [h]
theorem SF {a b:Int}:BE (.ints 2) (.agg [.int .i64 a,.int .i64 b])=decide ((-9223372036854775808≤a∧a≤9223372036854775807)∧(-9223372036854775808≤b∧b≤9223372036854775807)):=by
 simp [BE,Iw]
theorem VX {id m g n:Nat} {seen:List Nat} {mk:MK} {es:List (PV×PV)} (h1:st.obj id=some (.it (some (m,g)) n seen)) (h2:st.obj m=some (.map g mk es)) {K:PV→Store→Prop} :
  Ef st (.iter id 0) K=(es.length=n∧(seen.length=n→K (.tuple [.bool false]) st)∧(∀i k v,es[i]?=some (k,v)→i ∉ seen→K (.tuple [.bool true,k,v]) (st.set id (.it (some (m,g)) n (seen ++ [i]))))):=by
 simp [Ef,h1,h2]
theorem SG {id m g n:Nat} {seen:List Nat} {i:Nat} {mk:MK} {es:List (PV×PV)} {k v:PV} (h1:st.obj id=some (.it (some (m,g)) n (seen ++ [i]))) (h2:st.obj m=some (.map g mk es)) (h3:es.length=n) (h4:es[i]?=some (k,v)) :
  mapEntry st (.iter id 0)=some (.tuple [k,v]):=by
 simp [mapEntry,h1,h2,h3,h4]
end
section
variable {X:Cfg} {N:Nat} {Q:IExit→IState→Prop} {ks:List Kf} {s:IState}
theorem Z6 {all:Array Oper} {rest:List Oper} {dst:Option Nat} {op:Op} {ty:TypeId} {pos:String} {after:Array Edge} (hn:BO X op=true) :
  ops X N Q all (⟨dst,op,ty,pos,after,none⟩::rest) ks s=Bl X N Q all rest ks dst s (iop X (dst.getD 0) op (Ay s.env) s.st):=L9 (Py hn)
theorem VY {all:Array Oper} {rest:List Oper} {dst:Option Nat} {op:Op} {ty:TypeId} {pos:String} {after:Array Edge} {j:Nat} {want:Bool} (hn:BO X op=true) :
  ops X N Q all (⟨dst,op,ty,pos,after,some (j,want)⟩::rest) ks s =
   BM (Ds all s.env j) want (Bl X N Q all rest ks dst s (iop X (dst.getD 0) op (Ay s.env) s.st)) (Bl X N Q all rest ks dst s (some (.tuple [],s.st))):=Oc (Py hn)
theorem Hq {all:Array Oper} {l:List Oper} {o:Oper} {r:PV×Store}:(∃s',Gi N o s r=some s'∧ops X N Q all l ks s')=Bl X N Q all l ks o.dst s (some r):=by
 simp only[Gi,Bl]
 cases o.dst with
 | none=>simp
 | some d =>
  by_cases hd:d<N
  ·simp [hd]
  ·simp [hd]
def KD (p:PV) (l:Nat) (A B:Prop):Prop:=match p with | .func (.yield l') [] []=>if l'=l then B else A | _=>A
theorem Gq {p p':PV} {l:Nat} {A B:Prop} (h:p=p'):KD p l A B=KD p' l A B:=by rw[h]
theorem Z7 {f l:Nat} {a b:List PV} {A B:Prop}:KD (.func (.func f) a b) l A B=A:=nrfl rfl
theorem I0 {l:Nat} {A B:Prop}:KD (.func (.yield l) [] []) l A B=B:=by simp[KD]
theorem Z8 {l:Nat} {H:Fk} (hy:X.yl=some (l,H)) {all:Array Oper} {rest:List Oper} {dst:Option Nat} {f:Operand} {as:List Operand} {ts:List TypeId} {ty:TypeId} {pos:String} {after:Array Edge} :
  ops X N Q all (⟨dst,.call ⟨.value f,as.toArray,ts.toArray⟩,ty,pos,after,none⟩::rest) ks s =
   KD (Ay s.env f) l (Bl X N Q all rest ks dst s (Dy X (dst.getD 0) (Ay s.env f) (Pm X (dst.getD 0) ts) (evs (Ay s.env) as) s.st)) (H (evs (Ay s.env) as) s.st fun b st'=>Bl X N Q all rest ks dst s (some (.bool b,st'))):=by
 by_cases h:Ay s.env f=.func (.yield l) [] []
 ·rw [h,I0]
  simp only[ops,DZ,Dl,Dn,if_true,yOf,hy,h]
  simp only[IZ]
  have : (fun (b:Bool) (st':Store)=>∃s',Gi N ⟨dst,.call ⟨.value f,as.toArray,ts.toArray⟩,ty,pos,after,none⟩ s (.bool b,st')=some s'∧DZ X N all rest s' (Gk X N Q ks))=fun b st'=>Bl X N Q all rest ks dst s (some (.bool b,st')):=by
   funext b st';exact Hq (o:=⟨dst,.call ⟨.value f,as.toArray,ts.toArray⟩,ty,pos,after,none⟩)
  rw [this]
 ·have hn:yOf X (.call ⟨.value f,as.toArray,ts.toArray⟩) (Ay s.env)=none:=by
   simp only[yOf,hy]
   split
   ·rename_i l' hl
    split
    ·rename_i e;subst e;exact absurd hl h
    ·rfl
   ·rfl
  rw [L9 hn,KB]
  have : ∀A B:Prop,KD (Ay s.env f) l A B=A:=fun A B=>by
   unfold KD
   split
   ·rename_i l' hl
    split
    ·rename_i e;subst e;exact absurd hl h
    ·rfl
   ·rfl
  rw [this]
theorem VZ {l:Nat} {H:Fk} (hy:X.yl=some (l,H)) {all:Array Oper} {rest:List Oper} {dst:Option Nat} {f:Operand} {as:List Operand} {ts:List TypeId} {ty:TypeId} {pos:String} {after:Array Edge} {j:Nat} {want:Bool} :
  ops X N Q all (⟨dst,.call ⟨.value f,as.toArray,ts.toArray⟩,ty,pos,after,some (j,want)⟩::rest) ks s =
   BM (Ds all s.env j) want (KD (Ay s.env f) l (Bl X N Q all rest ks dst s (Dy X (dst.getD 0) (Ay s.env f) (Pm X (dst.getD 0) ts) (evs (Ay s.env) as) s.st)) (H (evs (Ay s.env) as) s.st fun b st'=>Bl X N Q all rest ks dst s (some (.bool b,st'))))
    (Bl X N Q all rest ks dst s (some (.tuple [],s.st))):=by
 by_cases h:Ay s.env f=.func (.yield l) [] []
 ·rw [h,I0]
  have skip:Dn all ⟨dst,.call ⟨.value f,as.toArray,ts.toArray⟩,ty,pos,after,some (j,want)⟩ s.env=false→ops X N Q all (⟨dst,.call ⟨.value f,as.toArray,ts.toArray⟩,ty,pos,after,some (j,want)⟩::rest) ks s=∃s',stepG X N all ⟨dst,.call ⟨.value f,as.toArray,ts.toArray⟩,ty,pos,after,some (j,want)⟩ s=some s'∧ops X N Q all rest ks s':=fun hg=>by
   simp only[ops,DZ,Dl,hg,Bool.false_eq_true,if_false]
  have out:(∃s',(Option.bind (some (PV.tuple [],s.st)) (Gi N ⟨dst,.call ⟨.value f,as.toArray,ts.toArray⟩,ty,pos,after,some (j,want)⟩ s))=some s'∧ops X N Q all rest ks s')=Bl X N Q all rest ks dst s (some (.tuple [],s.st)):=Hq (o:=⟨dst,.call ⟨.value f,as.toArray,ts.toArray⟩,ty,pos,after,some (j,want)⟩)
  cases hg:Ds all s.env j with
  | bool b =>
   by_cases hb:b=want
   ·subst hb
    have h1:ops X N Q all (⟨dst,.call ⟨.value f,as.toArray,ts.toArray⟩,ty,pos,after,some (j,b)⟩::rest) ks s=H (evs (Ay s.env) as) s.st fun b' st'=>Bl X N Q all rest ks dst s (some (.bool b',st')):=by
     have e1:Dn all ⟨dst,.call ⟨.value f,as.toArray,ts.toArray⟩,ty,pos,after,some (j,b)⟩ s.env=true:=by simp[Dn,hg]
     simp only[ops,DZ,Dl,e1,if_true,yOf,hy,h]
     simp only[IZ]
     have : (fun (b':Bool) (st':Store)=>∃s',Gi N ⟨dst,.call ⟨.value f,as.toArray,ts.toArray⟩,ty,pos,after,some (j,b)⟩ s (.bool b',st')=some s'∧DZ X N all rest s' (Gk X N Q ks))=fun b' st'=>Bl X N Q all rest ks dst s (some (.bool b',st')):=by
      funext b' st';exact Hq (o:=⟨dst,.call ⟨.value f,as.toArray,ts.toArray⟩,ty,pos,after,some (j,b)⟩)
     rw [this]
    rw [h1]
    cases b <;> simp[BM]
   ·rw [skip (by simp[Dn,hg,hb])]
    simp only[stepG,Bs,hg,if_neg hb]
    rw [out]
    cases b <;> cases want <;> simp[BM]at hb ⊢
  | tuple t =>
   rw [skip (by simp[Dn,hg])]
   cases t with
   | nil =>
    simp only[stepG,Bs,hg]
    rw [out,RC]
   | cons a t=>simp[stepG,Bs,hg,BM]
  | _ =>
   rw [skip (by simp[Dn,hg])]
   simp [stepG,Bs,hg,BM]
 ·have hn:yOf X (.call ⟨.value f,as.toArray,ts.toArray⟩) (Ay s.env)=none:=by
   simp only[yOf,hy]
   split
   ·rename_i l' hl
    split
    ·rename_i e;subst e;exact absurd hl h
    ·rfl
   ·rfl
  rw [Oc hn,KB]
  have : ∀A B:Prop,KD (Ay s.env f) l A B=A:=fun A B=>by
   unfold KD
   split
   ·rename_i l' hl
    split
    ·rename_i e;subst e;exact absurd hl h
    ·rfl
   ·rfl
  rw [this]
theorem Z9 {all:Array Oper} {rest:List Oper} {dst:Option Nat} {x:Operand} {ty:TypeId} {pos:String} {after:Array Edge} :
  ops X N Q all (⟨dst,.next x false,ty,pos,after,none⟩::rest) ks s=Ef s.st (Ay s.env x) fun r st'=>Bl X N Q all rest ks dst s (some (r,st')):=by
 simp only[ops,DZ,Dl,Dn,if_true,yOf]
 have : (fun (r:PV) (st':Store)=>∃s',Gi N ⟨dst,.next x false,ty,pos,after,none⟩ s (r,st')=some s'∧DZ X N all rest s' (Gk X N Q ks))=fun r st'=>Bl X N Q all rest ks dst s (some (r,st')):=by
  funext r st';exact Hq (o:=⟨dst,.next x false,ty,pos,after,none⟩)
 rw [this]
end
def Qe (p:PV) (op:BinOp) (ok:Bool) (A:Prop) (K:PV→Prop):Prop:=match p with | .lits _ []=>∃p q,FJ op ok true=some p∧FJ op ok false=some q∧K p∧K q | _=>A
theorem aA {op:BinOp} {ok:Bool} {A:Prop} {K:PV→Prop}:Qe .nils op ok A K=A:=nrfl rfl
theorem aB {op:BinOp} {ok:Bool} {A:Prop} {K:PV→Prop} {z:Nat} {x:PV} {l:List PV}:Qe (.lits z (x::l)) op ok A K=A:=nrfl rfl
theorem iX {A:Prop} {K:PV→Prop} {z:Nat}:Qe (.lits z []) .eql true A K=(K (.bool true)∧K (.bool false)):=by simp[Qe,FJ]
theorem aC {A:Prop} {K:PV→Prop} {z:Nat}:Qe (.lits z []) .neq true A K=(K (.bool false)∧K (.bool true)):=by simp[Qe,FJ]
theorem iZ {P:Program} {t:TypeId} {z:Nat} {x:PV} {l:List PV}:BJ P .eql t (.lits z (x::l)) .nils=if (Ad P t != 0)=true then some (.bool false)else none:=by
 simp [BJ,FJ]
theorem Ac2 {P:Program} {t:TypeId} {z:Nat} {x:PV} {l:List PV}:BJ P .neq t (.lits z (x::l)) .nils=if (Ad P t != 0)=true then some (.bool true)else none:=by
 simp [BJ,FJ]
theorem vX {P:Program} {t:TypeId}:BJ P .eql t .nils .nils=if (Ad P t != 0)=true then some (.bool true)else none:=by
 simp [BJ,FJ]
theorem vY {P:Program} {t:TypeId}:BJ P .neq t .nils .nils=if (Ad P t != 0)=true then some (.bool false)else none:=by
 simp [BJ,FJ]
theorem aD {X:Cfg} {N:Nat} {Q:IExit→IState→Prop} {ks:List Kf} {s:IState} {all:Array Oper} {rest:List Oper} {dst:Option Nat} {op:BinOp} {t u:TypeId} {x:Operand} {ty:TypeId} {pos:String} {after:Array Edge} :
  ops X N Q all (⟨dst,.binOp op t x (.const (.slice none 0 0)) u,ty,pos,after,none⟩::rest) ks s=Qe (Ay s.env x) op (Ad X.P t != 0) (Bl X N Q all rest ks dst s (iop X (dst.getD 0) (.binOp op t x (.const (.slice none 0 0)) u) (Ay s.env) s.st)) (fun p=>Bl X N Q all rest ks dst s (some (p,s.st))):=by
 have ex:∀r:PV×Store,(∃s',Gi N ⟨dst,.binOp op t x (.const (.slice none 0 0)) u,ty,pos,after,none⟩ s r=some s'∧DZ X N all rest s' (Gk X N Q ks))=Bl X N Q all rest ks dst s (some r):=fun r=>Hq (o:=⟨dst,.binOp op t x (.const (.slice none 0 0)) u,ty,pos,after,none⟩)
 generalize hp:Ay s.env x=p
 have rest_:yOf X (.binOp op t x (.const (.slice none 0 0)) u) (Ay s.env)=none→ops X N Q all (⟨dst,.binOp op t x (.const (.slice none 0 0)) u,ty,pos,after,none⟩::rest) ks s=Bl X N Q all rest ks dst s (iop X (dst.getD 0) (.binOp op t x (.const (.slice none 0 0)) u) (Ay s.env) s.st):=fun h=>L9 h
 unfold Qe
 split
 ·simp only[ops,DZ,Dl,Dn,if_true,yOf]
  rw [if_pos (show Lr (.const (.slice none 0 0))=true from rfl)]
  simp only[hp]
  have := ex
  simp only[ex]
 ·rename_i hne
  apply rest_
  simp only[yOf]
  rw [if_pos (show Lr (.const (.slice none 0 0))=true from rfl)]
  split
  ·rename_i he;exact absurd (hp.symm.trans he) (hne _)
  ·rfl
theorem vZ {X:Cfg}:∀a0,BO X (.move a0)=true:=by intros;exact nrfl rfl
theorem aE {X:Cfg}:∀a0,BO X (.assign a0)=true:=by intros;exact nrfl rfl
theorem wA {X:Cfg}:∀a0 a1 a2,BO X (.pick a0 a1 a2)=true:=by intros;exact nrfl rfl
theorem jA {X:Cfg}:∀a0,BO X (.alloc a0)=true:=by intros;exact nrfl rfl
theorem Ac3 {X:Cfg}:∀a0 a1,BO X (.box a0 a1)=true:=by intros;exact nrfl rfl
theorem jB {X:Cfg}:∀a0 a1,BO X (.build a0 a1)=true:=by intros;exact nrfl rfl
theorem NT {X:Cfg}:∀a0 a1 a2,BO X (.buildSlice a0 a1 a2)=true:=by intros;exact nrfl rfl
theorem aG {X:Cfg}:∀a0 a1 a2 a3,BO X (.insert a0 a1 a2 a3)=true:=by intros;exact nrfl rfl
theorem wB {X:Cfg}:∀a0 a1,BO X (.load a0 a1)=true:=by intros;exact nrfl rfl
theorem jC {X:Cfg}:∀a0 a1 a2,BO X (.store a0 a1 a2)=true:=by intros;exact nrfl rfl
theorem SH {X:Cfg}:∀a0,BO X (.nilCheck a0)=true:=by intros;exact nrfl rfl
theorem jD {X:Cfg}:∀a0 a1 a2 a3 a4,BO X (.binOp a0 a1 a2 a3 a4) = !Lr a3:=by intros;exact nrfl rfl
theorem jE {t:Nat}:Lr (.tmp t)=false:=nrfl rfl
theorem jF {k:IntKind} {n:Int}:Lr (.const (.int k n))=false:=nrfl rfl
theorem aH {b:Bool}:Lr (.const (.bool b))=false:=nrfl rfl
theorem jG {s:ByteArray}:Lr (.const (.string s))=false:=nrfl rfl
theorem jH {a:Option Addr}:Lr (.const (.pointer a))=false:=nrfl rfl
theorem V0:Lr (.const .nilIface)=false:=nrfl rfl
theorem wC {X:Cfg}:∀a0 a1 a2,BO X (.unOp a0 a1 a2)=true:=by intros;exact nrfl rfl
theorem V1 {X:Cfg}:∀a0 a1 a2,BO X (.convert a0 a1 a2)=true:=by intros;exact nrfl rfl
theorem KE {X:Cfg}:∀a0 a1,BO X (.makeInterface a0 a1)=true:=by intros;exact nrfl rfl
theorem SJ {X:Cfg}:∀a0 a1 a2,BO X (.makeFunc a0 a1 a2)=true:=by intros;exact nrfl rfl
theorem V2 {X:Cfg}:∀a0 a1,BO X (.makeMap a0 a1)=true:=by intros;exact nrfl rfl
theorem Qf {X:Cfg}:∀a0 a1 a2,BO X (.makeSlice a0 a1 a2)=true:=by intros;exact nrfl rfl
theorem jI {X:Cfg}:∀a0 a1 a2 a3 a4,BO X (.slice a0 a1 a2 a3 a4)=true:=by intros;exact nrfl rfl
theorem Qg {X:Cfg}:∀a0 a1 a2,BO X (.fieldAddr a0 a1 a2)=true:=by intros;exact nrfl rfl
theorem jJ {X:Cfg}:∀a0 a1 a2,BO X (.field a0 a1 a2)=true:=by intros;exact nrfl rfl
theorem Qh {X:Cfg}:∀a0 a1 a2,BO X (.indexAddr a0 a1 a2)=true:=by intros;exact nrfl rfl
theorem jK {X:Cfg}:∀a0 a1 a2,BO X (.index a0 a1 a2)=true:=by intros;exact nrfl rfl
theorem aI {X:Cfg}:∀a0 a1 a2 a3,BO X (.lookup a0 a1 a2 a3)=true:=by intros;exact nrfl rfl
theorem Qi {X:Cfg}:∀a0 a1 a2 a3,BO X (.mapUpdate a0 a1 a2 a3)=true:=by intros;exact nrfl rfl
theorem SK {X:Cfg}:∀a0 a1 a2,BO X (.mapEntry a0 a1 a2)=true:=by intros;exact nrfl rfl
theorem NU {X:Cfg}:∀a0 a1 a2 a3,BO X (.entryStore a0 a1 a2 a3)=true:=by intros;exact nrfl rfl
theorem jL {X:Cfg}:∀a0 a1,BO X (.range a0 a1)=true:=by intros;exact nrfl rfl
theorem jM {X:Cfg}:∀a0,BO X (.entry a0)=true:=by intros;exact nrfl rfl
theorem NV {X:Cfg}:∀a0 a1 a2 a3,BO X (.typeAssert a0 a1 a2 a3)=true:=by intros;exact nrfl rfl
theorem V3 {X:Cfg}:∀a0 a1,BO X (.extract a0 a1)=true:=by intros;exact nrfl rfl
theorem jN {X:Cfg}:∀a0,BO X (.panic a0)=true:=by intros;exact nrfl rfl
theorem jO {X:Cfg} {f:FuncId} {a:Array Operand} {b:Array TypeId}:BO X (.call ⟨.value (.func f),a,b⟩)=true:=nrfl rfl
theorem jP {X:Cfg} {f:Builtin} {a:Array Operand} {b:Array TypeId}:BO X (.call ⟨.builtin f,a,b⟩)=true:=nrfl rfl
theorem jQ {X:Cfg} {r:Operand} {m:String} {a:Array Operand} {b:Array TypeId}:BO X (.call ⟨.invoke r m,a,b⟩)=true:=nrfl rfl
theorem jR {X:Cfg} {t:Nat} {a:Array Operand} {b:Array TypeId}:BO X (.call ⟨.value (.tmp t),a,b⟩)=X.yl.isNone:=nrfl rfl
theorem SL {α:Type}:(none:Option α).isNone=true:=nrfl rfl
theorem V4 {P:Program} {E:AU} {m f:List Nat} {dp:Nat} {rd:Bool} {l:Nat} {H:Fk} {N:Nat} {Q:IExit→IState→Prop} {ks:List Kf} {s:IState} {all:Array Oper} {rest:List Oper} {dst:Option Nat} {t:Nat} {as:List Operand} {ts:List TypeId} {ty:TypeId} {pos:String} {after:Array Edge} :
  ops (cfg P E m f dp (some (l,H)) rd) N Q all (⟨dst,.call ⟨.value (.tmp t),as.toArray,ts.toArray⟩,ty,pos,after,none⟩::rest) ks s =
   KD (Ay s.env (.tmp t)) l (Bl (cfg P E m f dp (some (l,H)) rd) N Q all rest ks dst s (Dy (cfg P E m f dp (some (l,H)) rd) (dst.getD 0) (Ay s.env (.tmp t)) (Pm (cfg P E m f dp (some (l,H)) rd) (dst.getD 0) ts) (evs (Ay s.env) as) s.st))
    (H (evs (Ay s.env) as) s.st fun b st'=>Bl (cfg P E m f dp (some (l,H)) rd) N Q all rest ks dst s (some (.bool b,st'))):=Z8 rfl
theorem SM {P:Program} {E:AU} {m f:List Nat} {dp:Nat} {rd:Bool} {l:Nat} {H:Fk} {N:Nat} {Q:IExit→IState→Prop} {ks:List Kf} {s:IState} {all:Array Oper} {rest:List Oper} {dst:Option Nat} {t:Nat} {as:List Operand} {ts:List TypeId} {ty:TypeId} {pos:String} {after:Array Edge} {j:Nat} {want:Bool} :
  ops (cfg P E m f dp (some (l,H)) rd) N Q all (⟨dst,.call ⟨.value (.tmp t),as.toArray,ts.toArray⟩,ty,pos,after,some (j,want)⟩::rest) ks s =
   BM (Ds all s.env j) want (KD (Ay s.env (.tmp t)) l (Bl (cfg P E m f dp (some (l,H)) rd) N Q all rest ks dst s (Dy (cfg P E m f dp (some (l,H)) rd) (dst.getD 0) (Ay s.env (.tmp t)) (Pm (cfg P E m f dp (some (l,H)) rd) (dst.getD 0) ts) (evs (Ay s.env) as) s.st))
    (H (evs (Ay s.env) as) s.st fun b st'=>Bl (cfg P E m f dp (some (l,H)) rd) N Q all rest ks dst s (some (.bool b,st'))))
    (Bl (cfg P E m f dp (some (l,H)) rd) N Q all rest ks dst s (some (.tuple [],s.st))):=VZ rfl
theorem Ac4 {P:Program} {l:AU} {m f:List Nat} {dp:Nat} {yl:Option (Nat×Fk)} {rnd:Bool}:(cfg P l m f dp yl rnd).yl=yl:=nrfl rfl
theorem jT {P:Program} {l:AU} {m f:List Nat} {dp:Nat} {yl:Option (Nat×Fk)} {rnd:Bool}:DJ (cfg P l m f dp yl rnd)=cfg P l m f dp yl true:=nrfl rfl
theorem aJ {X:Cfg} {N:Nat} {Q:IExit→IState→Prop} {i:Nat} {s:IState}:GN X N Q [] i s=Q (.exit i) s:=nrfl rfl
theorem V5 {i g:Nat}:(PV.mref i g).cells = [.mref i g]:=nrfl rfl
theorem V6 {i g:Nat}:(PV.iter i g).cells = [.iter i g]:=nrfl rfl
theorem SN {i g:Nat}:(PV.mref i g).isCell=true:=nrfl rfl
theorem SP {i g:Nat}:(PV.iter i g).isCell=true:=nrfl rfl
theorem NW {v:PV}:A6 .nilm 0 [v]=v:=nrfl rfl
theorem NX {i g:Nat} {v:PV}:A6 (.mref i g) 0 [v]=v:=nrfl rfl
theorem V7 {ρ:Nat→PV} {p:Nat} {ps:List Nat} {v:PV} {vs:List PV}:Fs ρ (p::ps) (v::vs)=Fs (upd ρ p v) ps vs:=nrfl rfl
theorem aK {ρ:Nat→PV} {vs:List PV}:Fs ρ [] vs=ρ:=nrfl rfl
def Later (st st':Store):Prop:=st.next≤st'.next∧∀x o,x<st.next→st.obj x=some o→(∀r,o≠.lp r)→st'.obj x=some o
theorem Later.refl (st:Store):Later st st:=⟨Nat.le_refl _,fun _ _ _ h _=>h⟩
def Stays (J:Store→Prop):Prop:=∀st st',J st→Later st st'→J st'
theorem Stays.obj {x:Nat} {o:IObj} (h:∀r,o≠.lp r):Stays fun st=>st.obj x=some o∧x<st.next:=fun st st' ⟨h1,h2⟩ hl=>⟨hl.2 x o h2 h1 h,Nat.lt_of_lt_of_le h2 hl.1⟩
theorem Stays.and {J K:Store→Prop} (h:Stays J) (g:Stays K):Stays fun st=>J st∧K st:=fun st st' ⟨a,b⟩ hl=>⟨h st st' a hl,g st st' b hl⟩
theorem Stays.const {P:Prop}:Stays fun _=>P:=fun _ _ h _=>h
theorem Stays.ex {α:Type} {J:α→Store→Prop} (h:∀a,Stays (J a)):Stays fun st=>∃a,J a st:=fun st st' ⟨a,g⟩ hl=>⟨a,h a st st' g hl⟩
def Co (id:Nat) (rb:Loop) (J1:Store→Prop) (Ex:IExit→Store→Prop):IExit→IState→Prop:=fun e s2 =>
 s2.st.obj id=some (.lp rb)∧id<s2.st.next∧match e with | .normal=>J1 s2.st | e=>Ex e s2.st
def Fa (X:Cfg) (N id:Nat) (r:Loop) (J1:Store→Prop) (Ex:IExit→Store→Prop) (body:Code):IExit→IState→Prop:=fun e s1 =>
 e = .normal∧s1.st.obj id=some (.lp r)∧∀rb,run (DJ X) N (Co id rb J1 Ex) (Bj body) [] ⟨s1.env,s1.st.set id (.lp rb)⟩
theorem Ce {st:Store} {id:Nat} {r r':Loop} (h:st.obj id=some (.lp r)):Later st (st.set id (.lp r')):=by
 refine ⟨Nat.le_refl _,fun x o hx ho hl=>?_⟩
 have hne:x≠id:=fun e=>by subst e;rw[h]at ho;cases ho;exact hl r rfl
 simp [Store.set,Aa,hne,ho]
theorem On {st:Store} {o:IObj}:Later st (st.new o):=by
 refine ⟨by simp[Store.new],fun x o' hx ho _=>?_⟩
 have : x≠st.next:=by omega
 simp [Store.new,Aa,this,ho]
def Keep (base:Nat) (st st':Store):Prop:=st.next≤st'.next∧∀x,base≤x→x<st.next→(∀r,st.obj x≠some (.lp r))→st'.obj x=st.obj x
theorem Keep.mono {b b':Nat} {st st':Store} (h:Keep b st st') (hb:b≤b'):Keep b' st st':=⟨h.1,fun x hx=>h.2 x (by omega)⟩
def Qj (P:Program) (d:Nat) (f:FuncId) (first captured:List PV) (ys:List (List PV)):Prop :=
 ∃ fn c, P.funcs[f]? = some fn ∧ fn.body = some c ∧ (fn.name == "runtime.NumGoroutine") = false ∧ fn.results.toList = [] ∧ first.length + 1 + captured.length ≤ fn.ntmps ∧
  ∀ (l:Nat) (H:Fk) (J:Nat→Store→Prop) (E:Store→Prop) (st:Store) (X:Cfg),X.P=P→X.yl=some (l,H)→X.rnd=false→A8 X→J 0 st →
   (∀ i st st',J i st→st.next≤st'.next→(∀x,x<st.next→st'.obj x=st.obj x)→J i st') →
   (∀ i y st1,ys[i]?=some y→J i st1→H y st1 fun b st'=>if b=true then J (i+1) st'∧Keep st.next st1 st' else E st') →
   gen (d+1) X fn.ntmps c (fun e s=>(e=.normal∨e=.ret)∧(J ys.length s.st∨E s.st)) ⟨FC (first++.func (.yield l) [] []::captured),st⟩
theorem V8 {P:Program} {l:AU} (hl:Bm P l) (muts frz:List Nat) (dep:Nat) {f:FuncId} {fn:Func} {c:Code} (hf:P.funcs[f]?=some fn) (hb:fn.body=some c)
  (hname : (fn.name == "runtime.NumGoroutine") = false) (hrs : fn.results.toList = []) {first captured : List PV} {N : Nat} (hN : fn.ntmps = N) (hn : first.length + 1 + captured.length ≤ N)
  (hd : ∀y,Bn (cfg P l muts frz dep (some y)) c=true) {ys:List (List PV)}
  (h : ∀(y:Nat) (H:Fk) (J:Nat→Store→Prop) (E:Store→Prop) (st:Store),A8 (cfg P l muts frz dep (some (y,H)))→J 0 st →
   (∀ i st st',J i st→st.next≤st'.next→(∀x,x<st.next→st'.obj x=st.obj x)→J i st') →
   (∀ i v st1 (K:Bool→Store→Prop),ys[i]?=some v→J i st1→(∀st',J (i+1) st'→Keep st.next st1 st'→K true st')→(∀st',E st'→K false st')→H v st1 K) →
   run (cfg P l muts frz dep (some (y,H))) N (fun e s=>(e=.normal∨e=.ret)∧(J ys.length s.st∨E s.st)) (Bj c) [] ⟨FC (first++.func (.yield y) [] []::captured),st⟩) :
  Qj P dep f first captured ys:=by
 subst hN
 refine ⟨fn,c,hf,hb,hname,hrs,hn,fun y H J E st X hP hyl hrnd hm h0 hst hH=>⟨cfg P l muts frz dep (some (y,H)),hP.symm,hyl.symm,hrnd.symm,rfl,FO hl,DC hl,?_⟩⟩
 have hm':A8 (cfg P l muts frz dep (some (y,H))):=fun l' H' he=>hm l' H' (by rw[hyl];exact he)
 have := h y H J E st hm' h0 hst (fun i v st K hv hJ ht hf=>hm' y H rfl _ _ _ _ (fun b st' hb=>by
  cases b
  ·exact hf st' (by simpa using hb)
  ·have :=(show _∧_ by simpa using hb);exact ht st' this.1 this.2) (hH i v st hv hJ))
 exact C6 hm' (hd _) this
theorem V9 {X:Cfg} {N:Nat} {Q:IExit→IState→Prop} {ks:List Kf} {ρ:Nat→PV} {st:Store} {g:Operand} {ps:Array Tmp} {assign body:Code} {d:Nat} {f:FuncId} {first captured:List PV} {ys:List (List PV)}
  (hr : X.rnd=false) (hd:X.dep=d+1) (hm:A8 X) (hg:Ay ρ g=.func (.func f) first captured) (hy:Qj X.P d f first captured ys) (hps:(ps.toList.all fun p=>decide (p<N))=true) (hlen:∀y∈ys,y.length=ps.size)
  (ha : Bn (DJ X) assign=true) (hb:Bn (DJ X) body=true)
  (J : Nat→Store→Prop) (Ex:IExit→Store→Prop) (hJ:∀i,Stays (J i)) (hE:∀e,Stays (Ex e)) (h0:J 0 st)
  (hround : ∀i y st1 id r,ys[i]?=some y→id<st1.next→st1.obj id=some (.lp r)→st.next≤id→J i st1→run (DJ X) N (Fa X N id r (fun st'=>J (i+1) st'∧Keep st.next st1 st') Ex body) (Bj assign) [] ⟨Fs ρ ps.toList y,st1⟩)
  (hend : ∀st,J ys.length st→Gk X N Q ks ⟨ρ,st⟩) (hex:∀i st,Ex (.exit i) st→GN X N Q ks i ⟨ρ,st⟩) (hret:∀st,Ex .ret st→done X N Q ks ⟨ρ,st⟩) :
  run X N Q (.rangeFunc g ps assign body) ks ⟨ρ,st⟩:=by
 have hmr:A8 (DJ X):=hm
 simp only[run,wpI,wpC]
 refine ⟨_,.refl _,hr,?_⟩
 rw [hg]
 obtain ⟨fn,c,h1,h2,h3,h4,h5,h6⟩:=hy
 refine ⟨fn,c,h1,h2,h3,h4,h5,hps,fun l r hr1 hr2=>?_⟩
 have hgm:=DO X.dep
 generalize hH:(fun (args:List PV) (st1:Store) (K:Bool→Store→Prop)=>st1.obj st.next=some (IObj.lp r)∧args.length=ps.size ∧
       wpC (gen X.dep) (DJ X) N assign (fun e s1=>e=.normal∧s1.st.obj st.next=some (.lp r) ∧
        wpC (gen X.dep) (DJ X) N body (fun e s2=>s2.st.obj st.next=some (.lp { r with state:=.busy }) ∧
         match e with
         | .normal=>K true (s2.st.set st.next (.lp r))
         | .ret=>K false (s2.st.set st.next (.lp { r with state:=.done,pending:=some .ret }))
         | .exit i=>K false (s2.st.set st.next (.lp { r with state:=.done,pending:=some (.exit i) })))
         ⟨s1.env, s1.st.set st.next (.lp { r with state:=.busy })⟩)
        ⟨Fs ρ ps.toList args,st1⟩)=H
 have hHm:A8 (L5 X (l,H)):=by
  intro l' H' he args st K K' hk hh
  simp only[L5,Option.some.injEq,Prod.mk.injEq]at he
  obtain ⟨rfl,rfl⟩:=he
  subst hH
  obtain ⟨g1,g2,g3⟩:=hh
  refine ⟨g1,g2,CO hgm (DJ X) N assign _ _ _ hmr (fun e s1 he=>⟨he.1,he.2.1,CO hgm (DJ X) N body _ _ _ hmr (fun e s2 he2=>⟨he2.1,?_⟩) he.2.2⟩) g3⟩
  cases e with
  | normal=>exact hk _ _ he2.2
  | exit i=>exact hk _ _ he2.2
  | ret=>exact hk _ _ he2.2
 have key:=h6 l H (fun i st1=>st1.obj st.next=some (.lp r)∧st.next<st1.next∧J i st1)
  (fun st1=>(st1.obj st.next=some (.lp { r with state:=.done,pending:=some .ret })∧Ex .ret st1)∨∃i,st1.obj st.next=some (.lp { r with state:=.done,pending:=some (.exit i) })∧Ex (.exit i) st1)
  (st.new (.lp r)) (L5 X (l,H)) rfl rfl rfl hHm ⟨by simp[Store.new,Aa],by simp[Store.new],hJ 0 _ _ h0 On⟩
  (fun i s1 s2 ⟨a1,a2,a3⟩ hn ho=>⟨by rw[ho _ a2];exact a1,by omega,hJ i _ _ a3 ⟨hn,fun x o hx hox _=>by rw[ho x hx];exact hox⟩⟩)
  (fun i y s1 hy' ⟨a1,a2,a3⟩=>by
   subst hH
   refine ⟨a1,hlen y (List.mem_of_getElem? hy'),?_⟩
   have hrn:=E9 hgm hmr ha (hround i y s1 st.next r hy' a2 a1 (Nat.le_refl _) a3)
   refine CO hgm (DJ X) N assign _ _ _ hmr (fun e t1 he=>?_) hrn
   obtain ⟨rfl,b2,b3⟩:=he
   refine ⟨rfl,b2,?_⟩
   have hrb:=E9 hgm hmr hb (b3 { r with state:=.busy })
   refine CO hgm (DJ X) N body _ _ _ hmr (fun e t2 he=>?_) hrb
   obtain ⟨c1,c2,c3⟩:=he
   refine ⟨c1,?_⟩
   cases e with
   | normal =>
    obtain ⟨c3,c4,c5⟩:=c3
    simp only[if_true]
    refine ⟨⟨by simp[Store.set,Aa],c2,hJ (i+1) _ _ c3 (Ce c1)⟩,c4,fun x hx hlt hlp=>?_⟩
    have hne:x≠st.next:=fun e=>by subst e;exact hlp r a1
    rw [←c5 x (by simp[Store.new]at hx;omega) hlt hlp]
    simp [Store.set,Aa,hne]
   | ret=>simp only[Bool.false_eq_true,if_false];exact .inl ⟨by simp[Store.set,Aa],hE _ _ _ c3 (Ce c1)⟩
   | exit j=>simp only[Bool.false_eq_true,if_false];exact .inr ⟨j,by simp[Store.set,Aa],hE _ _ _ c3 (Ce c1)⟩)
 rw [←hd]at key
 refine DO X.dep _ _ _ _ _ _ hHm (fun e s1 he=>⟨he.1,?_⟩) key
 rcases he.2 with ⟨a1,a2,a3⟩ | ⟨a1,a2⟩ | ⟨i,a1,a2⟩
 ·exact .inl ⟨a1,hend _ (hJ _ _ _ a3 (Ce a1))⟩
 ·exact .inr (.inl ⟨a1,hret _ (hE _ _ _ a2 (Ce a1))⟩)
 ·exact .inr (.inr ⟨i,a1,hex i _ (hE _ _ _ a2 (Ce a1))⟩)
end Sim
