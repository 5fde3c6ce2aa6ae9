/- Maps, iterators and generators, for walks. -/
import Derived.Test.YtppljhpecoeakaaSimS
set_option linter.unusedVariables false
set_option linter.unusedSimpArgs false
namespace Sim
open Go
section
variable {X:Cfg} {d:Nat} {ρ:Operand→PV} {st:Store}
theorem S7 {t:TypeId}:iop X d (.makeMap t none) ρ st=(AZ X.P t).bind fun q=>some (.mref st.next 0,st.new (.map 0 q.1 [])):=nrfl rfl
theorem Qx {t:TypeId} {r:Operand}:iop X d (.makeMap t (some r)) ρ st=(AZ X.P t).bind fun q=>(Da (ρ r)).map fun _=>(.mref st.next 0,st.new (.map 0 q.1 [])):=nrfl rfl
theorem Wh {t:TypeId} {m k v:Operand}:iop X d (.insert t m k v) ρ st=(IR st (AZ X.P t) (ρ m) (ρ k) (ρ v)).map fun st'=>(.bad,st'):=nrfl rfl
theorem N3 {t:TypeId} {m k v:Operand}:iop X d (.mapUpdate t m k v) ρ st=(IR st (AZ X.P t) (ρ m) (ρ k) (ρ v)).map fun st'=>(.bad,st'):=nrfl rfl
theorem Wi {t:TypeId} {m k:Operand} {ok:Bool}:iop X d (.lookup t m k ok) ρ st=(CH st (AZ X.P t) (ρ m) (ρ k) ok).map fun v=>(v,st):=nrfl rfl
theorem aW {t:TypeId} {m:Operand}:iop X d (.range t m) ρ st=E9 st (AZ X.P t) (ρ m):=nrfl rfl
theorem aX {x:Operand}:iop X d (.entry x) ρ st=(mapEntry st (ρ x)).map fun v=>(v,st):=nrfl rfl
def KH (o:Option IObj) (gen:Nat):Option (MK×List (PV×PV)):=match o with | some (.map g mk es)=>if gen=g then some (mk,es)else none | _=>none
theorem aY {g h:Nat} {mk:MK} {es:List (PV×PV)}:KH (some (.map h mk es)) g=if g=h then some (mk,es)else none:=nrfl rfl
theorem S8 {mk:MK} {z:PV} {id gen:Nat} {k v:PV}:IR st (some (mk,z)) (.mref id gen) k v=(KH (st.obj id) gen).bind fun q=>if mk=q.1∧BN q.1 k=true then some (st.set id (.map gen q.1 (CD q.2 k v)))else none:=by
 simp only[IR,KH]
 cases st.obj id with
 | none=>rfl
 | some o =>
  cases o <;> try rfl
  rename_i g mk' es
  by_cases h:gen=g
  ·subst h;simp
  ·simp [h]
def Mr (mk:MK) (z:PV) (k:PV) (ok:Bool) (q:MK×List (PV×PV)):Option PV:=if q.1=mk then (match B2 q.2 k with
    | some v=>some (if ok then .tuple [v,.bool true]else v)
    | none=>some (if ok then .tuple [z,.bool false]else z))else none
theorem S9 {mk:MK} {z:PV} {id gen:Nat} {k:PV} {ok:Bool}:CH st (some (mk,z)) (.mref id gen) k ok=if BN mk k=true then (KH (st.obj id) gen).bind (Mr mk z k ok)else none:=by
 simp only[CH,KH,Option.bind_some]
 split
 ·cases st.obj id with
  | none=>rfl
  | some o =>
   cases o <;> try rfl
   rename_i g mk' es
   by_cases h:gen=g
   ·subst h
    by_cases hm:mk'=mk
    ·simp [Mr,hm];cases B2 es k <;> rfl
    ·simp [Mr,hm]
   ·simp [h]
 ·rfl
theorem kE {mk:MK} {z k:PV} {es:List (PV×PV)}:Mr mk z k true (mk,es)=some (.tuple [(B2 es k).getD z,.bool (B2 es k).isSome]):=by
 cases h:B2 es k <;> simp[Mr,h]
theorem kF {mk:MK} {z k:PV} {es:List (PV×PV)}:Mr mk z k false (mk,es)=some ((B2 es k).getD z):=by
 cases h:B2 es k <;> simp[Mr,h]
theorem Ta {mk:MK} {z k:PV} {ok:Bool}:CH st (some (mk,z)) .nilm k ok=if BN mk k=true then some (if ok then .tuple [z,.bool false]else z)else none:=nrfl rfl
theorem N4 {q:MK×PV} {id gen:Nat}:E9 st (some q) (.mref id gen)=(KH (st.obj id) gen).bind fun r=>some (.iter st.next 0,st.new (.it (some (id,gen)) r.2.length [])):=by
 simp only[E9,KH,Option.bind_some]
 cases st.obj id with
 | none=>rfl
 | some o =>
  cases o <;> try rfl
  rename_i g mk' es
  by_cases h:gen=g
  ·subst h;simp
  ·simp [h]
theorem N5 {q:MK×PV}:E9 st (some q) .nilm=some (.iter st.next 0,st.new (.it none 0 [])):=nrfl rfl
theorem aZ {q:MK×PV} {L:Option Int} {id gen:Nat}:ZX st (some q) L (.mref id gen)=(KH (st.obj id) gen).bind fun r=>some (r.2.length:Int):=by
 simp only[ZX,Hf,KH,Option.bind_some]
 cases st.obj id with
 | none=>rfl
 | some o =>
  cases o <;> try rfl
  rename_i g mk' es
  by_cases h:gen=g
  ·subst h;simp
  ·simp [h]
theorem bB {q:MK×PV} {L:Option Int}:ZX st (some q) L .nilm=some 0:=nrfl rfl
theorem bC {k k':IntKind} {n:Int}:BN (.int k) (.int k' n)=decide (k=k'):=nrfl rfl
theorem bE {s:List UInt8}:BN .str (.str s)=true:=nrfl rfl
theorem Wj {b:Bool}:BN .bool (.bool b)=true:=nrfl rfl
theorem bF {z id gen s n:Nat} {y:PV}:RF st z (.ref id gen s n) y=(Adf (st.obj id) gen).bind fun q=>if s+n≤q.2.length∧q.1=z∧0<z∧y.isStr=false then (Cl st z y).bind fun ys=>some (min ys.length n,st.set id (.arr gen z (q.2.take s++ys.take (min ys.length n)++q.2.drop (s+min ys.length n))))else none:=nrfl rfl
theorem bG {i g s n:Nat}:PV.isStr (.ref i g s n)=false:=nrfl rfl
theorem Wk {z:Nat} {l:List PV}:PV.isStr (.lits z l)=false:=nrfl rfl
theorem Wl:PV.isStr .nils=false:=nrfl rfl
theorem Qy {t:TypeId} {m k:Operand}:iop X d (.mapEntry t m k) ρ st=Ek st (AZ X.P t) (ρ m) (ρ k):=nrfl rfl
theorem Ms {t:TypeId} {m s x:Operand}:iop X d (.entryStore t m s x) ρ st=(FP st (ρ m) (ρ s) (ρ x)).map fun st'=>(.bad,st'):=nrfl rfl
theorem Qz {mk:MK} {z:PV} {id gen:Nat} {k:PV}:Ek st (some (mk,z)) (.mref id gen) k=(KH (st.obj id) gen).bind fun q=>if q.1=mk∧BN q.1 k=true then some (.tuple [(B2 q.2 k).getD z,.int .i64 (NM q.2 k)],st.set id (.map gen q.1 (CD q.2 k ((B2 q.2 k).getD z))))else none:=by
 simp only[Ek,KH,Option.bind_some]
 cases st.obj id with
 | none=>rfl
 | some o =>
  cases o <;> try rfl
  rename_i g mk' es
  by_cases h:gen=g
  ·subst h;simp
  ·simp [h]
def xE (es:List (PV×PV)) (n:Nat) (x:PV):Option (List (PV×PV)):=(es[n]?).map fun e=>es.set n (e.1,x)
theorem xF {es:List (PV×PV)} {k v x:PV}:xE (CD es k v) (NM es k) x=some (CD es k x):=by
 induction es with
 | nil=>rfl
 | cons e es ih =>
  simp only[CD,NM]
  split
  ·rfl
  ·simp only[xE,List.getElem?_cons_succ,List.set_cons_succ]at ih ⊢
   simp only[Option.map_eq_some_iff]at ih ⊢
   obtain ⟨a,h1,h2⟩:=ih
   exact ⟨a,h1,by rw[h2]⟩
theorem N6 {id gen:Nat} {ik:IntKind} {n:Int} {x:PV}:FP st (.mref id gen) (.int ik n) x=(KH (st.obj id) gen).bind fun q=>if 0≤n then (xE q.2 n.toNat x).map fun es=>st.set id (.map gen q.1 es)else none:=by
 simp only[FP,KH]
 cases st.obj id with
 | none=>rfl
 | some o =>
  cases o <;> try rfl
  rename_i g mk' es
  by_cases h:gen=g
  ·subst h
   by_cases hn:0≤n
   ·simp [hn,xE,Option.map_map,Function.comp_def]
   ·simp [hn]
  ·simp [h]
theorem Tb {a b:Int}:BN (.ints 2) (.agg [.int .i64 a,.int .i64 b])=decide ((-9223372036854775808≤a∧a≤9223372036854775807)∧(-9223372036854775808≤b∧b≤9223372036854775807)):=by
 simp [BN,IE]
theorem Wm {id m g n:Nat} {seen:List Nat} {mk:MK} {es:List (PV×PV)} (h1:st.obj id=some (.it (some (m,g)) n seen)) (h2:st.obj m=some (.map g mk es)) {K:PV→Store→Prop} :
  El st (.iter id 0) K=(es.length=n∧(seen.length=n→K (.tuple [.bool false]) st)∧(∀i k v,es[i]?=some (k,v)→i ∉ seen→K (.tuple [.bool true,k,v]) (st.set id (.it (some (m,g)) n (seen ++ [i]))))):=by
 simp [El,h1,h2]
theorem Tc {id m g n:Nat} {seen:List Nat} {i:Nat} {mk:MK} {es:List (PV×PV)} {k v:PV} (h1:st.obj id=some (.it (some (m,g)) n (seen ++ [i]))) (h2:st.obj m=some (.map g mk es)) (h3:es.length=n) (h4:es[i]?=some (k,v)) :
  mapEntry st (.iter id 0)=some (.tuple [k,v]):=by
 simp [mapEntry,h1,h2,h3,h4]
end
section
variable {X:Cfg} {N:Nat} {Q:IExit→IState→Prop} {ks:List Kf} {s:IState}
theorem bH {all:Array Oper} {rest:List Oper} {dst:Option Nat} {op:Op} {ty:TypeId} {pos:String} {after:Array Edge} (hn:BY X op=true) :
  ops X N Q all (⟨dst,op,ty,pos,after,none⟩::rest) ks s=Bo X N Q all rest ks dst s (iop X (dst.getD 0) op (AD s.env) s.st):=Mf (P5 hn)
theorem Wn {all:Array Oper} {rest:List Oper} {dst:Option Nat} {op:Op} {ty:TypeId} {pos:String} {after:Array Edge} {j:Nat} {want:Bool} (hn:BY X op=true) :
  ops X N Q all (⟨dst,op,ty,pos,after,some (j,want)⟩::rest) ks s =
   BV (DB all s.env j) want (Bo X N Q all rest ks dst s (iop X (dst.getD 0) op (AD s.env) s.st)) (Bo X N Q all rest ks dst s (some (.tuple [],s.st))):=Ou (P5 hn)
theorem Hy {all:Array Oper} {l:List Oper} {o:Oper} {r:PV×Store}:(∃s',Gp N o s r=some s'∧ops X N Q all l ks s')=Bo X N Q all l ks o.dst s (some r):=by
 simp only[Gp,Bo]
 cases o.dst with
 | none=>simp
 | some d =>
  by_cases hd:d<N
  ·simp [hd]
  ·simp [hd]
def KI (p:PV) (l:Nat) (A B:Prop):Prop:=match p with | .func (.yield l') [] []=>if l'=l then B else A | _=>A
theorem Gz {p p':PV} {l:Nat} {A B:Prop} (h:p=p'):KI p l A B=KI p' l A B:=by rw[h]
theorem bI {f l:Nat} {a b:List PV} {A B:Prop}:KI (.func (.func f) a b) l A B=A:=nrfl rfl
theorem I8 {l:Nat} {A B:Prop}:KI (.func (.yield l) [] []) l A B=B:=by simp[KI]
theorem bJ {l:Nat} {H:Fq} (hy:X.yl=some (l,H)) {all:Array Oper} {rest:List Oper} {dst:Option Nat} {f:Operand} {as:List Operand} {ts:List TypeId} {ty:TypeId} {pos:String} {after:Array Edge} :
  ops X N Q all (⟨dst,.call ⟨.value f,as.toArray,ts.toArray⟩,ty,pos,after,none⟩::rest) ks s =
   KI (AD s.env f) l (Bo X N Q all rest ks dst s (DH X (dst.getD 0) (AD s.env f) (PO X (dst.getD 0) ts) (evs (AD s.env) as) s.st)) (H (evs (AD s.env) as) s.st fun b st'=>Bo X N Q all rest ks dst s (some (.bool b,st'))):=by
 by_cases h:AD s.env f=.func (.yield l) [] []
 ·rw [h,I8]
  simp only[ops,Eb,Du,Dx,if_true,yOf,hy,h]
  simp only[I7]
  have : (fun (b:Bool) (st':Store)=>∃s',Gp N ⟨dst,.call ⟨.value f,as.toArray,ts.toArray⟩,ty,pos,after,none⟩ s (.bool b,st')=some s'∧Eb X N all rest s' (Gs X N Q ks))=fun b st'=>Bo X N Q all rest ks dst s (some (.bool b,st')):=by
   funext b st';exact Hy (o:=⟨dst,.call ⟨.value f,as.toArray,ts.toArray⟩,ty,pos,after,none⟩)
  rw [this]
 ·have hn:yOf X (.call ⟨.value f,as.toArray,ts.toArray⟩) (AD s.env)=none:=by
   simp only[yOf,hy]
   split
   ·rename_i l' hl
    split
    ·rename_i e;subst e;exact absurd hl h
    ·rfl
   ·rfl
  rw [Mf hn,KG]
  have : ∀A B:Prop,KI (AD s.env f) l A B=A:=fun A B=>by
   unfold KI
   split
   ·rename_i l' hl
    split
    ·rename_i e;subst e;exact absurd hl h
    ·rfl
   ·rfl
  rw [this]
theorem Wo {l:Nat} {H:Fq} (hy:X.yl=some (l,H)) {all:Array Oper} {rest:List Oper} {dst:Option Nat} {f:Operand} {as:List Operand} {ts:List TypeId} {ty:TypeId} {pos:String} {after:Array Edge} {j:Nat} {want:Bool} :
  ops X N Q all (⟨dst,.call ⟨.value f,as.toArray,ts.toArray⟩,ty,pos,after,some (j,want)⟩::rest) ks s =
   BV (DB all s.env j) want (KI (AD s.env f) l (Bo X N Q all rest ks dst s (DH X (dst.getD 0) (AD s.env f) (PO X (dst.getD 0) ts) (evs (AD s.env) as) s.st)) (H (evs (AD s.env) as) s.st fun b st'=>Bo X N Q all rest ks dst s (some (.bool b,st'))))
    (Bo X N Q all rest ks dst s (some (.tuple [],s.st))):=by
 by_cases h:AD s.env f=.func (.yield l) [] []
 ·rw [h,I8]
  have skip:Dx all ⟨dst,.call ⟨.value f,as.toArray,ts.toArray⟩,ty,pos,after,some (j,want)⟩ s.env=false→ops X N Q all (⟨dst,.call ⟨.value f,as.toArray,ts.toArray⟩,ty,pos,after,some (j,want)⟩::rest) ks s=∃s',stepG X N all ⟨dst,.call ⟨.value f,as.toArray,ts.toArray⟩,ty,pos,after,some (j,want)⟩ s=some s'∧ops X N Q all rest ks s':=fun hg=>by
   simp only[ops,Eb,Du,hg,Bool.false_eq_true,if_false]
  have out:(∃s',(Option.bind (some (PV.tuple [],s.st)) (Gp N ⟨dst,.call ⟨.value f,as.toArray,ts.toArray⟩,ty,pos,after,some (j,want)⟩ s))=some s'∧ops X N Q all rest ks s')=Bo X N Q all rest ks dst s (some (.tuple [],s.st)):=Hy (o:=⟨dst,.call ⟨.value f,as.toArray,ts.toArray⟩,ty,pos,after,some (j,want)⟩)
  cases hg:DB all s.env j with
  | bool b =>
   by_cases hb:b=want
   ·subst hb
    have h1:ops X N Q all (⟨dst,.call ⟨.value f,as.toArray,ts.toArray⟩,ty,pos,after,some (j,b)⟩::rest) ks s=H (evs (AD s.env) as) s.st fun b' st'=>Bo X N Q all rest ks dst s (some (.bool b',st')):=by
     have e1:Dx all ⟨dst,.call ⟨.value f,as.toArray,ts.toArray⟩,ty,pos,after,some (j,b)⟩ s.env=true:=by simp[Dx,hg]
     simp only[ops,Eb,Du,e1,if_true,yOf,hy,h]
     simp only[I7]
     have : (fun (b':Bool) (st':Store)=>∃s',Gp N ⟨dst,.call ⟨.value f,as.toArray,ts.toArray⟩,ty,pos,after,some (j,b)⟩ s (.bool b',st')=some s'∧Eb X N all rest s' (Gs X N Q ks))=fun b' st'=>Bo X N Q all rest ks dst s (some (.bool b',st')):=by
      funext b' st';exact Hy (o:=⟨dst,.call ⟨.value f,as.toArray,ts.toArray⟩,ty,pos,after,some (j,b)⟩)
     rw [this]
    rw [h1]
    cases b <;> simp[BV]
   ·rw [skip (by simp[Dx,hg,hb])]
    simp only[stepG,Bx,hg,if_neg hb]
    rw [out]
    cases b <;> cases want <;> simp[BV]at hb ⊢
  | tuple t =>
   rw [skip (by simp[Dx,hg])]
   cases t with
   | nil =>
    simp only[stepG,Bx,hg]
    rw [out,R8]
   | cons a t=>simp[stepG,Bx,hg,BV]
  | _ =>
   rw [skip (by simp[Dx,hg])]
   simp [stepG,Bx,hg,BV]
 ·have hn:yOf X (.call ⟨.value f,as.toArray,ts.toArray⟩) (AD s.env)=none:=by
   simp only[yOf,hy]
   split
   ·rename_i l' hl
    split
    ·rename_i e;subst e;exact absurd hl h
    ·rfl
   ·rfl
  rw [Ou hn,KG]
  have : ∀A B:Prop,KI (AD s.env f) l A B=A:=fun A B=>by
   unfold KI
   split
   ·rename_i l' hl
    split
    ·rename_i e;subst e;exact absurd hl h
    ·rfl
   ·rfl
  rw [this]
theorem bK {all:Array Oper} {rest:List Oper} {dst:Option Nat} {x:Operand} {ty:TypeId} {pos:String} {after:Array Edge} :
  ops X N Q all (⟨dst,.next x false,ty,pos,after,none⟩::rest) ks s=El s.st (AD s.env x) fun r st'=>Bo X N Q all rest ks dst s (some (r,st')):=by
 simp only[ops,Eb,Du,Dx,if_true,yOf]
 have : (fun (r:PV) (st':Store)=>∃s',Gp N ⟨dst,.next x false,ty,pos,after,none⟩ s (r,st')=some s'∧Eb X N all rest s' (Gs X N Q ks))=fun r st'=>Bo X N Q all rest ks dst s (some (r,st')):=by
  funext r st';exact Hy (o:=⟨dst,.next x false,ty,pos,after,none⟩)
 rw [this]
end
def QA (p:PV) (op:BinOp) (ok:Bool) (A:Prop) (K:PV→Prop):Prop:=match p with | .lits _ []=>∃p q,FQ op ok true=some p∧FQ op ok false=some q∧K p∧K q | _=>A
theorem bL {op:BinOp} {ok:Bool} {A:Prop} {K:PV→Prop}:QA .nils op ok A K=A:=nrfl rfl
theorem bM {op:BinOp} {ok:Bool} {A:Prop} {K:PV→Prop} {z:Nat} {x:PV} {l:List PV}:QA (.lits z (x::l)) op ok A K=A:=nrfl rfl
theorem kG {A:Prop} {K:PV→Prop} {z:Nat}:QA (.lits z []) .eql true A K=(K (.bool true)∧K (.bool false)):=by simp[QA,FQ]
theorem bN {A:Prop} {K:PV→Prop} {z:Nat}:QA (.lits z []) .neq true A K=(K (.bool false)∧K (.bool true)):=by simp[QA,FQ]
theorem kH {P:Program} {t:TypeId} {z:Nat} {x:PV} {l:List PV}:BR P .eql t (.lits z (x::l)) .nils=if (Ae P t != 0)=true then some (.bool false)else none:=by
 simp [BR,FQ]
theorem Adv {P:Program} {t:TypeId} {z:Nat} {x:PV} {l:List PV}:BR P .neq t (.lits z (x::l)) .nils=if (Ae P t != 0)=true then some (.bool true)else none:=by
 simp [BR,FQ]
theorem xG {P:Program} {t:TypeId}:BR P .eql t .nils .nils=if (Ae P t != 0)=true then some (.bool true)else none:=by
 simp [BR,FQ]
theorem xH {P:Program} {t:TypeId}:BR P .neq t .nils .nils=if (Ae P t != 0)=true then some (.bool false)else none:=by
 simp [BR,FQ]
theorem bP {X:Cfg} {N:Nat} {Q:IExit→IState→Prop} {ks:List Kf} {s:IState} {all:Array Oper} {rest:List Oper} {dst:Option Nat} {op:BinOp} {t u:TypeId} {x:Operand} {ty:TypeId} {pos:String} {after:Array Edge} :
  ops X N Q all (⟨dst,.binOp op t x (.const (.slice none 0 0)) u,ty,pos,after,none⟩::rest) ks s=QA (AD s.env x) op (Ae X.P t != 0) (Bo X N Q all rest ks dst s (iop X (dst.getD 0) (.binOp op t x (.const (.slice none 0 0)) u) (AD s.env) s.st)) (fun p=>Bo X N Q all rest ks dst s (some (p,s.st))):=by
 have ex:∀r:PV×Store,(∃s',Gp N ⟨dst,.binOp op t x (.const (.slice none 0 0)) u,ty,pos,after,none⟩ s r=some s'∧Eb X N all rest s' (Gs X N Q ks))=Bo X N Q all rest ks dst s (some r):=fun r=>Hy (o:=⟨dst,.binOp op t x (.const (.slice none 0 0)) u,ty,pos,after,none⟩)
 generalize hp:AD s.env x=p
 have rest_:yOf X (.binOp op t x (.const (.slice none 0 0)) u) (AD s.env)=none→ops X N Q all (⟨dst,.binOp op t x (.const (.slice none 0 0)) u,ty,pos,after,none⟩::rest) ks s=Bo X N Q all rest ks dst s (iop X (dst.getD 0) (.binOp op t x (.const (.slice none 0 0)) u) (AD s.env) s.st):=fun h=>Mf h
 unfold QA
 split
 ·simp only[ops,Eb,Du,Dx,if_true,yOf]
  rw [if_pos (show Ly (.const (.slice none 0 0))=true from rfl)]
  simp only[hp]
  have := ex
  simp only[ex]
 ·rename_i hne
  apply rest_
  simp only[yOf]
  rw [if_pos (show Ly (.const (.slice none 0 0))=true from rfl)]
  split
  ·rename_i he;exact absurd (hp.symm.trans he) (hne _)
  ·rfl
theorem xI {X:Cfg}:∀a0,BY X (.move a0)=true:=by intros;exact nrfl rfl
theorem bQ {X:Cfg}:∀a0,BY X (.assign a0)=true:=by intros;exact nrfl rfl
theorem xJ {X:Cfg}:∀a0 a1 a2,BY X (.pick a0 a1 a2)=true:=by intros;exact nrfl rfl
theorem kJ {X:Cfg}:∀a0,BY X (.alloc a0)=true:=by intros;exact nrfl rfl
theorem Adw {X:Cfg}:∀a0 a1,BY X (.box a0 a1)=true:=by intros;exact nrfl rfl
theorem kK {X:Cfg}:∀a0 a1,BY X (.build a0 a1)=true:=by intros;exact nrfl rfl
theorem N7 {X:Cfg}:∀a0 a1 a2,BY X (.buildSlice a0 a1 a2)=true:=by intros;exact nrfl rfl
theorem bR {X:Cfg}:∀a0 a1 a2 a3,BY X (.insert a0 a1 a2 a3)=true:=by intros;exact nrfl rfl
theorem xK {X:Cfg}:∀a0 a1,BY X (.load a0 a1)=true:=by intros;exact nrfl rfl
theorem kL {X:Cfg}:∀a0 a1 a2,BY X (.store a0 a1 a2)=true:=by intros;exact nrfl rfl
theorem Td {X:Cfg}:∀a0,BY X (.nilCheck a0)=true:=by intros;exact nrfl rfl
theorem kM {X:Cfg}:∀a0 a1 a2 a3 a4,BY X (.binOp a0 a1 a2 a3 a4) = !Ly a3:=by intros;exact nrfl rfl
theorem kN {t:Nat}:Ly (.tmp t)=false:=nrfl rfl
theorem kO {k:IntKind} {n:Int}:Ly (.const (.int k n))=false:=nrfl rfl
theorem bS {b:Bool}:Ly (.const (.bool b))=false:=nrfl rfl
theorem kP {s:ByteArray}:Ly (.const (.string s))=false:=nrfl rfl
theorem kQ {a:Option Addr}:Ly (.const (.pointer a))=false:=nrfl rfl
theorem Wp:Ly (.const .nilIface)=false:=nrfl rfl
theorem xL {X:Cfg}:∀a0 a1 a2,BY X (.unOp a0 a1 a2)=true:=by intros;exact nrfl rfl
theorem Wq {X:Cfg}:∀a0 a1 a2,BY X (.convert a0 a1 a2)=true:=by intros;exact nrfl rfl
theorem KJ {X:Cfg}:∀a0 a1,BY X (.makeInterface a0 a1)=true:=by intros;exact nrfl rfl
theorem Te {X:Cfg}:∀a0 a1 a2,BY X (.makeFunc a0 a1 a2)=true:=by intros;exact nrfl rfl
theorem Wr {X:Cfg}:∀a0 a1,BY X (.makeMap a0 a1)=true:=by intros;exact nrfl rfl
theorem QB {X:Cfg}:∀a0 a1 a2,BY X (.makeSlice a0 a1 a2)=true:=by intros;exact nrfl rfl
theorem kR {X:Cfg}:∀a0 a1 a2 a3 a4,BY X (.slice a0 a1 a2 a3 a4)=true:=by intros;exact nrfl rfl
theorem QC {X:Cfg}:∀a0 a1 a2,BY X (.fieldAddr a0 a1 a2)=true:=by intros;exact nrfl rfl
theorem kT {X:Cfg}:∀a0 a1 a2,BY X (.field a0 a1 a2)=true:=by intros;exact nrfl rfl
theorem QD {X:Cfg}:∀a0 a1 a2,BY X (.indexAddr a0 a1 a2)=true:=by intros;exact nrfl rfl
theorem kU {X:Cfg}:∀a0 a1 a2,BY X (.index a0 a1 a2)=true:=by intros;exact nrfl rfl
theorem bT {X:Cfg}:∀a0 a1 a2 a3,BY X (.lookup a0 a1 a2 a3)=true:=by intros;exact nrfl rfl
theorem QE {X:Cfg}:∀a0 a1 a2 a3,BY X (.mapUpdate a0 a1 a2 a3)=true:=by intros;exact nrfl rfl
theorem Tf {X:Cfg}:∀a0 a1 a2,BY X (.mapEntry a0 a1 a2)=true:=by intros;exact nrfl rfl
theorem N8 {X:Cfg}:∀a0 a1 a2 a3,BY X (.entryStore a0 a1 a2 a3)=true:=by intros;exact nrfl rfl
theorem kV {X:Cfg}:∀a0 a1,BY X (.range a0 a1)=true:=by intros;exact nrfl rfl
theorem kW {X:Cfg}:∀a0,BY X (.entry a0)=true:=by intros;exact nrfl rfl
theorem N9 {X:Cfg}:∀a0 a1 a2 a3,BY X (.typeAssert a0 a1 a2 a3)=true:=by intros;exact nrfl rfl
theorem Ws {X:Cfg}:∀a0 a1,BY X (.extract a0 a1)=true:=by intros;exact nrfl rfl
theorem kX {X:Cfg}:∀a0,BY X (.panic a0)=true:=by intros;exact nrfl rfl
theorem kY {X:Cfg} {f:FuncId} {a:Array Operand} {b:Array TypeId}:BY X (.call ⟨.value (.func f),a,b⟩)=true:=nrfl rfl
theorem kZ {X:Cfg} {f:Builtin} {a:Array Operand} {b:Array TypeId}:BY X (.call ⟨.builtin f,a,b⟩)=true:=nrfl rfl
theorem lA {X:Cfg} {r:Operand} {m:String} {a:Array Operand} {b:Array TypeId}:BY X (.call ⟨.invoke r m,a,b⟩)=true:=nrfl rfl
theorem lB {X:Cfg} {t:Nat} {a:Array Operand} {b:Array TypeId}:BY X (.call ⟨.value (.tmp t),a,b⟩)=X.yl.isNone:=nrfl rfl
theorem Tg {α:Type}:(none:Option α).isNone=true:=nrfl rfl
theorem Wt {P:Program} {E:AV} {m f:List Nat} {dp:Nat} {rd:Bool} {l:Nat} {H:Fq} {N:Nat} {Q:IExit→IState→Prop} {ks:List Kf} {s:IState} {all:Array Oper} {rest:List Oper} {dst:Option Nat} {t:Nat} {as:List Operand} {ts:List TypeId} {ty:TypeId} {pos:String} {after:Array Edge} :
  ops (cfg P E m f dp (some (l,H)) rd) N Q all (⟨dst,.call ⟨.value (.tmp t),as.toArray,ts.toArray⟩,ty,pos,after,none⟩::rest) ks s =
   KI (AD s.env (.tmp t)) l (Bo (cfg P E m f dp (some (l,H)) rd) N Q all rest ks dst s (DH (cfg P E m f dp (some (l,H)) rd) (dst.getD 0) (AD s.env (.tmp t)) (PO (cfg P E m f dp (some (l,H)) rd) (dst.getD 0) ts) (evs (AD s.env) as) s.st))
    (H (evs (AD s.env) as) s.st fun b st'=>Bo (cfg P E m f dp (some (l,H)) rd) N Q all rest ks dst s (some (.bool b,st'))):=bJ rfl
theorem Th {P:Program} {E:AV} {m f:List Nat} {dp:Nat} {rd:Bool} {l:Nat} {H:Fq} {N:Nat} {Q:IExit→IState→Prop} {ks:List Kf} {s:IState} {all:Array Oper} {rest:List Oper} {dst:Option Nat} {t:Nat} {as:List Operand} {ts:List TypeId} {ty:TypeId} {pos:String} {after:Array Edge} {j:Nat} {want:Bool} :
  ops (cfg P E m f dp (some (l,H)) rd) N Q all (⟨dst,.call ⟨.value (.tmp t),as.toArray,ts.toArray⟩,ty,pos,after,some (j,want)⟩::rest) ks s =
   BV (DB all s.env j) want (KI (AD s.env (.tmp t)) l (Bo (cfg P E m f dp (some (l,H)) rd) N Q all rest ks dst s (DH (cfg P E m f dp (some (l,H)) rd) (dst.getD 0) (AD s.env (.tmp t)) (PO (cfg P E m f dp (some (l,H)) rd) (dst.getD 0) ts) (evs (AD s.env) as) s.st))
    (H (evs (AD s.env) as) s.st fun b st'=>Bo (cfg P E m f dp (some (l,H)) rd) N Q all rest ks dst s (some (.bool b,st'))))
    (Bo (cfg P E m f dp (some (l,H)) rd) N Q all rest ks dst s (some (.tuple [],s.st))):=Wo rfl
theorem Adx {P:Program} {l:AV} {m f:List Nat} {dp:Nat} {yl:Option (Nat×Fq)} {rnd:Bool}:(cfg P l m f dp yl rnd).yl=yl:=nrfl rfl
theorem lC {P:Program} {l:AV} {m f:List Nat} {dp:Nat} {yl:Option (Nat×Fq)} {rnd:Bool}:DQ (cfg P l m f dp yl rnd)=cfg P l m f dp yl true:=nrfl rfl
theorem bU {X:Cfg} {N:Nat} {Q:IExit→IState→Prop} {i:Nat} {s:IState}:GX X N Q [] i s=Q (.exit i) s:=nrfl rfl
theorem Wu {i g:Nat}:(PV.mref i g).cells = [.mref i g]:=nrfl rfl
theorem Wv {i g:Nat}:(PV.iter i g).cells = [.iter i g]:=nrfl rfl
theorem Ti {i g:Nat}:(PV.mref i g).isCell=true:=nrfl rfl
theorem Tj {i g:Nat}:(PV.iter i g).isCell=true:=nrfl rfl
theorem Oa {v:PV}:A7 .nilm 0 [v]=v:=nrfl rfl
theorem Ob {i g:Nat} {v:PV}:A7 (.mref i g) 0 [v]=v:=nrfl rfl
theorem Ww {ρ:Nat→PV} {p:Nat} {ps:List Nat} {v:PV} {vs:List PV}:Fz ρ (p::ps) (v::vs)=Fz (upd ρ p v) ps vs:=nrfl rfl
theorem bV {ρ:Nat→PV} {vs:List PV}:Fz ρ [] vs=ρ:=nrfl rfl
def Later (st st':Store):Prop:=st.next≤st'.next∧∀x o,x<st.next→st.obj x=some o→(∀r,o≠.lp r)→st'.obj x=some o
theorem Later.refl (st:Store):Later st st:=⟨Nat.le_refl _,fun _ _ _ h _=>h⟩
def Stays (J:Store→Prop):Prop:=∀st st',J st→Later st st'→J st'
theorem Stays.obj {x:Nat} {o:IObj} (h:∀r,o≠.lp r):Stays fun st=>st.obj x=some o∧x<st.next:=fun st st' ⟨h1,h2⟩ hl=>⟨hl.2 x o h2 h1 h,Nat.lt_of_lt_of_le h2 hl.1⟩
theorem Stays.and {J K:Store→Prop} (h:Stays J) (g:Stays K):Stays fun st=>J st∧K st:=fun st st' ⟨a,b⟩ hl=>⟨h st st' a hl,g st st' b hl⟩
theorem Stays.const {P:Prop}:Stays fun _=>P:=fun _ _ h _=>h
theorem Stays.ex {α:Type} {J:α→Store→Prop} (h:∀a,Stays (J a)):Stays fun st=>∃a,J a st:=fun st st' ⟨a,g⟩ hl=>⟨a,h a st st' g hl⟩
def Cq (id:Nat) (rb:Loop) (J1:Store→Prop) (Ex:IExit→Store→Prop):IExit→IState→Prop:=fun e s2 =>
 s2.st.obj id=some (.lp rb)∧id<s2.st.next∧match e with | .normal=>J1 s2.st | e=>Ex e s2.st
def Fg (X:Cfg) (N id:Nat) (r:Loop) (J1:Store→Prop) (Ex:IExit→Store→Prop) (body:Code):IExit→IState→Prop:=fun e s1 =>
 e = .normal∧s1.st.obj id=some (.lp r)∧∀rb,run (DQ X) N (Cq id rb J1 Ex) (Bn body) [] ⟨s1.env,s1.st.set id (.lp rb)⟩
theorem Cg {st:Store} {id:Nat} {r r':Loop} (h:st.obj id=some (.lp r)):Later st (st.set id (.lp r')):=by
 refine ⟨Nat.le_refl _,fun x o hx ho hl=>?_⟩
 have hne:x≠id:=fun e=>by subst e;rw[h]at ho;cases ho;exact hl r rfl
 simp [Store.set,Aa,hne,ho]
theorem OE {st:Store} {o:IObj}:Later st (st.new o):=by
 refine ⟨by simp[Store.new],fun x o' hx ho _=>?_⟩
 have : x≠st.next:=by omega
 simp [Store.new,Aa,this,ho]
def Keep (base:Nat) (st st':Store):Prop:=st.next≤st'.next∧∀x,base≤x→x<st.next→(∀r,st.obj x≠some (.lp r))→st'.obj x=st.obj x
theorem Keep.mono {b b':Nat} {st st':Store} (h:Keep b st st') (hb:b≤b'):Keep b' st st':=⟨h.1,fun x hx=>h.2 x (by omega)⟩
def QF (P:Program) (d:Nat) (f:FuncId) (first captured:List PV) (ys:List (List PV)):Prop :=
 ∃ fn c, P.funcs[f]? = some fn ∧ fn.body = some c ∧ (fn.name == "runtime.NumGoroutine") = false ∧ fn.results.toList = [] ∧ first.length + 1 + captured.length ≤ fn.ntmps ∧
  ∀ (l:Nat) (H:Fq) (J:Nat→Store→Prop) (E:Store→Prop) (st:Store) (X:Cfg),X.P=P→X.yl=some (l,H)→X.rnd=false→Bh X→J 0 st →
   (∀ i st st',J i st→st.next≤st'.next→(∀x,x<st.next→st'.obj x=st.obj x)→J i st') →
   (∀ i y st1,ys[i]?=some y→J i st1→H y st1 fun b st'=>if b=true then J (i+1) st'∧Keep st.next st1 st' else E st') →
   gen (d+1) X fn.ntmps c (fun e s=>(e=.normal∨e=.ret)∧(J ys.length s.st∨E s.st)) ⟨FJ (first++.func (.yield l) [] []::captured),st⟩
theorem Wx {P:Program} {l:AV} (hl:Bp P l) (muts frz:List Nat) (dep:Nat) {f:FuncId} {fn:Func} {c:Code} (hf:P.funcs[f]?=some fn) (hb:fn.body=some c)
  (hname : (fn.name == "runtime.NumGoroutine") = false) (hrs : fn.results.toList = []) {first captured : List PV} {N : Nat} (hN : fn.ntmps = N) (hn : first.length + 1 + captured.length ≤ N)
  (hd : ∀y,Bq (cfg P l muts frz dep (some y)) c=true) {ys:List (List PV)}
  (h : ∀(y:Nat) (H:Fq) (J:Nat→Store→Prop) (E:Store→Prop) (st:Store),Bh (cfg P l muts frz dep (some (y,H)))→J 0 st →
   (∀ i st st',J i st→st.next≤st'.next→(∀x,x<st.next→st'.obj x=st.obj x)→J i st') →
   (∀ i v st1 (K:Bool→Store→Prop),ys[i]?=some v→J i st1→(∀st',J (i+1) st'→Keep st.next st1 st'→K true st')→(∀st',E st'→K false st')→H v st1 K) →
   run (cfg P l muts frz dep (some (y,H))) N (fun e s=>(e=.normal∨e=.ret)∧(J ys.length s.st∨E s.st)) (Bn c) [] ⟨FJ (first++.func (.yield y) [] []::captured),st⟩) :
  QF P dep f first captured ys:=by
 subst hN
 refine ⟨fn,c,hf,hb,hname,hrs,hn,fun y H J E st X hP hyl hrnd hm h0 hst hH=>⟨cfg P l muts frz dep (some (y,H)),hP.symm,hyl.symm,hrnd.symm,rfl,FU hl,DM hl,?_⟩⟩
 have hm':Bh (cfg P l muts frz dep (some (y,H))):=fun l' H' he=>hm l' H' (by rw[hyl];exact he)
 have := h y H J E st hm' h0 hst (fun i v st K hv hJ ht hf=>hm' y H rfl _ _ _ _ (fun b st' hb=>by
  cases b
  ·exact hf st' (by simpa using hb)
  ·have :=(show _∧_ by simpa using hb);exact ht st' this.1 this.2) (hH i v st hv hJ))
 exact Dc hm' (hd _) this
theorem Wy {X:Cfg} {N:Nat} {Q:IExit→IState→Prop} {ks:List Kf} {ρ:Nat→PV} {st:Store} {g:Operand} {ps:Array Tmp} {assign body:Code} {d:Nat} {f:FuncId} {first captured:List PV} {ys:List (List PV)}
  (hr : X.rnd=false) (hd:X.dep=d+1) (hm:Bh X) (hg:AD ρ g=.func (.func f) first captured) (hy:QF X.P d f first captured ys) (hps:(ps.toList.all fun p=>decide (p<N))=true) (hlen:∀y∈ys,y.length=ps.size)
  (ha : Bq (DQ X) assign=true) (hb:Bq (DQ X) body=true)
  (J : Nat→Store→Prop) (Ex:IExit→Store→Prop) (hJ:∀i,Stays (J i)) (hE:∀e,Stays (Ex e)) (h0:J 0 st)
  (hround : ∀i y st1 id r,ys[i]?=some y→id<st1.next→st1.obj id=some (.lp r)→st.next≤id→J i st1→run (DQ X) N (Fg X N id r (fun st'=>J (i+1) st'∧Keep st.next st1 st') Ex body) (Bn assign) [] ⟨Fz ρ ps.toList y,st1⟩)
  (hend : ∀st,J ys.length st→Gs X N Q ks ⟨ρ,st⟩) (hex:∀i st,Ex (.exit i) st→GX X N Q ks i ⟨ρ,st⟩) (hret:∀st,Ex .ret st→done X N Q ks ⟨ρ,st⟩) :
  run X N Q (.rangeFunc g ps assign body) ks ⟨ρ,st⟩:=by
 have hmr:Bh (DQ X):=hm
 simp only[run,wpI,wpC]
 refine ⟨_,.refl _,hr,?_⟩
 rw [hg]
 obtain ⟨fn,c,h1,h2,h3,h4,h5,h6⟩:=hy
 refine ⟨fn,c,h1,h2,h3,h4,h5,hps,fun l r hr1 hr2=>?_⟩
 have hgm:=DY X.dep
 generalize hH:(fun (args:List PV) (st1:Store) (K:Bool→Store→Prop)=>st1.obj st.next=some (IObj.lp r)∧args.length=ps.size ∧
       wpC (gen X.dep) (DQ X) N assign (fun e s1=>e=.normal∧s1.st.obj st.next=some (.lp r) ∧
        wpC (gen X.dep) (DQ X) N body (fun e s2=>s2.st.obj st.next=some (.lp { r with state:=.busy }) ∧
         match e with
         | .normal=>K true (s2.st.set st.next (.lp r))
         | .ret=>K false (s2.st.set st.next (.lp { r with state:=.done,pending:=some .ret }))
         | .exit i=>K false (s2.st.set st.next (.lp { r with state:=.done,pending:=some (.exit i) })))
         ⟨s1.env, s1.st.set st.next (.lp { r with state:=.busy })⟩)
        ⟨Fz ρ ps.toList args,st1⟩)=H
 have hHm:Bh (Mc X (l,H)):=by
  intro l' H' he args st K K' hk hh
  simp only[Mc,Option.some.injEq,Prod.mk.injEq]at he
  obtain ⟨rfl,rfl⟩:=he
  subst hH
  obtain ⟨g1,g2,g3⟩:=hh
  refine ⟨g1,g2,CL hgm (DQ X) N assign _ _ _ hmr (fun e s1 he=>⟨he.1,he.2.1,CL hgm (DQ X) N body _ _ _ hmr (fun e s2 he2=>⟨he2.1,?_⟩) he.2.2⟩) g3⟩
  cases e with
  | normal=>exact hk _ _ he2.2
  | exit i=>exact hk _ _ he2.2
  | ret=>exact hk _ _ he2.2
 have key:=h6 l H (fun i st1=>st1.obj st.next=some (.lp r)∧st.next<st1.next∧J i st1)
  (fun st1=>(st1.obj st.next=some (.lp { r with state:=.done,pending:=some .ret })∧Ex .ret st1)∨∃i,st1.obj st.next=some (.lp { r with state:=.done,pending:=some (.exit i) })∧Ex (.exit i) st1)
  (st.new (.lp r)) (Mc X (l,H)) rfl rfl rfl hHm ⟨by simp[Store.new,Aa],by simp[Store.new],hJ 0 _ _ h0 OE⟩
  (fun i s1 s2 ⟨a1,a2,a3⟩ hn ho=>⟨by rw[ho _ a2];exact a1,by omega,hJ i _ _ a3 ⟨hn,fun x o hx hox _=>by rw[ho x hx];exact hox⟩⟩)
  (fun i y s1 hy' ⟨a1,a2,a3⟩=>by
   subst hH
   refine ⟨a1,hlen y (List.mem_of_getElem? hy'),?_⟩
   have hrn:=Ff hgm hmr ha (hround i y s1 st.next r hy' a2 a1 (Nat.le_refl _) a3)
   refine CL hgm (DQ X) N assign _ _ _ hmr (fun e t1 he=>?_) hrn
   obtain ⟨rfl,b2,b3⟩:=he
   refine ⟨rfl,b2,?_⟩
   have hrb:=Ff hgm hmr hb (b3 { r with state:=.busy })
   refine CL hgm (DQ X) N body _ _ _ hmr (fun e t2 he=>?_) hrb
   obtain ⟨c1,c2,c3⟩:=he
   refine ⟨c1,?_⟩
   cases e with
   | normal =>
    obtain ⟨c3,c4,c5⟩:=c3
    simp only[if_true]
    refine ⟨⟨by simp[Store.set,Aa],c2,hJ (i+1) _ _ c3 (Cg c1)⟩,c4,fun x hx hlt hlp=>?_⟩
    have hne:x≠st.next:=fun e=>by subst e;exact hlp r a1
    rw [←c5 x (by simp[Store.new]at hx;omega) hlt hlp]
    simp [Store.set,Aa,hne]
   | ret=>simp only[Bool.false_eq_true,if_false];exact .inl ⟨by simp[Store.set,Aa],hE _ _ _ c3 (Cg c1)⟩
   | exit j=>simp only[Bool.false_eq_true,if_false];exact .inr ⟨j,by simp[Store.set,Aa],hE _ _ _ c3 (Cg c1)⟩)
 rw [←hd]at key
 refine DY X.dep _ _ _ _ _ _ hHm (fun e s1 he=>⟨he.1,?_⟩) key
 rcases he.2 with ⟨a1,a2,a3⟩ | ⟨a1,a2⟩ | ⟨i,a1,a2⟩
 ·exact .inl ⟨a1,hend _ (hJ _ _ _ a3 (Cg a1))⟩
 ·exact .inr (.inl ⟨a1,hret _ (hE _ _ _ a2 (Cg a1))⟩)
 ·exact .inr (.inr ⟨i,a1,hex i _ (hE _ _ _ a2 (Cg a1))⟩)
end Sim
