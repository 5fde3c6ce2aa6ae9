/- Maps, iterators and generators, for walks. -/
import Derived.Test.YtppljhpecoeakaaSimS
set_option linter.unusedVariables false
set_option linter.unusedSimpArgs false
namespace Sim
open Go
section
variable {X:Cfg} {d:Nat} {ρ:Operand→PV} {st:Store}
theorem RO {t:TypeId}:iop X d (.makeMap t none) ρ st=(AS X.P t).bind fun q=>some (.mref st.next 0,st.new (.map 0 q.1 [])):=nrfl rfl
theorem Pk {t:TypeId} {r:Operand}:iop X d (.makeMap t (some r)) ρ st=(AS X.P t).bind fun q=>(CM (ρ r)).map fun _=>(.mref st.next 0,st.new (.map 0 q.1 [])):=nrfl rfl
theorem UN {t:TypeId} {m k v:Operand}:iop X d (.insert t m k v) ρ st=(Il st (AS X.P t) (ρ m) (ρ k) (ρ v)).map fun st'=>(.bad,st'):=nrfl rfl
theorem Nl {t:TypeId} {m k v:Operand}:iop X d (.mapUpdate t m k v) ρ st=(Il st (AS X.P t) (ρ m) (ρ k) (ρ v)).map fun st'=>(.bad,st'):=nrfl rfl
theorem UO {t:TypeId} {m k:Operand} {ok:Bool}:iop X d (.lookup t m k ok) ρ st=(Cx st (AS X.P t) (ρ m) (ρ k) ok).map fun v=>(v,st):=nrfl rfl
theorem YI {t:TypeId} {m:Operand}:iop X d (.range t m) ρ st=EE st (AS X.P t) (ρ m):=nrfl rfl
theorem YJ {x:Operand}:iop X d (.entry x) ρ st=(mapEntry st (ρ x)).map fun v=>(v,st):=nrfl rfl
def Kc (o:Option IObj) (gen:Nat):Option (MK×List (PV×PV)):=match o with | some (.map g mk es)=>if gen=g then some (mk,es)else none | _=>none
theorem YK {g h:Nat} {mk:MK} {es:List (PV×PV)}:Kc (some (.map h mk es)) g=if g=h then some (mk,es)else none:=nrfl rfl
theorem RP {mk:MK} {z:PV} {id gen:Nat} {k v:PV}:Il st (some (mk,z)) (.mref id gen) k v=(Kc (st.obj id) gen).bind fun q=>if mk=q.1∧BA q.1 k=true then some (st.set id (.map gen q.1 (Ct q.2 k v)))else none:=by
 simp only[Il,Kc]
 cases st.obj id with
 | none=>rfl
 | some o =>
  cases o <;> try rfl
  rename_i g mk' es
  by_cases h:gen=g
  ·subst h;simp
  ·simp [h]
def LR (mk:MK) (z:PV) (k:PV) (ok:Bool) (q:MK×List (PV×PV)):Option PV:=if q.1=mk then (match BP q.2 k with
    | some v=>some (if ok then .tuple [v,.bool true]else v)
    | none=>some (if ok then .tuple [z,.bool false]else z))else none
theorem RR {mk:MK} {z:PV} {id gen:Nat} {k:PV} {ok:Bool}:Cx st (some (mk,z)) (.mref id gen) k ok=if BA mk k=true then (Kc (st.obj id) gen).bind (LR mk z k ok)else none:=by
 simp only[Cx,Kc,Option.bind_some]
 split
 ·cases st.obj id with
  | none=>rfl
  | some o =>
   cases o <;> try rfl
   rename_i g mk' es
   by_cases h:gen=g
   ·subst h
    by_cases hm:mk'=mk
    ·simp [LR,hm];cases BP es k <;> rfl
    ·simp [LR,hm]
   ·simp [h]
 ·rfl
theorem eB {mk:MK} {z k:PV} {es:List (PV×PV)}:LR mk z k true (mk,es)=some (.tuple [(BP es k).getD z,.bool (BP es k).isSome]):=by
 cases h:BP es k <;> simp[LR,h]
theorem eC {mk:MK} {z k:PV} {es:List (PV×PV)}:LR mk z k false (mk,es)=some ((BP es k).getD z):=by
 cases h:BP es k <;> simp[LR,h]
theorem RS {mk:MK} {z k:PV} {ok:Bool}:Cx st (some (mk,z)) .nilm k ok=if BA mk k=true then some (if ok then .tuple [z,.bool false]else z)else none:=nrfl rfl
theorem Nm {q:MK×PV} {id gen:Nat}:EE st (some q) (.mref id gen)=(Kc (st.obj id) gen).bind fun r=>some (.iter st.next 0,st.new (.it (some (id,gen)) r.2.length [])):=by
 simp only[EE,Kc,Option.bind_some]
 cases st.obj id with
 | none=>rfl
 | some o =>
  cases o <;> try rfl
  rename_i g mk' es
  by_cases h:gen=g
  ·subst h;simp
  ·simp [h]
theorem Nn {q:MK×PV}:EE st (some q) .nilm=some (.iter st.next 0,st.new (.it none 0 [])):=nrfl rfl
theorem YL {q:MK×PV} {L:Option Int} {id gen:Nat}:Ye st (some q) L (.mref id gen)=(Kc (st.obj id) gen).bind fun r=>some (r.2.length:Int):=by
 simp only[Ye,GJ,Kc,Option.bind_some]
 cases st.obj id with
 | none=>rfl
 | some o =>
  cases o <;> try rfl
  rename_i g mk' es
  by_cases h:gen=g
  ·subst h;simp
  ·simp [h]
theorem YM {q:MK×PV} {L:Option Int}:Ye st (some q) L .nilm=some 0:=nrfl rfl
theorem YN {k k':IntKind} {n:Int}:BA (.int k) (.int k' n)=decide (k=k'):=nrfl rfl
theorem YO {s:List UInt8}:BA .str (.str s)=true:=nrfl rfl
theorem UP {b:Bool}:BA .bool (.bool b)=true:=nrfl rfl
theorem YP {z id gen s n:Nat} {y:PV}:Qx st z (.ref id gen s n) y=(yD (st.obj id) gen).bind fun q=>if s+n≤q.2.length∧q.1=z∧0<z∧y.isStr=false then (Ca st z y).bind fun ys=>some (min ys.length n,st.set id (.arr gen z (q.2.take s++ys.take (min ys.length n)++q.2.drop (s+min ys.length n))))else none:=nrfl rfl
theorem YQ {i g s n:Nat}:PV.isStr (.ref i g s n)=false:=nrfl rfl
theorem UQ {z:Nat} {l:List PV}:PV.isStr (.lits z l)=false:=nrfl rfl
theorem UR:PV.isStr .nils=false:=nrfl rfl
theorem Pl {t:TypeId} {m k:Operand}:iop X d (.mapEntry t m k) ρ st=DZ st (AS X.P t) (ρ m) (ρ k):=nrfl rfl
theorem LS {t:TypeId} {m s x:Operand}:iop X d (.entryStore t m s x) ρ st=(Fs st (ρ m) (ρ s) (ρ x)).map fun st'=>(.bad,st'):=nrfl rfl
theorem Pm {mk:MK} {z:PV} {id gen:Nat} {k:PV}:DZ st (some (mk,z)) (.mref id gen) k=(Kc (st.obj id) gen).bind fun q=>if q.1=mk∧BA q.1 k=true then some (.tuple [(BP q.2 k).getD z,.int .i64 (MY q.2 k)],st.set id (.map gen q.1 (Ct q.2 k ((BP q.2 k).getD z))))else none:=by
 simp only[DZ,Kc,Option.bind_some]
 cases st.obj id with
 | none=>rfl
 | some o =>
  cases o <;> try rfl
  rename_i g mk' es
  by_cases h:gen=g
  ·subst h;simp
  ·simp [h]
def rB (es:List (PV×PV)) (n:Nat) (x:PV):Option (List (PV×PV)):=(es[n]?).map fun e=>es.set n (e.1,x)
theorem rC {es:List (PV×PV)} {k v x:PV}:rB (Ct es k v) (MY es k) x=some (Ct es k x):=by
 induction es with
 | nil=>rfl
 | cons e es ih =>
  simp only[Ct,MY]
  split
  ·rfl
  ·simp only[rB,List.getElem?_cons_succ,List.set_cons_succ]at ih ⊢
   simp only[Option.map_eq_some_iff]at ih ⊢
   obtain ⟨a,h1,h2⟩:=ih
   exact ⟨a,h1,by rw[h2]⟩
theorem No {id gen:Nat} {ik:IntKind} {n:Int} {x:PV}:Fs st (.mref id gen) (.int ik n) x=(Kc (st.obj id) gen).bind fun q=>if 0≤n then (rB q.2 n.toNat x).map fun es=>st.set id (.map gen q.1 es)else none:=by
 simp only[Fs,Kc]
 cases st.obj id with
 | none=>rfl
 | some o =>
  cases o <;> try rfl
  rename_i g mk' es
  by_cases h:gen=g
  ·subst h
   by_cases hn:0≤n
   ·simp [hn,rB,Option.map_map,Function.comp_def]
   ·simp [hn]
  ·simp [h]
theorem RT {a b:Int}:BA (.ints 2) (.agg [.int .i64 a,.int .i64 b])=decide ((-9223372036854775808≤a∧a≤9223372036854775807)∧(-9223372036854775808≤b∧b≤9223372036854775807)):=by
 simp [BA,H7]
theorem US {id m g n:Nat} {seen:List Nat} {mk:MK} {es:List (PV×PV)} (h1:st.obj id=some (.it (some (m,g)) n seen)) (h2:st.obj m=some (.map g mk es)) {K:PV→Store→Prop} :
  D0 st (.iter id 0) K=(es.length=n∧(seen.length=n→K (.tuple [.bool false]) st)∧(∀i k v,es[i]?=some (k,v)→i ∉ seen→K (.tuple [.bool true,k,v]) (st.set id (.it (some (m,g)) n (seen ++ [i]))))):=by
 simp [D0,h1,h2]
theorem RU {id m g n:Nat} {seen:List Nat} {i:Nat} {mk:MK} {es:List (PV×PV)} {k v:PV} (h1:st.obj id=some (.it (some (m,g)) n (seen ++ [i]))) (h2:st.obj m=some (.map g mk es)) (h3:es.length=n) (h4:es[i]?=some (k,v)) :
  mapEntry st (.iter id 0)=some (.tuple [k,v]):=by
 simp [mapEntry,h1,h2,h3,h4]
end
section
variable {X:Cfg} {N:Nat} {Q:IExit→IState→Prop} {ks:List Kf} {s:IState}
theorem YR {all:Array Oper} {rest:List Oper} {dst:Option Nat} {op:Op} {ty:TypeId} {pos:String} {after:Array Edge} (hn:BK X op=true) :
  ops X N Q all (⟨dst,op,ty,pos,after,none⟩::rest) ks s=Bh X N Q all rest ks dst s (iop X (dst.getD 0) op (Av s.env) s.st):=LF (OI hn)
theorem UT {all:Array Oper} {rest:List Oper} {dst:Option Nat} {op:Op} {ty:TypeId} {pos:String} {after:Array Edge} {j:Nat} {want:Bool} (hn:BK X op=true) :
  ops X N Q all (⟨dst,op,ty,pos,after,some (j,want)⟩::rest) ks s =
   BG (Dk all s.env j) want (Bh X N Q all rest ks dst s (iop X (dst.getD 0) op (Av s.env) s.st)) (Bh X N Q all rest ks dst s (some (.tuple [],s.st))):=NJ (OI hn)
theorem Hd {all:Array Oper} {l:List Oper} {o:Oper} {r:PV×Store}:(∃s',FW N o s r=some s'∧ops X N Q all l ks s')=Bh X N Q all l ks o.dst s (some r):=by
 simp only[FW,Bh]
 cases o.dst with
 | none=>simp
 | some d =>
  by_cases hd:d<N
  ·simp [hd]
  ·simp [hd]
def Kd (p:PV) (l:Nat) (A B:Prop):Prop:=match p with | .func (.yield l') [] []=>if l'=l then B else A | _=>A
theorem F7 {p p':PV} {l:Nat} {A B:Prop} (h:p=p'):Kd p l A B=Kd p' l A B:=by rw[h]
theorem YT {f l:Nat} {a b:List PV} {A B:Prop}:Kd (.func (.func f) a b) l A B=A:=nrfl rfl
theorem IC {l:Nat} {A B:Prop}:Kd (.func (.yield l) [] []) l A B=B:=by simp[Kd]
theorem YU {l:Nat} {H:ES} (hy:X.yl=some (l,H)) {all:Array Oper} {rest:List Oper} {dst:Option Nat} {f:Operand} {as:List Operand} {ts:List TypeId} {ty:TypeId} {pos:String} {after:Array Edge} :
  ops X N Q all (⟨dst,.call ⟨.value f,as.toArray,ts.toArray⟩,ty,pos,after,none⟩::rest) ks s =
   Kd (Av s.env f) l (Bh X N Q all rest ks dst s (Dp X (dst.getD 0) (Av s.env f) (Ox X (dst.getD 0) ts) (evs (Av s.env) as) s.st)) (H (evs (Av s.env) as) s.st fun b st'=>Bh X N Q all rest ks dst s (some (.bool b,st'))):=by
 by_cases h:Av s.env f=.func (.yield l) [] []
 ·rw [h,IC]
  simp only[ops,DM,Dd,Df,if_true,yOf,hy,h]
  simp only[IB]
  have : (fun (b:Bool) (st':Store)=>∃s',FW N ⟨dst,.call ⟨.value f,as.toArray,ts.toArray⟩,ty,pos,after,none⟩ s (.bool b,st')=some s'∧DM X N all rest s' (FY X N Q ks))=fun b st'=>Bh X N Q all rest ks dst s (some (.bool b,st')):=by
   funext b st';exact Hd (o:=⟨dst,.call ⟨.value f,as.toArray,ts.toArray⟩,ty,pos,after,none⟩)
  rw [this]
 ·have hn:yOf X (.call ⟨.value f,as.toArray,ts.toArray⟩) (Av s.env)=none:=by
   simp only[yOf,hy]
   split
   ·rename_i l' hl
    split
    ·rename_i e;subst e;exact absurd hl h
    ·rfl
   ·rfl
  rw [LF hn,Kb]
  have : ∀A B:Prop,Kd (Av s.env f) l A B=A:=fun A B=>by
   unfold Kd
   split
   ·rename_i l' hl
    split
    ·rename_i e;subst e;exact absurd hl h
    ·rfl
   ·rfl
  rw [this]
theorem UU {l:Nat} {H:ES} (hy:X.yl=some (l,H)) {all:Array Oper} {rest:List Oper} {dst:Option Nat} {f:Operand} {as:List Operand} {ts:List TypeId} {ty:TypeId} {pos:String} {after:Array Edge} {j:Nat} {want:Bool} :
  ops X N Q all (⟨dst,.call ⟨.value f,as.toArray,ts.toArray⟩,ty,pos,after,some (j,want)⟩::rest) ks s =
   BG (Dk all s.env j) want (Kd (Av s.env f) l (Bh X N Q all rest ks dst s (Dp X (dst.getD 0) (Av s.env f) (Ox X (dst.getD 0) ts) (evs (Av s.env) as) s.st)) (H (evs (Av s.env) as) s.st fun b st'=>Bh X N Q all rest ks dst s (some (.bool b,st'))))
    (Bh X N Q all rest ks dst s (some (.tuple [],s.st))):=by
 by_cases h:Av s.env f=.func (.yield l) [] []
 ·rw [h,IC]
  have skip:Df all ⟨dst,.call ⟨.value f,as.toArray,ts.toArray⟩,ty,pos,after,some (j,want)⟩ s.env=false→ops X N Q all (⟨dst,.call ⟨.value f,as.toArray,ts.toArray⟩,ty,pos,after,some (j,want)⟩::rest) ks s=∃s',stepG X N all ⟨dst,.call ⟨.value f,as.toArray,ts.toArray⟩,ty,pos,after,some (j,want)⟩ s=some s'∧ops X N Q all rest ks s':=fun hg=>by
   simp only[ops,DM,Dd,hg,Bool.false_eq_true,if_false]
  have out:(∃s',(Option.bind (some (PV.tuple [],s.st)) (FW N ⟨dst,.call ⟨.value f,as.toArray,ts.toArray⟩,ty,pos,after,some (j,want)⟩ s))=some s'∧ops X N Q all rest ks s')=Bh X N Q all rest ks dst s (some (.tuple [],s.st)):=Hd (o:=⟨dst,.call ⟨.value f,as.toArray,ts.toArray⟩,ty,pos,after,some (j,want)⟩)
  cases hg:Dk all s.env j with
  | bool b =>
   by_cases hb:b=want
   ·subst hb
    have h1:ops X N Q all (⟨dst,.call ⟨.value f,as.toArray,ts.toArray⟩,ty,pos,after,some (j,b)⟩::rest) ks s=H (evs (Av s.env) as) s.st fun b' st'=>Bh X N Q all rest ks dst s (some (.bool b',st')):=by
     have e1:Df all ⟨dst,.call ⟨.value f,as.toArray,ts.toArray⟩,ty,pos,after,some (j,b)⟩ s.env=true:=by simp[Df,hg]
     simp only[ops,DM,Dd,e1,if_true,yOf,hy,h]
     simp only[IB]
     have : (fun (b':Bool) (st':Store)=>∃s',FW N ⟨dst,.call ⟨.value f,as.toArray,ts.toArray⟩,ty,pos,after,some (j,b)⟩ s (.bool b',st')=some s'∧DM X N all rest s' (FY X N Q ks))=fun b' st'=>Bh X N Q all rest ks dst s (some (.bool b',st')):=by
      funext b' st';exact Hd (o:=⟨dst,.call ⟨.value f,as.toArray,ts.toArray⟩,ty,pos,after,some (j,b)⟩)
     rw [this]
    rw [h1]
    cases b <;> simp[BG]
   ·rw [skip (by simp[Df,hg,hb])]
    simp only[stepG,Bp,hg,if_neg hb]
    rw [out]
    cases b <;> cases want <;> simp[BG]at hb ⊢
  | tuple t =>
   rw [skip (by simp[Df,hg])]
   cases t with
   | nil =>
    simp only[stepG,Bp,hg]
    rw [out,QV]
   | cons a t=>simp[stepG,Bp,hg,BG]
  | _ =>
   rw [skip (by simp[Df,hg])]
   simp [stepG,Bp,hg,BG]
 ·have hn:yOf X (.call ⟨.value f,as.toArray,ts.toArray⟩) (Av s.env)=none:=by
   simp only[yOf,hy]
   split
   ·rename_i l' hl
    split
    ·rename_i e;subst e;exact absurd hl h
    ·rfl
   ·rfl
  rw [NJ hn,Kb]
  have : ∀A B:Prop,Kd (Av s.env f) l A B=A:=fun A B=>by
   unfold Kd
   split
   ·rename_i l' hl
    split
    ·rename_i e;subst e;exact absurd hl h
    ·rfl
   ·rfl
  rw [this]
theorem YV {all:Array Oper} {rest:List Oper} {dst:Option Nat} {x:Operand} {ty:TypeId} {pos:String} {after:Array Edge} :
  ops X N Q all (⟨dst,.next x false,ty,pos,after,none⟩::rest) ks s=D0 s.st (Av s.env x) fun r st'=>Bh X N Q all rest ks dst s (some (r,st')):=by
 simp only[ops,DM,Dd,Df,if_true,yOf]
 have : (fun (r:PV) (st':Store)=>∃s',FW N ⟨dst,.next x false,ty,pos,after,none⟩ s (r,st')=some s'∧DM X N all rest s' (FY X N Q ks))=fun r st'=>Bh X N Q all rest ks dst s (some (r,st')):=by
  funext r st';exact Hd (o:=⟨dst,.next x false,ty,pos,after,none⟩)
 rw [this]
end
def Pn (p:PV) (op:BinOp) (ok:Bool) (A:Prop) (K:PV→Prop):Prop:=match p with | .lits _ []=>∃p q,Ft op ok true=some p∧Ft op ok false=some q∧K p∧K q | _=>A
theorem YW {op:BinOp} {ok:Bool} {A:Prop} {K:PV→Prop}:Pn .nils op ok A K=A:=nrfl rfl
theorem YX {op:BinOp} {ok:Bool} {A:Prop} {K:PV→Prop} {z:Nat} {x:PV} {l:List PV}:Pn (.lits z (x::l)) op ok A K=A:=nrfl rfl
theorem eD {A:Prop} {K:PV→Prop} {z:Nat}:Pn (.lits z []) .eql true A K=(K (.bool true)∧K (.bool false)):=by simp[Pn,Ft]
theorem YY {A:Prop} {K:PV→Prop} {z:Nat}:Pn (.lits z []) .neq true A K=(K (.bool false)∧K (.bool true)):=by simp[Pn,Ft]
theorem eE {P:Program} {t:TypeId} {z:Nat} {x:PV} {l:List PV}:BE P .eql t (.lits z (x::l)) .nils=if (Ac P t != 0)=true then some (.bool false)else none:=by
 simp [BE,Ft]
theorem yU {P:Program} {t:TypeId} {z:Nat} {x:PV} {l:List PV}:BE P .neq t (.lits z (x::l)) .nils=if (Ac P t != 0)=true then some (.bool true)else none:=by
 simp [BE,Ft]
theorem rD {P:Program} {t:TypeId}:BE P .eql t .nils .nils=if (Ac P t != 0)=true then some (.bool true)else none:=by
 simp [BE,Ft]
theorem rF {P:Program} {t:TypeId}:BE P .neq t .nils .nils=if (Ac P t != 0)=true then some (.bool false)else none:=by
 simp [BE,Ft]
theorem YZ {X:Cfg} {N:Nat} {Q:IExit→IState→Prop} {ks:List Kf} {s:IState} {all:Array Oper} {rest:List Oper} {dst:Option Nat} {op:BinOp} {t u:TypeId} {x:Operand} {ty:TypeId} {pos:String} {after:Array Edge} :
  ops X N Q all (⟨dst,.binOp op t x (.const (.slice none 0 0)) u,ty,pos,after,none⟩::rest) ks s=Pn (Av s.env x) op (Ac X.P t != 0) (Bh X N Q all rest ks dst s (iop X (dst.getD 0) (.binOp op t x (.const (.slice none 0 0)) u) (Av s.env) s.st)) (fun p=>Bh X N Q all rest ks dst s (some (p,s.st))):=by
 have ex:∀r:PV×Store,(∃s',FW N ⟨dst,.binOp op t x (.const (.slice none 0 0)) u,ty,pos,after,none⟩ s r=some s'∧DM X N all rest s' (FY X N Q ks))=Bh X N Q all rest ks dst s (some r):=fun r=>Hd (o:=⟨dst,.binOp op t x (.const (.slice none 0 0)) u,ty,pos,after,none⟩)
 generalize hp:Av s.env x=p
 have rest_:yOf X (.binOp op t x (.const (.slice none 0 0)) u) (Av s.env)=none→ops X N Q all (⟨dst,.binOp op t x (.const (.slice none 0 0)) u,ty,pos,after,none⟩::rest) ks s=Bh X N Q all rest ks dst s (iop X (dst.getD 0) (.binOp op t x (.const (.slice none 0 0)) u) (Av s.env) s.st):=fun h=>LF h
 unfold Pn
 split
 ·simp only[ops,DM,Dd,Df,if_true,yOf]
  rw [if_pos (show KZ (.const (.slice none 0 0))=true from rfl)]
  simp only[hp]
  have := ex
  simp only[ex]
 ·rename_i hne
  apply rest_
  simp only[yOf]
  rw [if_pos (show KZ (.const (.slice none 0 0))=true from rfl)]
  split
  ·rename_i he;exact absurd (hp.symm.trans he) (hne _)
  ·rfl
theorem rG {X:Cfg}:∀a0,BK X (.move a0)=true:=by intros;exact nrfl rfl
theorem Y0 {X:Cfg}:∀a0,BK X (.assign a0)=true:=by intros;exact nrfl rfl
theorem rH {X:Cfg}:∀a0 a1 a2,BK X (.pick a0 a1 a2)=true:=by intros;exact nrfl rfl
theorem eG {X:Cfg}:∀a0,BK X (.alloc a0)=true:=by intros;exact nrfl rfl
theorem yV {X:Cfg}:∀a0 a1,BK X (.box a0 a1)=true:=by intros;exact nrfl rfl
theorem eH {X:Cfg}:∀a0 a1,BK X (.build a0 a1)=true:=by intros;exact nrfl rfl
theorem Np {X:Cfg}:∀a0 a1 a2,BK X (.buildSlice a0 a1 a2)=true:=by intros;exact nrfl rfl
theorem Y2 {X:Cfg}:∀a0 a1 a2 a3,BK X (.insert a0 a1 a2 a3)=true:=by intros;exact nrfl rfl
theorem rI {X:Cfg}:∀a0 a1,BK X (.load a0 a1)=true:=by intros;exact nrfl rfl
theorem eI {X:Cfg}:∀a0 a1 a2,BK X (.store a0 a1 a2)=true:=by intros;exact nrfl rfl
theorem RV {X:Cfg}:∀a0,BK X (.nilCheck a0)=true:=by intros;exact nrfl rfl
theorem eJ {X:Cfg}:∀a0 a1 a2 a3 a4,BK X (.binOp a0 a1 a2 a3 a4) = !KZ a3:=by intros;exact nrfl rfl
theorem eK {t:Nat}:KZ (.tmp t)=false:=nrfl rfl
theorem eM {k:IntKind} {n:Int}:KZ (.const (.int k n))=false:=nrfl rfl
theorem Y3 {b:Bool}:KZ (.const (.bool b))=false:=nrfl rfl
theorem eN {s:ByteArray}:KZ (.const (.string s))=false:=nrfl rfl
theorem eO {a:Option Addr}:KZ (.const (.pointer a))=false:=nrfl rfl
theorem UV:KZ (.const .nilIface)=false:=nrfl rfl
theorem rJ {X:Cfg}:∀a0 a1 a2,BK X (.unOp a0 a1 a2)=true:=by intros;exact nrfl rfl
theorem UW {X:Cfg}:∀a0 a1 a2,BK X (.convert a0 a1 a2)=true:=by intros;exact nrfl rfl
theorem Ke {X:Cfg}:∀a0 a1,BK X (.makeInterface a0 a1)=true:=by intros;exact nrfl rfl
theorem RY {X:Cfg}:∀a0 a1 a2,BK X (.makeFunc a0 a1 a2)=true:=by intros;exact nrfl rfl
theorem UX {X:Cfg}:∀a0 a1,BK X (.makeMap a0 a1)=true:=by intros;exact nrfl rfl
theorem Po {X:Cfg}:∀a0 a1 a2,BK X (.makeSlice a0 a1 a2)=true:=by intros;exact nrfl rfl
theorem eQ {X:Cfg}:∀a0 a1 a2 a3 a4,BK X (.slice a0 a1 a2 a3 a4)=true:=by intros;exact nrfl rfl
theorem Pp {X:Cfg}:∀a0 a1 a2,BK X (.fieldAddr a0 a1 a2)=true:=by intros;exact nrfl rfl
theorem eR {X:Cfg}:∀a0 a1 a2,BK X (.field a0 a1 a2)=true:=by intros;exact nrfl rfl
theorem Pq {X:Cfg}:∀a0 a1 a2,BK X (.indexAddr a0 a1 a2)=true:=by intros;exact nrfl rfl
theorem eS {X:Cfg}:∀a0 a1 a2,BK X (.index a0 a1 a2)=true:=by intros;exact nrfl rfl
theorem Y5 {X:Cfg}:∀a0 a1 a2 a3,BK X (.lookup a0 a1 a2 a3)=true:=by intros;exact nrfl rfl
theorem Pr {X:Cfg}:∀a0 a1 a2 a3,BK X (.mapUpdate a0 a1 a2 a3)=true:=by intros;exact nrfl rfl
theorem RZ {X:Cfg}:∀a0 a1 a2,BK X (.mapEntry a0 a1 a2)=true:=by intros;exact nrfl rfl
theorem Nq {X:Cfg}:∀a0 a1 a2 a3,BK X (.entryStore a0 a1 a2 a3)=true:=by intros;exact nrfl rfl
theorem eU {X:Cfg}:∀a0 a1,BK X (.range a0 a1)=true:=by intros;exact nrfl rfl
theorem eV {X:Cfg}:∀a0,BK X (.entry a0)=true:=by intros;exact nrfl rfl
theorem Nr {X:Cfg}:∀a0 a1 a2 a3,BK X (.typeAssert a0 a1 a2 a3)=true:=by intros;exact nrfl rfl
theorem UY {X:Cfg}:∀a0 a1,BK X (.extract a0 a1)=true:=by intros;exact nrfl rfl
theorem eW {X:Cfg}:∀a0,BK X (.panic a0)=true:=by intros;exact nrfl rfl
theorem eX {X:Cfg} {f:FuncId} {a:Array Operand} {b:Array TypeId}:BK X (.call ⟨.value (.func f),a,b⟩)=true:=nrfl rfl
theorem eY {X:Cfg} {f:Builtin} {a:Array Operand} {b:Array TypeId}:BK X (.call ⟨.builtin f,a,b⟩)=true:=nrfl rfl
theorem eZ {X:Cfg} {r:Operand} {m:String} {a:Array Operand} {b:Array TypeId}:BK X (.call ⟨.invoke r m,a,b⟩)=true:=nrfl rfl
theorem fA {X:Cfg} {t:Nat} {a:Array Operand} {b:Array TypeId}:BK X (.call ⟨.value (.tmp t),a,b⟩)=X.yl.isNone:=nrfl rfl
theorem R3 {α:Type}:(none:Option α).isNone=true:=nrfl rfl
theorem UZ {P:Program} {E:AM} {m f:List Nat} {dp:Nat} {rd:Bool} {l:Nat} {H:ES} {N:Nat} {Q:IExit→IState→Prop} {ks:List Kf} {s:IState} {all:Array Oper} {rest:List Oper} {dst:Option Nat} {t:Nat} {as:List Operand} {ts:List TypeId} {ty:TypeId} {pos:String} {after:Array Edge} :
  ops (cfg P E m f dp (some (l,H)) rd) N Q all (⟨dst,.call ⟨.value (.tmp t),as.toArray,ts.toArray⟩,ty,pos,after,none⟩::rest) ks s =
   Kd (Av s.env (.tmp t)) l (Bh (cfg P E m f dp (some (l,H)) rd) N Q all rest ks dst s (Dp (cfg P E m f dp (some (l,H)) rd) (dst.getD 0) (Av s.env (.tmp t)) (Ox (cfg P E m f dp (some (l,H)) rd) (dst.getD 0) ts) (evs (Av s.env) as) s.st))
    (H (evs (Av s.env) as) s.st fun b st'=>Bh (cfg P E m f dp (some (l,H)) rd) N Q all rest ks dst s (some (.bool b,st'))):=YU rfl
theorem R4 {P:Program} {E:AM} {m f:List Nat} {dp:Nat} {rd:Bool} {l:Nat} {H:ES} {N:Nat} {Q:IExit→IState→Prop} {ks:List Kf} {s:IState} {all:Array Oper} {rest:List Oper} {dst:Option Nat} {t:Nat} {as:List Operand} {ts:List TypeId} {ty:TypeId} {pos:String} {after:Array Edge} {j:Nat} {want:Bool} :
  ops (cfg P E m f dp (some (l,H)) rd) N Q all (⟨dst,.call ⟨.value (.tmp t),as.toArray,ts.toArray⟩,ty,pos,after,some (j,want)⟩::rest) ks s =
   BG (Dk all s.env j) want (Kd (Av s.env (.tmp t)) l (Bh (cfg P E m f dp (some (l,H)) rd) N Q all rest ks dst s (Dp (cfg P E m f dp (some (l,H)) rd) (dst.getD 0) (Av s.env (.tmp t)) (Ox (cfg P E m f dp (some (l,H)) rd) (dst.getD 0) ts) (evs (Av s.env) as) s.st))
    (H (evs (Av s.env) as) s.st fun b st'=>Bh (cfg P E m f dp (some (l,H)) rd) N Q all rest ks dst s (some (.bool b,st'))))
    (Bh (cfg P E m f dp (some (l,H)) rd) N Q all rest ks dst s (some (.tuple [],s.st))):=UU rfl
theorem yW {P:Program} {l:AM} {m f:List Nat} {dp:Nat} {yl:Option (Nat×ES)} {rnd:Bool}:(cfg P l m f dp yl rnd).yl=yl:=nrfl rfl
theorem fB {P:Program} {l:AM} {m f:List Nat} {dp:Nat} {yl:Option (Nat×ES)} {rnd:Bool}:Dy (cfg P l m f dp yl rnd)=cfg P l m f dp yl true:=nrfl rfl
theorem Y6 {X:Cfg} {N:Nat} {Q:IExit→IState→Prop} {i:Nat} {s:IState}:Gq X N Q [] i s=Q (.exit i) s:=nrfl rfl
theorem U0 {i g:Nat}:(PV.mref i g).cells = [.mref i g]:=nrfl rfl
theorem U1 {i g:Nat}:(PV.iter i g).cells = [.iter i g]:=nrfl rfl
theorem R5 {i g:Nat}:(PV.mref i g).isCell=true:=nrfl rfl
theorem R6 {i g:Nat}:(PV.iter i g).isCell=true:=nrfl rfl
theorem Ns {v:PV}:A4 .nilm 0 [v]=v:=nrfl rfl
theorem Nt {i g:Nat} {v:PV}:A4 (.mref i g) 0 [v]=v:=nrfl rfl
theorem U2 {ρ:Nat→PV} {p:Nat} {ps:List Nat} {v:PV} {vs:List PV}:E9 ρ (p::ps) (v::vs)=E9 (upd ρ p v) ps vs:=nrfl rfl
theorem Y7 {ρ:Nat→PV} {vs:List PV}:E9 ρ [] vs=ρ:=nrfl rfl
def Later (st st':Store):Prop:=st.next≤st'.next∧∀x o,x<st.next→st.obj x=some o→(∀r,o≠.lp r)→st'.obj x=some o
theorem Later.refl (st:Store):Later st st:=⟨Nat.le_refl _,fun _ _ _ h _=>h⟩
def Stays (J:Store→Prop):Prop:=∀st st',J st→Later st st'→J st'
theorem Stays.obj {x:Nat} {o:IObj} (h:∀r,o≠.lp r):Stays fun st=>st.obj x=some o∧x<st.next:=fun st st' ⟨h1,h2⟩ hl=>⟨hl.2 x o h2 h1 h,Nat.lt_of_lt_of_le h2 hl.1⟩
theorem Stays.and {J K:Store→Prop} (h:Stays J) (g:Stays K):Stays fun st=>J st∧K st:=fun st st' ⟨a,b⟩ hl=>⟨h st st' a hl,g st st' b hl⟩
theorem Stays.const {P:Prop}:Stays fun _=>P:=fun _ _ h _=>h
theorem Stays.ex {α:Type} {J:α→Store→Prop} (h:∀a,Stays (J a)):Stays fun st=>∃a,J a st:=fun st st' ⟨a,g⟩ hl=>⟨a,h a st st' g hl⟩
def Cf (id:Nat) (rb:Loop) (J1:Store→Prop) (Ex:IExit→Store→Prop):IExit→IState→Prop:=fun e s2 =>
 s2.st.obj id=some (.lp rb)∧id<s2.st.next∧match e with | .normal=>J1 s2.st | e=>Ex e s2.st
def EL (X:Cfg) (N id:Nat) (r:Loop) (J1:Store→Prop) (Ex:IExit→Store→Prop) (body:Code):IExit→IState→Prop:=fun e s1 =>
 e = .normal∧s1.st.obj id=some (.lp r)∧∀rb,run (Dy X) N (Cf id rb J1 Ex) (Bg body) [] ⟨s1.env,s1.st.set id (.lp rb)⟩
theorem B5 {st:Store} {id:Nat} {r r':Loop} (h:st.obj id=some (.lp r)):Later st (st.set id (.lp r')):=by
 refine ⟨Nat.le_refl _,fun x o hx ho hl=>?_⟩
 have hne:x≠id:=fun e=>by subst e;rw[h]at ho;cases ho;exact hl r rfl
 simp [Store.set,Aa,hne,ho]
theorem NT {st:Store} {o:IObj}:Later st (st.new o):=by
 refine ⟨by simp[Store.new],fun x o' hx ho _=>?_⟩
 have : x≠st.next:=by omega
 simp [Store.new,Aa,this,ho]
def Keep (base:Nat) (st st':Store):Prop:=st.next≤st'.next∧∀x,base≤x→x<st.next→(∀r,st.obj x≠some (.lp r))→st'.obj x=st.obj x
theorem Keep.mono {b b':Nat} {st st':Store} (h:Keep b st st') (hb:b≤b'):Keep b' st st':=⟨h.1,fun x hx=>h.2 x (by omega)⟩
def Ps (P:Program) (d:Nat) (f:FuncId) (first captured:List PV) (ys:List (List PV)):Prop :=
 ∃ fn c, P.funcs[f]? = some fn ∧ fn.body = some c ∧ (fn.name == "runtime.NumGoroutine") = false ∧ fn.results.toList = [] ∧ first.length + 1 + captured.length ≤ fn.ntmps ∧
  ∀ (l:Nat) (H:ES) (J:Nat→Store→Prop) (E:Store→Prop) (st:Store) (X:Cfg),X.P=P→X.yl=some (l,H)→X.rnd=false→Bb X→J 0 st →
   (∀ i st st',J i st→st.next≤st'.next→(∀x,x<st.next→st'.obj x=st.obj x)→J i st') →
   (∀ i y st1,ys[i]?=some y→J i st1→H y st1 fun b st'=>if b=true then J (i+1) st'∧Keep st.next st1 st' else E st') →
   gen (d+1) X fn.ntmps c (fun e s=>(e=.normal∨e=.ret)∧(J ys.length s.st∨E s.st)) ⟨Fk (first++.func (.yield l) [] []::captured),st⟩
theorem U3 {P:Program} {l:AM} (hl:Bi P l) (muts frz:List Nat) (dep:Nat) {f:FuncId} {fn:Func} {c:Code} (hf:P.funcs[f]?=some fn) (hb:fn.body=some c)
  (hname : (fn.name == "runtime.NumGoroutine") = false) (hrs : fn.results.toList = []) {first captured : List PV} {N : Nat} (hN : fn.ntmps = N) (hn : first.length + 1 + captured.length ≤ N)
  (hd : ∀y,Bj (cfg P l muts frz dep (some y)) c=true) {ys:List (List PV)}
  (h : ∀(y:Nat) (H:ES) (J:Nat→Store→Prop) (E:Store→Prop) (st:Store),Bb (cfg P l muts frz dep (some (y,H)))→J 0 st →
   (∀ i st st',J i st→st.next≤st'.next→(∀x,x<st.next→st'.obj x=st.obj x)→J i st') →
   (∀ i v st1 (K:Bool→Store→Prop),ys[i]?=some v→J i st1→(∀st',J (i+1) st'→Keep st.next st1 st'→K true st')→(∀st',E st'→K false st')→H v st1 K) →
   run (cfg P l muts frz dep (some (y,H))) N (fun e s=>(e=.normal∨e=.ret)∧(J ys.length s.st∨E s.st)) (Bg c) [] ⟨Fk (first++.func (.yield y) [] []::captured),st⟩) :
  Ps P dep f first captured ys:=by
 subst hN
 refine ⟨fn,c,hf,hb,hname,hrs,hn,fun y H J E st X hP hyl hrnd hm h0 hst hH=>⟨cfg P l muts frz dep (some (y,H)),hP.symm,hyl.symm,hrnd.symm,rfl,Fw hl,Dt hl,?_⟩⟩
 have hm':Bb (cfg P l muts frz dep (some (y,H))):=fun l' H' he=>hm l' H' (by rw[hyl];exact he)
 have := h y H J E st hm' h0 hst (fun i v st K hv hJ ht hf=>hm' y H rfl _ _ _ _ (fun b st' hb=>by
  cases b
  ·exact hf st' (by simpa using hb)
  ·have :=(show _∧_ by simpa using hb);exact ht st' this.1 this.2) (hH i v st hv hJ))
 exact CO hm' (hd _) this
theorem U4 {X:Cfg} {N:Nat} {Q:IExit→IState→Prop} {ks:List Kf} {ρ:Nat→PV} {st:Store} {g:Operand} {ps:Array Tmp} {assign body:Code} {d:Nat} {f:FuncId} {first captured:List PV} {ys:List (List PV)}
  (hr : X.rnd=false) (hd:X.dep=d+1) (hm:Bb X) (hg:Av ρ g=.func (.func f) first captured) (hy:Ps X.P d f first captured ys) (hps:(ps.toList.all fun p=>decide (p<N))=true) (hlen:∀y∈ys,y.length=ps.size)
  (ha : Bj (Dy X) assign=true) (hb:Bj (Dy X) body=true)
  (J : Nat→Store→Prop) (Ex:IExit→Store→Prop) (hJ:∀i,Stays (J i)) (hE:∀e,Stays (Ex e)) (h0:J 0 st)
  (hround : ∀i y st1 id r,ys[i]?=some y→id<st1.next→st1.obj id=some (.lp r)→st.next≤id→J i st1→run (Dy X) N (EL X N id r (fun st'=>J (i+1) st'∧Keep st.next st1 st') Ex body) (Bg assign) [] ⟨E9 ρ ps.toList y,st1⟩)
  (hend : ∀st,J ys.length st→FY X N Q ks ⟨ρ,st⟩) (hex:∀i st,Ex (.exit i) st→Gq X N Q ks i ⟨ρ,st⟩) (hret:∀st,Ex .ret st→done X N Q ks ⟨ρ,st⟩) :
  run X N Q (.rangeFunc g ps assign body) ks ⟨ρ,st⟩:=by
 have hmr:Bb (Dy X):=hm
 simp only[run,wpI,wpC]
 refine ⟨_,.refl _,hr,?_⟩
 rw [hg]
 obtain ⟨fn,c,h1,h2,h3,h4,h5,h6⟩:=hy
 refine ⟨fn,c,h1,h2,h3,h4,h5,hps,fun l r hr1 hr2=>?_⟩
 have hgm:=DE X.dep
 generalize hH:(fun (args:List PV) (st1:Store) (K:Bool→Store→Prop)=>st1.obj st.next=some (IObj.lp r)∧args.length=ps.size ∧
       wpC (gen X.dep) (Dy X) N assign (fun e s1=>e=.normal∧s1.st.obj st.next=some (.lp r) ∧
        wpC (gen X.dep) (Dy X) N body (fun e s2=>s2.st.obj st.next=some (.lp { r with state:=.busy }) ∧
         match e with
         | .normal=>K true (s2.st.set st.next (.lp r))
         | .ret=>K false (s2.st.set st.next (.lp { r with state:=.done,pending:=some .ret }))
         | .exit i=>K false (s2.st.set st.next (.lp { r with state:=.done,pending:=some (.exit i) })))
         ⟨s1.env, s1.st.set st.next (.lp { r with state:=.busy })⟩)
        ⟨E9 ρ ps.toList args,st1⟩)=H
 have hHm:Bb (LB X (l,H)):=by
  intro l' H' he args st K K' hk hh
  simp only[LB,Option.some.injEq,Prod.mk.injEq]at he
  obtain ⟨rfl,rfl⟩:=he
  subst hH
  obtain ⟨g1,g2,g3⟩:=hh
  refine ⟨g1,g2,CB hgm (Dy X) N assign _ _ _ hmr (fun e s1 he=>⟨he.1,he.2.1,CB hgm (Dy X) N body _ _ _ hmr (fun e s2 he2=>⟨he2.1,?_⟩) he.2.2⟩) g3⟩
  cases e with
  | normal=>exact hk _ _ he2.2
  | exit i=>exact hk _ _ he2.2
  | ret=>exact hk _ _ he2.2
 have key:=h6 l H (fun i st1=>st1.obj st.next=some (.lp r)∧st.next<st1.next∧J i st1)
  (fun st1=>(st1.obj st.next=some (.lp { r with state:=.done,pending:=some .ret })∧Ex .ret st1)∨∃i,st1.obj st.next=some (.lp { r with state:=.done,pending:=some (.exit i) })∧Ex (.exit i) st1)
  (st.new (.lp r)) (LB X (l,H)) rfl rfl rfl hHm ⟨by simp[Store.new,Aa],by simp[Store.new],hJ 0 _ _ h0 NT⟩
  (fun i s1 s2 ⟨a1,a2,a3⟩ hn ho=>⟨by rw[ho _ a2];exact a1,by omega,hJ i _ _ a3 ⟨hn,fun x o hx hox _=>by rw[ho x hx];exact hox⟩⟩)
  (fun i y s1 hy' ⟨a1,a2,a3⟩=>by
   subst hH
   refine ⟨a1,hlen y (List.mem_of_getElem? hy'),?_⟩
   have hrn:=EK hgm hmr ha (hround i y s1 st.next r hy' a2 a1 (Nat.le_refl _) a3)
   refine CB hgm (Dy X) N assign _ _ _ hmr (fun e t1 he=>?_) hrn
   obtain ⟨rfl,b2,b3⟩:=he
   refine ⟨rfl,b2,?_⟩
   have hrb:=EK hgm hmr hb (b3 { r with state:=.busy })
   refine CB hgm (Dy X) N body _ _ _ hmr (fun e t2 he=>?_) hrb
   obtain ⟨c1,c2,c3⟩:=he
   refine ⟨c1,?_⟩
   cases e with
   | normal =>
    obtain ⟨c3,c4,c5⟩:=c3
    simp only[if_true]
    refine ⟨⟨by simp[Store.set,Aa],c2,hJ (i+1) _ _ c3 (B5 c1)⟩,c4,fun x hx hlt hlp=>?_⟩
    have hne:x≠st.next:=fun e=>by subst e;exact hlp r a1
    rw [←c5 x (by simp[Store.new]at hx;omega) hlt hlp]
    simp [Store.set,Aa,hne]
   | ret=>simp only[Bool.false_eq_true,if_false];exact .inl ⟨by simp[Store.set,Aa],hE _ _ _ c3 (B5 c1)⟩
   | exit j=>simp only[Bool.false_eq_true,if_false];exact .inr ⟨j,by simp[Store.set,Aa],hE _ _ _ c3 (B5 c1)⟩)
 rw [←hd]at key
 refine DE X.dep _ _ _ _ _ _ hHm (fun e s1 he=>⟨he.1,?_⟩) key
 rcases he.2 with ⟨a1,a2,a3⟩ | ⟨a1,a2⟩ | ⟨i,a1,a2⟩
 ·exact .inl ⟨a1,hend _ (hJ _ _ _ a3 (B5 a1))⟩
 ·exact .inr (.inl ⟨a1,hret _ (hE _ _ _ a2 (B5 a1))⟩)
 ·exact .inr (.inr ⟨i,a1,hex i _ (hE _ _ _ a2 (B5 a1))⟩)
end Sim
