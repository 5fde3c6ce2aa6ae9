/- Lemmas. -/
import Derived.Test.YtdfjimjbdakofaaGreatSimM
set_option linter.all false
open Array renaming getD->bm,replicate->l8,getD_eq_getD_getElem?->fd,getElem?_eq_some_iff->ai,getElem?_append->mi,eq_empty_of_size_eq_zero->mq
open Go renaming stepG.exec->l9,heap_alloc_old->aj
open Go.Calls renaming mono->mj
open Go.Instr renaming yield->lb
open Go.Result renaming andThen->bg
open Go.Sem renaming run_bind->bf,run_pure->c8
open Go.StepsIn renaming trans->ma
open Go.World renaming putObj_heap_other->mf,alloc_heap_new->mg
open List renaming eq_nil_of_length_eq_zero->fo,getElem?_eq_some_iff->ab,nodup_nil->i7,getD->bi,getElem?_eq_none->ia,nodup_cons->l5,all_eq_true->ga,mem_of_getElem?->ac,mem_iff_getElem?->bt,mem_singleton->ku,getElem?_eq_getElem->gl,mem_of_find?_eq_some->mr,mem_cons->li
open Nat renaming lt_or_ge->bh,le_refl->cg,le_trans->mm,eq_zero_or_pos->ao
open Option renaming bind_eq_some_iff->au,some.injEq->bp,map_eq_some_iff->az
open Prod renaming mk.injEq->c9
open Sim.Ctx renaming set->fp,le.refl->fg
open Sim.IXC renaming VRs->mc
open Sim.PV renaming cells->gi,int->mt,str->mw,pur->gj,bool->mz,isCell->m6,nilp->m7,vptr->m9,nils->na,lits->nb,ref->nc,func->nf,nilf->ng,nili->nh,nilm->ni
open Sim.RQ renaming mono->mh
namespace Sim
open Go
section
variable {P:Program} {b:Frame} {a:Act} {k:List Item} {cs:List Frame} {w:World} {Q:Exit->Act->World->Prop} {F:Fence} {n:Nat}
theorem Dl {c:Code}:step P (lone (b.atR a (.code (.scope c)::k)) cs w)=.next (lone (b.atR a (.code c::.inScope c::k)) cs w) :=
 step_lone_go (by simp[Go.stepG,l9,Frame.atR])
theorem OM {c:Code}:step P (lone (b.atR a (.inScope c::k)) cs w)=.next (lone (b.atR a k) cs w) :=
 step_lone_go (by simp[Go.stepG,l9,Frame.atR])
def yT (Q:Exit->Act->World->Prop):Exit->Act->World->Prop
 | .goto _,_,_=>False
 | e,a,w=>Q e a w
theorem UH {c:Code} (h:c.wpIn F n P (yT Q) a w):(Code.scope c).wpIn F n P Q a w:=by
 intro b k cs hro hb hr
 have h0:(lone (b.atR a (.code (.scope c)::k)) cs w).fenced P F:=fenced_calm hb hr rfl
 obtain ⟨e,a₁,w₁,hq,harr⟩:=h b (.inScope c::k) cs hro hb hr
 cases e with
 | normal=>exact⟨.normal,a₁,w₁,hq,.head h0 Dl (ma harr (.one (fenced_calm hb hr rfl) OM))⟩
 | exit id =>
  have hx:exitTo id (.inScope c::k)=exitTo id k:=by simp[exitTo]
  exact ⟨.exit id,a₁,w₁,hq,λk' hk=>.head h0 Dl (harr.1 k' (by rw[hx];exact hk)),
   λhr' hk=>let ⟨k₁,h1,h2⟩:=harr.2 hr' (by rw[hx];exact hk);⟨k₁,h1,.head h0 Dl h2⟩⟩
 | goto l=>exact hq.elim
 | ret=>exact⟨_,a₁,w₁,hq,.of_steps (.one h0 Dl) harr⟩
 | panic ch=>exact⟨_,a₁,w₁,hq,.of_steps (.one h0 Dl) harr⟩
 | outgrown=>exact⟨_,a₁,w₁,hq,.of_steps (.one h0 Dl) harr⟩
end
def VC (P:Program) (f:FuncId) (args:List PV) (r:PV):Prop :=
 DE P f/\∀(imm:Nat->Nat->Option Value) (w:World) (vals:Array Value),(∀b o u,imm b o=some u->w.cell? ⟨b,o,none⟩=some u)->mc (base imm w) vals args ->
  Calls P f vals w λe w'=>∃v,e=.returned v/\(w'.os=w.os/\w'.output=w.output)/\(∀b,b<w.heap.size->w'.heap[b]?=w.heap[b]?)/\w.heap.size<=w'.heap.size/\VR (base (D9 imm w.heap.size w') w') v r
def Hy (P:Program) (s:IState):ResultVar->Option PV
 | .tmp t=>some (s.env t)
 | .cell a t=>(Bv P t).bind λ(z,ag)=>Ds s.st z ag (s.env a)
def DG (P:Program) (s:IState):List ResultVar->Option (List PV)
 | []=>some []
 | r::l=>(Hy P s r).bind λp=>(DG P s l).map λps=>p::ps
def Sn (P:Program) (rs:List ResultVar) (s:IState):Option PV :=
 match DG P s rs with
 | some [p]=>some p
 | some ps=>some (.tuple ps)
 | none=>none
section
variable {X:Cfg} {N:Nat} {C:Ctx} {s:IState} {a:Act} {w:World}
theorem W7 {P:Program} {x:Addr}:(asAddr (.pointer (some x))).run P w=.ok x w:=rfl
theorem yU {P:Program} {st:Store} (hi:Inv C st w) {v:Value} {px q:PV} (hx:VR C v px) {t:TypeId} {z:Nat} {ag:Bool} (ht:Bv P t=some (z,ag)) (hq:Ds st z ag px=some q) :
  ∃ u x,v=.pointer (some x)/\(loadVar t x).run P w=.ok u w/\VR C u q:=by
 have hp:∃cells off,Mn C w v cells off/\CV cells off z ag=some q:=by
  unfold Ds at hq
  split at hq
  .exact ⟨_,_,Gq hi hx,hq⟩
  .rename_i id gen idx off
   simp only[au]at hq
   obtain ⟨⟨z',es⟩,hes,hq⟩:=hq
   have hne:(nth es idx).cells ≠ []:=by
    intro e0
    obtain ⟨_,hpos,rfl,rfl⟩:=Eo ht
    simp only[CV,e0]at hq
    split at hq
    .split at hq
     .rename_i hle;simp at hle;omega
     .cases hq
    .simp at hq
   exact ⟨_,_,Km hi hx hes (RZ hne),hq⟩
  .cases hq
 obtain ⟨cells,off,hp,hq⟩:=hp
 obtain ⟨u,hu,hu'⟩:=Kn hp ht hq
 obtain ⟨b,o,rfl,_⟩:=hp
 exact ⟨u,_,rfl,by simpa [Instr.loadAt,Instr.sureAddr]using hu,hu'⟩
def Kx (tmps:Array Value):ResultVar->Sem Value
 | .tmp t=>pure (tmps.getD t undef)
 | .cell a t=>do loadVar t (<-asAddr (tmps.getD a undef))
theorem W8 (fn:Func) (tmps:Array Value):results fn tmps=(do let vs <-fn.results.mapM (Kx tmps);pure (if h:vs.size=1 then vs[0]else .tuple vs)):=by
 unfold results
 congr 1
theorem ON {P:Program} {fn:Func} (hs:Simul N C s a w) {p:PV} (h:Sn P fn.results.toList s=some p):∃v,(results fn a.tmps).run P w=.ok v w/\VR C v p:=by
 have one:∀(r:ResultVar) (q:PV),Hy P s r=some q->∃v,(Kx a.tmps r).run P w=.ok v w/\VR C v q:=by
  intro r q hr
  have slot:∀t,VR C (a.tmps.getD t undef) (s.env t):=λt=>hs.eval (.tmp t)
  cases r with
  | tmp t=>simp only[Hy,bp]at hr;subst hr;exact⟨_,rfl,slot t⟩
  | cell x t =>
   simp only[Hy,au]at hr
   obtain ⟨⟨z,ag⟩,ht,hq⟩:=hr
   obtain ⟨u,ad,he,hu,hu'⟩:=yU hs.inv (slot x) ht hq
   refine ⟨u,?_,hu'⟩
   simp only[Kx,he,bf,W7,bg,hu]
 have all:∀(l:List ResultVar) (ps:List PV),DG P s l=some ps->∃vs:List Value,(l.mapM (Kx a.tmps)).run P w=.ok vs w /\
   vs.length = ps.length/\∀(i:Nat) (q:PV),ps[i]?=some q->∃v,vs[i]?=some v/\VR C v q:=by
  intro l
  induction l with
  | nil=>intro ps h;simp only[DG,bp]at h;subst h;exact⟨[],rfl,rfl,by intro i q h;simp at h⟩
  | cons r l ih =>
   intro ps h
   simp only[DG,au,az]at h
   obtain ⟨q,hq,ps',hps,rfl⟩:=h
   obtain ⟨v,hv,hv'⟩:=one r q hq
   obtain ⟨vs,hvs,hlen,hget⟩:=ih ps' hps
   refine ⟨v::vs,?_,by simp[hlen],λi q' hi=>?_⟩
   .simp only[List.mapM_cons,bf,hv,bg,hvs,c8]
   .cases i with
    | zero=>simp at hi;subst hi;exact⟨v,rfl,hv'⟩
    | succ i=>simpa using hget i q' (by simpa using hi)
 unfold Sn at h
 have hm:fn.results.mapM (Kx a.tmps)=List.toArray <$> fn.results.toList.mapM (Kx a.tmps):=Array.mapM_eq_mapM_toList ..
 cases hps:DG P s fn.results.toList with
 | none=>rw[hps]at h;cases h
 | some ps =>
  rw [hps]at h
  obtain ⟨vs,hvs,hlen,hget⟩:=all _ ps hps
  have hrun:(results fn a.tmps).run P w=.ok (if h:vs.toArray.size=1 then vs.toArray[0]else .tuple vs.toArray) w:=by
   rw [W8]
   simp only[bf]
   have : (fn.results.mapM (Kx a.tmps)).run P w=.ok vs.toArray w:=by
    rw [hm,Sem.run_map,hvs];rfl
   rw [this]
   simp only[bg,c8]
  refine ⟨_,hrun,?_⟩
  match ps,h,hlen,hget with
  | [q],h,hlen,hget =>
   simp only[bp]at h;subst h
   obtain ⟨v,hv,hv'⟩:=hget 0 q rfl
   match vs,hlen,hv with
   | [v'],_,hv=>simp at hv;subst hv;simpa using hv'
  | [],h,hlen,hget =>
   simp only[bp]at h;subst h
   have : vs = []:=fo (by simpa using hlen)
   subst this
   simpa using VR.tuple (C:=C) #[] [] rfl (by intro i p h;simp at h)
  | q1::q2::qs,h,hlen,hget =>
   simp only[bp]at h;subst h
   rw [dif_neg (by simp at hlen ⊢;omega)]
   refine .tuple _ _ (by simpa using hlen) (λi q hi=>?_)
   obtain ⟨v,hv,hv'⟩:=hget i q hi
   have hlt:i<vs.length:=(ab.1 hv).1
   have e:vs.toArray.getD i undef=v:=by
    have :=(ab.1 hv).2
    simp [bm,hlt,this]
   rw [e];exact hv'
end
theorem NC {N:Nat} {C:Ctx} {st:Store} {w:World} {vals:Array Value} {args:List PV} (hi:Inv C st w) (hv:mc C vals args) (hn:args.length<=N) (hown:∀b,C.caller b=true->C.keep b=true) :
  Simul N C ⟨GX args,st⟩ { tmps:=vals++l8 (N-vals.size) undef,defers := [] } w:=by
 obtain ⟨h1,h2⟩:=hv
 refine ⟨λd hd=>by simp at hd,i7,hown,by simp;omega,λt ht=>?_,λt ht=>?_,hi⟩
 .show VR C _ (args.getD t .bad)
  rcases bh t args.length with h | h
  .have e:args[t]?=some (args.getD t .bad):=by simp[bi,h]
   have := h2 t _ e
   have e2:(vals++l8 (N-vals.size) undef).getD t undef=vals.getD t undef:=by
    simp only[fd]
    rw [Array.getElem?_append_left (by omega)]
   rw [e2];exact this
  .have : args.getD t .bad=.bad:=by simp[bi,ia h]
   rw [this];exact .bad _
 .show args.getD t .bad=.bad
  simp [bi,ia (show args.length<=t by omega)]
def Ao (P:Program) (rs:List ResultVar) (Q:PV->Store->Prop):IExit->IState->Prop
 | .normal,s | .ret,s=>∃p,Sn P rs s=some p/\Q p s.st
 | .exit _,_=>False
theorem I4 {P:Program} {fn:Func} {tmps:Array Value} {R:Ending->World->Prop} {st:Store}:∀(ds:List Deferred) (C:Ctx) (w:World),Inv C st w->(∀d∈ds,∃b,d=⟨.collected b,#[]⟩/\C.keep b=true/\C.caller b=false)->ds.Nodup->(∀b,C.caller b=true->C.keep b=true) ->
  (∀ C' w',C'.imm=C.imm->C'.loc=C.loc->C'.born=C.born->C'.B=C.B->C'.h=C.h->C'.os=C.os->C'.out=C.out->C'.caller=C.caller->(∀b,C.caller b=true->C'.keep b=true)->Inv C' st w'->LeavesIn (FR none) 0 P fn tmps R [] .returning w') ->
  LeavesInM (FR none) 0 P fn tmps R ds .returning w
 | [],C,w,hi,_,_,hown,hfin=>hfin C w rfl rfl rfl rfl rfl rfl rfl rfl hown hi
 | d::ds,C,w,hi,hd,hn,hown,hfin=>by
  obtain ⟨b,rfl,hb,hcb⟩:=hd d (by simp)
  obtain ⟨k1,k2⟩:=hi.keep b hb
  have hn':=l5.1 hn
  refine ⟨by simp,.inl ⟨b,w.putObj b (.deferred none),rfl,run_takeDeferred k2,?_⟩⟩
  refine I4 ds { C with keep:=λx => !(x==b)&&C.keep x } _ (hi.shut hb (λk hk=>mf hk) World.putObj_size rfl rfl) (λd' hd'=>?_) hn'.2 (λx hx=>?_) (λC' w' e1 e2 e3 e4 e5 e6 e7 e8 hk hi'=>hfin C' w' e1 e2 e3 e4 e5 e6 e7 e8 hk hi')
  .obtain ⟨b',rfl,hb',hcb'⟩:=hd d' (by simp[hd'])
   refine ⟨b',rfl,?_,hcb'⟩
   have hne:b'≠b:=λe=>hn'.1 (e▸hd')
   simp [hne,hb']
  .have hne:x≠b:=λe=>by subst e;rw[hcb]at hx;cases hx
   simp [hne,hown x hx]
theorem Inv.lpAt {C0 C:Ctx} {st:Store} {w:World} (hi:Inv C st w) (hle:C0.lek C) {id:Nat} {r:Loop} {L0:Loc} (ho:st.obj id=some (.lp r)) (hb:C0.born id) (hL0:C0.loc id=some L0) :
  C.loc id=some L0/\ObjAt C w L0 (.lp r)/\w.heap[L0.blk]?=some (.loop r):=by
 obtain ⟨hbn,L,hL,hat⟩:=hi.obj id _ ho
 obtain ⟨L1,hL1,hor⟩:=hle.loc id hb L hL
 have h0:L0=L1:=by rw[hL0]at hL1;cases hL1;rfl
 subst h0
 have hg:=hat.1
 have : L=L0:=hor.resolve_right (by omega)
 subst this
 exact ⟨hL,hat,hat.2.2.2.2⟩
section
variable {C:Ctx} {st:Store} {w:World}
theorem Inv.putLp (hi:Inv C st w) {id:Nat} {r:Loop} {L:Loc} (hL:C.loc id=some L) (hb:C.born id) (hat:ObjAt C w L (.lp r)) (r':Loop) :
  C.le (C.set id L)/\Inv (C.set id L) (st.set id (.lp r')) (w.putObj L.blk (.loop r')):=by
 obtain ⟨h1,h2,h3,h4,h5⟩:=hat
 have hlt:id<st.next:=by
  rcases bh id st.next with h | h
  .exact h
  .exact absurd hb (hi.next id h)
 exact hi.put (id:=id) (nx:=st.next) (o:=.lp r') (L':=L) (.inl ⟨L,hL,.inl rfl⟩) (.inr (.inr ⟨L,hL,rfl,by omega⟩))
  (λb hb hne=>mf (hne L hL (by omega))) (by simp) (λhle=>⟨h1,h2,h3,h4,World.putObj_heap_same (ai.1 h5).1⟩) (cg _) hlt
theorem Inv.newKeep (h:Inv C st w) :
  C.le { C with keep:=λx=>x==w.heap.size||C.keep x }/\Inv { C with keep:=λx=>x==w.heap.size||C.keep x } st (w.alloc (.deferred (some []))):=by
 have hold:∀b,b<w.heap.size->(w.alloc (.deferred (some []))).heap[b]?=w.heap[b]?:=λb hb=>aj w _ hb
 have hle:C.le { C with keep:=λx=>x==w.heap.size||C.keep x }:=⟨λ_ _ _ h=>h,λ_ _ _=>rfl,λ_ h=>h,λid _ L' hL=>⟨L',hL,.inl rfl⟩,rfl,rfl,rfl,rfl,λb hb=>by simp[hb],rfl⟩
 refine ⟨hle,?_⟩
 constructor
 .exact h.os
 .exact h.out
 .have := h.hB;simp;omega
 .intro b hb
  have hb':b<C.B:=hb
  rw [hold b (by have:=h.hB;omega)];exact h.old b hb'
 .intro b o v hv
  have h1:=h.imm b o v hv
  rw [cell?_heap (hold b (World.block_lt_of_cell? _ _ h1))];exact h1
 .exact h.next
 .exact h.none_
 .intro id o ho
  obtain ⟨hb,L,hL,hat⟩:=h.obj id o ho
  exact ⟨hb,L,hL,hat.mono hle (λ_ _ h=>h) (λhc=>hold _ (hat.own hc).2.2)⟩
 .exact h.sep
 .intro b hb
  simp only[Bool.or_eq_true,beq_iff_eq]at hb
  rcases hb with rfl | hb
  .exact ⟨h.hB,mg _ _⟩
  .obtain ⟨k1,k2⟩:=h.keep b hb
   exact ⟨k1,by rw[hold b (ai.1 k2).1];exact k2⟩
theorem Inv.newLp (h:Inv C st w) (r:Loop) :
  C.le (C.set st.next ⟨w.heap.size,0,0,1,0⟩)/\Inv (C.set st.next ⟨w.heap.size,0,0,1,0⟩) (st.new (.lp r)) (w.alloc (.loop r)):=by
 refine h.put (id:=st.next) (nx:=st.next+1) (o:=.lp r) (L':=⟨w.heap.size,0,0,1,0⟩) (.inr (h.next _ (cg _))) (.inr (.inl (cg _)))
  (λb hb _=>aj w _ hb) (by simp) (λhle=>⟨rfl,rfl,h.hB,λo=>?_,mg _ _⟩) (by omega) (by omega)
 exact h.immLt (cg _)
end
theorem ND {N:Nat} {C:Ctx}:∀(ps:List Nat) (vs:List PV) (as:List Value) (tmps:Array Value) (ρ:Nat->PV),as.length=vs.length->(∀p∈ps,p<N)->tmps.size=N ->
  (∀ t,t<N->VR C (tmps.getD t undef) (ρ t))->(∀t,N<=t->ρ t=.bad)->(∀i p,vs[i]?=some p->VR C (as.getD i undef) p) ->
  ((ps.zip as).foldl (λtmps (t,a)=>tmps.setIfInBounds t a) tmps).size=N/\(∀t,t<N->VR C (((ps.zip as).foldl (λtmps (t,a)=>tmps.setIfInBounds t a) tmps).getD t undef) (Gw ρ ps vs t))/\∀t,N<=t->Gw ρ ps vs t=.bad
 | [],vs,as,tmps,ρ,hl,hp,hn,ht,ho,hv=>⟨hn,ht,ho⟩
 | p::ps,[],as,tmps,ρ,hl,hp,hn,ht,ho,hv=>by
  have : as = []:=fo (by simpa using hl)
  subst this
  exact ⟨hn,ht,ho⟩
 | p::ps,v::vs,[],tmps,ρ,hl,hp,hn,ht,ho,hv=>by simp at hl
 | p :: ps,v::vs,a::as,tmps,ρ,hl,hp,hn,ht,ho,hv=>by
  have hpN:p<N:=hp p (by simp)
  have := ND ps vs as (tmps.setIfInBounds p a) (upd ρ p v) (by simpa using hl) (λq hq=>hp q (by simp[hq])) (by simpa using hn) (λt h=>?_) (λt h=>?_) (λi q hq=>by simpa using hv (i+1) q (by simpa using hq))
  .simpa [Gw]using this
  .by_cases e:t=p
   .subst e
    have h0:=hv 0 v rfl
    simp only[upd,if_true]
    have : (tmps.setIfInBounds t a).getD t undef=a:=by simp[bm,hn,h]
    rw [this];simpa using h0
   .simp only[upd,e,if_false]
    have : (tmps.setIfInBounds p a).getD t undef=tmps.getD t undef:=by
     simp only[fd,Array.getElem?_setIfInBounds_ne (λx=>e x.symm)]
    rw [this];exact ht t h
  .have : t≠p:=by omega
   simp only[upd,this,if_false];exact ho t h
def So (G:WP):Prop:=∀(X:Cfg) (rd:Option Nat) (C0:Ctx),Fb X->By X->X.P.follows .mixedOrders=true->FJ X C0->(rd=none\/X.rnd=true) ->
 ∀ (N:Nat) (c:Code) (R:IExit->IState->Prop) (C:Ctx) (s:IState) (a:Act) (w:World),C0.lek C->G X N c R s->Simul N C s a w->c.wpIn (FR rd) 0 X.P (RQ N C R) a w
section
abbrev Sp (G:WP) (N:Nat) (c:Code):Prop:=∀(X:Cfg) (rd:Option Nat) (C0:Ctx),Fb X->By X->X.P.follows .mixedOrders=true->FJ X C0->(rd=none\/X.rnd=true) ->
 ∀ (R:IExit->IState->Prop) (C:Ctx) (s:IState) (a:Act) (w:World),C0.lek C->wpC G X N c R s->Simul N C s a w->c.wpIn (FR rd) 0 X.P (RQ N C R) a w
theorem UI {G:WP} {X:Cfg} {C0:Ctx} (hX:Fb X) (hq:By X) (hmix:X.P.follows .mixedOrders=true) (hY:FJ X C0) {N:Nat} {ps:Array Tmp} {assign body:Code}
  (iha : Sp G N assign) (ihb:Sp G N body) {s:IState} {a:Act} {id l:Nat} {C3:Ctx} {L0:Loc} (hC3:C0.lek C3) (hbn:C3.born id) (hL0:C3.loc id=some L0) (hl:L0.blk=l) (hn:a.tmps.size=N)
  (htmp : ∀t,t<N->VR C3 (a.tmps.getD t undef) (s.env t)) (hout:∀t,N<=t->s.env t=.bad) (hps:∀p∈ps.toList,p<N) {r:Loop} (hr:r.state=.ready) (hpn:r.pending=none) (hrt:r.tmps=a.tmps) (hrp:r.params=ps) (hra:r.assign=assign) (hrb:r.body=body) :
  ∀ (args:List PV) (st:Store) (K:Bool->Store->Prop) (C:Ctx) (w:World) (vals:Array Value),C3.lek C->(st.obj id=some (.lp r)/\args.length=ps.size /\
       wpC G (D6 X) N assign (λe s1=>e=.normal/\s1.st.obj id=some (.lp r) /\
        wpC G (D6 X) N body (λe s2=>s2.st.obj id=some (.lp { r with state:=.busy }) /\
         match e with
         | .normal=>K true (s2.st.set id (.lp r))
         | .ret=>K false (s2.st.set id (.lp { r with state:=.done,pending:=some .ret }))
         | .exit i=>K false (s2.st.set id (.lp { r with state:=.done,pending:=some (.exit i) })))
         ⟨s1.env, s1.st.set id (.lp { r with state:=.busy })⟩)
        ⟨Gw s.env ps.toList args,st⟩)->Inv C st w->mc C vals args->(∀b,C.caller b=true->C.keep b=true) ->
   ∃ f tmps assign body,(lb l vals).run X.P w=.ok (.round l f tmps assign body) w/\RoundIn (FR none) 0 X.P l f tmps assign body w (λe w'=>∃b C' st',e=.returned (.bool b)/\C.le C'/\Inv C' st' w'/\K b st'):=by
 intro args st K C w vals hle hH hi hv hown
 obtain ⟨ho,hlen,hwp⟩:=hH
 obtain ⟨hvs,hvp⟩:=hv
 obtain ⟨hLc,hatc,hcell⟩:=hi.lpAt hle ho hbn hL0
 have hbc:C.born id:=hle.born id hbn
 rw [hl]at hcell
 refine ⟨r.fn,_,r.assign,r.body,run_yield hcell (by rw[hrp,hvs,hlen]),?_⟩
 refine roundIn_of_wpIn trivial ?_
 have hfold:(r.params.zip vals).foldl (λtmps (t,a)=>tmps.setIfInBounds t a) r.tmps=(ps.toList.zip vals.toList).foldl (λtmps (t,a)=>tmps.setIfInBounds t a) a.tmps:=by
  rw [hrp,hrt,<-Array.foldl_toList,Array.toList_zip]
 obtain ⟨g1,g2,g3⟩:=ND (N:=N) (C:=C) ps.toList args vals.toList a.tmps s.env (by simp[hvs]) hps hn (λt ht=>(htmp t ht).lek hle) hout (λi p hp=>by
  have := hvp i p hp
  simpa [fd]using this)
 rw [hfold,hra,hrb]
 have hs1:Simul N C ⟨Gw s.env ps.toList args,st⟩ { tmps:=(ps.toList.zip vals.toList).foldl (λtmps (t,a)=>tmps.setIfInBounds t a) a.tmps,defers := [] } w :=
  ⟨λd hd=>by simp at hd,i7,hown,g1,g2,g3,hi⟩
 refine wpIn_mono (iha (D6 X) (some l) C0 hX hq hmix hY (.inr rfl) _ C _ _ w (hC3.trans hle) hwp hs1) λe a1 w1 hr1=>?_
 obtain ⟨e',C',s1,k1,k2,k3,rfl,k4,k5⟩:=hr1
 cases e <;> first | (exact k1.elim) | skip
 obtain ⟨hL1,hat1,hcell1⟩:=k3.inv.lpAt (hle.trans k2.lek) k4 hbn hL0
 rw [hl]at hcell1
 obtain ⟨p1,p2⟩:=k3.inv.putLp hL1 (k2.born id hbc) hat1 { r with state:=.busy }
 rw [hl]at p2
 refine ⟨_,run_beginRound hcell1 hr,?_⟩
 have hs2:Simul N (C'.set id L0) ⟨s1.env,s1.st.set id (.lp { r with state:=.busy })⟩ a1 (w1.putObj l (.loop { r with state:=.busy })) :=
  ⟨k3.defersMono p1,k3.nodup,k3.ownMono p1,k3.size,λt ht=>(k3.tmp t ht).mono p1,k3.out,p2⟩
 refine wpIn_mono (ihb (D6 X) (some l) C0 hX hq hmix hY (.inr rfl) _ _ _ a1 _ ((hC3.trans hle).trans (k2.trans p1).lek) k5 hs2) λe a2 w2 hr2=>?_
 obtain ⟨e',C2,s2,m1,m2,m3,m4,m5⟩:=hr2
 obtain ⟨hL2,hat2,hcell2⟩:=m3.inv.lpAt ((hle.trans k2.lek).trans (p1.trans m2).lek) m4 hbn hL0
 have hb2:C2.born id:=m2.born id (p1.born id (k2.born id hbc))
 have hcl:C.le C2:=(k2.trans p1).trans m2
 have fin:∀(jump:Option Code) (r':Loop),r'={ r with state:=if jump.isNone then .ready else .done,pending:=jump }->K jump.isNone (s2.st.set id (.lp r')) ->
   ∃ v w',(Instr.endRound l jump).run X.P w2=.ok v w'/\∃b C' st',(Ending.returned v)=.returned (.bool b)/\C.le C'/\Inv C' st' w'/\K b st':=by
  intro jump r' hr' hk
  obtain ⟨q1,q2⟩:=m3.inv.putLp hL2 hb2 hat2 r'
  refine ⟨.bool jump.isNone,_,run_endRound jump (r:={ r with state:=.busy }) (by rw[hl]at hcell2;exact hcell2),_,_,_,rfl,hcl.trans q1,?_,hk⟩
  rw [hl,hr']at q2;exact hr'▸q2
 cases e <;> cases e' <;> first | (exact m1.elim) | skip
 .exact fin none r (by cases r;simp at hr hpn;subst hr hpn;rfl) m5
 .subst m1;exact fin (some (.exit _)) _ rfl m5
 .exact fin (some .ret) _ rfl m5
theorem UJ {G:WP} (hG:So G) {X:Cfg} {rd:Option Nat} {C0:Ctx} (hX:Fb X) (hq:By X) (hmix:X.P.follows .mixedOrders=true) (hY:FJ X C0) (hrd:rd=none\/X.rnd=true) {N:Nat} {g:Operand} {ps:Array Tmp} {assign body:Code}
  (iha : Sp G N assign) (ihb:Sp G N body) {R:IExit->IState->Prop} {C:Ctx} {s:IState} {a:Act} {w:World} (hC:C0.lek C) (h:wpC G X N (.rangeFunc g ps assign body) R s) (hs:Simul N C s a w) :
  (Code.rangeFunc g ps assign body).wpIn (FR rd) 0 X.P (RQ N C R) a w:=by
 simp only[wpC]at h
 obtain ⟨s,hgh,hrnd,h⟩:=h
 obtain ⟨C,hle0,hs⟩:=hgh.sound hs
 refine wpIn_mono ?_ (λe a' w' hq'=>mh hle0 (λ_ _ x=>x) hq')
 have hC:=hC.trans hle0.lek
 have hrd':rd=none:=hrd.resolve_right (by simp[hrnd])
 subst hrd'
 split at h
 case h_2=>exact h.elim
 rename_i f first captured hg
 obtain ⟨fn,c,hf,hb,hname,hres,hlen,hps,h⟩:=h
 have hps':∀p∈ps.toList,p<N:=λp hp=>by simpa using ga.1 hps p hp
 refine wpIn_rangeFunc λfn0 _=>?_
 have hvg:=hs.eval g
 rw [hg]at hvg
 obtain ⟨vf,vc,hev,hvf1,hvf2,hvc1,hvc2⟩:∃vf vc:Array Value,a.eval g=.func (.func f) vf vc/\vf.size=first.length/\(∀(i:Nat) (p:PV),first[i]?=some p->VR C (vf.getD i undef) p) /\
   vc.size = captured.length/\(∀(i:Nat) (p:PV),captured[i]?=some p->VR C (vc.getD i undef) p):=by
  generalize a.eval g=v at hvg
  cases hvg with
  | func fn f1 c1 pf pc h1 h2 h3 h4=>exact⟨f1,c1,rfl,h1,h3,h2,h4⟩
 -- the record
 let b:=w.heap.size
 let r:Loop:={ state:=.ready,pending:=none,fn:=fn0,tmps:=a.tmps,params:=ps,assign:=assign,body:=body,defers:=b }
 let w1:=(w.alloc (.deferred (some []))).alloc (.loop r)
 let vals:Array Value:=vf ++ #[.func (.yield (b+1)) #[] #[]]++vc
 have hen:DE X.P f:=⟨fn,hf,by simp[hb],hname⟩
 refine ⟨b+1,[⟨.collected b,#[]⟩],w1,⟨.fn (.func f) vc,vf ++ #[.func (.yield (b+1)) #[] #[]]⟩,w1,f,vals,w1,run_enterLoop_outer ..,?_,λ_ _=>trivial,?_,λhd=>by simp[FR,Fence.wide]at hd,?_⟩
 .simp [resolve,rangeCall,hev,Deferred.ofValue,c8]
  rfl
 .exact Fk hen
 -- the context
 obtain ⟨c1,i1⟩:=hs.inv.newKeep
 obtain ⟨c2,i2⟩:=i1.newLp r
 have hsz1:(w.alloc (.deferred (some []))).heap.size=b+1:=by simp[b]
 rw [hsz1]at c2 i2
 let L0:Loc:=⟨b+1,0,0,1,0⟩
 let C2:Ctx:=({ C with keep:=λx=>x==w.heap.size||C.keep x }:Ctx).set s.st.next L0
 have c12:C.le C2:=c1.trans c2
 let C3:Ctx:={ C2 with keep:=C2.keep,caller:=C2.keep }
 have i3:Inv C3 (s.st.new (.lp r)) w1:=i2.same C2.keep C2.keep (λ_ h=>h)
 have hC3:C0.lek C3:=hC.trans ⟨c12.imm,c12.old,c12.born,c12.loc,c12.B,c12.h,c12.os,c12.out,c12.keep,rfl⟩
 have c13:∀ {v:Value} {p:PV},VR C v p->VR C3 v p:=λhv=>VR.same (C:=C2) (C':=C3) rfl rfl rfl (hv.mono c12)
 have hbn:C3.born s.st.next:=.inl rfl
 have hL0:C3.loc s.st.next=some L0:=by simp[C3,C2,fp]
 have hv3:mc C3 vals (first++.func (.yield (b+1)) [] []::captured):=by
  refine ⟨by simp[vals,hvf1,hvc1];omega,λi p hp=>?_⟩
  rw [List.getElem?_append]at hp
  split at hp
  .rename_i hlt
   have e:vals.getD i undef=vf.getD i undef:=by
    have hi':i<vf.size:=by omega
    simp [vals,fd,mi,hi',show i<vf.size+1 by omega,Array.getElem_push_lt hi']
   rw [e];exact c13 (hvf2 i p hp)
  .rename_i hlt
   rcases Nat.eq_or_lt_of_le (Nat.le_of_not_lt hlt)with he | he
   .have e:vals.getD i undef=.func (.yield (b+1)) #[] #[]:=by
     have hi':i=vf.size:=by omega
     subst hi'
     simp [vals,fd,mi]
    have hp':p=.func (.yield (b+1)) [] []:=by
     rw [<-he]at hp;simpa using hp.symm
    rw [e,hp']
    exact .func _ _ _ _ _ rfl rfl (by intro i p h;simp at h) (by intro i p h;simp at h)
   .have e:vals.getD i undef=vc.getD (i-first.length-1) undef:=by
     simp [vals,fd,mi,hvf1,show ¬i<first.length+1 by omega,show i-(first.length+1)=i-first.length-1 by omega]
    have hp':captured[i-first.length-1]?=some p:=by
     have : i-first.length=(i-first.length-1)+1:=by omega
     rw [this]at hp;simpa using hp
    rw [e];exact c13 (hvc2 _ p hp')
 have hgen:=h (b+1) r rfl rfl
 have hs3:=NC (N:=fn.ntmps) i3 hv3 (by simp;omega) (λ_ h=>h)
 have hY3:∀(H:GI),(∀(args:List PV) (st:Store) (K:Bool->Store->Prop) (C:Ctx) (w:World) (vals:Array Value),C3.lek C->H args st K->Inv C st w->mc C vals args->(∀b,C.caller b=true->C.keep b=true) ->
   ∃ f tmps assign body,(lb (b+1) vals).run X.P w=.ok (.round (b+1) f tmps assign body) w/\RoundIn (FR none) 0 X.P (b+1) f tmps assign body w (λe w'=>∃b C' st',e=.returned (.bool b)/\C.le C'/\Inv C' st' w'/\K b st'))->FJ (OC X (b+1,H)) C3:=by
  intro H hH l' H' he
  simp only[OC,bp,c9]at he
  obtain ⟨rfl,rfl⟩:=he
  exact hH
 have hwalk:=hG (OC X (b+1,_)) none C3 hX hq hmix (hY3 _ (UI hX hq hmix hY iha ihb hC3 hbn hL0 rfl hs.size (λt ht=>c13 (hs.tmp t ht)) hs.out hps' (r:=r) rfl rfl rfl rfl rfl rfl)) (.inl rfl) _ c _ C3 _ _ w1 (fg C3).lek hgen hs3
 refine callsIn_of_wp_marks hf hb trivial (wpIn_mono hwalk λe a' w' hr=>?_)
 obtain ⟨e',C',s',h1,h2,h3,h4,h5⟩:=hr
 have fin:LeavesInM (FR none) 0 X.P fn a'.tmps (rangePost (FR none) 0 X.P (b+1) (RQ N C R) { a with defers := [⟨.collected b,#[]⟩]++a.defers }) a'.defers .returning w':=by
  refine I4 a'.defers C' w' h3.inv h3.defers h3.nodup h3.own λC4 w4 e1 e2 e3 e4 e5 e6 e7 e8 hk hi4=>?_
  have hs4:Simul fn.ntmps C4 s' { tmps:=a'.tmps,defers := [] } w4:=⟨λd hd=>by simp at hd,i7,λb hb=>hk b (by rw[<-e8];exact hb),h3.size,λt ht=>(h3.tmp t ht).same e1 e2 e3,h3.out,hi4⟩
  obtain ⟨v,hv,_⟩:=ON (P:=X.P) (fn:=fn) hs4 (p:=.tuple []) (by simp[Sn,DG,hres])
  refine ⟨v,hv,?_⟩
  have hck:∀b,C2.keep b=true->C4.keep b=true:=λb hb=>hk b (by rw[h2.caller];exact hb)
  let C5:Ctx:={ C4 with keep:=C2.keep,caller:=C.caller }
  have i5:Inv C5 s'.st w4:=hi4.same C2.keep C.caller hck
  have c25:C2.le C5:=⟨λb o u hu=>by show C4.imm b o=_;rw[e1];exact h2.imm b o u hu,λb o hb=>by show C4.imm b o=_;rw[e1];exact h2.old b o hb,λid hb=>by show C4.born id;rw[e3];exact h2.born id hb,
   λid hb L' hL=>h2.loc id hb L' (by rw[<-e2];exact hL),e4.trans h2.B,e5.trans h2.h,e6.trans h2.os,e7.trans h2.out,λ_ h=>h,rfl⟩
  have end_:∀(r':Loop) (e:IExit),s'.st.obj s.st.next=some (.lp r')->r'.state≠.busy->R e ⟨s.env,s'.st.set s.st.next (.lp { r' with state:=.exhausted })⟩ ->
    (match r'.pending,e with | none,.normal=>True | some .ret,.ret=>True | some (.exit i),.exit j=>i=j | _,_=>False) ->
    rangePost (FR none) 0 X.P (b+1) (RQ N C R) { a with defers := [⟨.collected b,#[]⟩]++a.defers } (.returned v) w4:=by
   intro r' e ho hst hR hm
   obtain ⟨hL5,hat5,hcell5⟩:=i5.lpAt (C0:=C2) c25.lek ho (.inl rfl) (L0:=L0) (by simp[C2,fp])
   obtain ⟨q1,q2⟩:=i5.putLp hL5 (c25.born _ (.inl rfl)) hat5 { r' with state:=.exhausted }
   have cle:C.le (C5.set s.st.next L0):=(c12.trans c25).trans q1
   have hkb:(C5.set s.st.next L0).keep b=true:=by simp[C5,C2,fp,b]
   have hnb:C.keep b≠true:=λhb=>by
    have :=(hs.inv.keep b hb).2
    simp [b]at this
   have hcb:(C5.set s.st.next L0).caller b=false:=by
    show C.caller b=false
    cases hc:C.caller b with
    | false=>rfl
    | true=>exact absurd (hs.own b hc) hnb
   have hsim:Simul N (C5.set s.st.next L0) ⟨s.env,s'.st.set s.st.next (.lp { r' with state:=.exhausted })⟩ { a with defers := [⟨.collected b,#[]⟩]++a.defers } (w4.putObj (b+1) (.loop { r' with state:=.exhausted })):=by
    refine ⟨λd hd=>?_,?_,hs.ownMono cle,hs.size,λt ht=>(hs.tmp t ht).mono cle,hs.out,q2⟩
    .rcases List.mem_append.1 hd with hd | hd
     .simp at hd;exact⟨b,hd,hkb,hcb⟩
     .exact hs.defersMono cle d hd
    .refine l5.2 ⟨λhm=>?_,hs.nodup⟩
     obtain ⟨b',hb',hk',_⟩:=hs.defers _ hm
     simp at hb'
     exact hnb (hb'▸hk')
   refine ⟨_,_,run_endLoop hcell5 hst,?_⟩
   split
   .rename_i hj
    rw [hj]at hm
    cases e <;> first | (exact hm.elim) | skip
    exact ⟨.normal,_,_,trivial,cle,hsim,hR⟩
   .rename_i cj hj
    rw [hj]at hm
    cases cj <;> cases e <;> first | (exact hm.elim) | skip
    .exact wpIn_exit ⟨.exit _,_,_,hm,cle,hsim,hR⟩
    .exact wpIn_ret ⟨.ret,_,_,trivial,cle,hsim,hR⟩
  rcases h5 with ⟨o1,o2⟩ | ⟨o1,o2⟩ | ⟨i,o1,o2⟩
  .exact end_ r .normal o1 (by simp[r]) o2 trivial
  .exact end_ _ .ret o1 (by simp) o2 trivial
  .exact end_ _ (.exit i) o1 (by simp) o2 rfl
 cases e <;> cases e' <;> first | (exact h1.elim) | skip
 .exact fin
 .simp at h4
 .exact fin
end
theorem Q7 {G:WP} (hG:So G):So (wpC G):=by
 intro X rd C0 hX hq hmix hY hrd N c
 induction c generalizing X rd C0 with
 | skip=>intro R C s a w hC h hs;exact wpIn_skip ⟨.normal,C,s,trivial,fg C,hs,h⟩
 | region id all draw =>
  intro R C s a w hC h hs
  rcases h with ⟨hdr,hrun⟩ | ⟨rfl,t,ht,hrun⟩
  case inr =>
   refine wpIn_region_any hmix ?_
   exact UG hX hq hY ht hrun ⟨hs.defers,hs.nodup,hs.own,hs.size,hs.tmp,hs.out,hs.inv.heap rfl⟩ hC λC' s' a' w' hle hs' hR=>⟨.normal,C',s',trivial,hle,hs',hR⟩
  cases draw with
  | false =>
   refine wpIn_region_list (OJ hX hY _ _ C _ _ _ hrun hs hC λC' s' a' w' hle hs' hR=>⟨.normal,C',s',trivial,hle,hs',hR⟩)
  | true =>
   have hd:=hdr rfl
   refine wpIn_region_any hmix ?_
   refine W5 hX hq hY hd all.size (List.range all.size) _ C s a _ (λj y hy hl=>by simp[bm]at hl) (by simp) (by simpa using List.pairwise_lt_range) (λi=>?_) (by simp) (K:=R .normal) ?_ ⟨hs.defers,hs.nodup,hs.own,hs.size,hs.tmp,hs.out,hs.inv.heap rfl⟩ hC
    λC' s' a' w' hle hs' hR=>⟨.normal,C',s',trivial,hle,hs',hR⟩
   .by_cases hlt:i<all.size <;> simp[hlt,bm]
   .rw [List.range_eq_range',<-Array.length_toList,OL all.toList 0 s (by simp)];exact hrun
 | seq x y ihx ihy =>
  intro R C s a w hC h hs
  refine wpIn_seq (wpIn_mono (ihx X rd C0 hX hq hmix hY hrd _ C s a w hC h hs) λe a' w' hq'=>?_)
  obtain ⟨e',C',s1,h1,h2,h3,h4⟩:=hq'
  cases e <;> cases e' <;> first | (exact h1.elim) | skip
  .exact wpIn_mono (ihy X rd C0 hX hq hmix hY hrd R C' s1 a' w' (hC.trans h2.lek) h4 h3) λe a w h=>mh h2 (λ_ _ x=>x) h
  .exact ⟨.exit _,C',s1,h1,h2,h3,h4⟩
  .exact ⟨.ret,C',s1,trivial,h2,h3,h4⟩
 | cond c x y ihx ihy =>
  intro R C s a w hC h hs
  simp only[wpC]at h
  split at h
  .rename_i v hv
   have := hs.eval c
   rw [hv]at this
   refine wpIn_cond (t:=v) (Du this) ?_
   cases v
   .exact ihy X rd C0 hX hq hmix hY hrd R C s a w hC (h.2 rfl) hs
   .exact ihx X rd C0 hX hq hmix hY hrd R C s a w hC (h.1 rfl) hs
  .exact h.elim
 | block id c ih =>
  intro R C s a w hC h hs
  refine wpIn_block (wpIn_mono (ih X rd C0 hX hq hmix hY hrd _ C s a w hC h hs) λe a' w' hq'=>?_)
  obtain ⟨e',C',s1,h1,h2,h3,h4⟩:=hq'
  cases e <;> cases e' <;> first | (exact h1.elim) | skip
  .exact ⟨.normal,C',s1,trivial,h2,h3,h4⟩
  .rename_i i j
   subst h1
   simp only[Exit.inBlock]
   split
   .rename_i hi
    simp only[hi,if_true]at h4
    exact ⟨.normal,C',s1,trivial,h2,h3,h4⟩
   .rename_i hi
    simp only[hi,if_false]at h4
    exact ⟨.exit i,C',s1,rfl,h2,h3,h4⟩
  .exact ⟨.ret,C',s1,trivial,h2,h3,h4⟩
 | loop c ih =>
  intro R C s a w hC h hs
  obtain ⟨J,n0,⟨s0,hgh,hJ⟩,hround⟩:=h
  -- the measure of a machine's state: of any ideal state that it stands for, met on the way
  intro b k cs hro hb hr
  have key:∀n C s a w,C0.lek C->J n s->Simul N C s a w->∃e a' w',RQ N C R e a' w'/\ArrivesIn (Machine.fenced X.P (FR rd)) X.P (lone (b.atR a (.code c::.inLoop c::k)) cs w) b k cs e a' w':=by
   intro n
   induction n using Nat.strongRecOn with
   | _ n ihn =>
    intro C s a w hC hJ hs
    obtain ⟨e,a₁,w₁,hq',harr⟩:=ih X rd C0 hX hq hmix hY hrd _ C s a w hC (hround n s hJ) hs b (.inLoop c::k) cs hro hb hr
    obtain ⟨e',C',s1,h1,h2,h3,h4⟩:=hq'
    cases e <;> cases e' <;> first | (exact h1.elim) | skip
    .obtain ⟨m',hlt,s3,hgh3,hJ1⟩:=h4
     obtain ⟨C3,hle3,hs3⟩:=hgh3.sound h3
     obtain ⟨e₂,a₂,w₂,hq₂,harr₂⟩:=ihn m' hlt C3 s3 a₁ w₁ ((hC.trans h2.lek).trans hle3.lek) hJ1 hs3
     exact ⟨e₂,a₂,w₂,mh (h2.trans hle3) (λ_ _ x=>x) hq₂,.of_steps (ma harr (.one (fenced_calm hb hr rfl) stepR_inLoop)) harr₂⟩
    .exact ⟨_,a₁,w₁,⟨.exit _,C',s1,h1,h2,h3,h4⟩,.pass (x:=.inLoop c) rfl (λ_ _=>.inl (by simp)) harr⟩
    .exact ⟨_,a₁,w₁,⟨.ret,C',s1,trivial,h2,h3,h4⟩,.pass (x:=.inLoop c) rfl (λ_ _=>.inl (by simp)) harr⟩
  obtain ⟨C9,hle0,hs0⟩:=hgh.sound hs
  obtain ⟨e,a',w',hq',harr⟩:=key _ C9 s0 a w (hC.trans hle0.lek) hJ hs0
  exact ⟨e,a',w',mh hle0 (λ_ _ x=>x) hq',.of_steps (.one (fenced_calm hb hr rfl) stepR_loop) harr⟩
 | exit id=>intro R C s a w hC h hs;exact wpIn_exit ⟨.exit id,C,s,rfl,fg C,hs,h⟩
 | ret=>intro R C s a w hC h hs;exact wpIn_ret ⟨.ret,C,s,trivial,fg C,hs,h⟩
 | rangeFunc g ps assign body iha ihb =>
  intro R C s a w hC h hs
  exact UJ hG hX hq hmix hY hrd (λX rd C0 hX hq hmix hY hrd R C s a w=>iha X rd C0 hX hq hmix hY hrd R C s a w) (λX rd C0 hX hq hmix hY hrd R C s a w=>ihb X rd C0 hX hq hmix hY hrd R C s a w) hC h hs
 | scope c ih =>
  intro R C s a w hC h hs
  refine UH (wpIn_mono (ih X rd C0 hX hq hmix hY hrd _ C s a w hC h hs) λe a' w' hq'=>?_)
  obtain ⟨e',C',s1,h1,h2,h3,h4⟩:=hq'
  cases e <;> cases e' <;> first | (exact h1.elim) | skip
  .exact ⟨.normal,C',s1,trivial,h2,h3,h4⟩
  .exact ⟨.exit _,C',s1,h1,h2,h3,h4⟩
  .exact ⟨.ret,C',s1,trivial,h2,h3,h4⟩
 | label l=>intro R C s a w hC h hs;exact wpIn_label ⟨.normal,C,s,trivial,fg C,hs,h⟩
 | goto=>intro R C s a w hC h hs;exact h.elim
 | refuse=>intro R C s a w hC h hs;exact h.elim
theorem Q8:∀d,So (gen d)
 | 0=>λ_ _ _ _ _ _ _ _ _ _ _ _ _ _ _ _ h _=>h.elim
 | d+1=>λX rd C0 hX hq hmix hY hrd N c R C s a w hC ⟨X',h1,h2,h3,h4,h5,h6,h⟩ hs=>by
  have := Q7 (Q8 d) X' rd C0 h5 h6 (h1▸hmix) (λl H hl=>h1▸hY l H (h2▸hl)) (by rw[h3];exact hrd) N c R C s a w hC h hs
  rw [h1]at this;exact this
theorem Hz {X:Cfg} (hyl:X.yl=none) (hX:Fb X) (hq:By X) (hmix:X.P.follows .mixedOrders=true) {f:FuncId} {fn:Func} {c:Code} (hf:X.P.funcs[f]?=some fn) (hb:fn.body=some c)
  (hname : (fn.name == "runtime.NumGoroutine") = false) {args : List PV} (hn : args.length ≤ fn.ntmps) {st : Store} {s0 : IState} (hg : Ghost ⟨GX args, st⟩ s0) {Q : PV → Store → Prop}
  (h : run X fn.ntmps (Ao X.P fn.results.toList Q) c [] s0):IXC X.P f args st Q:=by
 refine ⟨⟨fn,hf,by simp[hb],hname⟩,λC w vals hi hv=>?_⟩
 have hi1:Inv { C with keep:=C.keep,caller:=C.keep } st w:=hi.same C.keep C.keep (λ_ h=>h)
 have hv1:mc { C with keep:=C.keep,caller:=C.keep } vals args:=⟨hv.1,λi p hp=>VR.same (C:=C) (C':={ C with keep:=C.keep,caller:=C.keep }) rfl rfl rfl (hv.2 i p hp)⟩
 obtain ⟨C0,hle0,hs0⟩:=hg.sound (NC hi1 hv1 hn (λ_ h=>h))
 refine (callsIn_FR (rd:=none) (n:=0)).1 (callsIn_of_wp_marks hf hb trivial (wpIn_mono (Q7 (Q8 X.dep) X none C0 hX hq hmix (UE hyl) (.inl rfl) _ c _ C0 _ _ w (fg C0).lek h hs0) λe a w' hr=>?_))
 obtain ⟨e',C',s',h1,h2,h3,h4⟩:=hr
 replace h2:=hle0.trans h2
 have fin:(∃p,Sn X.P fn.results.toList s'=some p/\Q p s'.st)->LeavesInM (FR none) 0 X.P fn a.tmps (λe w'=>∃v C' r st',e=.returned v/\C.le C'/\Inv C' st' w'/\VR C' v r/\Q r st') a.defers .returning w':=by
  rintro ⟨p,hp,hQ⟩
  refine I4 a.defers C' w' h3.inv h3.defers h3.nodup h3.own λC2 w2 e1 e2 e3 e4 e5 e6 e7 e8 hk hi2=>?_
  have hs2:Simul fn.ntmps C2 s' { tmps:=a.tmps,defers := [] } w2:=⟨λd hd=>by simp at hd,i7,λb hb=>hk b (by rw[<-e8];exact hb),h3.size,λt ht=>(h3.tmp t ht).same e1 e2 e3,h3.out,hi2⟩
  obtain ⟨v,hv,hv'⟩:=ON hs2 hp
  have hck:∀b,C.keep b=true->C2.keep b=true:=λb hb=>hk b (by rw[h2.caller];exact hb)
  refine ⟨v,hv,v,{ C2 with keep:=C.keep,caller:=C.caller },p,s'.st,rfl,?_,hi2.same C.keep C.caller hck,VR.same (C:=C2) (C':={ C2 with keep:=C.keep,caller:=C.caller }) rfl rfl rfl hv',hQ⟩
  exact ⟨λb o u hu=>by rw[e1];exact h2.imm b o u hu,λb o hb=>by show C2.imm b o=_;rw[e1];exact h2.old b o hb,λid hb=>by show C2.born id;rw[e3];exact h2.born id hb,
   λid hb L' hL=>h2.loc id hb L' (by rw[<-e2];exact hL),e4.trans h2.B,e5.trans h2.h,e6.trans h2.os,e7.trans h2.out,λ_ h=>h,rfl⟩
 cases e <;> cases e' <;> first | (exact h1.elim) | skip
 .exact fin h4
 .exact h4.elim
 .exact fin h4
def st0:Store:=⟨λ_=>none,0⟩
def stR (n:Nat):Store:=⟨λi=>if i<n then some (.arr 0 1 [])else none,n⟩
theorem Mw {ρ:Nat->PV}:∀n,Ghost ⟨ρ,st0⟩ ⟨ρ,stR n⟩
 | 0=>by
  have : stR 0=st0:=by simp[stR,st0]
  rw [this];exact .refl _
 | n+1=>by
  refine .trans (Mw n) ?_
  have : stR (n+1)=(stR n).new (.arr 0 1 []):=by
   simp only[stR,Store.new]
   congr 1
   funext i
   simp only[Ab]
   by_cases h:i=n
   .simp [h]
   .by_cases h2:i<n
    .simp [h,h2,show i<n+1 by omega]
    .simp [h,h2,show ¬i<n+1 by omega]
  rw [this]
  exact .res _ 1 (by omega)
theorem UK {imm:Nat->Nat->Option Value} {w:World} (h:∀b o u,imm b o=some u->w.cell? ⟨b,o,none⟩=some u):Inv (base imm w) st0 w where
 os := rfl
 out := rfl
 hB := cg _
 old := λb _=>rfl
 imm := h
 next := λ_ _ h=>h
 none_ := λ_ _=>rfl
 obj := λid o h=>by simp[st0]at h
 sep := λid id' L L' _ h=>by simp[base]at h
 keep := λb h=>by simp[base]at h
theorem cW {X:Cfg} (hyl:X.yl=none) (hX:Fb X) (hq:By X) (hmix:X.P.follows .mixedOrders=true) {f:FuncId} {fn:Func} {c:Code} (hf:X.P.funcs[f]?=some fn) (hb:fn.body=some c)
  (hname : (fn.name == "runtime.NumGoroutine") = false) {args : List PV} (hn : args.length ≤ fn.ntmps) {r : PV} {s0 : IState} (hg : Ghost ⟨GX args, st0⟩ s0)
  (h : run X fn.ntmps (Ao X.P fn.results.toList (λp st=>DR st p r)) c [] s0):VC X.P f args r:=by
 obtain ⟨hen,hc⟩:=Hz hyl hX hq hmix hf hb hname hn hg h
 refine ⟨hen,λimm w vals himm hv=>?_⟩
 refine mj (hc _ w vals (UK himm) hv) λe w' he=>?_
 obtain ⟨v,C',p,st',rfl,hle,hi,hvp,hdr⟩:=he
 have hBB:C'.B=w.heap.size:=hle.B
 have hold:∀b,b<w.heap.size->w'.heap[b]?=w.heap[b]?:=λb hb=>by
  rw [hi.old b (by omega),hle.h];rfl
 refine ⟨v,rfl,⟨by rw[hi.os,hle.os];rfl,by rw[hi.out,hle.out];rfl⟩,hold,by have:=hi.hB;omega,?_⟩
 refine hdr.sound (imm:=D9 imm w.heap.size w') hi (λb o u hu=>?_) (λid L hL hcap o u hu=>?_) hvp
 .unfold D9
  split
  .rename_i hlt
   have := hle.old b o hlt
   rw [this]at hu;exact hu
  .exact hi.imm b o u hu
 .obtain ⟨ob,_,_,hat⟩:=hi.live hL
  have :=(hat.own hcap).1
  unfold D9
  rw [if_neg (by omega)]
  exact hu
def PV.scal1:PV->Bool
 | .bool _ | .int _ _ | .str _ | .nilp | .nils | .nilf | .nili | .nilm=>true
 | _=>false
def PV.scal:PV->Bool
 | .agg l=>l.all PV.scal1
 | .tuple l=>l.all PV.scal1
 | p=>p.scal1
theorem VR.scal1 {C C':Ctx} {v:Value} {p:PV} (h:VR C v p) (hs:p.scal1=true):VR C' v p:=by
 cases h <;> first | (simp[PV.scal1]at hs;done) | (constructor;done) | (constructor <;> assumption)
theorem VR.scal {C C':Ctx} {v:Value} {p:PV} (h:VR C v p) (hs:p.scal=true):VR C' v p:=by
 cases h with
 | agg cs l hn hc h=>exact .agg cs l hn hc λi p hi=>(h i p hi).scal1 ((ga.1 hs) p (ac hi))
 | tuple cs l hn h=>exact .tuple cs l hn λi p hi=>(h i p hi).scal1 ((ga.1 hs) p (ac hi))
 | bad v=>simp[PV.scal,PV.scal1]at hs
 | bool b=>exact .bool b
 | int k n=>exact .int k n
 | str s l h hm=>exact .str s l h hm
 | nilp=>exact .nilp
 | nils=>exact .nils
 | nilf=>exact .nilf
 | nili=>exact .nili
 | nilm=>exact .nilm
 | _=>simp[PV.scal,PV.scal1]at hs
theorem Inv.after {C:Ctx} {st:Store} {w w':World} (hi:Inv C st w) (ho:w'.os=w.os/\w'.output=w.output) (hold:∀b,b<w.heap.size->w'.heap[b]?=w.heap[b]?) (hsz:w.heap.size<=w'.heap.size) :
  C.le { C with imm:=D9 C.imm w.heap.size w' }/\Inv { C with imm:=D9 C.imm w.heap.size w' } st w':=by
 have himm:∀b o v,C.imm b o=some v->D9 C.imm w.heap.size w' b o=some v:=λb o v hv=>by
  have : b<w.heap.size:=by
   rcases bh b w.heap.size with h | h
   .exact h
   .rw [hi.immLt h]at hv;cases hv
  simp [D9,this,hv]
 have hle:C.le { C with imm:=D9 C.imm w.heap.size w' } :=
  ⟨himm, λb o hb=>by have:=hi.hB;simp[D9,show b<w.heap.size by omega],λ_ h=>h,λid _ L' hL=>⟨L',hL,.inl rfl⟩,rfl,rfl,rfl,rfl,λ_ h=>h,rfl⟩
 refine ⟨hle,?_⟩
 constructor
 .exact ho.1.trans hi.os
 .exact ho.2.trans hi.out
 .exact mm hi.hB hsz
 .intro b hb
  have hb':b<C.B:=hb
  rw [hold b (by have:=hi.hB;omega)];exact hi.old b hb'
 .intro b o v hv
  have hv':D9 C.imm w.heap.size w' b o=some v:=hv
  unfold D9 at hv'
  split at hv'
  .rename_i hlt
   rw [cell?_heap (hold b hlt)];exact hi.imm b o v hv'
  .exact hv'
 .exact hi.next
 .exact hi.none_
 .intro id o ho
  obtain ⟨hb,L,hL,hat⟩:=hi.obj id o ho
  refine ⟨hb,L,hL,hat.mono hle (λhc o ho=>?_) (λhc=>hold _ (hat.own hc).2.2)⟩
  have :=(hat.own hc).2.2
  show D9 C.imm w.heap.size w' L.blk o=none
  simp [D9,this,ho]
 .exact hi.sep
 .intro b hb
  obtain ⟨k1,k2⟩:=hi.keep b hb
  exact ⟨k1,by rw[hold b (ai.1 k2).1];exact k2⟩
mutual
def PV.small:PV->Prop
 | .str l=>l.length<=9223372036854775807
 | .lits _ l=>l.length<=9223372036854775807/\AK l
 | .vptr cs _=>AK cs
 | .agg l=>AK l
 | .tuple l=>AK l
 | .iface _ v=>v.small
 | _=>True
def AK:List PV->Prop
 | []=>True
 | p::l=>p.small/\AK l
end
theorem Fx {l:List PV} (h:∀p∈l,p.small):AK l:=by
 induction l with
 | nil=>trivial
 | cons a l ih=>exact⟨h a (by simp),ih λp hp=>h p (by simp[hp])⟩
theorem VR.small {C:Ctx} {v:Value} {p:PV} (h:VR C v p):p.small:=by
 have ml:maxLen=9223372036854775807:=rfl
 induction h with
 | str s l h hm=>rw[ml]at hm;exact hm
 | vptr b o off cells hc hi h ih=>exact Fx (λc hm=>(bt.1 hm).elim λj hj=>ih j c hj)
 | lits b o size cap l hcap hmax hsz hl hi h ih =>
  rw [ml]at hmax
  refine ⟨by omega,Fx λe he=>?_⟩
  obtain ⟨i,hi'⟩:=bt.1 he
  have hc:∀c∈e.cells,c.small:=λc hm=>by
   obtain ⟨j,hj⟩:=bt.1 hm
   exact ih i j e c hi' hj
  cases e <;> first
   | trivial
   | (exact hc _ (ku.2 rfl))
   | (exact Fx hc)
   | skip
  all_goals (have:=(hl _ he).1;simp only[gi,List.length_nil]at this;omega)
 | lits0 a cap z=>exact⟨by simp,trivial⟩
 | iface t v p h ih=>exact ih
 | agg cs l hn hc h ih=>exact Fx (λc hm=>(bt.1 hm).elim λj hj=>ih j c hj)
 | tuple cs l hn h ih=>exact Fx (λc hm=>(bt.1 hm).elim λj hj=>ih j c hj)
 | _=>trivial
def cX (spec:List PV->Option PV) (args:List PV) (st:Store):Option (PV×Store) :=
 if AU args=true then (spec args).map λr=>(r,st)
 else (Ce st args).bind λas=>(spec as).bind λr=>if r.scal=true then some (r,st)else none
section
variable {P:Program} {f:FuncId}
theorem OO {spec:List PV->Option PV} (hspec:∀args r,spec args=some r->VC P f args r) {args:List PV} {st st':Store} {r:PV} (h:cX spec args st=some (r,st')) :
  st' = st/\IXC P f args st λr' st''=>r'=r/\st''=st':=by
 unfold cX at h
 split at h
 .rename_i hp
  simp only[az,c9]at h
  obtain ⟨q,hq,rfl,rfl⟩:=h
  obtain ⟨hen,hc⟩:=hspec _ _ hq
  refine ⟨rfl,hen,λC w vals hi hv=>?_⟩
  refine mj (hc C.imm w vals hi.imm ⟨hv.1,λi p hi'=>(hv.2 i p hi').pureMono (λ_ _ _ h=>h) (Cl hp p (ac hi'))⟩) λe w' he=>?_
  obtain ⟨v,rfl,ho,hold,hsz,hvr⟩:=he
  obtain ⟨h1,h2⟩:=hi.after ho hold hsz
  exact ⟨v,_,q,st,rfl,h1,h2,hvr.ofBase (λ_ _ _ h=>h),rfl,rfl⟩
 .simp only[au]at h
  obtain ⟨as,has,q,hq,h⟩:=h
  split at h
  .rename_i hsc
   simp only[bp,c9]at h
   obtain ⟨rfl,rfl⟩:=h
   obtain ⟨hen,hc⟩:=hspec _ _ hq
   refine ⟨rfl,hen,λC w vals hi hv=>?_⟩
   obtain ⟨hl,hget⟩:=Mq has
   refine mj (hc (λb o=>w.cell? ⟨b,o,none⟩) w vals (λ_ _ _ h=>h) ⟨by rw[hv.1,hl],λi p hi'=>?_⟩) λe w' he=>?_
   .have hlt:i<args.length:=by have:=(ab.1 hi').1;omega
    exact (hget i _ p (gl hlt) hi').sound hi (λb o u h=>hi.imm b o u h) (λ_ _ _ _ _ _ h=>h) (hv.2 i _ (gl hlt))
   .obtain ⟨v,rfl,ho,hold,hsz,hvr⟩:=he
    obtain ⟨h1,h2⟩:=hi.after ho hold hsz
    exact ⟨v,_,q,st,rfl,h1,h2,hvr.scal hsc,rfl,rfl⟩
  .cases h
def VCM (P:Program) (f:FuncId) (args:List PV) (mk:MK) (es:List (PV×PV)):Prop :=
 DE P f/\∀(imm:Nat->Nat->Option Value) (w:World) (vals:Array Value),(∀b o u,imm b o=some u->w.cell? ⟨b,o,none⟩=some u)->mc (base imm w) vals args ->
  Calls P f vals w λe w'=>∃(b:Nat) (ces:Array MapEntry),e=.returned (.map (some b))/\(w'.os=w.os/\w'.output=w.output)/\(∀b,b<w.heap.size->w'.heap[b]?=w.heap[b]?)/\w.heap.size<=w'.heap.size/\w.heap.size<=b /\
   w'.heap[b]? = some (.map ces es.length)/\ces.size=es.length/\∀(i:Nat) (k v:PV),es[i]?=some (k,v)->∃e:MapEntry,ces[i]?=some e/\(∀C,VR C e.key k)/\(∀C,VR C e.val v)/\e.born=i/\BN mk k=true
def Ahd (mk:MK) (spec:List PV->Option (List (PV×PV))) (args:List PV) (st:Store):Option (PV×Store) :=
 if AU args=true then (spec args).map λes=>(.mref st.next 0,st.new (.map 0 mk es))else none
theorem W9 {mk:MK} {spec:List PV->Option (List (PV×PV))} (hspec:∀args r,spec args=some r->VCM P f args mk r) {args:List PV} {st st':Store} {r:PV} (h:Ahd mk spec args st=some (r,st')) :
  IXC P f args st λr' st''=>r'=r/\st''=st':=by
 unfold Ahd at h
 split at h
 .rename_i hp
  simp only[az,c9]at h
  obtain ⟨es,hq,rfl,rfl⟩:=h
  obtain ⟨hen,hc⟩:=hspec _ _ hq
  refine ⟨hen,λC w vals hi hv=>?_⟩
  refine mj (hc C.imm w vals hi.imm ⟨hv.1,λi p hi'=>(hv.2 i p hi').pureMono (λ_ _ _ h=>h) (Cl hp p (ac hi'))⟩) λe w' he=>?_
  obtain ⟨b,ces,rfl,ho,hold,hsz,hb,hblk,hces,hes⟩:=he
  obtain ⟨h1,h2⟩:=hi.put (w':=w') (id:=st.next) (nx:=st.next+1) (o:=.map 0 mk es) (L':=⟨b,0,0,1,0⟩) (.inr (hi.next _ (cg _))) (.inr (.inl hb)) (λx hx _=>hold x hx) hsz
   (λhle=>⟨rfl,rfl,by rw[hle.B];exact mm hi.hB hb,λo=>hi.immLt hb,ces,hblk,hces,λi k v hk=>by
    obtain ⟨e,g1,g2,g3,g4,g5⟩:=hes i k v hk
    exact ⟨e,g1,g2 _,g3 _,g4,g5⟩⟩) (by omega) (by omega) ho.1 ho.2
  exact ⟨.map (some b),_,_,_,rfl,h1,h2,Uf hi,rfl,rfl⟩
 .cases h
def VCA (P:Program) (f:FuncId) (args:List PV) (z:Nat) (es:List PV):Prop :=
 DE P f/\∀(imm:Nat->Nat->Option Value) (w:World) (vals:Array Value),(∀b o u,imm b o=some u->w.cell? ⟨b,o,none⟩=some u)->mc (base imm w) vals args ->
  Calls P f vals w λe w'=>∃(v:Value) (L:Loc),e=.returned v/\(w'.os=w.os/\w'.output=w.output)/\(∀b,b<w.heap.size->w'.heap[b]?=w.heap[b]?)/\w.heap.size<=w'.heap.size /\
   (v.oneCell' = true/\lF L 0 es.length v)/\(L.size=z/\0<z/\(es.length<=L.cap/\L.cap<=maxLen))/\(0<L.cap->w.heap.size<=L.blk /\
    ∃ cs T,w'.heap[L.blk]?=some (.cells cs T (0,0))/\L.off+L.cap*L.size<=cs.size/\∀i e,es[i]?=some e->∀C,CellsAt C cs (L.off+i*L.size) L.size e)
def yV (z:Nat) (spec:List PV->Option (List PV)) (args:List PV) (st:Store):Option (PV×Store) :=
 if AU args=true then (spec args).map λes=>(.ref st.next 0 0 es.length,st.new (.arr 0 z es))else none
theorem Xa {z:Nat} {spec:List PV->Option (List PV)} (hspec:∀args r,spec args=some r->VCA P f args z r) {args:List PV} {st st':Store} {r:PV} (h:yV z spec args st=some (r,st')) :
  IXC P f args st λr' st''=>r'=r/\st''=st':=by
 unfold yV at h
 split at h
 .rename_i hp
  simp only[az,c9]at h
  obtain ⟨es,hq,rfl,rfl⟩:=h
  obtain ⟨hen,hc⟩:=hspec _ _ hq
  refine ⟨hen,λC w vals hi hv=>?_⟩
  refine mj (hc C.imm w vals hi.imm ⟨hv.1,λi p hi'=>(hv.2 i p hi').pureMono (λ_ _ _ h=>h) (Cl hp p (ac hi'))⟩) λe w' he=>?_
  obtain ⟨v,L,rfl,ho,hold,hsz,⟨hone,href⟩,⟨hz1,hz2,hz3⟩,harr⟩:=he
  obtain ⟨h1,h2⟩:=hi.put (w':=w') (id:=st.next) (nx:=st.next+1) (o:=.arr 0 z es) (L':={ L with gen:=0 }) (.inr (hi.next _ (cg _))) (by
    rcases ao L.cap with h0 | h0
    .exact .inl h0
    .exact .inr (.inl (harr h0).1)) (λx hx _=>hold x hx) hsz
   (λhle=>⟨rfl,hz1,hz2,hz3,λhcap=>by
    obtain ⟨g1,cs,T,g2,g3,g4⟩:=harr hcap
    exact ⟨by rw[hle.B];exact mm hi.hB g1,λo=>hi.immLt g1,cs,T,g2,g3,λi e he=>g4 i e he _⟩⟩) (by omega) (by omega) ho.1 ho.2
  refine ⟨v,_,_,_,rfl,h1,h2,?_,rfl,rfl⟩
  refine .ref v st.next 0 0 es.length hone (.inl rfl) (λL' hL=>by omega) (λL' hL _=>?_)
  have : L'={ L with gen:=0 }:=by simpa [fp]using hL.symm
  subst this
  obtain ⟨a,r1,r2,r3⟩:=href
  exact ⟨a,r1,r2,r3⟩
 .cases h
end
def VCS (P:Program) (f g:FuncId) (z:Nat) (es es':List PV):Prop :=
 es'.length = es.length/\(∀e∈es,e.scal=true) /\
 ∀ (w:World) (blk off cap:Nat) (cs:Array Value) (T:TypeId),w.heap[blk]?=some (.cells cs T (0,0))->0<es.length->off+es.length*z<=cs.size->(∀i e,es[i]?=some e->∀C,CellsAt C cs (off+i*z) z e) ->
  Calls P f #[.slice (some ⟨blk,off,none⟩) es.length cap,.func (.func g) #[] #[]] w λe w' =>
   e = .returned (.tuple #[])/\(w'.os=w.os/\w'.output=w.output)/\w.heap.size<=w'.heap.size/\(∀b,b<w.heap.size->b≠blk->w'.heap[b]?=w.heap[b]?) /\
   ∃ cs',w'.heap[blk]?=some (.cells cs' T (0,0))/\cs'.size=cs.size/\∀i e,es'[i]?=some e->∀C,CellsAt C cs' (off+i*z) z e
def Ahe (P:Program) (f:FuncId):Prop:=∀(p:Option Addr) (cap:Nat) (fv:Value) (w:World),Calls P f #[.slice p 0 cap,fv] w λe w'=>e=.returned (.tuple #[])/\w'=w
def Q9 (z g:Nat) (spec:List PV->Option (List PV)) (args:List PV) (st:Store):Option (PV×Store) :=
 match args with
 | [.nils,_]=>some (.tuple [],st)
 | [.ref id gen 0 n,.func (.func g') [] []]=>if g'=g then (st.arr? id gen).bind λa=>if a.1=z/\n=a.2.length then (spec a.2).map λes'=>(.tuple [],st.set id (.arr gen z es'))else none else none
 | _=>none
theorem cZ {e:PV} (h:e.scal=true):∀c∈e.cells,c.scal1=true:=by
 intro c hm
 cases e <;> simp only[gi,ku]at hm <;> first | (subst hm;exact h) | (cases hm;done) | exact ga.1 h c hm
theorem mZ {C:Ctx} {v:Value} {f:Fn} (h:VR C v (.func f [] [])):v=.func f #[] #[]:=by
 cases h with
 | func _ first captured _ _ hf hc _ _ =>
  have h1:first = #[]:=mq hf
  have h2:captured = #[]:=mq hc
  rw [h1,h2]
theorem UL {P:Program} {f g:FuncId} {z:Nat} {spec:List PV->Option (List PV)} (hen:DE P f) (h0:Ahe P f) (hspec:∀es es',spec es=some es'->VCS P f g z es es') {args:List PV} {st st':Store} {r:PV} (h:Q9 z g spec args st=some (r,st')) :
  IXC P f args st λr' st''=>r'=r/\st''=st':=by
 have two:∀ {C:Ctx} {vals:Array Value} {a b:PV},mc C vals [a,b]->∃x y,vals = #[x,y]/\VR C x a/\VR C y b:=by
  rintro C ⟨vals⟩ a b ⟨h1,h2⟩
  match vals,h1 with
  | [x,y],_=>exact⟨x,y,rfl,h2 0 a rfl,h2 1 b rfl⟩
 unfold Q9 at h
 split at h
 .simp only[bp,c9]at h
  obtain ⟨rfl,rfl⟩:=h
  refine ⟨hen,λC w vals hi hv=>?_⟩
  obtain ⟨x,y,rfl,hx,hy⟩:=two hv
  cases hx
  refine (h0 none 0 y w).mono ?_
  rintro e w' ⟨rfl,rfl⟩
  exact ⟨_,C,_,_,rfl,fg C,hi,.tuple #[] [] rfl (by simp),rfl,rfl⟩
 .rename_i id gen n g'
  split at h
  .rename_i hg
   subst hg
   simp only[au]at h
   obtain ⟨⟨z',es⟩,hes,h⟩:=h
   dsimp only at h
   split at h
   .rename_i hzn
    obtain ⟨rfl,rfl⟩:=hzn
    simp only[az,c9]at h
    obtain ⟨es',hs,rfl,rfl⟩:=h
    obtain ⟨hlen,hsc,hc⟩:=hspec _ _ hs
    refine ⟨hen,λC w vals hi hv=>?_⟩
    obtain ⟨x,y,rfl,hx,hy⟩:=two hv
    cases mZ hy
    obtain ⟨K,hK,hb,hgen,hKz,hzz,hcap,hat⟩:=hi.arr hes
    cases hx with
    | ref _ _ _ _ _ hv' hb' hg' hr =>
     obtain ⟨a,rfl,h10,h11⟩:=hr K hK hgen.symm
     rcases ao es.length with hn | hn
     .have e1:es = []:=fo hn
      subst e1
      have e2:es' = []:=fo (by rw[hlen];rfl)
      subst e2
      refine (h0 a _ _ w).mono ?_
      rintro e w' ⟨rfl,rfl⟩
      exact ⟨_,C,_,_,rfl,fg C,hi.sameObj (arr?_parts hes),.tuple #[] [] rfl (by simp),rfl,rfl⟩
     .obtain ⟨h5,h6,cur,T,h7,h8,h9⟩:=hat (by omega)
      have ha:=h11 (by omega)
      rw [Nat.zero_mul,Nat.add_zero]at ha
      subst ha
      have hmul:=Nat.mul_le_mul_right K.size hcap
      rw [hKz]at h8 hmul
      refine mj (hc w K.blk K.off _ cur T h7 hn (by omega) (λi e he C'=>?_)) λe w' he=>?_
      .obtain ⟨c1,c2,c3⟩:=h9 i e he
       rw [hKz]at c1 c3
       exact ⟨c1,c2,λj c hj=>(c3 j c hj).scal1 (cZ (hsc e (ac he)) c (ac hj))⟩
      .obtain ⟨rfl,ho,hsz,hold,cs',hb1,hb2,hb3⟩:=he
       obtain ⟨C',k1,k2,k3,k4⟩:=hi.reArr (gen':=gen) (L':=K) (cs:=cs') hes hK (by omega) (.inl rfl) hgen rfl (by omega) (by rw[hlen];exact hcap) (hi.arrMax hes hK) h7 (by rw[hb2,hKz];exact h8) (λi e he=>by rw[hKz];exact hb3 i e he C)
       rw [hKz]at k2
       obtain ⟨m1,m2⟩:=k2.after (w':=w') ho (λb hb=>by
        by_cases e:b=K.blk
        .subst e
         rw [hb1,setRow_heap w _ _ cs' T _ h7]
        .rw [setRow_other w K.blk b cs' e];exact hold b (by simpa using hb) e) (by simpa using hsz)
       exact ⟨_,_,_,_,rfl,k1.trans m1,m2,.tuple #[] [] rfl (by simp),rfl,rfl⟩
   .cases h
  .cases h
 .cases h
inductive Ent where
 | v (spec:List PV->Option PV)
 | m (mk:MK) (spec:List PV->Option (List (PV×PV)))
 | a (z:Nat) (spec:List PV->Option (List PV))
 | s (z g:Nat) (spec:List PV->Option (List PV))
 | x (spec:List PV->Store->Option (PV×Store))
 | c (spec:List PV->(Nat->Option IObj)->Option PV)
def Ent.tab:Ent->List PV->Store->Option (PV×Store)
 | .v spec=>cX spec
 | .m mk spec=>Ahd mk spec
 | .a z spec=>yV z spec
 | .s z g spec=>Q9 z g spec
 | .x spec=>spec
 | .c spec=>λargs st=>(spec args st.obj).map λr=>(r,st)
def Ent.calm:Ent->Bool
 | .c _=>true
 | _=>false
def Ent.anew:Ent->Bool
 | .a ..=>true
 | _=>false
def Ent.quiet:Ent->Bool
 | .v _=>true
 | .m ..=>false
 | .a ..=>false
 | .s ..=>false
 | .x ..=>false
 | .c ..=>false
def AM (P:Program) (f:FuncId):Ent->Prop
 | .v spec=>∀args r,spec args=some r->VC P f args r
 | .m mk spec=>∀args r,spec args=some r->VCM P f args mk r
 | .a z spec=>∀args r,spec args=some r->VCA P f args z r
 | .s z g spec=>DE P f/\Ahe P f/\∀es es',spec es=some es'->VCS P f g z es es'
 | .x spec=>∀args st r st',spec args st=some (r,st')->IXC P f args st λr' st''=>r'=r/\st''=st'
 | .c spec=>(∀args ob ob' r,(∀i o,ob i=some o->ob' i=some o)->spec args ob=some r->spec args ob'=some r)/\∀args st r,spec args st.obj=some r->IXC P f args st λr' st''=>r'=r/\st''=st
abbrev AX:=List (Nat×Ent)
def Fd (l:AX):Tab:=λf args st=>match l.find? (λe=>e.1==f)with | some e=>e.2.tab args st | none=>none
def Sq (l:AX):Nat->Bool:=λf=>match l.find? (λe=>e.1==f)with | some e=>e.2.quiet | none=>true
def Mx (l:AX):Nat->Bool:=λf=>if f<1000000 then (match l.find? (λe=>e.1==f)with | some e=>e.2.calm | none=>false)else (match l.find? (λe=>e.1==f-1000000)with | some e=>e.2.anew | none=>false)
def Bw (P:Program) (l:AX):Prop:=∀e∈l,AM P e.1 e.2
theorem GY {P:Program} {l:AX} (h:Bw P l) {muts quiet frz calm:Nat->Bool} {num:Nat->Nat} {yl:Option (Nat×GI)} {dep:Nat} {rnd:Bool}:Fb ⟨P,Fd l,muts,quiet,frz,num,yl,dep,rnd,calm⟩:=by
 intro f args st r st' ht
 simp only[Fd]at ht
 split at ht
 .rename_i e he
  have hm:=mr he
  have hf:=List.find?_some he
  have hf:e.1=f:=by simpa using hf
  subst hf
  have := h e hm
  obtain ⟨f,e⟩:=e
  cases e with
  | v spec=>exact (OO this ht).2
  | m mk spec=>exact W9 this ht
  | a z spec=>exact Xa this ht
  | s z g spec=>exact UL this.1 this.2.1 this.2.2 ht
  | x spec=>exact this _ _ _ _ ht
  | c spec =>
   simp only[Ent.tab,az,c9]at ht
   obtain ⟨r',h1,rfl,rfl⟩:=ht
   exact this.2 _ _ _ h1
 .cases ht
theorem Xb {P:Program} {l:AX} (h:Bw P l):∀f args st r st',f<1000000->Mx l f=true->Fd l f args st=some (r,st')->st'=st/\∀st2:Store,(∀i o,st.obj i=some o->st2.obj i=some o)->Fd l f args st2=some (r,st2):=by
 intro f args st r st' hf6 hqu ht
 simp only[Fd]at ht ⊢
 simp only[Mx,if_pos hf6]at hqu
 split at ht
 .rename_i e he
  have hok:=h e (mr he)
  obtain ⟨f',e⟩:=e
  simp only[he]at hqu ⊢
  cases e with
  | c spec =>
   simp only[Ent.tab,az,c9]at ht ⊢
   obtain ⟨r',h1,rfl,rfl⟩:=ht
   exact ⟨rfl,λst2 he2=>⟨r',hok.1 _ _ _ _ he2 h1,rfl,trivial⟩⟩
  | _=>simp[Ent.calm]at hqu
 .cases ht
theorem Xc {l:AX}:∀f args st r st',Mx l (1000000+f)=true->Fd l f args st=some (r,st')->(∀i o,st.obj i=some o->i<st.next)->∀i o,st.obj i=some o->st'.obj i=some o:=by
 intro f args st r st' hqu ht hwf i o ho
 simp only[Fd]at ht
 simp only[Mx,if_neg (show ¬1000000+f<1000000 by omega),show 1000000+f-1000000=f by omega]at hqu
 split at ht
 .rename_i e he
  obtain ⟨f',e⟩:=e
  simp only[he]at hqu
  cases e with
  | a z spec =>
   simp only[Ent.tab,yV]at ht
   split at ht
   .simp only[az,c9]at ht
    obtain ⟨es,_,_,rfl⟩:=ht
    have := hwf i o ho
    simp [Store.new,Ab,show i≠st.next by omega,ho]
   .cases ht
  | _=>simp[Ent.anew]at hqu
 .cases ht
section
variable {P:Program}
theorem DW {l:AX} (h:Bw P l) {muts frz:Nat->Bool} {num:Nat->Nat} {yl:Option (Nat×GI)} {dep:Nat} {rnd:Bool}:By ⟨P,Fd l,muts,Sq l,frz,num,yl,dep,rnd,Mx l⟩:=by
 refine ⟨?_,Xc,Xb h⟩
 intro f args st r st' hqu ht
 simp only[Fd]at ht
 simp only[Sq]at hqu
 split at ht
 .rename_i e he
  have hok:=h e (mr he)
  obtain ⟨f',e⟩:=e
  simp only[he]at hqu
  cases e with
  | m mk spec=>simp[Ent.quiet]at hqu
  | a z spec=>simp[Ent.quiet]at hqu
  | s z g spec=>simp[Ent.quiet]at hqu
  | x spec=>simp[Ent.quiet]at hqu
  | c spec=>simp[Ent.quiet]at hqu
  | v spec =>
   refine ⟨(OO hok ht).1,λhp st2=>?_⟩
   simp only[Fd,he]
   simp only[Ent.tab]at ht ⊢
   unfold cX at ht ⊢
   rw [if_pos hp]at ht ⊢
   simp only[az,c9]at ht ⊢
   obtain ⟨q,h1,h2,h3⟩:=ht
   exact ⟨q,h1,h2,trivial⟩
 .cases ht
def Ll (frz:List Nat) (d:Nat):Nat:=if frz.contains (100000+d)then 1 else if frz.contains (200000+d)then 2 else if frz.contains (300000+d)then 3 else if frz.contains (500000+d)then 4 else 0
def cfg (P:Program) (l:AX) (muts:List Nat) (frz:List Nat := []) (dep:Nat:=0) (yl:Option (Nat×GI):=none) (rnd:Bool:=false):Cfg:=⟨P,Fd l,λd=>muts.contains d,Sq l,λd=>frz.contains d,Ll frz,yl,dep,rnd,Mx l⟩
theorem VC.of_small {f:FuncId} {args:List PV} {r:PV} (h:AK args->VC P f args r) (hen:DE P f):VC P f args r:=by
 refine ⟨hen,λimm w vals himm hv=>?_⟩
 have hs:AK args:=Fx λp hp=>by
  obtain ⟨i,hi⟩:=bt.1 hp
  exact (hv.2 i p hi).small
 exact (h hs).2 imm w vals himm hv
theorem Xd (hmix:P.follows .mixedOrders=true) {l:AX} (hl:Bw P l) (muts:List Nat) (frz:List Nat) {f:FuncId} {fn:Func} {c:Code} (hf:P.funcs[f]?=some fn) (hb:fn.body=some c)
  (hname : (fn.name == "runtime.NumGoroutine") = false) {args : List PV} {N : Nat} (hN : fn.ntmps = N) (hn : args.length ≤ N) {rs : List ResultVar} (hrs : fn.results.toList = rs) {r : PV} (n : Nat) {dep : Nat}
  (h : AK args->run (cfg P l muts frz dep) N (Ao P rs (λp st=>DR st p r)) c [] ⟨GX args,stR n⟩):VC P f args r:=by
 subst hN;subst hrs
 exact VC.of_small (λhs=>cW (X:=cfg P l muts frz dep) rfl (GY hl) (DW hl) hmix hf hb hname hn (Mw n) (h hs)) ⟨fn,hf,by simp[hb],hname⟩
theorem yW (hmix:P.follows .mixedOrders=true) {l:AX} (hl:Bw P l) (muts:List Nat) (frz:List Nat) {f:FuncId} {fn:Func} {c:Code} (hf:P.funcs[f]?=some fn) (hb:fn.body=some c)
  (hname : (fn.name == "runtime.NumGoroutine") = false) {args : List PV} {N : Nat} (hN : fn.ntmps = N) (hn : args.length ≤ N) {rs : List ResultVar} (hrs : fn.results.toList = rs) {st : Store} {Q : PV → Store → Prop} {dep : Nat}
  (h : run (cfg P l muts frz dep) N (Ao P rs Q) c [] ⟨GX args,st⟩):IXC P f args st Q:=by
 subst hN;subst hrs
 exact Hz (X:=cfg P l muts frz dep) rfl (GY hl) (DW hl) hmix hf hb hname hn (.refl _) h
theorem yX (hmix:P.follows .mixedOrders=true) {l:AX} (hl:Bw P l) (muts:List Nat) (frz:List Nat) {f:FuncId} {fn:Func} {c:Code} (hf:P.funcs[f]?=some fn) (hb:fn.body=some c)
  (hname : (fn.name == "runtime.NumGoroutine") = false) {args : List PV} {N : Nat} (hN : fn.ntmps = N) (hn : args.length ≤ N) {rs : List ResultVar} (hrs : fn.results.toList = rs) {z : Nat} {es : List PV} (n : Nat) {dep : Nat}
  (hs : ∀e∈es,e.scal=true)
  (h : run (cfg P l muts frz dep) N (Ao P rs (λp st=>(∃id g,p=.ref id g 0 es.length/\st.obj id=some (.arr g z es))\/(es = []/\0<z/\p=.nils))) c [] ⟨GX args,stR n⟩):VCA P f args z es:=by
 subst hN;subst hrs
 obtain ⟨hen,hc⟩:=Hz (X:=cfg P l muts frz dep) rfl (GY hl) (DW hl) hmix hf hb hname hn (Mw n) h
 refine ⟨hen,λimm w vals himm hv=>?_⟩
 refine mj (hc _ w vals (UK himm) hv) λe w' he=>?_
 obtain ⟨v,C',p,st',rfl,hle,hi,hvp,hpp⟩:=he
 have hBB:C'.B=w.heap.size:=hle.B
 have hold:∀b,b<w.heap.size->w'.heap[b]?=w.heap[b]?:=λb hb=>by
  rw [hi.old b (by omega),hle.h];rfl
 rcases hpp with ⟨id,g,rfl,ho⟩ | ⟨rfl,hz,rfl⟩
 case inr =>
  cases hvp
  exact ⟨_,⟨0,0,z,0,0⟩,rfl,⟨by rw[hi.os,hle.os];rfl,by rw[hi.out,hle.out];rfl⟩,hold,by have:=hi.hB;omega,⟨rfl,none,rfl,cg _,λh=>absurd h (by simp)⟩,⟨rfl,hz,cg _,by simp⟩,λh=>absurd h (by simp)⟩
 obtain ⟨_,L,hL,hat⟩:=hi.obj id _ ho
 obtain ⟨a1,a2,a3,a4,a5⟩:=hat
 cases hvp with
 | ref _ _ _ _ _ h1 h2 h3 h4 =>
  refine ⟨v,L,rfl,⟨by rw[hi.os,hle.os];rfl,by rw[hi.out,hle.out];rfl⟩,hold,by have:=hi.hB;omega,⟨h1,h4 L hL a1.symm⟩,⟨a2,a3,a4⟩,λhcap=>?_⟩
  obtain ⟨b1,b2,cs,T,b3,b4,b5⟩:=a5 hcap
  refine ⟨by omega,cs,T,b3,b4,λi e he C=>?_⟩
  obtain ⟨c1,c2,c3⟩:=b5 i e he
  refine ⟨c1,c2,λj c hj=>?_⟩
  have hsc:=hs e (ac he)
  refine (c3 j c hj).scal1 (C':=C) ?_
  have hm:=ac hj
  cases e <;> simp only[gi,ku]at hm <;> first | (subst hm;exact hsc) | (cases hm;done) | skip
  .exact ga.1 hsc c hm
abbrev I (n:Int):PV:=.int .i64 n
abbrev B (b:Bool):PV:=.bool b
@[reducible] def ints (l:List Int):PV:=.lits 1 (l.map (mt .i64))
theorem Aly {l:AX} {m f:List Nat} {dp:Nat} {yl:Option (Nat×GI)} {rnd:Bool}:(cfg P l m f dp yl rnd).P=P:=nrfl rfl
theorem yY {l:AX} {m f:List Nat} {dp:Nat} {yl:Option (Nat×GI)} {rnd:Bool}:(cfg P l m f dp yl rnd).tab=Fd l:=nrfl rfl
theorem nA {l:AX} {m f:List Nat} {dp:Nat} {yl:Option (Nat×GI)} {rnd:Bool} {d:Nat}:(cfg P l m f dp yl rnd).muts d=m.contains d:=nrfl rfl
theorem yZ {l:AX} {m f:List Nat} {dp:Nat} {yl:Option (Nat×GI)} {rnd:Bool} {d:Nat}:(cfg P l m f dp yl rnd).num d=Ll f d:=nrfl rfl
end
theorem dB {d:Nat}:Ll [] d=0:=by simp[Ll]
theorem nB {f:List Nat} {d:Nat}:Ll f d=if f.contains (100000+d)then 1 else if f.contains (200000+d)then 2 else if f.contains (300000+d)then 3 else if f.contains (500000+d)then 4 else 0:=nrfl rfl
theorem zA {P:Program} {l:AX} {m f:List Nat} {dp:Nat} {yl:Option (Nat×GI)} {rnd:Bool} {d:Nat}:(cfg P l m f dp yl rnd).frz d=f.contains d:=nrfl rfl
theorem Xe {g f:Nat} {e:Ent} {l:AX} {args:List PV} {st:Store}:Fd ((g,e)::l) f args st=if g=f then e.tab args st else Fd l f args st:=by
 unfold Fd
 by_cases h:g=f
 .subst h;simp
 .simp [h]
theorem Alz {spec:List PV->Option PV} {args:List PV} {st:Store}:(Ent.v spec).tab args st=cX spec args st:=nrfl rfl
theorem Al0 {mk:MK} {spec:List PV->Option (List (PV×PV))} {args:List PV} {st:Store}:(Ent.m mk spec).tab args st=if AU args=true then (spec args).map λes=>(.mref st.next 0,st.new (.map 0 mk es))else none:=nrfl rfl
theorem Al1 {z:Nat} {spec:List PV->Option (List PV)} {args:List PV} {st:Store}:(Ent.a z spec).tab args st=if AU args=true then (spec args).map λes=>(.ref st.next 0 0 es.length,st.new (.arr 0 z es))else none:=nrfl rfl
theorem Al2 {spec:List PV->Store->Option (PV×Store)} {args:List PV} {st:Store}:(Ent.x spec).tab args st=spec args st:=nrfl rfl
theorem Al3 {spec:List PV->(Nat->Option IObj)->Option PV} {args:List PV} {st:Store}:(Ent.c spec).tab args st=(spec args st.obj).map λr=>(r,st):=nrfl rfl
theorem Al4 {z g:Nat} {spec:List PV->Option (List PV)} {args:List PV} {st:Store}:(Ent.s z g spec).tab args st=Q9 z g spec args st:=nrfl rfl
theorem dC {z g g' id gen n:Nat} {spec:List PV->Option (List PV)} {st:Store}:Q9 z g spec [.ref id gen 0 n,.func (.func g') [] []] st=if g'=g then (st.arr? id gen).bind λa=>if a.1=z/\n=a.2.length then (spec a.2).map λes'=>(.tuple [],st.set id (.arr gen z es'))else none else none:=nrfl rfl
theorem Xf {z g:Nat} {spec:List PV->Option (List PV)} {st:Store} {p:PV}:Q9 z g spec [.nils,p] st=some (.tuple [],st):=nrfl rfl
def AZ {ι:Type}:ι->Prop:=λ_=>True
noncomputable def An {ι ω:Type} (A:ι->List PV) (R:ι->ω) (H:ι->Prop) (args:List PV):Option ω :=
 open Classical in if h:∃i,A i=args∧H i then some (R h.choose)else none
section
variable {ι ω:Type} {A:ι->List PV} {R:ι->ω} {H:ι->Prop}
theorem AD (hinj:∀i j,A i=A j->i=j) {i:ι} (hi:H i):An A R H (A i)=some (R i):=by
 unfold An
 have h:∃j,A j=A i/\H j:=⟨i,rfl,hi⟩
 rw [dif_pos h,hinj _ _ h.choose_spec.1]
theorem Bs (hinj:∀i j,A i=A j->i=j) (i:ι):An A R H (A i)=@ite (Option ω) (H i) (Classical.propDecidable _) (some (R i)) none:=by
 by_cases h:H i
 .rw [if_pos h];exact AD hinj h
 .rw [if_neg h]
  unfold An
  rw [dif_neg]
  rintro ⟨j,hj,hh⟩
  rw [hinj _ _ hj]at hh
  exact h hh
end
section
variable {P:Program} {f:FuncId} {ι:Type} {A:ι->List PV}
theorem Ax {R:ι->PV} {H:ι->Prop} (hok:∀i,H i->VC P f (A i) (R i)):AM P f (.v (An A R H)):=by
 intro args r h
 unfold An at h
 split at h
 .rename_i hx
  simp only[bp]at h;subst h
  have := hok _ hx.choose_spec.2
  rw [hx.choose_spec.1]at this;exact this
 .cases h
theorem HA {z:Nat} {R:ι->List PV} {H:ι->Prop} (hok:∀i,H i->VCA P f (A i) z (R i)):AM P f (.a z (An A R H)):=by
 intro args r h
 unfold An at h
 split at h
 .rename_i hx
  simp only[bp]at h;subst h
  have := hok _ hx.choose_spec.2
  rw [hx.choose_spec.1]at this;exact this
 .cases h
end
section
variable {P:Program}
theorem Xg {f g z:Nat} {ι:Type} {A:ι->List PV} {R:ι->List PV} {H:ι->Prop} (hen:DE P f) (h0:Ahe P f) (hok:∀i,H i->VCS P f g z (A i) (R i)):AM P f (.s z g (An A R H)):=by
 refine ⟨hen,h0,λargs r h=>?_⟩
 unfold An at h
 split at h
 .rename_i hx
  simp only[bp]at h;subst h
  have := hok _ hx.choose_spec.2
  rw [hx.choose_spec.1]at this;exact this
 .cases h
theorem Au:Bw P []:=by intro e h;simp at h
theorem Ad {f:Nat} {x:Ent} {l:AX} (h:AM P f x) (hl:Bw P l):Bw P ((f,x)::l):=by
 intro e he
 rcases li.1 he with rfl | he
 .exact h
 .exact hl e he
end
theorem GZ {α β:Type} {f:α->β} (hf:∀x y,f x=f y->x=y):∀ {l m:List α},l.map f=m.map f->l=m
 | [],[],_=>rfl
 | [],b::m,h=>by simp at h
 | a::l,[],h=>by simp at h
 | a::l,b::m,h=>by
  simp only[List.map_cons,List.cons.injEq]at h
  rw [hf _ _ h.1,GZ hf h.2]
theorem B7 {k:IntKind} {l m:List Int}:(l.map (mt k)=m.map (mt k))=(l=m):=propext ⟨GZ λx y h=>by injection h,λh=>by rw[h]⟩
theorem G1 {k:IntKind} {l:List Int}:AU (l.map (mt k))=true:=Mp λ_=>rfl
theorem nC {l:List (List UInt8)}:AU (l.map mw)=true:=Mp λ_=>rfl
theorem inj:True=True:=nrfl rfl
theorem zB {k:IntKind} {l:List Int} {i:Nat} (h:i<l.length):nth (l.map (mt k)) i=mt k (l.getD i 0):=by simp[nth,h]
theorem zC {l:List (List UInt8)} {i:Nat} (h:i<l.length):nth (l.map mw) i=mw (l.getD i []):=by simp[nth,h]
theorem nD {a:PV} {l:List PV}:nth (a::l) 0=a:=nrfl rfl
theorem nE {a:PV} {l:List PV} {i:Nat}:nth (a::l) (i+1)=nth l i:=by simp[nth]
theorem Sr {α β:Type} {f:α->β} {l:List α}:(l.map f).take l.length=l.map f:=by rw[<-List.length_map (f:=f)];exact List.take_length
def GS (st:Store) (p:PV) (id z:Nat) (es:List PV):Prop:=∃g,p=.ref id g 0 es.length/\st.obj id=some (.arr g z es)
theorem Ahf {st:Store} {id' g n id z:Nat} {es:List PV}:GS st (.ref id' g 0 n) id z es=(id'=id/\n=es.length/\st.obj id=some (.arr g z es)):=by
 refine propext ⟨?_,?_⟩
 .rintro ⟨g',h1,h2⟩;cases h1;exact⟨rfl,rfl,h2⟩
 .rintro ⟨rfl,rfl,h⟩;exact⟨g,rfl,h⟩
theorem Ra {f:Nat->Option IObj} {id:Nat} {o:Option IObj}:Ab f id o id=o:=by simp[Ab]
theorem Ss {f:Nat->Option IObj} {id i:Nat} {o:Option IObj} (h:(i==id)=false):Ab f id o i=f i:=by
 have : i≠id:=by simpa using h
 simp [Ab,this]
theorem DR.int {st:Store} {k:IntKind} {a b:Int} (h:a=b):DR st (.int k a) (.int k b):=h▸.pure _ rfl
theorem DR.bool {st:Store} {a b:Bool} (h:a=b):DR st (.bool a) (.bool b):=h▸.pure _ rfl
theorem DR.tuple2 {st:Store} {a b c d:PV} (h1:DR st a c) (h2:DR st b d):DR st (.tuple [a,b]) (.tuple [c,d]):=by
 refine .tuple _ _ rfl λi x y hx hy=>?_
 match i with
 | 0=>simp at hx hy;subst hx;subst hy;exact h1
 | 1=>simp at hx hy;subst hx;subst hy;exact h2
 | i+2=>simp at hx
theorem DR.tuple3 {st:Store} {a b c d e f:PV} (h1:DR st a d) (h2:DR st b e) (h3:DR st c f):DR st (.tuple [a,b,c]) (.tuple [d,e,f]):=by
 refine .tuple _ _ rfl λi x y hx hy=>?_
 match i with
 | 0=>simp at hx hy;subst hx;subst hy;exact h1
 | 1=>simp at hx hy;subst hx;subst hy;exact h2
 | 2=>simp at hx hy;subst hx;subst hy;exact h3
 | i+3=>simp at hx
inductive DRs (st:Store):List PV->List PV->Prop where
 | nil:DRs st [] []
 | cons {a b:PV} {l m:List PV} (h:DR st a b) (hb:b.isCell=true) (t:DRs st l m):DRs st (a::l) (b::m)
section
variable {st:Store} {l m:List PV}
theorem DRs.get (h:DRs st l m):l.length=m.length/\(∀c∈m,c.isCell=true)/\∀(i:Nat) (c d:PV),l[i]?=some c->m[i]?=some d->DR st c d:=by
 induction h with
 | nil=>exact⟨rfl,by simp,by intro i c d h;simp at h⟩
 | cons h hb t ih =>
  refine ⟨by simp[ih.1],λc hc=>?_,λi c d hc hd=>?_⟩
  .rcases li.1 hc with rfl | hc
   .exact hb
   .exact ih.2.1 c hc
  .cases i with
   | zero=>simp at hc hd;subst hc;subst hd;exact h
   | succ i=>exact ih.2.2 i c d (by simpa using hc) (by simpa using hd)
theorem DR.aggs (h:DRs st l m):DR st (.agg l) (.agg m):=.agg _ _ h.get.1 h.get.2.1 h.get.2.2
end
theorem Af {n:Int} (h1 : -9223372036854775808<=n) (h2:n<=9223372036854775807):IntKind.i64.wrap n=n:=by rw[IntKind.wrap_i64];omega
theorem zD {p:Prop} [Decidable p]:(!decide p)=decide (¬p):=by by_cases h:p <;> simp[h]
def Kh (W:List Nat) (ρ0 ρ:Nat->PV):Nat->PV:=λt=>if W.contains t=true then ρ t else ρ0 t
section
variable {W:List Nat} {ρ0 ρ:Nat->PV}
theorem UM {t:Nat} (h:W.contains t=true):Kh W ρ0 ρ t=ρ t:=by simp only[Kh,h,if_true]
theorem Js {t:Nat} (h:W.contains t=false):Kh W ρ0 ρ t=ρ0 t:=by simp only[Kh,h,Bool.false_eq_true,if_false]
def Iy (W:List Nat) (ρ0 ρ:Nat->PV):Prop:=∀t,W.contains t=false->ρ t=ρ0 t
theorem dD {t:Nat} {v:PV} (h:W.contains t=true):Iy W ρ0 (upd ρ t v)=Iy W ρ0 ρ:=by
 refine propext ⟨λg u hu=>?_,λg u hu=>?_⟩
 all_goals
  have hne:u≠t:=λe=>by subst e;rw[h]at hu;cases hu
  have := g u hu
  simpa [upd,hne]using this
theorem UN:Iy W ρ0 (Kh W ρ0 ρ)=True:=eq_true λt ht=>Js ht
end
theorem Xh {W:List Nat} {ρ0:Nat->PV}:Iy W ρ0 ρ0=True:=eq_true λ_ _=>rfl
theorem I5 {W:List Nat} {ρ0 ρ:Nat->PV} (h:Iy W ρ0 ρ):ρ=Kh W ρ0 ρ:=by
 funext t
 cases hc:W.contains t with
 | true=>rw[UM hc]
 | false=>rw[Js hc,h t hc]
section
variable {X:Cfg} {N:Nat} {Q:IExit->IState->Prop} {ks:List Kf}
theorem Aw {c:Code} (W:List Nat) (n:Nat) (J:Nat->(Nat->PV)->Store->Prop) {ρ0 ρ1:Nat->PV} {st st1:Store} (hg:Ghost ⟨ρ0,st⟩ ⟨ρ1,st1⟩) (h0:J 0 ρ1 st1)
  (h : ∀k ρ st',k<=n->J k ρ st'->run X N Q c (.lp (λs''=>k<n/\Iy W ρ1 s''.env/\J (k+1) s''.env s''.st)::ks) ⟨Kh W ρ1 ρ,st'⟩) (hm:Bk X:=by first | assumption | exact A8 rfl):run X N Q (.loop c) ks ⟨ρ0,st⟩:=by
 refine Sf hm n (λk s=>Iy W ρ1 s.env/\J k s.env s.st) hg ⟨λ_ _=>rfl,h0⟩ ?_
 rintro k ⟨env,st'⟩ hk ⟨ha,hJ⟩
 dsimp only at ha hJ
 have := h k env st' hk hJ
 rwa [<-I5 ha]at this
theorem Et {c:Code} (W:List Nat) (n:Nat) (J:Nat->(Nat->PV)->Store->Prop) {ρ0 ρ1:Nat->PV} {st st1:Store} (hg:Ghost ⟨ρ0,st⟩ ⟨ρ1,st1⟩) (h0:J n ρ1 st1)
  (h : ∀m ρ st',J m ρ st'->run X N Q c (.lp (λs''=>∃m',m'<m/\Iy W ρ1 s''.env/\J m' s''.env s''.st)::ks) ⟨Kh W ρ1 ρ,st'⟩) (hm:Bk X:=by first | assumption | exact A8 rfl):run X N Q (.loop c) ks ⟨ρ0,st⟩:=by
 refine Uo (λm s=>Iy W ρ1 s.env/\J m s.env s.st) n hg ⟨λ_ _=>rfl,h0⟩ ?_
 rintro m ⟨env,st'⟩ ⟨ha,hJ⟩
 dsimp only at ha hJ
 have := Nz hm (λs'' ⟨m',h1,h2⟩=>(⟨m',h1,s'',.refl _,h2⟩:∃m',m'<m/\∃s3,Ghost s'' s3/\(Iy W ρ1 s3.env/\J m' s3.env s3.st))) (h m env st' hJ)
 rwa [<-I5 ha]at this
end
mutual
def DRx (st:Store):PV->PV->Prop
 | .int k a,.int k' b=>k=k'/\a=b
 | .bool a,.bool b=>a=b
 | .str a,.str b=>a=b
 | .nils,.lits _ l=>l = []
 | .lits z l,.lits z' m=>z=z'/\l=m/\AU m=true
 | .ref id gen s n,.lits z l=>∃es,st.arr? id gen=some (z,es)/\s+n<=es.length/\AU es=true/\(es.drop s).take n=l
 | .agg cs,.agg ds=>(∀c∈ds,c.isCell=true)/\DRxL st cs ds
 | .tuple cs,.tuple ds=>DRxL st cs ds
 | p,q=>p=q/\q.pur=true
def DRxL (st:Store):List PV->List PV->Prop
 | [],[]=>True
 | a::l,b::m=>DRx st a b/\DRxL st l m
 | _,_=>False
end
theorem Al5 {st:Store} {id gen s n z:Nat} {es:List PV} (h:st.arr? id gen=some (z,es)) (hn:s+n<=es.length) (hp:AU es=true):DR st (.ref id gen s n) (.lits z ((es.drop s).take n)) :=
 WI (by simp[rdC,h,hn,hp])
mutual
theorem DRx.sound {st:Store}:∀ {p q:PV},DRx st p q->DR st p q
 | .int k a,q,h=>by
  cases q <;> simp only[DRx,reduceCtorEq,false_and]at h
  obtain ⟨rfl,rfl⟩:=h;exact .pure _ rfl
 | .bool a,q,h=>by
  cases q <;> simp only[DRx,reduceCtorEq,false_and]at h
  subst h;exact .pure _ rfl
 | .str a,q,h=>by
  cases q <;> simp only[DRx,reduceCtorEq,false_and]at h
  subst h;exact .pure _ rfl
 | .nils,q,h=>by
  cases q <;> simp only[DRx,reduceCtorEq,false_and]at h
  .exact .pure _ rfl
  .subst h;exact .nils _
 | .lits z l,q,h=>by
  cases q <;> simp only[DRx,reduceCtorEq,false_and]at h
  obtain ⟨rfl,rfl,hp⟩:=h;exact .pure _ hp
 | .ref id gen s n,q,h=>by
  cases q <;> simp only[DRx,reduceCtorEq,false_and]at h
  .obtain ⟨es,h1,h2,h3,rfl⟩:=h;exact Al5 h1 h2 h3
  .simp [gj]at h
 | .agg cs,q,h=>by
  cases q <;> simp only[DRx,reduceCtorEq,false_and]at h
  exact .agg _ _ (DRxL.sound h.2).1 h.1 (DRxL.sound h.2).2
 | .tuple cs,q,h=>by
  cases q <;> simp only[DRx,reduceCtorEq,false_and]at h
  exact .tuple _ _ (DRxL.sound h).1 (DRxL.sound h).2
 | .bad,q,h=>by cases q <;> simp only[DRx,reduceCtorEq,false_and]at h <;> simp[gj]at h
 | .nilp,q,h=>by cases q <;> simp only[DRx,reduceCtorEq,false_and]at h;exact .pure _ rfl
 | .ptr ..,q,h=>by cases q <;> simp only[DRx,reduceCtorEq,false_and]at h;simp[gj]at h
 | .vptr ..,q,h=>by cases q <;> simp only[DRx,reduceCtorEq,false_and]at h;rw[h.1];exact .pure _ h.2
 | .func ..,q,h=>by cases q <;> simp only[DRx,reduceCtorEq,false_and]at h;rw[h.1];exact .pure _ h.2
 | .nilf,q,h=>by cases q <;> simp only[DRx,reduceCtorEq,false_and]at h;exact .pure _ rfl
 | .iface ..,q,h=>by cases q <;> simp only[DRx,reduceCtorEq,false_and]at h;rw[h.1];exact .pure _ h.2
 | .nili,q,h=>by cases q <;> simp only[DRx,reduceCtorEq,false_and]at h;exact .pure _ rfl
 | .nilm,q,h=>by cases q <;> simp only[DRx,reduceCtorEq,false_and]at h;exact .pure _ rfl
 | .mref ..,q,h=>by cases q <;> simp only[DRx,reduceCtorEq,false_and]at h;simp[gj]at h
 | .iter ..,q,h=>by cases q <;> simp only[DRx,reduceCtorEq,false_and]at h;simp[gj]at h
theorem DRxL.sound {st:Store}:∀ {l m:List PV},DRxL st l m->l.length=m.length/\∀(i:Nat) (c d:PV),l[i]?=some c->m[i]?=some d->DR st c d
 | [],m,h=>by
  cases m <;> simp only[DRxL]at h
  exact ⟨rfl,by intro i c d h;simp at h⟩
 | a::l,m,h=>by
  cases m <;> simp only[DRxL]at h
  obtain ⟨h1,h2⟩:=DRxL.sound h.2
  refine ⟨by simp[h1],λi c d hc hd=>?_⟩
  cases i with
  | zero=>simp at hc hd;subst hc;subst hd;exact DRx.sound h.1
  | succ i=>exact h2 i c d (by simpa using hc) (by simpa using hd)
end
theorem Xi (b:Bool):gi (mz b) = [(mz b)]:=nrfl rfl
theorem Xj (b:Bool):PV.scal1 (mz b)=true:=nrfl rfl
theorem dE (b:Bool):PV.scal (mz b)=true:=nrfl rfl
theorem nF (b:Bool):gj (mz b)=true:=by simp only[gj]
theorem nG (st:Store) (b:Bool):rdC st (mz b)=some (mz b):=by simp[rdC,gj]
theorem nH (st:Store) (b:Bool):rdP st (mz b)=some (mz b):=by simp[rdP,rdC,gj]
theorem UO (b:Bool):m6 (mz b)=true:=nrfl rfl
theorem dF (k:IntKind) (n:Int):gi (mt k n) = [(mt k n)]:=nrfl rfl
theorem dG (k:IntKind) (n:Int):PV.scal1 (mt k n)=true:=nrfl rfl
theorem nI (k:IntKind) (n:Int):PV.scal (mt k n)=true:=nrfl rfl
theorem Fo (k:IntKind) (n:Int):gj (mt k n)=true:=by simp only[gj]
theorem zE (st:Store) (k:IntKind) (n:Int):rdC st (mt k n)=some (mt k n):=by simp[rdC,gj]
theorem zF (st:Store) (k:IntKind) (n:Int):rdP st (mt k n)=some (mt k n):=by simp[rdP,rdC,gj]
theorem Xk (k:IntKind) (n:Int):m6 (mt k n)=true:=nrfl rfl
theorem dH (s:List UInt8):gi (mw s) = [(mw s)]:=nrfl rfl
theorem dJ (s:List UInt8):PV.scal1 (mw s)=true:=nrfl rfl
theorem nJ (s:List UInt8):PV.scal (mw s)=true:=nrfl rfl
theorem zG (s:List UInt8):gj (mw s)=true:=by simp only[gj]
theorem zH (st:Store) (s:List UInt8):rdC st (mw s)=some (mw s):=by simp[rdC,gj]
theorem zI (st:Store) (s:List UInt8):rdP st (mw s)=some (mw s):=by simp[rdP,rdC,gj]
theorem Xl (s:List UInt8):m6 (mw s)=true:=nrfl rfl
theorem Xm  : gi m7 = [m7]:=nrfl rfl
theorem Xn  : PV.scal1 m7=true:=nrfl rfl
theorem dK  : PV.scal m7=true:=nrfl rfl
theorem nK  : gj m7=true:=by simp only[gj]
theorem nL (st:Store)  : rdC st m7=some m7:=by simp[rdC,gj]
theorem nN (st:Store)  : rdP st m7=some m7:=by simp[rdP,rdC,gj]
theorem dM (i g x o:Nat):gi (PV.ptr i g x o) = [(PV.ptr i g x o)]:=nrfl rfl
theorem Xo (cs:List PV) (o:Nat):gi (m9 cs o) = [(m9 cs o)]:=nrfl rfl
theorem UP (cs:List PV) (o:Nat):gj (m9 cs o)=AU cs:=by simp only[gj]
theorem nO (st:Store) (cs:List PV) (o:Nat):rdC st (m9 cs o)=if AU cs=true then some (m9 cs o)else none:=by simp only[rdC,gj];congr
theorem nP (st:Store) (cs:List PV) (o:Nat):rdP st (m9 cs o)=if AU cs=true then some (m9 cs o)else none:=by simp only[rdP,rdC,gj];congr
theorem Xp  : gi na = [na]:=nrfl rfl
theorem Xq  : PV.scal1 na=true:=nrfl rfl
theorem dN  : PV.scal na=true:=nrfl rfl
theorem nQ  : gj na=true:=by simp only[gj]
theorem nR (st:Store)  : rdC st na=some na:=by simp[rdC,gj]
theorem nS (st:Store)  : rdP st na=some na:=by simp[rdP,rdC,gj]
theorem UQ  : m6 na=true:=nrfl rfl
theorem Xr (z:Nat) (l:List PV):gi (nb z l) = [(nb z l)]:=nrfl rfl
theorem Xs (z:Nat) (l:List PV):PV.scal1 (nb z l)=false:=nrfl rfl
theorem dO (z:Nat) (l:List PV):PV.scal (nb z l)=false:=nrfl rfl
theorem Ln (z:Nat) (l:List PV):gj (nb z l)=AU l:=by simp only[gj]
theorem nT (st:Store) (z:Nat) (l:List PV):rdC st (nb z l)=if AU l=true then some (nb z l)else none:=by simp only[rdC,gj];congr
theorem nU (st:Store) (z:Nat) (l:List PV):rdP st (nb z l)=if AU l=true then some (nb z l)else none:=by simp only[rdP,rdC,gj];congr
theorem UR (z:Nat) (l:List PV):m6 (nb z l)=true:=nrfl rfl
theorem dQ (i g s n:Nat):gi (nc i g s n) = [(nc i g s n)]:=nrfl rfl
theorem zJ (i g s n:Nat):gj (nc i g s n)=false:=by simp only[gj]
theorem dR (i g s n:Nat):PV.scal1 (nc i g s n)=false:=nrfl rfl
theorem zK (st:Store) (i g s n:Nat):rdC st (nc i g s n)=(st.arr? i g).bind λq=>if s+n<=q.2.length/\AU q.2=true then some (.lits q.1 ((q.2.drop s).take n))else none:=by simp only[rdC]
theorem zL (st:Store) (i g s n:Nat):rdP st (nc i g s n)=(st.arr? i g).bind λq=>if s+n<=q.2.length/\AU q.2=true then some (.lits q.1 ((q.2.drop s).take n))else none:=by simp only[rdP,rdC]
theorem Xt (f:Fn) (a b:List PV):gi (nf f a b) = [(nf f a b)]:=nrfl rfl
theorem US (f:Fn) (a b:List PV):gj (nf f a b)=(AU a&&AU b):=by simp only[gj]
theorem nV (st:Store) (f:Fn) (a b:List PV):rdC st (nf f a b)=if (AU a&&AU b)=true then some (nf f a b)else none:=by simp only[rdC,gj];congr
theorem nW (st:Store) (f:Fn) (a b:List PV):rdP st (nf f a b)=if (AU a&&AU b)=true then some (nf f a b)else none:=by simp only[rdP,rdC,gj];congr
theorem Xu  : gi ng = [ng]:=nrfl rfl
theorem Xv  : PV.scal1 ng=true:=nrfl rfl
theorem dU  : PV.scal ng=true:=nrfl rfl
theorem nX  : gj ng=true:=by simp only[gj]
theorem nY (st:Store)  : rdC st ng=some ng:=by simp[rdC,gj]
theorem nZ (st:Store)  : rdP st ng=some ng:=by simp[rdP,rdC,gj]
theorem UT  : m6 ng=true:=nrfl rfl
theorem UU (t:TypeId) (v:PV):gi (PV.iface t v) = [(PV.iface t v)]:=nrfl rfl
theorem Xw  : gi nh = [nh]:=nrfl rfl
theorem Xx  : PV.scal1 nh=true:=nrfl rfl
theorem dV  : PV.scal nh=true:=nrfl rfl
theorem oA  : gj nh=true:=by simp only[gj]
theorem oB (st:Store)  : rdC st nh=some nh:=by simp[rdC,gj]
theorem oC (st:Store)  : rdP st nh=some nh:=by simp[rdP,rdC,gj]
theorem UV  : m6 nh=true:=nrfl rfl
theorem dW (l:List PV):gi (PV.agg l)=l:=nrfl rfl
theorem oD (l:List PV):PV.scal (PV.agg l)=l.all PV.scal1:=nrfl rfl
theorem HB (l:List PV):gj (PV.agg l)=AU l:=by simp only[gj]
theorem zM (st:Store) (l:List PV):rdP st (PV.agg l)=(rdL st l).bind λds=>if ds.all m6=true then some (.agg ds)else none:=by simp only[rdP]
theorem Xy (l:List PV):PV.scal (PV.tuple l)=l.all PV.scal1:=nrfl rfl
theorem dX (l:List PV):gj (PV.tuple l)=AU l:=by simp only[gj]
theorem Xz  : gi ni = [ni]:=nrfl rfl
theorem XA  : PV.scal1 ni=true:=nrfl rfl
theorem dY  : PV.scal ni=true:=nrfl rfl
theorem oE  : gj ni=true:=by simp only[gj]
theorem oF (st:Store)  : rdC st ni=some ni:=by simp[rdC,gj]
theorem oG (st:Store)  : rdP st ni=some ni:=by simp[rdP,rdC,gj]
theorem zN (st:Store) (k k2:IntKind) (a b:Int):DRx st (.int k a) (.int k2 b)=(k=k2/\a=b):=by rw[DRx]
theorem oI (st:Store) (a b:Bool):DRx st (.bool a) (.bool b)=(a=b):=by rw[DRx]
theorem zO (st:Store) (a b:List UInt8):DRx st (.str a) (.str b)=(a=b):=by rw[DRx]
theorem Qs (st:Store) (z:Nat) (l:List PV):DRx st .nils (.lits z l)=(l = []):=by rw[DRx]
theorem Qt (st:Store):DRx st .nils .nils=True:=by simp[DRx,gj]
theorem oJ (st:Store) (z y:Nat) (l m:List PV):DRx st (.lits z l) (.lits y m)=(z=y/\l=m/\AU m=true):=by rw[DRx]
theorem zP (st:Store) (i g s n z:Nat) (l:List PV):DRx st (.ref i g s n) (.lits z l)=∃es,st.arr? i g=some (z,es)/\s+n<=es.length/\AU es=true/\(es.drop s).take n=l:=by rw[DRx]
theorem zQ (st:Store) (l m:List PV):DRx st (.agg l) (.agg m)=(m.all m6=true/\DRxL st l m):=by rw[DRx,ga]
theorem dZ (st:Store) (l m:List PV):DRx st (.tuple l) (.tuple m)=DRxL st l m:=by rw[DRx]
theorem eC (st:Store) (a b:PV) (l m:List PV):DRxL st (a::l) (b::m)=(DRx st a b/\DRxL st l m):=by rw[DRxL]
theorem oK (st:Store):DRxL st [] []=True:=by rw[DRxL]
theorem St {X:Cfg} (hm:Bk X) {N:Nat} {Q Q':IExit->IState->Prop} {c:Code} {s:IState} (h:∀e s,Q e s->Q' e s) (hr:run X N Q c [] s):run X N Q' c [] s:=Q1 hm h hr
theorem Agh {P:Program} (hmix:P.follows .mixedOrders=true) {l:AX} (hl:Bw P l) (muts:List Nat) (frz:List Nat) {f:FuncId} {fn:Func} {c:Code} (hf:P.funcs[f]?=some fn) (hb:fn.body=some c)
  (hname : (fn.name == "runtime.NumGoroutine") = false) {args : List PV} {N : Nat} (hN : fn.ntmps = N) (hn : args.length ≤ N) {rs : List ResultVar} (hrs : fn.results.toList = rs) {r : PV} (n : Nat) {dep : Nat}
  (h : AK args->run (cfg P l muts frz dep) N (Ao P rs (λp st=>DRx st p r)) c [] ⟨GX args,stR n⟩):VC P f args r :=
 Xd hmix hl muts frz hf hb hname hN hn hrs n λhs=>St (A8 rfl) (λe s hq=>by
  cases e with
  | normal=>obtain⟨p,h1,h2⟩:=hq;exact⟨p,h1,h2.sound⟩
  | exit i=>exact hq.elim
  | ret=>obtain⟨p,h1,h2⟩:=hq;exact⟨p,h1,h2.sound⟩) (h hs)
end Sim
