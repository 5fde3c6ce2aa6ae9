/- Lemmas. -/
import Derived.Test.YtdfjimjbdakofaaGreatSimX
import Derived.Test.YtdfjimjbdakofaaGreatSimP
import Derived.Shelf.SlSortCmp.NoneTotal
import Derived.Test.YtdfjimjbdakofaaGreatProg
import Derived.KernelRfl
import Init
set_option maxRecDepth 100000
set_option linter.all false
open And renaming intro->pd
open Array renaming getD_eq_getD_getElem?->fd,getElem?_modify->iq
open Bool renaming and_eq_true->fy,false_eq_true->gu,eq_iff_iff->nt
open Classical renaming byContradiction->pq,propDecidable->qo
open Go.Addr renaming add->og
open Go.DataW renaming trod->n6,trod_slice->n7,TrodAll->oq,TrodAll.respare->ot
open Go.Proofs.Tryz renaming prog->pk
open Go.Sort renaming ahead->o9
open Go.Value renaming okWide->oo
open Go.World renaming cells?_some->n9,cell?->ah,frozen?->ou
open Int renaming toNat_natCast->pe,le_refl->pj,mul_add->pn,mul_sub->po,mul_nonneg->pu,mul_assoc->pz,mul_comm->p8,le_trans->qj
open List renaming all_eq_true->ga,getElem?_eq_getElem->gl,getD_eq_getElem?_getD->oa,mem_iff_getElem->oc,getD_cons_zero->od,eq_nil_of_length_eq_zero->fo,mem_map->oh,getElem?_map->bw,getElem?_eq_some_iff->ab,drop_zero->oj,take_succ_cons->ol,take_zero->cz,drop_succ_cons->om,mem_cons->li,mem_append->kq,getElem?_append_left->cq,contains_cons->ov,length_map->ow,getElem_mem->oz,map_cons->nj,length_cons->pg,getElem?_set->qb,count_set->qf,count_pos_iff->qh,perm_append_comm->qi,mem_cons_of_mem->qk,replicate->ba,mem_singleton->ku,count_cons->ql,Pairwise.of_map->qm,count_eq_zero_of_not_mem->qn
open Nat renaming strongRecOn->nw,lt_succ_self->ny,le_refl->cg,mul_comm->eq
open Option renaming map_eq_some_iff->az,bind_eq_some_iff->au,getD_some->gv,map_some->dz
open Prod renaming mk.injEq->c9
open Sim.PV renaming cells->gi,isCell->m6
namespace Sim
open Go
def ev (X:Cfg) (N:Nat):Nat->Code->IState->Option (IExit×IState)
 | 0,_,_=>none
 | n+1,c,s=>match c with
  | .skip=>some (.normal,s)
  | .region _ ops _=>if noY X ops=true then (lR X N ops ops.toList s).map λs'=>(.normal,s')else none
  | .seq a b=>match ev X N n a s with
   | some (.normal,s')=>ev X N n b s'
   | r=>r
  | .cond c a b=>match AA s.env c with
   | .bool true=>ev X N n a s
   | .bool false=>ev X N n b s
   | _=>none
  | .block id c=>match ev X N n c s with
   | some (.exit i,s')=>if i=id then some (.normal,s')else some (.exit i,s')
   | r=>r
  | .loop c=>match ev X N n c s with
   | some (.normal,s')=>ev X N n (.loop c) s'
   | r=>r
  | .exit id=>some (.exit id,s)
  | .ret=>some (.ret,s)
  | _=>none
theorem Vu {X:Cfg} (hy:X.yl=none) {N:Nat}:∀(n:Nat) (c:Code) (s:IState) (e:IExit) (s':IState),ev X N n c s=some (e,s')->∀Q:IExit->IState->Prop,Q e s'->wpI X N (Bo c) Q s:=by
 intro n
 induction n using nw with
 | _ n ih =>
  intro c s e s' h Q hQ
  cases n with
  | zero=>simp[ev]at h
  | succ n =>
   cases c <;> simp only[ev]at h
   case skip=>cases h;exact hQ
   case region id ops dr =>
    split at h
    .rename_i hn
     simp only[az,c9]at h
     obtain ⟨s1,h1,rfl,rfl⟩:=h
     exact .inl ⟨λh=>by simp at h,(Ox (λo ho=>ga.1 hn o ho)).2 ⟨s1,h1,hQ⟩⟩
    .cases h
   case seq a b =>
    split at h
    .rename_i s1 h1
     exact ih n (ny n) a s _ _ h1 _ (ih n (ny n) b s1 e s' h Q hQ)
    .rename_i h1
     refine ih n (ny n) a s _ _ h _ ?_
     cases e with
     | normal=>exact absurd h (h1 _)
     | exit i=>exact hQ
     | ret=>exact hQ
   case cond c a b =>
    simp only[Bo,wpI,wpC]
    split at h
    .rename_i h1
     simp only[h1]
     exact ⟨λ_=>ih n (ny n) a s _ _ h _ hQ,λh=>by simp at h⟩
    .rename_i h1
     simp only[h1]
     exact ⟨λh=>by simp at h,λ_=>ih n (ny n) b s _ _ h _ hQ⟩
    .cases h
   case block id c =>
    split at h
    .rename_i i s1 h1
     refine ih n (ny n) c s _ _ h1 _ ?_
     dsimp only
     split at h
     .rename_i hi
      cases h
      rw [if_pos hi];exact hQ
     .rename_i hi
      cases h
      rw [if_neg hi];exact hQ
    .rename_i h1
     refine ih n (ny n) c s _ _ h _ ?_
     cases e with
     | normal=>exact hQ
     | exit i=>exact absurd h (h1 _ _)
     | ret=>exact hQ
   case loop c =>
    refine ⟨λm t=>m<=n+1/\ev X N m (.loop c) t=some (e,s'),n+1,⟨s,.refl s,cg _,by simp only[ev];exact h⟩,?_⟩
    rintro m t ⟨hm,ht⟩
    cases m with
    | zero=>simp[ev]at ht
    | succ m =>
     simp only[ev]at ht
     split at ht
     .rename_i s1 h1
      exact ih m (by omega) c t _ _ h1 _ ⟨m,ny m,s1,.refl s1,by omega,ht⟩
     .rename_i h1
      refine ih m (by omega) c t _ _ ht _ ?_
      cases e with
      | normal=>exact absurd ht (h1 _)
      | exit i=>exact hQ
      | ret=>exact hQ
   case exit id=>cases h;exact hQ
   case ret=>cases h;exact hQ
   all_goals cases h
def rdF (st:Store):PV->Option PV
 | .tuple vs=>(Ce st vs).map .tuple
 | p=>rdP st p
theorem rP {st:Store} {p q:PV} (h:rdF st p=some q):DR st p q:=by
 unfold rdF at h
 split at h
 .simp only[az]at h
  obtain ⟨ds,h1,rfl⟩:=h
  obtain ⟨h2,h3⟩:=Mq h1
  exact .tuple _ _ h2 h3
 .exact R8 h
end Sim
namespace Sim
open Go Go.ChangeShapes Go.WideShapes Go.RowKit
def full (w:World):Nat->Nat->Option Value:=λb o=>w.cell? ⟨b,o,none⟩
def RdC (P:Program) (w:World) (t:TypeId) {α:Type} (f:α->PV) (q:α->Prop):Prop :=
 ∀ {H:Type} (enc:TypeId×Value->H) (bs:Nat) (spare:Nat->Bool) (held:Bool) (fuel:Nat) (cs:List Value) (x:DataW H×List MemPlace),n6 enc P w bs spare held fuel t cs=some x ->
  ∃ a,q a/\(f a).cells.length=cs.length/\(∀c∈(f a).cells,c.isCell=true)/\∀(j:Nat) (c:PV),(f a).cells[j]?=some c->VR (base (full w) w) (cs.getD j undef) c
theorem Gz {α:Type} {Q:Nat->α->Prop}:∀(n:Nat),(∀i,i<n->∃a,Q i a)->∃l:List α,l.length=n/\∀i (h:i<l.length),Q i l[i]
 | 0,_=>⟨[],rfl,λi h=>absurd h (by simp)⟩
 | n+1,h=>by
  obtain ⟨l,h1,h2⟩:=Gz n λi hi=>h i (by omega)
  obtain ⟨a,ha⟩:=h n (by omega)
  refine ⟨l ++ [a],by simp[h1],λi hi=>?_⟩
  rw [List.getElem_append]
  split
  .exact h2 i _
  .have : i=n:=by simp at hi;omega
   subst this
   simpa using ha
theorem RdC.int {P:Program} {w:World} {t:TypeId} {k:IntKind} (ht:P.underlying t=some (.int k)):RdC P w t (PV.int k) (λn=>(Lit.int k n).wf=true):=by
 intro H enc bs spare held fuel cs x h
 cases fuel with
 | zero=>simp[n6]at h
 | succ n =>
  unfold n6 at h
  rw [ht]at h
  split at h <;> simp_all
  obtain ⟨⟨rfl,hw⟩,_⟩:=h
  refine ⟨_,hw,by simp[gi],by simp[gi,m6],λj c hj=>?_⟩
  simp only[gi]at hj
  cases j with
  | zero=>simp at hj;subst hj;exact .int _ _
  | succ j=>simp at hj
theorem RdC.slice {P:Program} {w:World} {t e:TypeId} (ht:P.underlying t=some (.slice e)) {z:Nat} (hz:P.cellsOf e=z) (hz0:0<z) {α:Type} {f:α->PV} {q:α->Prop} (he:RdC P w e f q) :
  RdC P w t (λl:List α=>.lits z (l.map f)) (λl=>∀a∈l,q a):=by
 intro H enc bs spare held fuel cs x h
 rcases n7 ht h with ⟨rfl,rfl⟩ | ⟨a,len,cap,elems,rest,n,_,rfl,rfl,hb,hl,hm,hlen,hel,hsp,hns⟩
 .refine ⟨[],by simp,by simp[gi],by simp[gi,m6],λj c hj=>?_⟩
  simp only[gi]at hj
  cases j with
  | zero=>simp at hj;subst hj;exact .lits0 _ _ _
  | succ j=>simp at hj
 .obtain ⟨l,h1,h2⟩:=Gz (Q:=λi v=>q v/\(f v).cells.length=z/\(∀c∈(f v).cells,c.isCell=true)/\∀j,j<z->∃u,w.cell? ((a.add (i*z)).add j)=some u/\∀c,(f v).cells[j]?=some c->VR (base (full w) w) u c) len (λi hi=>by
   have h3:=hel i hi
   rw [hz]at h3
   have h4:elems[i]?=some (elems[i]'(by omega)):=gl (by omega)
   rw [h4,au]at h3
   obtain ⟨cs,h5,h6⟩:=h3
   obtain ⟨v,hq,h7,h8,h9⟩:=he enc bs spare held n cs _ h6
   obtain ⟨_,h10,h11⟩:=n9 h5
   refine ⟨v,hq,by omega,h8,λj hj=>?_⟩
   refine ⟨cs[j]'(by omega),by rw[h11 j hj];exact gl _,λc hc=>?_⟩
   have := h9 j c hc
   rwa [oa,gl (by omega),gv]at this)
  refine ⟨l,λv hv=>?_,by simp[gi],by simp[gi,m6],λj c hj=>?_⟩
  .obtain ⟨i,hi,rfl⟩:=oc.1 hv
   exact (h2 i hi).1
  simp only[gi]at hj
  cases j with
  | succ j=>simp at hj
  | zero =>
   simp at hj;subst hj
   simp only[od]
   cases len with
   | zero =>
    have : l = []:=fo h1
    subst this
    exact .lits0 _ _ _
   | succ m =>
    obtain ⟨u,hu,_⟩:=(h2 0 (by omega)).2.2.2 0 hz0
    simp only[Nat.zero_mul,og,if_true]at hu
    obtain ⟨b,o,sp⟩:=a
    have hsp0:sp=none:=by
     cases sp with
     | none=>rfl
     | some s=>simp[ah]at hu;split at hu <;> simp at hu
    subst hsp0
    have hlen':(l.map f).length=m+1:=by simp[h1]
    rw [<-hlen']
    have hadd:∀i j,((Addr.mk b o none).add (i*z)).add j=⟨b,o+i*z+j,none⟩:=λi j=>by
     unfold og
     split
     .rename_i h3;split
      .rename_i h4;simp[h3,h4]
      .simp [h3]
     .split
      .rename_i h3 h4;rw[h4];rfl
      .rfl
    refine .lits b o z cap (l.map f) (by omega) hm hz0 (λv hv=>?_) (λi j hi hj=>?_) (λi j v c hv hc=>?_)
    .obtain ⟨a',ha',rfl⟩:=oh.1 hv
     obtain ⟨i,hi,rfl⟩:=oc.1 ha'
     exact ⟨(h2 i hi).2.1,(h2 i hi).2.2.1⟩
    .have hi':i<l.length:=by simpa using hi
     obtain ⟨u,hu,_⟩:=(h2 i hi').2.2.2 j hj
     rw [hadd]at hu
     show (w.cell? ⟨b,o+i*z+j,none⟩).isSome=true
     rw [hu];rfl
    .rw [bw,az]at hv
     obtain ⟨a',ha',rfl⟩:=hv
     obtain ⟨hi,rfl⟩:=ab.1 ha'
     have hj:j<z:=by
      have :=(ab.1 hc).1
      have :=(h2 i hi).2.1
      omega
     obtain ⟨u,hu,hv⟩:=(h2 i hi).2.2.2 j hj
     rw [hadd]at hu
     show VR _ ((w.cell? ⟨b,o+i*z+j,none⟩).getD undef) c
     rw [hu];exact hv c hc
theorem RdC.struct2 {P:Program} {w:World} {t:TypeId} {f0 f1:Field} (ht:P.underlying t=some (.struct #[f0,f1])) (hn:P.cellsOf t=2) (ho:f0.offset=0/\f1.offset=1) (hc:P.cellsOf f0.type=1/\P.cellsOf f1.type=1)
  {α β:Type} {f:α->PV} {g:β->PV} {q:α->Prop} {r:β->Prop} (hf:RdC P w f0.type f q) (hg:RdC P w f1.type g r) (hfc:∀a,(f a).cells = [f a]) (hgc:∀b,(g b).cells = [g b]) :
  RdC P w t (λa:α×β=>.agg [f a.1,g a.2]) (λa=>q a.1/\r a.2):=by
 intro H enc bs spare held fuel cs x h
 obtain ⟨y0,y1,n,_,hl,h0,h1⟩:=trod_struct2 ht h
 rw [hn]at hl
 rw [ho.1,hc.1]at h0
 rw [ho.2,hc.2]at h1
 match cs,hl with
 | [c0,c1],_ =>
  simp only[oj,ol,cz,om,oj]at h0 h1
  obtain ⟨a,qa,_,a2,a3⟩:=hf enc bs spare held n _ _ h0
  obtain ⟨b,rb,_,b2,b3⟩:=hg enc bs spare held n _ _ h1
  refine ⟨(a,b),⟨qa,rb⟩,rfl,λc hc=>?_,λj c hj=>?_⟩
  .simp only[gi,li,List.not_mem_nil,or_false]at hc
   rcases hc with rfl | rfl
   .exact a2 _ (by rw[hfc];simp)
   .exact b2 _ (by rw[hgc];simp)
  .simp only[gi]at hj
   match j,hj with
   | 0,hj =>
    simp at hj;subst hj
    exact a3 0 _ (by rw[hfc];rfl)
   | 1,hj =>
    simp at hj;subst hj
    exact b3 0 _ (by rw[hgc];rfl)
   | j+2,hj=>simp at hj
theorem RdC.arg {P:Program} {w:World} {t e:TypeId} (ht:P.underlying t=some (.slice e)) {α:Type} {f:α->PV} {q:α->Prop} (h:RdC P w t f q) (hc:∀a,(f a).cells = [f a]) {H:Type} {enc:TypeId×Value->H} {bs b0:Nat} {spare:Nat->Bool} {held:Bool} {v:Value} {d:DataW H} {ps:List MemPlace}
  (hval : oo P w .any b0 t v) (hd:DataW.Trod enc P w bs spare held t v d ps):∃a,q a/\VR (base (full w) w) v (f a):=by
 obtain ⟨s,len,cap,rfl⟩:=okWide_slice ht hval
 obtain ⟨fuel,hd⟩:=hd
 obtain ⟨a,qa,_,_,h3⟩:=h enc bs spare held fuel _ _ hd
 exact ⟨a,qa,h3 0 _ (by rw[hc];rfl)⟩
theorem Lp {H:Type} {enc:TypeId×Value->H} {P:Program} {w w':World} (hold:∀b,b<w.heap.size->w'.heap[b]?=w.heap[b]?) {bs:Nat} {spare:Nat->Bool} {held:Bool} :
  ∀ {ts:List TypeId} {vs:List Value} {ds:List (DataW H)} {ps:List MemPlace},(∀p∈ps,p.block<w.heap.size)->oq enc P w bs spare held ts vs ds ps->oq enc P w' bs spare held ts vs ds ps
 | [],_,_,_,hp,h=>by
  obtain ⟨rfl,rfl,rfl⟩:=trodAll_nil h
  exact trodAll_mk0
 | _::_,_,_,_,hp,h=>by
  obtain ⟨v,vs1,d,ds1,a,b,rfl,rfl,rfl,⟨n,h1⟩,h2⟩:=trodAll_cons h
  refine ⟨a,b,⟨n,DataW.trod_carry n _ _ _ h1 λp hp'=>?_⟩,Lp hold (λp h=>hp p (by simp[h])) h2,rfl⟩
  have hb:=hp p (by simp only[kq];exact .inl hp')
  cases p with
  | cell b off=>simp only[World.sameAt,ah];rw[hold b hb]
  | map b=>exact hold b hb
theorem iU {H:Type} {enc:TypeId×Value->H} {P:Program} {T:TypeId->Prop} (K:Kids P T) (hz:∀t e,T t->P.underlying t=some (.slice e)->0<P.cellsOf e)
  {f : Func} {s:ChangeSpec} {apart fresh handsOn again:Bool} {W W':World} {args:Array Value} {v:Value} {ds gs:List (DataW H)} {before:List MemPlace}
  (hT : ∀t∈f.params.toList,T t) (hv:s.vars = []) (hW:DataW.Whole enc P f.params.toList s.vars apart W args.toList ds gs before)
  (hfr : W'.os=W.os/\W'.output=W.output) (hold:∀b,b<W.heap.size->W'.heap[b]?=W.heap[b]?)
  (ha : (s.fn H (ds++gs)).args=ds) (hvs:(s.fn H (ds++gs)).vars = [])
  (hres : ∀(b:Nat) (sp:Nat->Bool) (hd:Bool),oq enc P W' b sp hd f.resultTypes.toList (v.resultList f.resultTypes.size) (s.fn H (ds++gs)).results [])
  (hok : ∀(j:Nat) (t:TypeId) (r:Value),f.resultTypes[j]?=some t->(v.resultList f.resultTypes.size)[j]?=some r->oo P W' .any 0 t r) :
  s.post enc P f apart fresh handsOn again W args v W':=by
 have hlt:=hW.lt
 have hW':=hW
 obtain ⟨p,q,hA,hV,rfl,hfz,hnd⟩:=hW
 rw [hv]at hV
 obtain ⟨rfl,rfl⟩:=trodVars_none hV
 have hA':=Lp hold (λx hx=>hlt x (by simp[hx])) hA
 have hargs:∀sp:Nat->Bool,(∀x∈p,sp x.block=true)->oq enc P W' 0 sp true f.params.toList args.toList (s.fn H (ds ++ [])).args p:=λsp hsp=>by
  rw [ha];exact ot K hz hT hA' hsp
 have hvars:∀sp:Nat->Bool,DataW.TrodVars enc P W' sp s.vars (s.fn H (ds ++ [])).vars []:=λsp=>by rw[hv,hvs];rfl
 have hspec:∀x∈p,(λb=>decide (b<W.heap.size)) x.block=true:=λx hx=>by simpa using hlt x (by simp[hx])
 refine ⟨ds,[],p ++ [],[],p,[],hW',hres _ _ _,hargs _ hspec,hvars _,⟨hfr.1,hfr.2,λi hi=>?_⟩,λ_=>?_⟩
 .rw [hold i hi]
  cases hh:W.heap[i]? with
  | none=>trivial
  | some o=>cases o with
   | cells c t fr=>exact⟨rfl,rfl,rfl,λ_ _=>rfl⟩
   | map es clock=>exact .inr ⟨rfl,rfl⟩
   | _=>rfl
 .refine ⟨hok,_,_,([]++p) ++ [],⟨[]++p,[],trodAll_append (hargs _ (λ_ _=>rfl)) (hres _ _ _),hvars _,rfl,?_,?_⟩,?_⟩
  .intro b off hp
   have hp':MemPlace.cell b off∈p:=by simpa using hp
   have := hfz b off (by simp[hp'])
   have hb:=hlt _ (List.mem_append_left [] hp')
   unfold ou at this ⊢
   rw [hold b hb];exact this
  .intro ha;simpa using hnd ha
  .intro x hx _;simpa using hx
def RdD (P:Program) (w:World) (t:TypeId) {α:Type} (f:α->PV) (q:α->(H:Type)->DataW H->Prop):Prop :=
 ∀ {H:Type} (enc:TypeId×Value->H) (bs:Nat) (spare:Nat->Bool) (held:Bool) (fuel:Nat) (cs:List Value) (x:DataW H×List MemPlace),n6 enc P w bs spare held fuel t cs=some x ->
  ∃ a,q a H x.1/\(f a).cells.length=cs.length/\(∀c∈(f a).cells,c.isCell=true)/\∀(j:Nat) (c:PV),(f a).cells[j]?=some c->VR (base (full w) w) (cs.getD j undef) c
theorem RdC.d {P:Program} {w:World} {t:TypeId} {α:Type} {f:α->PV} {q:α->Prop} (h:RdC P w t f q):RdD P w t f (λa _ _=>q a):=h
theorem RdD.str {P:Program} {w:World} {t:TypeId} (ht:P.underlying t=some .string):RdD P w t PV.str (λs H d=>d=.lit (.string s)):=by
 intro H enc bs spare held fuel cs x h
 cases fuel with
 | zero=>simp[n6]at h
 | succ n =>
  unfold n6 at h
  rw [ht]at h
  match cs,h with
  | [.string s],h =>
   dsimp only at h
   split at h
   .rename_i hs
    cases h
    refine ⟨s.data.toList,rfl,rfl,by simp[gi,m6],λj c hj=>?_⟩
    simp only[gi]at hj
    cases j with
    | zero=>simp at hj;subst hj;exact .str _ _ rfl (by rw[Array.length_toList];exact hs)
    | succ j=>simp at hj
   .cases h
  | [],h=>simp at h
  | _::_::_,h=>simp at h
theorem RdD.slice {P:Program} {w:World} {t e:TypeId} (ht:P.underlying t=some (.slice e)) {z:Nat} (hz:P.cellsOf e=z) (hz0:0<z) {α:Type} {f:α->PV} {q:α->(H:Type)->DataW H->Prop} (he:RdD P w e f q) :
  RdD P w t (λl:List α=>.lits z (l.map f)) (λl H d=>l = []\/∃ds sp,d=.slice ds sp/\ds.length=l.length/\∀i (h:i<l.length) (h':i<ds.length),q l[i] H ds[i]):=by
 intro H enc bs spare held fuel cs x h
 rcases n7 ht h with ⟨rfl,rfl⟩ | ⟨a,len,cap,elems,rest,n,_,rfl,rfl,hb,hl,hm,hlen,hel,hsp,hns⟩
 .refine ⟨[],.inl rfl,by simp[gi],by simp[gi,m6],λj c hj=>?_⟩
  simp only[gi]at hj
  cases j with
  | zero=>simp at hj;subst hj;exact .lits0 _ _ _
  | succ j=>simp at hj
 .obtain ⟨l,h1,h2⟩:=Gz (Q:=λi v=>(∀h:i<elems.length,q v H elems[i].1)/\(f v).cells.length=z/\(∀c∈(f v).cells,c.isCell=true)/\∀j,j<z->∃u,w.cell? ((a.add (i*z)).add j)=some u/\∀c,(f v).cells[j]?=some c->VR (base (full w) w) u c) len (λi hi=>by
   have h3:=hel i hi
   rw [hz]at h3
   have h4:elems[i]?=some (elems[i]'(by omega)):=gl (by omega)
   rw [h4,au]at h3
   obtain ⟨cs,h5,h6⟩:=h3
   obtain ⟨v,hq,h7,h8,h9⟩:=he enc bs spare held n cs _ h6
   obtain ⟨_,h10,h11⟩:=n9 h5
   refine ⟨v,λ_=>hq,by omega,h8,λj hj=>?_⟩
   refine ⟨cs[j]'(by omega),by rw[h11 j hj];exact gl _,λc hc=>?_⟩
   have := h9 j c hc
   rwa [oa,gl (by omega),gv]at this)
  refine ⟨l,.inr ⟨_,_,rfl,by simp[h1,hlen],λi hi hi'=>?_⟩,by simp[gi],by simp[gi,m6],λj c hj=>?_⟩
  .have :=(h2 i hi).1 (by omega)
   simpa using this
  simp only[gi]at hj
  cases j with
  | succ j=>simp at hj
  | zero =>
   simp at hj;subst hj
   simp only[od]
   cases len with
   | zero =>
    have : l = []:=fo h1
    subst this
    exact .lits0 _ _ _
   | succ m =>
    obtain ⟨u,hu,_⟩:=(h2 0 (by omega)).2.2.2 0 hz0
    simp only[Nat.zero_mul,og,if_true]at hu
    obtain ⟨b,o,sp⟩:=a
    have hsp0:sp=none:=by
     cases sp with
     | none=>rfl
     | some s=>simp[ah]at hu;split at hu <;> simp at hu
    subst hsp0
    have hlen':(l.map f).length=m+1:=by simp[h1]
    rw [<-hlen']
    have hadd:∀i j,((Addr.mk b o none).add (i*z)).add j=⟨b,o+i*z+j,none⟩:=λi j=>by
     unfold og
     split
     .rename_i h3;split
      .rename_i h4;simp[h3,h4]
      .simp [h3]
     .split
      .rename_i h3 h4;rw[h4];rfl
      .rfl
    refine .lits b o z cap (l.map f) (by omega) hm hz0 (λv hv=>?_) (λi j hi hj=>?_) (λi j v c hv hc=>?_)
    .obtain ⟨a',ha',rfl⟩:=oh.1 hv
     obtain ⟨i,hi,rfl⟩:=oc.1 ha'
     exact ⟨(h2 i hi).2.1,(h2 i hi).2.2.1⟩
    .have hi':i<l.length:=by simpa using hi
     obtain ⟨u,hu,_⟩:=(h2 i hi').2.2.2 j hj
     rw [hadd]at hu
     show (w.cell? ⟨b,o+i*z+j,none⟩).isSome=true
     rw [hu];rfl
    .rw [bw,az]at hv
     obtain ⟨a',ha',rfl⟩:=hv
     obtain ⟨hi,rfl⟩:=ab.1 ha'
     have hj:j<z:=by
      have :=(ab.1 hc).1
      have :=(h2 i hi).2.1
      omega
     obtain ⟨u,hu,hv⟩:=(h2 i hi).2.2.2 j hj
     rw [hadd]at hu
     show VR _ ((w.cell? ⟨b,o+i*z+j,none⟩).getD undef) c
     rw [hu];exact hv c hc
def Part (w:World) (cs:List Value) (o:Nat) (l:List PV):Prop:=(∀c∈l,c.isCell=true)/\∀(j:Nat) (c:PV),l[j]?=some c->VR (base (full w) w) (cs.getD (o+j) undef) c
section
variable {w:World} {cs:List Value} {o:Nat}
theorem Part.nil:Part w cs o []:=⟨by simp,by simp⟩
theorem Part.append {l m:List PV} (h:Part w cs o l) (g:Part w cs (o+l.length) m):Part w cs o (l++m):=by
 refine ⟨λc hc=>?_,λj c hj=>?_⟩
 .rcases kq.1 hc with h1 | h1
  .exact h.1 c h1
  .exact g.1 c h1
 .by_cases hl:j<l.length
  .rw [cq hl]at hj;exact h.2 j c hj
  .rw [List.getElem?_append_right (by omega)]at hj
   have := g.2 _ c hj
   rwa [show o+l.length+(j-l.length)=o+j by omega]at this
end
theorem RdD.part {P:Program} {w:World} {t:TypeId} {α:Type} {f:α->PV} {q:α->(H:Type)->DataW H->Prop} (h:RdD P w t f q) {H:Type} {enc:TypeId×Value->H} {bs:Nat} {spare:Nat->Bool} {held:Bool} {fuel:Nat} {cs:List Value} {o n:Nat} (ho:o+n<=cs.length) {x:DataW H×List MemPlace}
  (hx : n6 enc P w bs spare held fuel t ((cs.drop o).take n)=some x):∃a,q a H x.1/\(f a).cells.length=n/\Part w cs o (f a).cells:=by
 obtain ⟨a,h1,h2,h3,h4⟩:=h enc bs spare held fuel _ x hx
 have hn:((cs.drop o).take n).length=n:=by simp;omega
 refine ⟨a,h1,by omega,h3,λj c hj=>?_⟩
 have hjn:j<n:=by have:=(ab.1 hj).1;omega
 have := h4 j c hj
 rwa [oa,List.getElem?_take_of_lt hjn,List.getElem?_drop,<-oa]at this
theorem Part.arg {w:World} {cs:Array Value} {l:List PV} (h:Part w cs.toList 0 l) (hn:cs.size=l.length):VR (base (full w) w) (.agg cs) (.agg l):=by
 refine .agg cs l hn h.1 λi p hp=>?_
 have := h.2 i p hp
 rw [Nat.zero_add]at this
 simpa [fd,oa]using this
end Sim
namespace Sim
open Go
def Bb (K:List Nat):Code->Code
 | .region id ops dr=>if K.contains id=true then .region id ops dr else .region id ops false
 | .seq a b=>.seq (Bb K a) (Bb K b)
 | .cond c a b=>.cond c (Bb K a) (Bb K b)
 | .block id c=>.block id (Bb K c)
 | .loop c=>.loop (Bb K c)
 | .scope c=>.scope (Bb K c)
 | c=>c
def C6 (K:List Nat) (X:Cfg):Code->Bool
 | .region id ops dr=>K.contains id || !dr||Ku X ops
 | .seq a b=>C6 K X a&&C6 K X b
 | .cond _ a b=>C6 K X a&&C6 K X b
 | .block _ c=>C6 K X c
 | .loop c=>C6 K X c
 | .scope c=>C6 K X c
 | _=>true
theorem Vv {K:List Nat} {G:WP} (hG:G.Mono) {X:Cfg} (hm:Bk X) {N:Nat} {c:Code}:∀ {Q:IExit->IState->Prop} {s:IState},C6 K X c=true->wpC G X N (Bb K c) Q s->wpC G X N c Q s:=by
 induction c with
 | skip=>intro Q s hd hs;exact hs
 | region id ops dr =>
  intro Q s hd hs
  simp only[Bb]at hs
  split at hs
  .exact hs
  .rename_i hk
   rcases hs with hs | hs
   .refine .inl ⟨λh=>?_,hs.2⟩
    subst h
    simp only[C6,Bool.or_eq_true]at hd
    rcases hd with (h | h) | h
    .exact absurd h hk
    .cases h
    .exact h
   .cases hs.1
 | seq a b iha ihb =>
  intro Q s hd hs
  simp only[C6,fy]at hd
  refine iha hd.1 (CZ hG X N _ _ _ _ hm (λe s' he=>?_) hs)
  cases e with
  | normal=>exact ihb hd.2 he
  | exit i=>exact he
  | ret=>exact he
 | cond c a b iha ihb =>
  intro Q s hd hs
  simp only[C6,fy]at hd
  simp only[Bb,wpC]at hs ⊢
  split at hs
  .exact ⟨λhv=>iha hd.1 (hs.1 hv),λhv=>ihb hd.2 (hs.2 hv)⟩
  .exact hs.elim
 | block id c ih=>intro Q s hd hs;exact ih hd hs
 | loop c ih =>
  intro Q s hd hs
  obtain ⟨J,n,h0,hr⟩:=hs
  exact ⟨J,n,h0,λm s' hs'=>ih hd (hr m s' hs')⟩
 | exit id=>intro Q s hd hs;exact hs
 | ret=>intro Q s hd hs;exact hs
 | rangeFunc=>intro Q s hd hs;exact hs
 | scope c ih=>intro Q s hd hs;exact ih hd hs
 | label=>intro Q s hd hs;exact hs
 | goto=>intro Q s hd hs;exact hs
 | refuse=>intro Q s hd hs;exact hs
theorem rQ {a i:Nat} : [a].contains i=(i==a):=by
 rw [ov]
 simp
section
variable {X:Cfg} {N:Nat} {Q:IExit->IState->Prop} {ks:List Kf} {s:IState} {K:List Nat}
theorem A6:run X N Q (Bb K .skip) ks s=Hu X N Q ks s:=nrfl rfl
theorem AP {a b:Code}:run X N Q (Bb K (.seq a b)) ks s=run X N Q (Bb K a) (.seq (Bb K b)::ks) s:=Se
theorem AI {id:Nat} {c:Code}:run X N Q (Bb K (.block id c)) ks s=run X N Q (Bb K c) (.blk id::ks) s:=Mt
theorem Lq {c:Code}:run X N Q (Bb K (.scope c)) ks s=run X N Q (Bb K c) ks s:=cA
theorem Vw {l:Nat}:run X N Q (Bb K (.label l)) ks s=Hu X N Q ks s:=cB
theorem Ci {id:Nat}:run X N Q (Bb K (.exit id)) ks s=Iv X N Q ks id s:=nrfl rfl
theorem Ev:run X N Q (Bb K .ret) ks s=done X N Q ks s:=nrfl rfl
theorem Ar {id:Nat} {l:List Oper} {dr:Bool} (h:K.contains id=false):run X N Q (Bb K (.region id l.toArray dr)) ks s=ops X N Q l.toArray l ks s:=by
 simp only[Bb,h,gu,if_false]
 exact Kw
theorem AH {c:Operand} {a b:Code}:run X N Q (Bb K (.cond c a b)) ks s=Iw (AA s.env c) (run X N Q (Bb K a) ks s) (run X N Q (Bb K b) ks s):=OE
theorem Vx {g:Operand} {ps:Array Tmp} {a b:Code}:run X N Q (Bb K (.rangeFunc g ps a b)) ks s=run X N Q (.rangeFunc g ps a b) ks s:=nrfl rfl
section
variable {id:Nat} {l:List Oper}
theorem Ym (a b:Nat) (h:K.contains id=true) (hd:NM X l.toArray a b=true) (h1:ops X N Q l.toArray l ks s) (h2:ops X N Q l.toArray (atO l.toArray (Qq l.length a b)) ks s):run X N Q (Bb K (.region id l.toArray true)) ks s:=by
 simp only[Bb,h,if_true]
 exact OD a b hd h1 h2
theorem Zn (t:Tree) (h:K.contains id=true) (hd:Kv X l.toArray t=true) (h1:∀r∈t.orders,ops X N Q l.toArray (atO l.toArray r) ks s):run X N Q (Bb K (.region id l.toArray true)) ks s:=by
 simp only[Bb,h,if_true]
 exact Ix t hd h1
end
end
theorem OX {P:Program} (K:List Nat) (hmix:P.follows .mixedOrders=true) {l:AX} (hl:Bw P l) (muts:List Nat) (frz:List Nat) (n dep:Nat) {f:FuncId} {fn:Func} {c:Code} (hf:P.funcs[f]?=some fn) (hb:fn.body=some c)
  (hname : (fn.name == "runtime.NumGoroutine") = false) {args : List PV} {N : Nat} (hN : fn.ntmps = N) (hn : args.length ≤ N) {rs : List ResultVar} (hrs : fn.results.toList = rs) (hd : C6 K (cfg P l muts frz dep) c = true) {r : PV}
  (h : AK args->run (cfg P l muts frz dep) N (Ao P rs (λp st=>DR st p r)) (Bb K c) [] ⟨GX args,⟨λi=>if i<n then some (.arr 0 1 [])else none,n⟩⟩):VC P f args r :=
 Xd hmix hl muts frz hf hb hname hN hn hrs n (dep:=dep) λhs=>Vv (EP _) (A8 rfl) hd (h hs)
def evR (P:Program) (fuel:Nat) (mu fr:List Nat) (n:Nat) (f:FuncId) (args:List PV):Option PV :=
 match P.funcs[f]? with
 | none=>none
 | some fn=>match fn.body with
  | none=>none
  | some c =>
   if (fn.name == "runtime.NumGoroutine") = false ∧ args.length ≤ fn.ntmps ∧ Bt (cfg P [] mu fr) c = true then
    match ev (cfg P [] mu fr) fn.ntmps fuel c ⟨GX args,stR n⟩with
    | some (.ret,s)=>(Sn P fn.results.toList s).bind λp=>rdF s.st p
    | some (.normal,s)=>(Sn P fn.results.toList s).bind λp=>rdF s.st p
    | _=>none
   else none
theorem MF {P:Program} (hmix:P.follows .mixedOrders=true) {fuel:Nat} {mu fr:List Nat} {n:Nat} {f:FuncId} {args:List PV} {q:PV} (h:evR P fuel mu fr n f args=some q):VC P f args q:=by
 unfold evR at h
 split at h
 .cases h
 .rename_i fn hf
  split at h
  .cases h
  .rename_i c hb
   split at h
   .rename_i hc
    obtain ⟨hname,hn,hd⟩:=hc
    refine Xd (dep:=0) hmix (l := []) Au mu fr hf hb hname rfl hn rfl n λ_=>?_
    refine Dh (A8 rfl) hd ?_
    split at h
    .rename_i s hs
     simp only[au]at h
     obtain ⟨p,hp,hq⟩:=h
     exact Vu rfl _ _ _ _ _ hs _ ⟨p,hp,rP hq⟩
    .rename_i s hs
     simp only[au]at h
     obtain ⟨p,hp,hq⟩:=h
     exact Vu rfl _ _ _ _ _ hs _ ⟨p,hp,rP hq⟩
    .cases h
   .cases h
end Sim
namespace Sim
open Go Go.Proofs Go.Shelf Go.RowKit Go.Lib Go.Sort
variable {P:Program} {ρ:Ren} {α:Type} [Inhabited α]
def toV:PV->Value
 | .int k n=>.int k n
 | .bool b=>.bool b
 | _=>undef
def HH:PV->Bool
 | .int _ _ | .bool _=>true
 | _=>false
theorem Aif {C:Ctx} {p:PV} (h:HH p=true):VR C (toV p) p:=by
 cases p <;> simp[HH]at h
 .exact .bool _
 .exact .int _ _
theorem Aig {C:Ctx} {v:Value} {p:PV} (h:HH p=true) (hv:VR C v p):v=toV p:=by
 cases p <;> simp[HH]at h
 .cases hv;rfl
 .cases hv;rfl
theorem SQ {p:PV} (h:HH p=true):p.isCell=true:=by
 cases p <;> simp[HH]at h <;> rfl
theorem Yn {p:PV} (h:HH p=true):p.scal1=true:=by
 cases p <;> simp[HH]at h <;> rfl
theorem Vy {z i j:Nat} (h:j<z):(i*z+j) / z=i/\(i*z+j) % z=j:=by
 have hz:0<z:=by omega
 rw [eq,Nat.mul_add_div hz,Nat.div_eq_of_lt h,Nat.mul_add_mod,Nat.mod_eq_of_lt h]
 exact ⟨by omega,rfl⟩
theorem Zo {z i j n:Nat} (hi:i<n) (h:j<z):i*z+j<n*z:=by
 have := Nat.mul_le_mul_right z (show i+1<=n by omega)
 rw [Nat.add_mul]at this;omega
theorem Abv {f:FuncId} {z:Nat} (hz:0<z) (enc:α->List PV) (hk:∀x,(enc x).length=z) (hp:∀x,∀c∈enc x,HH c=true) (cf:α->α->Int) (g:Nat)
  (htot : ∀(blk off cap:Nat) (d:Array α) (w:World),HoldsK (λx=>(enc x).map toV) z w blk off d->blk<w.heap.size->d.size<4611686018427387904 ->
   Calls P f #[.slice (some ⟨blk,off,none⟩) d.size cap,.func (.func g) #[] #[]] w λe w'=>e=.returned (.tuple #[])/\∃n os,w'=sortWorldK (λx=>(enc x).map toV) z w blk off n (d.toList.mergeSort λx y => !(ltOf cf) y x).toArray os)
  (d : List α) (hsz:d.length<4611686018427387904) :
  VCS P f g z (d.map λx=>.agg (enc x)) ((d.mergeSort λx y => !(ltOf cf) y x).map λx=>.agg (enc x)):=by
 have hk':∀x,((enc x).map toV).length=z:=λx=>by rw[ow,hk]
 refine ⟨by simp,λe he=>?_,λw blk off cap cs T hb hn hfit hc=>?_⟩
 .obtain ⟨x,_,rfl⟩:=oh.1 he
  exact ga.2 λc hcm=>Yn (hp x c hcm)
 .rw [ow]at hn hfit ⊢
  have hlt:blk<w.heap.size:=(Array.getElem?_eq_some_iff.1 hb).1
  have flat:∀(l:List α) (i j:Nat) (c:PV),j<z->∀hi:i<l.length,(enc l[i])[j]?=some c->(flatK (λx=>(enc x).map toV) z l.toArray)[i*z+j]! = toV c:=by
   intro l i j c hj hi hcj
   rw [get_flatK _ _ _ _ (by simpa using Zo hi hj),(Vy hj).1,(Vy hj).2]
   have h1:l.toArray[i]! = l[i]:=by rw[getElem!_pos _ _ (by simpa using hi)];simp
   rw [h1]
   have h2:=(ab.1 hcj)
   obtain ⟨h2,rfl⟩:=h2
   simp [h2]
  have hH:HoldsK (λx=>(enc x).map toV) z w blk off d.toArray:=by
   intro t ht
   rw [size_flatK]at ht
   have ht:t<d.length*z:=by simpa using ht
   have hi:t / z<d.length:=Nat.div_lt_of_lt_mul (by rw[eq];exact ht)
   have hj:t % z<z:=Nat.mod_lt _ hz
   have htd:t / z*z+t % z=t:=by rw[eq];exact Nat.div_add_mod t z
   have hcj:(enc d[t / z])[t % z]?=some ((enc d[t / z])[t % z]'(by rw[hk];exact hj)):=gl _
   obtain ⟨c1,c2,c3⟩:=hc (t / z) (.agg (enc d[t / z])) (by rw[bw,gl hi];rfl) ⟨λ_ _=>none,λ_=>none,λ_=>False,0,λ_=>none,w.os,#[],λ_=>false,λ_=>false⟩
   have h3:=Aig (hp _ _ (oz _)) (c3 (t % z) _ hcj)
   rw [Nat.add_assoc,htd]at h3
   have hcs:off+t<cs.size:=by omega
   refine ⟨?_,by simp[ou,hb]⟩
   have := flat d (t / z) (t % z) _ hj hi hcj
   rw [htd]at this
   simp only[id_eq]
   rw [this,<-h3]
   simp [ah,hb,fd,hcs]
  refine (htot blk off cap d.toArray w hH hlt (by simpa using hsz)).mono ?_
  .rintro e w' ⟨he,n,os,rfl⟩
   generalize hd':(d.mergeSort λx y => !(ltOf cf) y x)=d' at *
   have hl':d'.length=d.length:=by rw[<-hd'];simp
   refine ⟨he,⟨rfl,rfl⟩,?_,λb hb' hne=>?_,putCells id off (flatK (λx=>(enc x).map toV) z d'.toArray) cs,?_,by simp[putCells],λi e hi C=>?_⟩
   .simp [sortWorldK,putRowK,putRow,mapBlock,o9,grow]
   .simp only[sortWorldK,putRowK,putRow,mapBlock,o9,grow]
    rw [Array.getElem?_append_left (by simpa using hb'),iq,if_neg (Ne.symm hne)]
   .simp only[sortWorldK,putRowK,putRow,mapBlock,o9,grow,Array.getElem?_append,Array.size_modify,hlt,if_true,iq,hb,dz,onCells]
   .rw [bw,az]at hi
    obtain ⟨x,hx,rfl⟩:=hi
    obtain ⟨hi,rfl⟩:=ab.1 hx
    refine ⟨hk _,λc hcm=>SQ (hp _ c hcm),λj c hj=>?_⟩
    have hjz:j<z:=by have:=(ab.1 hj).1;simpa [gi,hk]using this
    have hf:=flat d' i j c hjz hi hj
    have hlt2:=Zo (n:=d'.length) hi hjz
    rw [hl']at hlt2
    have hcs:off+i*z+j<cs.size:=by generalize i*z=q at *;generalize d.length*z=q2 at *;omega
    have hsz2:i*z+j<d'.length*z:=by rw[hl'];exact hlt2
    have hv:(putCells id off (flatK (λx=>(enc x).map toV) z d'.toArray) cs).getD (off+i*z+j) undef=toV c:=by
     rw [<-hf]
     simp only[putCells,fd,Array.getElem?_mapIdx,size_flatK,List.size_toArray]
     rw [Array.getElem?_eq_getElem hcs,dz,gv,if_pos ⟨by omega,by omega⟩]
     rw [show off+i*z+j-off=i*z+j by omega];rfl
    rw [hv]
    exact Aif (hp _ c (List.mem_of_getElem? hj))
end Sim
namespace Sim
open Go
def bdD:=(aI (aI (aI (aI (aI (aI @Aa6 @Ah9) (aI @qC (aI @Aa7 @Aia))) (aI (aI @gI (aI @Aa8
 @lS)) (aI @lW (aI @yL @OE)))) (aI (aI (aI @lZ @mD) (aI @mE (aI @yM @cD))) (aI (pd
 @cE (aI @mF @mG)) (aI @mH (aI @mI @yN))))) (aI (aI (aI (aI @Se @Kw) (aI @Mt (pd
 @iL @iE))) (aI (aI @Ya (aI @iQ @Yj)) (aI @iR (aI @Yg @Vq)))) (aI (aI (pd
 @iF (aI @Kz @yO)) (aI @lO (aI @Ahb @UM))) (aI (aI @Js (aI @Ahg @Ahh)) (aI @zR (aI @Ahi
 @zS)))))) (aI (aI (aI (aI (aI @zT @zU) (aI @zV (aI @Ahj @zW))) (aI (aI @eD (aI @oN
 @XB)) (aI @XC (aI @XD @UW)))) (aI (aI (aI @oO (aI @eG @zZ)) (aI @eH (pd
 @OP @oR))) (aI (aI @eJ (aI @Su @eV)) (aI @oS (aI @UX @Sv))))) (aI (aI (pd
 (aI @Qw @eW) (aI @Qx (aI @fD @Qy))) (aI (aI @fE (aI @UZ @Mz)) (aI @fF
 (aI @fC @Vg)))) (aI (aI (aI @SF (aI @X4 @QB)) (aI @SG (aI @OS @X5)))
 (aI (aI @gT (aI @gU @oT)) (aI @Aad (aI @oP @Aab)))))))
def bdP:=(aI (aI (aI (aI (aI (aI (aI (aI (aI @qD @Nat.one_ne_zero) (aI @rO @Abq)) (aI (pd
 @iM @Abr) (aI @qU @Aid))) (aI (aI (aI @qV @QF) (aI @iN @Abs)) (aI (aI @qW @Vm)
 (aI @qX @qY)))) (aI (aI (aI (aI @qZ @iO) (aI @rB @rC)) (aI (aI @Yc @iI) (pd
 @iJ @qR))) (aI (aI (aI @iK @qS) (aI @Aic @Abo)) (aI (aI @Abp @Abt) (aI @Yd @MD)))))
 (aI (aI (aI (aI (aI @Vn @Ye) (aI @SK @rD)) (aI (aI @SL @rF) (aI @SM
 @rG))) (aI (aI (aI @iP @SN) (aI @Vo @QG)) (aI (aI @rH @rI) (aI @QH @Yf))))
 (aI (aI (aI (aI @rJ @rK) (aI @rL @rM)) (aI (aI @rN @Vp) (aI @Aie @WR))) (pd
 (aI (aI @WS @mJ) (aI @cF @Ahc)) (aI (aI @yP @WQ) (aI @Un (aI @Um @bW))))))) (pd
 (aI (aI (aI (aI (aI @bX @bY) (aI @bZ @dz.{0,0})) (aI (aI @Option.map_none.{0,0} @Option.bind_some.{0,0})
 (aI @Option.bind_none.{0,0} @gv.{0}))) (aI (aI (aI @Option.getD_none.{0} @gu) (aI @true_and @and_true)) (aI (pd
 @od.{0} @List.getD_cons_succ.{0}) (aI @List.getElem?_toArray.{0} @List.getElem?_cons_zero.{0})))) (aI (aI (aI (aI @List.getElem?_cons_succ.{0}
 @decide_eq_true_eq) (aI @decide_eq_false_iff_not @true_implies)) (aI (aI @forall_const.{1} @forall_const.{0}) (aI @zD @Aly))) (aI (aI (pd
 @yY @nA) (aI @zA @yZ)) (aI (aI @dB @nB) (aI @nj.{0,0} (aI @List.map_nil.{0,0} @ow.{0,0})))))) (pd
 (aI (aI (aI (aI @dD @UN) (aI @Xh @ov.{0})) (aI (aI @List.contains_nil.{0} @Bool.or_false) (pd
 @Bool.or_true @Bool.false_or))) (aI (aI (aI @Bool.true_or @Int.natCast_nonneg) (aI @Int.ofNat_lt @pe)) (aI (aI @zB @zC) (pd
 @decide_true @decide_false)))) (aI (aI (aI (aI @Option.some.injEq.{0} @exists_eq_left'.{1}) (aI @PV.int.injEq @PV.bool.injEq)) (aI (aI @PV.str.injEq
 @PV.lits.injEq) (aI @PV.tuple.injEq @PV.agg.injEq))) (aI (aI (aI @List.cons.injEq.{0} @List.lookup_cons.{0,0}) (aI @List.lookup_nil.{0,0} @Xe)) (pd
 (aI @Alz @Al0) (aI @Al1 (aI @Al4 @Al2)))))))) (aI (aI (aI (aI (aI (aI (aI @Al3 @dC) (aI @Xf
 @G1)) (aI (aI @nC @Bool.and_true) (aI @Bool.and_self @Bool.true_and))) (aI (aI (aI @List.cons_append.{0} @List.nil_append.{0}) (pd
 @List.append_nil.{0} @Ahf)) (aI (aI @Ra @Ss) (aI @List.length_append.{0} @pg.{0})))) (aI (aI (aI (pd
 @List.length_nil.{0} @Nat.zero_add) (aI @Nat.add_zero @oj.{0})) (aI (aI @List.take_length.{0} @cz.{0}) (aI @Nat.not_succ_le_self
 @List.replicate_succ.{0}))) (aI (aI (aI @List.replicate_zero.{0} @List.length_replicate.{0}) (aI @List.set_cons_zero.{0} @List.set_cons_succ.{0})) (aI (pd
 @nD @nE) (aI @c9.{0,0} (aI @IObj.arr.injEq @Nat.lt_irrefl)))))) (aI (aI (aI (aI (aI @ny @Bool.not_true)
 (aI @Bool.not_false @not_true_eq_false)) (aI (aI @not_false_eq_true @false_implies) (aI @Sr @or_false))) (aI (aI (aI @or_true @cg)
 (aI @Classical.not_not @Xi)) (aI (aI @Xj @dE) (aI @nF @nG)))) (aI (aI (aI (aI @nH @UO)
 (aI @dF @dG)) (aI (aI @nI @Fo) (aI @zE @zF))) (aI (aI (aI @Xk @dH) (aI @dJ
 @nJ)) (aI (aI @zG @zH) (aI @zI (aI @Xl @Xm))))))) (aI (aI (aI (aI (aI (aI @Xn
 @dK) (aI @nK @nL)) (aI (aI @nN @dM) (aI @Xo @UP))) (aI (aI (aI @nO @nP) (pd
 @Xp @Xq)) (aI (aI @dN @nQ) (aI @nR @nS)))) (aI (aI (aI (aI @UQ @Xr) (aI @Xs
 @dO)) (aI (aI @Ln @nT) (aI @nU @UR))) (aI (aI (aI @dQ @zJ) (aI @dR @zK)) (pd
 (aI @zL @Xt) (aI @US (aI @nV @nW)))))) (aI (aI (aI (aI (aI @Xu @Xv) (aI @dU
 @nX)) (aI (aI @nY @nZ) (aI @UT @UU))) (aI (aI (aI @Xw @Xx) (aI @dV @oA)) (pd
 (aI @oB @oC) (aI @UV @dW)))) (aI (aI (aI (aI @oD @HB) (aI @zM @Xy)) (aI (pd
 @dX @Xz) (aI @Yh @Yi))) (aI (aI (aI @Vr @Vs) (aI @QI @QJ)) (aI (aI @XA
 @dY) (aI @oE (aI @oF @oG))))))))) (aI (aI (aI (aI (aI (aI (aI (aI @zN @oI) (pd
 @zO @Qs)) (aI (aI @Qt @oJ) (aI @zP @zQ))) (aI (aI (aI @dZ @eC) (aI @oK @Ahk))
 (aI (aI @zX @zY) (aI @Ahl @oM)))) (aI (aI (aI (aI @XE @eR) (aI @oU @oV)) (aI (pd
 @Aae @XF) (aI @Aaf @Aag))) (aI (aI (aI @Aah @Aai) (aI @pA @pC)) (aI (aI @pE @XJ) (pd
 @XI @Lo))))) (aI (aI (aI (aI (aI @OQ @oZ) (aI @oX @eM)) (aI (aI @eQ @eO)
 (aI @XG @XH))) (aI (aI (aI @eY @eZ) (aI @fA @fB)) (aI (aI @List.all_cons.{0} @List.all_nil.{0})
 (aI @oY @U3)))) (aI (aI (aI (aI @XK @Ahs) (aI @fH @gW)) (aI (aI @gZ @Aam) (pd
 @iC @iD))) (aI (aI (aI @X7 @X8) (aI @Vh @SH)) (aI (aI @QE @Abn) (aI @Vk
 (aI @Vi @Vj))))))) (aI (aI (aI (aI (aI (aI @QC @QD) (aI @qP @qQ)) (aI (pd
 @gV @hZ) (aI @iB @X6))) (aI (aI (aI @fI @Sw) (aI @Qu @Qv)) (aI (aI @Ahn
 @Aht) (aI @Ahu @Aan)))) (aI (aI (aI (aI @fJ @pG) (aI @pI @fK)) (aI (aI @fL @Ahv) (pd
 @Aap @Aaq))) (aI (aI (aI @pJ @pK) (aI @Aar @pM)) (aI (aI @pN @Aas) (aI @pO (aI @pP
 @fM)))))) (aI (aI (aI (aI (aI @fN @pQ) (aI @Aat @Aau)) (aI (aI @XL @fP) (aI @Sx
 @Sy))) (aI (aI (aI @Qz @QA) (aI @Sz @XM)) (aI (aI @U4 @XN) (aI @U5
 @XO)))) (aI (aI (aI (aI @U6 @XP) (aI @XQ @XR)) (aI (aI @fQ @fR) (aI @pR
 @pS))) (aI (aI (aI @U7 @U8) (aI @XS @XT)) (aI (aI @U9 @Va) (aI @XU (pd
 @XV @Vb)))))))) (aI (aI (aI (aI (aI (aI (aI @pT @SA) (aI @Vc @Amb)) (aI (aI @Amc
 @Amd) (aI @Ame @Amf))) (aI (aI (aI @Amg @An7) (aI @Amh @pU)) (aI (aI @Ami @Amj) (aI @Amk @Aml)))) (pd
 (aI (aI (aI @Amm @Amn) (aI @Amo @Amp)) (aI (aI @Ahy @Ahz) (aI @Ah0 @Ah1))) (aI (aI (aI @Ah2 @Ah3)
 (aI @Ah4 @Amq)) (aI (aI @Amr @Ah7) (aI @Ah8 (aI @pV @fS)))))) (aI (aI (aI (aI (aI @XW
 @fU) (aI @fV @fW)) (aI (aI @Aaw @pX) (aI @fX @Aax))) (aI (aI (aI @Aay @Aaz) (aI @Aa0
 @Vd)) (aI (aI @SC @Ve) (aI @SD @Aa3)))) (aI (aI (aI (aI @Aa2 @Aa1) (aI @pZ @qA))
 (aI (aI @fY @XX) (aI @fZ @gD))) (aI (aI (aI @gE @gF) (aI @XY @XZ)) (aI (pd
 @X0 @gG) (aI @X1 (aI @gH @qB))))))) (aI (aI (aI (aI (aI (aI @Aa4 @Aa5) (aI @CX
 @Eu)) (aI (aI @Int.natCast_eq_zero @Ahx) (aI @fO @pF))) (aI (aI (aI @Aal @Aaa) (aI @Aac @beq_eq_false_iff_ne.{0}))
 (aI (aI @ne_eq.{1} @Aa9) (aI @gJ @Int.natCast_inj)))) (aI (aI (aI (aI @ol.{0} @om.{0}) (pd
 @List.drop_nil.{0} @List.take_nil.{0})) (aI (aI @gL @gM) (aI @Aba @Abb))) (aI (aI (aI @Abc @implies_true.{1}) (pd
 @implies_true.{0} @Int.natCast_zero)) (aI (aI @qE @gQ) (aI @Vf (aI @SE @X3)))))) (aI (aI (aI (pd
 (aI @gR @Abd) (aI @Abe @qF)) (aI (aI @Abf @qG) (aI @qH @Abg))) (aI (aI (aI @qI @Abh)
 (aI @Abi @Abj)) (aI (aI @qJ @Abk) (aI @qK @qL)))) (aI (aI (aI (aI @pj @Int.natCast_pos) (pd
 @beq_self_eq_true.{0} @beq_iff_eq.{0})) (aI (aI @Aho @Aak) (aI @Aaj @false_and))) (aI (aI (aI @and_false @Bool.true_eq_false) (pd
 @qM @qN)) (aI (aI @qO @Abl) (aI @Aib (aI @Nat.min_def @Int.cast_ofNat_Int))))))))))
end Sim
namespace Sim
open Go Go.Proofs
theorem ty3:pk.cellsOf 3=1/\Ae pk 3=0/\AT pk 3=false/\AW pk 3=none/\Gn pk 3=some .i64/\Bv pk 3=some (1,false)/\Az pk 3=.int .i64 0/\Bp pk 3 = []:=by
 refine ⟨?_,?_,?_,?_,?_,?_,?_,?_⟩ <;> kernel_rfl
theorem ty4:pk.cellsOf 4=1/\Ae pk 4=0/\AT pk 4=false/\AW pk 4=none/\IL pk 4=true/\Bv pk 4=some (1,false)/\Az pk 4=.bool false/\Bp pk 4 = []:=by
 refine ⟨?_,?_,?_,?_,?_,?_,?_,?_⟩ <;> kernel_rfl
theorem Aih:pk.cellsOf 20=1/\Ae pk 20=0/\AT pk 20=false/\AW pk 20=none/\Bv pk 20=some (1,false)/\Az pk 20=.nili/\Bp pk 20 = []:=by
 refine ⟨?_,?_,?_,?_,?_,?_,?_⟩ <;> kernel_rfl
theorem BP:pk.cellsOf 22=1/\Ae pk 22=50/\BO pk 22=83/\AT pk 22=false/\AW pk 22=none/\Bv pk 22=some (1,false)/\Az pk 22=.nils/\Bp pk 22 = [(0,50)]:=by
 refine ⟨?_,?_,?_,?_,?_,?_,?_,?_⟩ <;> kernel_rfl
theorem AJ:pk.cellsOf 24=2/\Ae pk 24=0/\AT pk 24=false/\AW pk 24=none/\Bv pk 24=some (2,true)/\Az pk 24=.agg [.int .i64 0,.nils]/\A5 pk 24 0=some (0,1,3)/\A5 pk 24 1=some (1,1,22)/\BB pk 24=none/\B3 pk 24=true/\Bp pk 24 = [(1,50)]:=by
 refine ⟨?_,?_,?_,?_,?_,?_,?_,?_,?_,?_,?_⟩ <;> kernel_rfl
theorem AO:pk.cellsOf 25=1/\Ae pk 25=3/\BO pk 25=55/\AT pk 25=false/\AW pk 25=none/\Bv pk 25=some (1,false)/\Az pk 25=.nils/\Bp pk 25 = [(0,3)]:=by
 refine ⟨?_,?_,?_,?_,?_,?_,?_,?_⟩ <;> kernel_rfl
theorem BF:pk.cellsOf 26=1/\Ae pk 26=7/\BO pk 26=48/\AT pk 26=false/\AW pk 26=none/\Bv pk 26=some (1,false)/\Az pk 26=.nils/\Bp pk 26 = [(0,7)]:=by
 refine ⟨?_,?_,?_,?_,?_,?_,?_,?_⟩ <;> kernel_rfl
theorem AY:pk.cellsOf 28=5/\Ae pk 28=0/\AT pk 28=false/\AW pk 28=none/\Bv pk 28=some (5,true)/\Az pk 28=.agg [.int .i64 0,.int .i64 0,.int .i64 0,.int .i64 0,.int .i64 0]/\A5 pk 28 0=some (0,1,3)/\A5 pk 28 1=some (1,1,3)/\A5 pk 28 2=some (2,1,3)/\A5 pk 28 3=some (3,1,3)/\A5 pk 28 4=some (4,1,3)/\BB pk 28=none/\B3 pk 28=true/\Bp pk 28 = []:=by
 refine ⟨?_,?_,?_,?_,?_,?_,?_,?_,?_,?_,?_,?_,?_,?_⟩ <;> kernel_rfl
theorem Be:pk.cellsOf 30=9/\Ae pk 30=0/\AT pk 30=false/\AW pk 30=none/\Bv pk 30=some (9,true)/\Az pk 30=.agg [.int .i64 0,.nils,.nils,.nils,.int .i64 0,.int .i64 0,.int .i64 0,.int .i64 0,.int .i64 0]/\A5 pk 30 0=some (0,2,24)/\A5 pk 30 1=some (2,1,25)/\A5 pk 30 2=some (3,1,26)/\A5 pk 30 3=some (4,5,28)/\BB pk 30=none/\B3 pk 30=true/\Bp pk 30 = [(1,50),(2,3),(3,7)]:=by
 refine ⟨?_,?_,?_,?_,?_,?_,?_,?_,?_,?_,?_,?_,?_⟩ <;> kernel_rfl
theorem AR:pk.cellsOf 33=1/\Ae pk 33=1/\BO pk 33=3/\AT pk 33=false/\AW pk 33=none/\Bv pk 33=some (1,false)/\Az pk 33=.nils/\Bp pk 33 = [(0,1)]:=by
 refine ⟨?_,?_,?_,?_,?_,?_,?_,?_⟩ <;> kernel_rfl
theorem B5:pk.cellsOf 35=2/\Ae pk 35=0/\AT pk 35=false/\AW pk 35=none/\Bv pk 35=some (2,true)/\Az pk 35=.agg [.nils,.nils]/\A5 pk 35 0=some (0,1,25)/\A5 pk 35 1=some (1,1,33)/\BB pk 35=none/\B3 pk 35=true/\Bp pk 35 = [(0,3),(1,1)]:=by
 refine ⟨?_,?_,?_,?_,?_,?_,?_,?_,?_,?_,?_⟩ <;> kernel_rfl
theorem An8:pk.cellsOf 36=1/\Ae pk 36=0/\AT pk 36=false/\AW pk 36=none/\Gn pk 36=some .i64/\Bv pk 36=some (1,false)/\Az pk 36=.int .i64 0/\Bp pk 36 = []:=by
 refine ⟨?_,?_,?_,?_,?_,?_,?_,?_⟩ <;> kernel_rfl
theorem C7:pk.cellsOf 48=7/\Ae pk 48=0/\AT pk 48=false/\AW pk 48=none/\Bv pk 48=some (7,true)/\Az pk 48=.agg [.int .i64 0,.int .i64 0,.int .i64 0,.int .i64 0,.int .i64 0,.int .i64 0,.int .i64 0]/\A5 pk 48 0=some (0,1,3)/\A5 pk 48 1=some (1,1,3)/\A5 pk 48 2=some (2,1,3)/\A5 pk 48 3=some (3,1,3)/\A5 pk 48 4=some (4,1,3)/\A5 pk 48 5=some (5,1,3)/\A5 pk 48 6=some (6,1,3)/\BB pk 48=none/\B3 pk 48=true/\Bp pk 48 = []:=by
 refine ⟨?_,?_,?_,?_,?_,?_,?_,?_,?_,?_,?_,?_,?_,?_,?_,?_⟩ <;> kernel_rfl
theorem FL:pk.cellsOf 50=1/\Ae pk 50=2/\BO pk 50=77/\AT pk 50=false/\AW pk 50=none/\Bv pk 50=some (1,false)/\Az pk 50=.nils/\Bp pk 50 = [(0,2)]:=by
 refine ⟨?_,?_,?_,?_,?_,?_,?_,?_⟩ <;> kernel_rfl
theorem Ct:pk.cellsOf 55=3/\Ae pk 55=0/\AT pk 55=false/\AW pk 55=none/\Bv pk 55=some (3,true)/\Az pk 55=.agg [.int .i64 0,.int .i64 0,.int .i64 0]/\A5 pk 55 0=some (0,1,3)/\A5 pk 55 1=some (1,1,3)/\A5 pk 55 2=some (2,1,3)/\BB pk 55=none/\B3 pk 55=true/\Bp pk 55 = []:=by
 refine ⟨?_,?_,?_,?_,?_,?_,?_,?_,?_,?_,?_,?_⟩ <;> kernel_rfl
theorem BG:pk.cellsOf 61=8/\Ae pk 61=0/\AT pk 61=false/\AW pk 61=none/\Bv pk 61=some (8,true)/\Az pk 61=.agg [.int .i64 0,.nils,.nils,.int .i64 0,.int .i64 0,.int .i64 0,.int .i64 0,.int .i64 0]/\A5 pk 61 0=some (0,2,24)/\A5 pk 61 1=some (2,1,25)/\A5 pk 61 2=some (3,5,28)/\BB pk 61=none/\B3 pk 61=true/\Bp pk 61 = [(1,50),(2,3)]:=by
 refine ⟨?_,?_,?_,?_,?_,?_,?_,?_,?_,?_,?_,?_⟩ <;> kernel_rfl
theorem Ams:pk.cellsOf 64=1/\Ae pk 64=0/\AT pk 64=false/\AW pk 64=none/\Bv pk 64=some (1,false)/\Az pk 64=.nilf/\Bp pk 64 = []:=by
 refine ⟨?_,?_,?_,?_,?_,?_,?_⟩ <;> kernel_rfl
theorem BM:pk.cellsOf 75=1/\Ae pk 75=1/\BO pk 75=33/\AT pk 75=false/\AW pk 75=none/\Bv pk 75=some (1,false)/\Az pk 75=.nils/\Bp pk 75 = [(0,1)]:=by
 refine ⟨?_,?_,?_,?_,?_,?_,?_,?_⟩ <;> kernel_rfl
theorem Lr:pk.cellsOf 77=2/\Ae pk 77=0/\AT pk 77=false/\AW pk 77=none/\Bv pk 77=some (2,true)/\Az pk 77=.agg [.nils,.nils]/\A5 pk 77 0=some (0,1,75)/\A5 pk 77 1=some (1,1,33)/\BB pk 77=none/\B3 pk 77=true/\Bp pk 77 = [(0,1),(1,1)]:=by
 refine ⟨?_,?_,?_,?_,?_,?_,?_,?_,?_,?_,?_⟩ <;> kernel_rfl
theorem Yo:pk.cellsOf 78=12/\Ae pk 78=0/\AT pk 78=false/\AW pk 78=none/\Bv pk 78=some (12,true)/\Az pk 78=.agg [.int .i64 0,.int .i64 0,.int .i64 0,.int .i64 0,.int .i64 0,.int .i64 0,.int .i64 0,.int .i64 0,.int .i64 0,.int .i64 0,.int .i64 0,.int .i64 0]/\BB pk 78=some (12,1)/\IK pk 78=some (12,3)/\B3 pk 78=true/\Bp pk 78 = []:=by
 refine ⟨?_,?_,?_,?_,?_,?_,?_,?_,?_,?_⟩ <;> kernel_rfl
theorem Aii:pk.cellsOf 79=4/\Ae pk 79=0/\AT pk 79=false/\AW pk 79=none/\Bv pk 79=some (4,true)/\Az pk 79=.agg [.int .i64 0,.int .i64 0,.int .i64 0,.int .i64 0]/\BB pk 79=some (4,1)/\IK pk 79=some (4,3)/\B3 pk 79=true/\Bp pk 79 = []:=by
 refine ⟨?_,?_,?_,?_,?_,?_,?_,?_,?_,?_⟩ <;> kernel_rfl
theorem OY:pk.cellsOf 81=24/\Ae pk 81=0/\AT pk 81=false/\AW pk 81=none/\Bv pk 81=some (24,true)/\Az pk 81=.agg [.int .i64 0,.int .i64 0,.int .i64 0,.int .i64 0,.int .i64 0,.int .i64 0,.int .i64 0,.int .i64 0,.int .i64 0,.int .i64 0,.int .i64 0,.int .i64 0,.int .i64 0,.int .i64 0,.int .i64 0,.int .i64 0,.int .i64 0,.int .i64 0,.int .i64 0,.int .i64 0,.int .i64 0,.int .i64 0,.int .i64 0,.int .i64 0]/\BB pk 81=some (24,1)/\IK pk 81=some (24,3)/\B3 pk 81=true/\Bp pk 81 = []:=by
 refine ⟨?_,?_,?_,?_,?_,?_,?_,?_,?_,?_⟩ <;> kernel_rfl
theorem CS:pk.cellsOf 83=50/\Ae pk 83=0/\AT pk 83=false/\AW pk 83=none/\Bv pk 83=some (50,true)/\Az pk 83=.agg [.int .i64 0,.int .i64 0,.int .i64 0,.int .i64 0,.int .i64 0,.int .i64 0,.int .i64 0,.int .i64 0,.int .i64 0,.int .i64 0,.int .i64 0,.int .i64 0,.int .i64 0,.int .i64 0,.int .i64 0,.int .i64 0,.int .i64 0,.int .i64 0,.int .i64 0,.int .i64 0,.int .i64 0,.int .i64 0,.int .i64 0,.int .i64 0,.int .i64 0,.int .i64 0,.int .i64 0,.int .i64 0,.int .i64 0,.int .i64 0,.int .i64 0,.int .i64 0,.int .i64 0,.int .i64 0,.int .i64 0,.int .i64 0,.int .i64 0,.int .i64 0,.int .i64 0,.int .i64 0,.int .i64 0,.int .i64 0,.int .i64 0,.int .i64 0,.int .i64 0,.int .i64 0,.int .i64 0,.int .i64 0,.int .i64 0,.int .i64 0]/\A5 pk 83 0=some (0,1,3)/\A5 pk 83 1=some (1,1,3)/\A5 pk 83 2=some (2,24,81)/\A5 pk 83 3=some (26,24,81)/\BB pk 83=none/\B3 pk 83=true/\Bp pk 83 = []:=by
 refine ⟨?_,?_,?_,?_,?_,?_,?_,?_,?_,?_,?_,?_,?_⟩ <;> kernel_rfl
theorem Ls:pk.cellsOf 95=1/\Ae pk 95=0/\AT pk 95=false/\AW pk 95=none/\Bv pk 95=some (1,false)/\Az pk 95=.nilp/\Bp pk 95 = []:=by
 refine ⟨?_,?_,?_,?_,?_,?_,?_⟩ <;> kernel_rfl
theorem MG:pk.cellsOf 98=1/\Ae pk 98=4/\BO pk 98=102/\AT pk 98=false/\AW pk 98=none/\Bv pk 98=some (1,false)/\Az pk 98=.nils/\Bp pk 98 = [(0,4)]:=by
 refine ⟨?_,?_,?_,?_,?_,?_,?_,?_⟩ <;> kernel_rfl
theorem Em:pk.cellsOf 100=3/\Ae pk 100=0/\AT pk 100=false/\AW pk 100=none/\Bv pk 100=some (3,true)/\Az pk 100=.agg [.nils,.nils,.nils]/\A5 pk 100 0=some (0,1,98)/\A5 pk 100 1=some (1,1,75)/\A5 pk 100 2=some (2,1,33)/\BB pk 100=none/\B3 pk 100=true/\Bp pk 100 = [(0,4),(1,1),(2,1)]:=by
 refine ⟨?_,?_,?_,?_,?_,?_,?_,?_,?_,?_,?_,?_⟩ <;> kernel_rfl
theorem Iz:pk.cellsOf 102=4/\Ae pk 102=0/\AT pk 102=false/\AW pk 102=none/\Bv pk 102=some (4,true)/\Az pk 102=.agg [.int .i64 0,.int .i64 0,.int .i64 0,.int .i64 0]/\A5 pk 102 0=some (0,1,3)/\A5 pk 102 1=some (1,1,3)/\A5 pk 102 2=some (2,1,3)/\A5 pk 102 3=some (3,1,3)/\BB pk 102=none/\B3 pk 102=true/\Bp pk 102 = []:=by
 refine ⟨?_,?_,?_,?_,?_,?_,?_,?_,?_,?_,?_,?_,?_⟩ <;> kernel_rfl
theorem Lt:pk.cellsOf 112=1/\Ae pk 112=3/\BO pk 112=55/\AT pk 112=false/\AW pk 112=none/\Bv pk 112=some (1,false)/\Az pk 112=.nils/\Bp pk 112 = [(0,3)]:=by
 refine ⟨?_,?_,?_,?_,?_,?_,?_,?_⟩ <;> kernel_rfl
theorem Zp:pk.cellsOf 123=1/\Ae pk 123=0/\AT pk 123=false/\AW pk 123=none/\Bv pk 123=some (1,false)/\Az pk 123=.nilf/\Bp pk 123 = []:=by
 refine ⟨?_,?_,?_,?_,?_,?_,?_⟩ <;> kernel_rfl
theorem En:pk.cellsOf 129=2/\Ae pk 129=0/\AT pk 129=false/\AW pk 129=none/\Bv pk 129=some (2,true)/\Az pk 129=.agg [.int .i64 0,.int .i64 0]/\A5 pk 129 0=some (0,1,3)/\A5 pk 129 1=some (1,1,3)/\BB pk 129=none/\B3 pk 129=true/\Bp pk 129 = []:=by
 refine ⟨?_,?_,?_,?_,?_,?_,?_,?_,?_,?_,?_⟩ <;> kernel_rfl
theorem Fe:pk.cellsOf 131=54/\Ae pk 131=0/\AT pk 131=false/\AW pk 131=none/\Bv pk 131=some (54,true)/\Az pk 131=.agg [.int .i64 0,.int .i64 0,.int .i64 0,.int .i64 0,.int .i64 0,.int .i64 0,.int .i64 0,.int .i64 0,.int .i64 0,.int .i64 0,.int .i64 0,.int .i64 0,.int .i64 0,.int .i64 0,.int .i64 0,.int .i64 0,.int .i64 0,.int .i64 0,.int .i64 0,.int .i64 0,.int .i64 0,.int .i64 0,.int .i64 0,.int .i64 0,.int .i64 0,.int .i64 0,.int .i64 0,.int .i64 0,.int .i64 0,.int .i64 0,.int .i64 0,.int .i64 0,.int .i64 0,.int .i64 0,.int .i64 0,.int .i64 0,.int .i64 0,.int .i64 0,.int .i64 0,.int .i64 0,.int .i64 0,.int .i64 0,.int .i64 0,.int .i64 0,.int .i64 0,.int .i64 0,.int .i64 0,.int .i64 0,.int .i64 0,.int .i64 0,.int .i64 0,.int .i64 0,.int .i64 0,.int .i64 0]/\A5 pk 131 0=some (0,2,129)/\A5 pk 131 1=some (2,50,83)/\A5 pk 131 2=some (52,1,3)/\A5 pk 131 3=some (53,1,3)/\BB pk 131=none/\B3 pk 131=true/\Bp pk 131 = []:=by
 refine ⟨?_,?_,?_,?_,?_,?_,?_,?_,?_,?_,?_,?_,?_⟩ <;> kernel_rfl
theorem Ff:pk.cellsOf 132=1/\Ae pk 132=0/\AT pk 132=false/\AW pk 132=some (.ints 2,.int .i64 0)/\Bv pk 132=some (1,false)/\Az pk 132=.nilm/\Bp pk 132 = []:=by
 refine ⟨?_,?_,?_,?_,?_,?_,?_⟩ <;> kernel_rfl
theorem NE:pk.cellsOf 135=1/\Ae pk 135=0/\AT pk 135=false/\AW pk 135=none/\Bv pk 135=some (1,false)/\Az pk 135=.nilp/\Bp pk 135 = []:=by
 refine ⟨?_,?_,?_,?_,?_,?_,?_⟩ <;> kernel_rfl
theorem Lu:pk.cellsOf 136=1/\Ae pk 136=0/\AT pk 136=false/\AW pk 136=none/\Bv pk 136=some (1,false)/\Az pk 136=.nilf/\Bp pk 136 = []:=by
 refine ⟨?_,?_,?_,?_,?_,?_,?_⟩ <;> kernel_rfl
theorem Amt:pk.cellsOf 151=1/\Ae pk 151=0/\AT pk 151=false/\AW pk 151=none/\Bv pk 151=some (1,false)/\Az pk 151=.nilf/\Bp pk 151 = []:=by
 refine ⟨?_,?_,?_,?_,?_,?_,?_⟩ <;> kernel_rfl
theorem OZ:pk.cellsOf 155=2/\Ae pk 155=0/\AT pk 155=false/\AW pk 155=none/\Bv pk 155=some (2,true)/\Az pk 155=.agg [.int .i64 0,.int .i64 0]/\BB pk 155=some (2,1)/\IK pk 155=some (2,3)/\B3 pk 155=true/\Bp pk 155 = []:=by
 refine ⟨?_,?_,?_,?_,?_,?_,?_,?_,?_,?_⟩ <;> kernel_rfl
theorem Amu:pk.cellsOf 158=1/\Ae pk 158=0/\AT pk 158=false/\AW pk 158=none/\Gn pk 158=some .u64/\Bv pk 158=some (1,false)/\Az pk 158=.int .u64 0/\Bp pk 158 = []:=by
 refine ⟨?_,?_,?_,?_,?_,?_,?_,?_⟩ <;> kernel_rfl
theorem rR:pk.cellsOf 161=1/\Ae pk 161=0/\AT pk 161=false/\AW pk 161=some (.ints 2,.int .i64 0)/\Bv pk 161=some (1,false)/\Az pk 161=.nilm/\Bp pk 161 = []:=by
 refine ⟨?_,?_,?_,?_,?_,?_,?_⟩ <;> kernel_rfl
theorem O0:pk.cellsOf 167=1/\Ae pk 167=1/\BO pk 167=4/\AT pk 167=false/\AW pk 167=none/\Bv pk 167=some (1,false)/\Az pk 167=.nils/\Bp pk 167 = [(0,1)]:=by
 refine ⟨?_,?_,?_,?_,?_,?_,?_,?_⟩ <;> kernel_rfl
theorem Amv:pk.cellsOf 174=1/\Ae pk 174=0/\AT pk 174=false/\AW pk 174=none/\Gn pk 174=some .u64/\Bv pk 174=some (1,false)/\Az pk 174=.int .u64 0/\Bp pk 174 = []:=by
 refine ⟨?_,?_,?_,?_,?_,?_,?_,?_⟩ <;> kernel_rfl
theorem DX : Tryz.prog.cellsOf 177 = 1 ∧ Ae Tryz.prog 177 = 0 ∧ AT Tryz.prog 177 = false ∧ AW Tryz.prog 177 = none ∧ Bv Tryz.prog 177 = some (1, false) ∧ Az Tryz.prog 177 = .nilp ∧ K4 Tryz.prog 177 "Len" = some (100, false, 181) ∧ K4 Tryz.prog 177 "Less" = some (140, false, 181) ∧ K4 Tryz.prog 177 "Pop" = some (141, true, 181) ∧ K4 Tryz.prog 177 "Push" = some (142, true, 181) ∧ K4 Tryz.prog 177 "Swap" = some (143, false, 181) ∧ My Tryz.prog 177 = true ∧ Bp Tryz.prog 177 = [] := by
 refine ⟨?_,?_,?_,?_,?_,?_,?_,?_,?_,?_,?_,?_,?_⟩ <;> kernel_rfl
theorem I7:pk.cellsOf 179=2/\Ae pk 179=0/\AT pk 179=false/\AW pk 179=none/\Bv pk 179=some (2,true)/\Az pk 179=.agg [.int .i64 0,.int .i64 0]/\A5 pk 179 0=some (0,1,3)/\A5 pk 179 1=some (1,1,3)/\BB pk 179=none/\B3 pk 179=true/\My pk 179=true/\Bp pk 179 = []:=by
 refine ⟨?_,?_,?_,?_,?_,?_,?_,?_,?_,?_,?_,?_⟩ <;> kernel_rfl
theorem Do:pk.cellsOf 181=1/\Ae pk 181=2/\BO pk 181=179/\AT pk 181=false/\AW pk 181=none/\Bv pk 181=some (1,false)/\Az pk 181=.nils/\Bp pk 181 = [(0,2)]:=by
 refine ⟨?_,?_,?_,?_,?_,?_,?_,?_⟩ <;> kernel_rfl
theorem Re:pk.cellsOf 200=1/\Ae pk 200=0/\AT pk 200=false/\AW pk 200=none/\Bv pk 200=some (1,false)/\Az pk 200=.nili/\Bp pk 200 = []:=by
 refine ⟨?_,?_,?_,?_,?_,?_,?_⟩ <;> kernel_rfl
end Sim
namespace Sim
def As (f:Nat->Int):Nat->Int
 | 0=>0
 | n+1=>As f n+f n
theorem Am {f g:Nat->Int}:∀ {n},(∀i,i<n->f i=g i)->As f n=As g n
 | 0,_=>rfl
 | n+1,h=>by rw[As,As,Am λi hi=>h i (by omega),h n (by omega)]
theorem B8 {f g:Nat->Int}:∀ {n},As (λi=>f i+g i) n=As f n+As g n
 | 0=>rfl
 | n+1=>by rw[As,As,As,B8];omega
theorem Co {f g:Nat->Int}:∀ {n},As (λi=>f i-g i) n=As f n-As g n
 | 0=>rfl
 | n+1=>by rw[As,As,As,Co];omega
theorem G5 {f:Nat->Int} {c:Int}:∀ {n},As (λi=>c*f i) n=c*As f n
 | 0=>by simp[As]
 | n+1=>by rw[As,As,G5,pn]
theorem BD {f:Nat->Int}:∀ {n},(∀i,i<n->0<=f i)->0<=As f n
 | 0,_=>pj _
 | n+1,h=>by
  have := BD (f:=f) (n:=n) λi hi=>h i (by omega)
  have := h n (by omega)
  rw [As];omega
theorem EK {f g:Nat->Int}:∀ {n},(∀i,i<n->f i<=g i)->As f n<=As g n
 | 0,_=>pj _
 | n+1,h=>by
  have := EK (f:=f) (g:=g) (n:=n) λi hi=>h i (by omega)
  have := h n (by omega)
  rw [As,As];omega
theorem Bu {f:Nat->Int}:∀ {n},(∀i,i<n->f i=0)->As f n=0
 | 0,_=>rfl
 | n+1,h=>by rw[As,Bu λi hi=>h i (by omega),h n (by omega)];rfl
theorem BH {a:Nat} {v:Int}:∀ {n},As (λi=>if a=i then v else 0) n=if a<n then v else 0
 | 0=>by simp[As]
 | n+1=>by
  rw [As,BH]
  repeat' split
  all_goals omega
theorem DY {f:Nat->Nat->Int} {m:Nat}:∀ {n},As (λi=>As (λj=>f i j) m) n=As (λj=>As (λi=>f i j) n) m
 | 0=>by rw[As,Bu];intro i _;rfl
 | n+1=>by
  rw [As,DY,<-B8]
  exact Am λi _=>rfl
structure FN where
 N : Nat
 m : Nat
 s : Nat
 t : Nat
 fr : Nat->Nat
 to : Nat->Nat
 cap : Nat->Int
 pr : Nat->Int
structure FN.WF (G:FN):Prop where
 s : G.s<G.N
 t : G.t<G.N
 ar : ∀i,i<G.m->G.fr i<G.N/\G.to i<G.N
namespace FN
variable {G:FN}
def net (G:FN) (f:Nat->Int) (v:Nat):Int:=As (λi=>(if G.fr i=v then f i else 0)-(if G.to i=v then f i else 0)) G.m
def cost (G:FN) (f:Nat->Int):Int:=As (λi=>G.pr i*f i) G.m
def Val (G:FN) (f:Nat->Int) (val:Int):Prop:=∀v,v<G.N->G.net f v=(if G.s=v then val else 0)-(if G.t=v then val else 0)
structure Flow (G:FN) (f:Nat->Int) (val:Int):Prop where
 nn : ∀i,i<G.m->0<=f i
 le : ∀i,i<G.m->f i<=G.cap i
 val : Val G f val
theorem dual (w:G.WF) {f:Nat->Int} {val:Int} (h:G.Val f val) (φ:Nat->Int):As (λi=>(φ (G.fr i)-φ (G.to i))*f i) G.m=(φ G.s-φ G.t)*val:=by
 have e1:As (λi=>(φ (G.fr i)-φ (G.to i))*f i) G.m=As (λi=>As (λv=>φ v*((if G.fr i=v then f i else 0)-(if G.to i=v then f i else 0))) G.N) G.m:=by
  refine Am λi hi=>?_
  obtain ⟨h1,h2⟩:=w.ar i hi
  have e:(λv=>φ v*((if G.fr i=v then f i else 0)-(if G.to i=v then f i else 0)))=λv=>(if G.fr i=v then φ (G.fr i)*f i else 0)-(if G.to i=v then φ (G.to i)*f i else 0):=by
   funext v
   rw [po]
   congr 1
   .split
    .rename_i e;rw[e]
    .simp
   .split
    .rename_i e;rw[e]
    .simp
  rw [e,Co,BH,BH,if_pos h1,if_pos h2,Int.sub_mul]
 rw [e1,DY]
 have e2:As (λv=>As (λi=>φ v*((if G.fr i=v then f i else 0)-(if G.to i=v then f i else 0))) G.m) G.N=As (λv=>(if G.s=v then φ G.s*val else 0)-(if G.t=v then φ G.t*val else 0)) G.N:=by
  refine Am λv hv=>?_
  have := h v hv
  unfold net at this
  rw [G5,this,po]
  congr 1
  .split
   .rename_i e;rw[e]
   .simp
  .split
   .rename_i e;rw[e]
   .simp
 rw [e2,Co,BH,BH,if_pos w.s,if_pos w.t,Int.sub_mul]
def Pot (G:FN) (g:Nat->Int) (φ:Nat->Int):Prop:=∀i,i<G.m->(g i<G.cap i->0<=G.pr i+φ (G.fr i)-φ (G.to i))/\(0<g i->G.pr i+φ (G.fr i)-φ (G.to i)<=0)
theorem opt (w:G.WF) {g h:Nat->Int} {a b c:Int} {φ:Nat->Int} (hg:G.Flow g a) (hp:G.Pot g φ) (hn:∀i,i<G.m->0<=h i) (hl:∀i,i<G.m->h i<=c*G.cap i) (hv:G.Val h b) (hb:b=c*a) (hc:0<=c):c*G.cost g<=G.cost h:=by
 have d1:=dual w hg.val φ
 have d2:=dual w hv φ
 have key:0<=As (λi=>(G.pr i+φ (G.fr i)-φ (G.to i))*(h i-c*g i)) G.m:=by
  refine BD λi hi=>?_
  obtain ⟨p1,p2⟩:=hp i hi
  have g0:=hg.nn i hi
  have g1:=hg.le i hi
  have h0:=hn i hi
  have h1:=hl i hi
  generalize G.pr i+φ (G.fr i)-φ (G.to i)=r at *
  by_cases r0:r=0
  .rw [r0,Int.zero_mul];exact pj _
  by_cases r1:0<r
  .have e:g i=0:=by
    apply pq
    intro hh
    have := p2 (by omega)
    omega
   rw [e,Int.mul_zero,Int.sub_zero]
   exact pu (by omega) h0
  .have e:g i=G.cap i:=by
    apply pq
    intro hh
    have := p1 (by omega)
    omega
   rw [e]
   exact Int.mul_nonneg_of_nonpos_of_nonpos (by omega) (by omega)
 have e:As (λi=>(G.pr i+φ (G.fr i)-φ (G.to i))*(h i-c*g i)) G.m=(G.cost h+(φ G.s-φ G.t)*b)-c*(G.cost g+(φ G.s-φ G.t)*a):=by
  unfold cost
  rw [<-d1,<-d2,<-B8,<-B8,<-G5,<-Co]
  refine Am λi _=>?_
  generalize φ (G.fr i)=x
  generalize φ (G.to i)=y
  generalize G.pr i=p
  rw [show p+x-y=p+(x-y) by omega]
  generalize x-y=z
  rw [po,Int.add_mul,Int.add_mul,pn,<-pz,<-pz,<-pz,<-pz,p8 p c,p8 z c]
 rw [e,hb,pn]at key
 have e2:(φ G.s-φ G.t)*(c*a)=c*((φ G.s-φ G.t)*a):=by
  rw [<-pz,p8 _ c,pz]
 omega
theorem cut (w:G.WF) {g h:Nat->Int} {a b:Int} {S:Nat->Prop} [DecidablePred S] (hg:G.Val g a) (hh:G.Flow h b) (s:S G.s) (t:¬S G.t) (ho:∀i,i<G.m->S (G.fr i)->¬S (G.to i)->G.cap i<=g i) (hi:∀i,i<G.m->¬S (G.fr i)->S (G.to i)->g i<=0):b<=a:=by
 have d1:=dual w hg λv=>if S v then 1 else 0
 have d2:=dual w hh.val λv=>if S v then 1 else 0
 rw [if_pos s,if_neg t]at d1 d2
 have : As (λi=>((if S (G.fr i)then 1 else 0)-(if S (G.to i)then 1 else 0))*h i) G.m<=As (λi=>((if S (G.fr i)then 1 else 0)-(if S (G.to i)then 1 else 0))*g i) G.m:=by
  refine EK λi him=>?_
  have h0:=hh.nn i him
  have h1:=hh.le i him
  by_cases c1:S (G.fr i) <;> by_cases c2:S (G.to i)
  .rw [if_pos c1,if_pos c2];simp
  .have := ho i him c1 c2
   rw [if_pos c1,if_neg c2];omega
  .have := hi i him c1 c2
   rw [if_neg c1,if_pos c2];omega
  .rw [if_neg c1,if_neg c2];simp
 omega
end FN
abbrev It:=Int×Nat
abbrev dI:It:=(0,0)
def swp (l:List It) (i j:Nat):List It:=(l.set i (l.getD j dI)).set j (l.getD i dI)
def kI (l:List It) (i:Nat):Int:=(l.getD i dI).1
def upF:Nat->List It->Nat->List It
 | 0,l,_=>l
 | n+1,l,j=>if (j-1) / 2=j\/¬kI l j<kI l ((j-1) / 2)then l else upF n (swp l ((j-1) / 2) j) ((j-1) / 2)
def chC (l:List It) (i n:Nat):Nat:=if 2*i+2<n/\kI l (2*i+2)<kI l (2*i+1)then 2*i+2 else 2*i+1
def DZ:Nat->List It->Nat->Nat->List It
 | 0,l,_,_=>l
 | f+1,l,i,n=>if n<=2*i+1\/¬kI l (chC l i n)<kI l i then l else DZ f (swp l i (chC l i n)) (chC l i n) n
def G6 (l:List It) (x:It):List It:=upF (l.length+1) (l ++ [x]) l.length
def Ej (l:List It):List It:=DZ l.length (swp l 0 (l.length-1)) 0 (l.length-1)
def Bh (l:List It):It:=(Ej l).getD (l.length-1) dI
def EZ (l:List It):List It:=(Ej l).take (l.length-1)
section
variable {l:List It}
theorem Vz {i k:Nat} {x:It} (h:i<l.length):(l.set i x).getD k dI=if i=k then x else l.getD k dI:=by
 rw [oa,qb]
 by_cases e:i=k
 .subst e;simp[h]
 .simp [e]
theorem BJ {i j:Nat}:(swp l i j).length=l.length:=by simp[swp]
theorem Yp {i j k:Nat} (hi:i<l.length) (hj:j<l.length):(swp l i j).getD k dI=if k=j then l.getD i dI else if k=i then l.getD j dI else l.getD k dI:=by
 unfold swp
 rw [Vz (by simpa using hj),Vz hi]
 by_cases e:k=j
 .subst e;simp
 .have e':¬j=k:=λg=>e g.symm
  rw [if_neg e',if_neg e]
  by_cases e2:k=i
  .subst e2;simp
  .have e2':¬i=k:=λg=>e2 g.symm
   rw [if_neg e2',if_neg e2]
theorem I8 {i j k:Nat} (hi:i<l.length) (hj:j<l.length):kI (swp l i j) k=if k=j then kI l i else if k=i then kI l j else kI l k:=by
 unfold kI
 rw [Yp hi hj]
 repeat' split
 all_goals rfl
theorem Lv {i j:Nat} (hi:i<l.length) (hj:j<l.length):(swp l i j).Perm l:=by
 rw [List.perm_iff_count]
 intro a
 unfold swp
 have e1:l.getD i dI=l[i]:=by simp[hi]
 have e2:l.getD j dI=l[j]:=by simp[hj]
 rw [e1,e2]
 rw [qf (by simpa using hj),qf hi,List.getElem_set]
 have c1:∀(k:Nat) (h:k<l.length),l[k]=a->0<l.count a:=λk h e=>by
  rw [<-e];exact qh.2 (oz h)
 have g1:=c1 i hi
 have g2:=c1 j hj
 by_cases e:i=j
 .subst e
  simp only[if_true,beq_iff_eq]
  by_cases h:l[i]=a
  .have := g1 h
   simp only[h,if_true]
   omega
  .simp only[h,if_false]
   omega
 .rw [if_neg e]
  simp only[beq_iff_eq]
  by_cases h1:l[i]=a <;> by_cases h2:l[j]=a <;> simp only[h1,h2,if_true,if_false] <;> (try have:=g1 h1) <;> (try have:=g2 h2) <;> omega
def NF (l:List It) (n:Nat):Prop:=∀k,0<k->k<n->kI l ((k-1) / 2)<=kI l k
def Amw (l:List It) (j:Nat):Prop:=(∀k,0<k->k<l.length->k≠j->kI l ((k-1) / 2)<=kI l k)/\∀c,0<c->c<l.length->(c-1) / 2=j->0<j->kI l ((j-1) / 2)<=kI l c
theorem rT:∀ {f:Nat} {l:List It} {j:Nat},(upF f l j).length=l.length
 | 0,_,_=>rfl
 | f+1,l,j=>by
  simp only[upF]
  split
  .rfl
  .rw [rT,BJ]
theorem Zq:∀ {f:Nat} {l:List It} {j:Nat},j<l.length->(upF f l j).Perm l
 | 0,_,_,_=>.refl _
 | f+1,l,j,h=>by
  simp only[upF]
  split
  .exact .refl _
  .exact (Zq (by rw[BJ];omega)).trans (Lv (by omega) h)
theorem Zr:∀ {f:Nat} {l:List It} {j:Nat},j<f->j<l.length->Amw l j->NF (upF f l j) l.length
 | 0,_,_,h,_,_=>absurd h (by omega)
 | f + 1,l,j,hf,hj,h=>by
  obtain ⟨h1,h2⟩:=h
  simp only[upF]
  by_cases c:(j-1) / 2=j\/¬kI l j<kI l ((j-1) / 2)
  .rw [if_pos c]
   intro k k0 kl
   by_cases e:k=j
   .subst e
    rcases c with c | c
    .omega
    .omega
   .exact h1 k k0 kl e
  .rw [if_neg c]
   have hi:(j-1) / 2<j:=by omega
   have hlt:kI l j<kI l ((j-1) / 2):=by
    apply pq
    intro g;exact c (.inr g)
   have hil:(j-1) / 2<l.length:=by omega
   have := Zr (f:=f) (l:=swp l ((j-1) / 2) j) (j:=(j-1) / 2) (by omega) (by rw[BJ];omega) ?_
   .rwa [BJ]at this
   .generalize hii:(j-1) / 2=i at *
    refine ⟨λk k0 kl ke=>?_,λc c0 cl ce i0=>?_⟩
    .rw [BJ]at kl
     rw [I8 hil hj,I8 hil hj]
     by_cases e1:k=j
     .subst e1
      rw [if_neg (show ¬(k-1) / 2=k by omega),if_pos hii,if_pos rfl]
      omega
     .rw [if_neg e1,if_neg ke]
      have hk:=h1 k k0 kl e1
      by_cases e2:(k-1) / 2=j
      .rw [if_pos e2]
       exact h2 k k0 kl e2 (by omega)
      .rw [if_neg e2]
       by_cases e3:(k-1) / 2=i
       .rw [if_pos e3]
        rw [e3]at hk
        omega
       .rw [if_neg e3];exact hk
    .rw [BJ]at cl
     rw [I8 hil hj,I8 hil hj,if_neg (show ¬(i-1) / 2=j by omega),if_neg (show ¬(i-1) / 2=i by omega)]
     have hp:=h1 i i0 hil (by omega)
     by_cases e1:c=j
     .rw [if_pos e1];exact hp
     .rw [if_neg e1]
      by_cases e2:c=i
      .omega
      .rw [if_neg e2]
       have := h1 c c0 cl e1
       rw [ce]at this
       omega
theorem Pa {x:It}:(G6 l x).length=l.length+1:=by
 unfold G6
 rw [rT];simp
theorem push_perm {x:It}:(G6 l x).Perm (x::l) :=
 (Zq (by simp)).trans (qi (l₁:=l) (l₂ := [x]))
theorem Yq {x:It} {k:Nat} (h:k<l.length):kI (l ++ [x]) k=kI l k:=by
 unfold kI
 rw [oa,cq h,<-oa]
theorem iV {x:It} (h:NF l l.length):NF (G6 l x) (G6 l x).length:=by
 have e:(l ++ [x]).length=l.length+1:=by simp
 have := Zr (f:=l.length+1) (l:=l ++ [x]) (j:=l.length) (by omega) (by omega) ⟨λk k0 kl ke=>?_,λc c0 cl ce j0=>?_⟩
 .rw [Pa,<-e];exact this
 .rw [e]at kl
  rw [Yq (by omega),Yq (by omega)]
  exact h k k0 (by omega)
 .rw [e]at cl;omega
def Amx (l:List It) (i n:Nat):Prop:=(∀k,0<k->k<n->(k-1) / 2≠i->kI l ((k-1) / 2)<=kI l k)/\∀c,0<c->c<n->(c-1) / 2=i->0<i->kI l ((i-1) / 2)<=kI l c
theorem Lw:∀ {f:Nat} {l:List It} {i n:Nat},(DZ f l i n).length=l.length
 | 0,_,_,_=>rfl
 | f+1,l,i,n=>by
  simp only[DZ]
  split
  .rfl
  .rw [Lw,BJ]
theorem rU {i n:Nat} (h:2*i+1<n):(chC l i n=2*i+1\/chC l i n=2*i+2)/\chC l i n<n:=by
 unfold chC
 split
 .exact ⟨.inr rfl,by omega⟩
 .exact ⟨.inl rfl,h⟩
theorem Rf:∀ {f:Nat} {l:List It} {i n:Nat},i<n->n<=l.length->(DZ f l i n).Perm l
 | 0,_,_,_,_,_=>.refl _
 | f+1,l,i,n,h,hn=>by
  simp only[DZ]
  by_cases c:n<=2*i+1\/¬kI l (chC l i n)<kI l i
  .rw [if_pos c]
  .rw [if_neg c]
   obtain ⟨h1,h2⟩:=rU (l:=l) (i:=i) (n:=n) (by omega)
   exact (Rf h2 (by rw[BJ];exact hn)).trans (Lv (by omega) (by omega))
theorem Pb:∀ {f:Nat} {l:List It} {i n k:Nat},i<n->n<=l.length->n<=k->(DZ f l i n).getD k dI=l.getD k dI
 | 0,_,_,_,_,_,_,_=>rfl
 | f+1,l,i,n,k,h,hn,hk=>by
  simp only[DZ]
  by_cases c:n<=2*i+1\/¬kI l (chC l i n)<kI l i
  .rw [if_pos c]
  .rw [if_neg c]
   obtain ⟨h1,h2⟩:=rU (l:=l) (i:=i) (n:=n) (by omega)
   rw [Pb h2 (by rw[BJ];exact hn) hk,Yp (by omega) (by omega),if_neg (by omega),if_neg (by omega)]
theorem Rg:∀ {f:Nat} {l:List It} {i n:Nat},n<=i+f->i<n->n<=l.length->Amx l i n->NF (DZ f l i n) n
 | 0,_,_,_,h,h',_,_=>absurd h (by omega)
 | f + 1,l,i,n,hf,hin,hn,h=>by
  obtain ⟨h1,h2⟩:=h
  simp only[DZ]
  have hsm:2*i+1<n->(kI l (chC l i n)<=kI l (2*i+1)/\(2*i+2<n->kI l (chC l i n)<=kI l (2*i+2))):=λh=>by
   unfold chC
   split
   .rename_i c;exact⟨by omega,λ_=>pj _⟩
   .rename_i c
    refine ⟨pj _,λg=>?_⟩
    have : ¬kI l (2*i+2)<kI l (2*i+1):=λx=>c ⟨g,x⟩
    omega
  by_cases c:n<=2*i+1\/¬kI l (chC l i n)<kI l i
  .rw [if_pos c]
   intro k k0 kn
   by_cases e:(k-1) / 2=i
   .have e2:k=2*i+1\/k=2*i+2:=by omega
    rcases c with c | c
    .omega
    .obtain ⟨s1,s2⟩:=hsm (by omega)
     rw [e]
     rcases e2 with e2 | e2
     .subst e2;omega
     .subst e2
      have := s2 kn
      omega
   .exact h1 k k0 kn e
  .rw [if_neg c]
   have hlt:kI l (chC l i n)<kI l i:=by
    apply pq
    intro g;exact c (.inr g)
   have h21:2*i+1<n:=by
    apply pq
    intro g;exact c (.inl (by omega))
   obtain ⟨s1,s2⟩:=hsm h21
   obtain ⟨g1,g2⟩:=rU (l:=l) (i:=i) (n:=n) h21
   generalize chC l i n=j at *
   have hil:i<l.length:=by omega
   have hjl:j<l.length:=by omega
   refine Rg (by omega) g2 (by rw[BJ];exact hn) ⟨λk k0 kn ke=>?_,λc' c0 cn ce j0=>?_⟩
   .rw [I8 hil hjl,I8 hil hjl]
    rw [if_neg ke]
    by_cases e1:(k-1) / 2=i
    .rw [if_pos e1]
     by_cases e2:k=j
     .rw [if_pos e2];omega
     .rw [if_neg e2,if_neg (show ¬k=i by omega)]
      have e3:k=2*i+1\/k=2*i+2:=by omega
      rcases e3 with e3 | e3
      .subst e3;exact s1
      .subst e3;exact s2 kn
    .rw [if_neg e1]
     by_cases e2:k=j
     .omega
     .rw [if_neg e2]
      by_cases e3:k=i
      .rw [if_pos e3]
       subst e3
       exact h2 j (by omega) g2 (by omega) k0
      .rw [if_neg e3];exact h1 k k0 kn e1
   .rw [I8 hil hjl,I8 hil hjl]
    have hp:(j-1) / 2=i:=by omega
    rw [hp,if_neg (show ¬i=j by omega),if_pos rfl,if_neg (show ¬c'=j by omega),if_neg (show ¬c'=i by omega)]
    have := h1 c' c0 cn (by omega)
    rw [ce]at this
    exact this
theorem rV (h:NF l l.length):∀k,k<l.length->kI l 0<=kI l k:=by
 intro k
 induction k using nw with
 | _ k ih =>
  intro hk
  by_cases e:k=0
  .subst e;exact pj _
  .exact qj (ih ((k-1) / 2) (by omega) (by omega)) (h k (by omega) hk)
theorem I9 (h0:0<l.length) (h:NF l l.length):Bh l=l.getD 0 dI/\(Bh l::EZ l).Perm l/\NF (EZ l) (EZ l).length/\(EZ l).length=l.length-1/\∀x∈l,(Bh l).1<=x.1:=by
 have hsw:∀k,(swp l 0 (l.length-1)).getD k dI=if k=l.length-1 then l.getD 0 dI else if k=0 then l.getD (l.length-1) dI else l.getD k dI:=λk=>Yp h0 (by omega)
 have hpl:(Ej l).length=l.length:=by unfold Ej;rw[Lw,BJ]
 have hlen:(EZ l).length=l.length-1:=by unfold EZ;rw[List.length_take,hpl];omega
 have hX:Bh l=l.getD 0 dI:=by
  unfold Bh Ej
  rcases Nat.lt_or_ge 1 l.length with h1 | h1
  .rw [Pb (by omega) (by rw[BJ];omega) (cg _),hsw,if_pos rfl]
  .have e:l.length=1:=by omega
   rw [e]
   have := hsw 0
   simp only[DZ]
   rw [e]at this
   simpa using this
 have hperm:(Ej l).Perm l:=by
  unfold Ej
  rcases Nat.lt_or_ge 1 l.length with h1 | h1
  .exact (Rf (by omega) (by rw[BJ];omega)).trans (Lv h0 (by omega))
  .have e:l.length=1:=by omega
   rw [e]
   simp only[DZ]
   exact Lv h0 (by omega)
 have hsplit:Ej l=EZ l ++ [Bh l]:=by
  unfold EZ Bh
  generalize Ej l=p at *
  have : l.length-1<p.length:=by omega
  rw [show p.take (l.length-1) ++ [p.getD (l.length-1) dI]=p.take (l.length-1+1) by rw[List.take_succ_eq_append_getElem this];simp[this]]
  rw [List.take_of_length_le (by omega)]
 refine ⟨hX,?_,?_,hlen,?_⟩
 .have : (Bh l::EZ l).Perm (EZ l ++ [Bh l]):=(qi (l₁:=EZ l) (l₂ := [Bh l])).symm
  rw [<-hsplit]at this
  exact this.trans hperm
 .rw [hlen]
  intro k k0 kn
  have hat:∀j,j<l.length-1->kI (EZ l) j=kI (Ej l) j:=λj hj=>by
   rw [hsplit];exact (Yq (by rw[hlen];exact hj)).symm
  rw [hat _ (by omega),hat _ kn]
  unfold Ej
  refine Rg (l:=swp l 0 (l.length-1)) (i:=0) (n:=l.length-1) (by omega) (by omega) (by rw[BJ];omega) ⟨λk k0 kn ke=>?_,λc c0 cn ce j0=>absurd j0 (by omega)⟩ k k0 kn
  have hkk:∀j,0<j->j<l.length-1->kI (swp l 0 (l.length-1)) j=kI l j:=λj j0 jl=>by
   unfold kI;rw[hsw,if_neg (by omega),if_neg (by omega)]
  rw [hkk _ (by omega) (by omega),hkk _ k0 kn]
  exact h k k0 (by omega)
 .intro x hx
  obtain ⟨k,hk,rfl⟩:=List.getElem_of_mem hx
  have := rV h k hk
  unfold kI at this
  rw [hX]
  rwa [show l.getD k dI=l[k] by simp[hk]]at this
end
abbrev Arc:=Nat×Nat×Int×Int
abbrev dA:Arc:=(0,0,0,0)
def aF (A:List Arc) (k:Nat):Nat:=(A.getD k dA).1
def aT (A:List Arc) (k:Nat):Nat:=(A.getD k dA).2.1
def aL (A:List Arc) (k:Nat):Int:=(A.getD k dA).2.2.1
def aP (A:List Arc) (k:Nat):Int:=(A.getD k dA).2.2.2
structure DS where
 far : List Int
 last : List Int
 done : List Bool
 q : List It
def nxt (A:List Arc) (lv:List Int) (d:Int) (k:Nat):Int:=d+aP A k+lv.getD (aF A k) 0-lv.getD (aT A k) 0
def rlx (A:List Arc) (lv:List Int) (d:Int) (st:DS) (k:Nat):DS :=
 if 0<aL A k/\(st.far.getD (aT A k) 0<0\/nxt A lv d k<st.far.getD (aT A k) 0)then⟨st.far.set (aT A k) (nxt A lv d k),st.last.set (aT A k) k,st.done,G6 st.q (nxt A lv d k,aT A k)⟩else st
def Ki (st:DS):DS:=⟨st.far,st.last,st.done.set (Bh st.q).2 true,EZ st.q⟩
def EQ (A:List Arc) (out:List (List Nat)) (lv:List Int) (st:DS):DS :=
 if st.done.getD (Bh st.q).2 true=true then⟨st.far,st.last,st.done,EZ st.q⟩else (out.getD (Bh st.q).2 []).foldl (rlx A lv (Bh st.q).1) (Ki st)
def J3 (A:List Arc) (out:List (List Nat)) (lv:List Int):Nat->DS->DS
 | 0,st=>st
 | f+1,st=>if st.q.length=0 then st else J3 A out lv f (EQ A out lv st)
inductive Rch (A:List Arc) (s:Nat):Nat->Prop
 | src:Rch A s s
 | arc (k:Nat) (hk:k<A.length) (hl:0<aL A k) (h:Rch A s (aF A k)):Rch A s (aT A k)
structure Gr (A:List Arc) (out:List (List Nat)) (lv:List Int) (N s:Nat):Prop where
 ar : ∀k,k<A.length->aF A k<N/\aT A k<N
 out1 : ∀u,u<N->∀k∈out.getD u [],k<A.length/\aF A k=u
 out2 : ∀k,k<A.length->k∈out.getD (aF A k) []
 lo : out.length=N
 ll : lv.length=N
 sN : s<N
 pr : ∀k,k<A.length -> -1000000<=aP A k/\aP A k<=1000000
 rc : ∀k,k<A.length->0<aL A k->Rch A s (aF A k)->0<=aP A k+lv.getD (aF A k) 0-lv.getD (aT A k) 0
 l0 : lv.getD s 0=0
theorem Di {l:List Int} {i k:Nat} {x:Int} (h:i<l.length):(l.set i x).getD k 0=if k=i then x else l.getD k 0:=by
 rw [oa,qb]
 by_cases e:k=i
 .subst e;simp[h]
 .have e':¬i=k:=λg=>e g.symm
  rw [if_neg e',if_neg e,oa]
theorem FM {l:List Bool} {i k:Nat} {x d:Bool} (h:i<l.length):(l.set i x).getD k d=if k=i then x else l.getD k d:=by
 rw [oa,qb]
 by_cases e:k=i
 .subst e;simp[h]
 .have e':¬i=k:=λg=>e g.symm
  rw [if_neg e',if_neg e,oa]
structure DI (A:List Arc) (lv:List Int) (N s:Nat) (st:DS) (d:Int) (E:Nat->Prop) (dp:Nat->Nat):Prop where
 lf : st.far.length=N
 ll : st.last.length=N
 ld : st.done.length=N
 hp : NF st.q st.q.length
 rch : ∀v,v<N->0<=st.far.getD v 0->Rch A s v
 qin : ∀x∈st.q,x.2<N/\0<=st.far.getD x.2 0/\st.far.getD x.2 0<=x.1
 cur : ∀v,v<N->0<=st.far.getD v 0->st.done.getD v true=false->(st.far.getD v 0,v)∈st.q
 dn : ∀v,v<N->st.done.getD v true=true->0<=st.far.getD v 0/\st.far.getD v 0<=d
 low : ∀x∈st.q,d<=x.1
 clo : ∀k,k<A.length->st.done.getD (aF A k) true=true->0<aL A k->E k->0<=st.far.getD (aT A k) 0/\st.far.getD (aT A k) 0<=nxt A lv (st.far.getD (aF A k) 0) k
 src : st.far.getD s 0=0
 d0 : 0<=d
 par : ∀v,v<N->0<=st.far.getD v 0->v≠s->∃k:Nat,st.last.getD v 0=(k:Int)/\k<A.length/\0<aL A k/\aT A k=v/\st.done.getD (aF A k) true=true/\st.far.getD v 0=nxt A lv (st.far.getD (aF A k) 0) k/\dp v=dp (aF A k)+1
 dps : dp s=0
 dpu : ∀v,v<N->0<=st.far.getD v 0->dp v<=st.done.count true
 dpd : ∀v,v<N->st.done.getD v true=true->dp v<st.done.count true
 mag : ∀v,v<N->0<=st.far.getD v 0 -> -(1000000*(dp v:Int))<=st.far.getD v 0+lv.getD v 0/\st.far.getD v 0+lv.getD v 0<=1000000*(dp v:Int)
section
variable {A:List Arc} {out:List (List Nat)} {lv:List Int} {N s:Nat}
theorem rW (G:Gr A out lv N s) {st:DS} {d:Int} {E:Nat->Prop} {dp:Nat->Nat} {k:Nat} (I:DI A lv N s st d E dp) (hk:k<A.length) (hu:st.done.getD (aF A k) true=true) (hd:st.far.getD (aF A k) 0=d) :
  ∃ dp',DI A lv N s (rlx A lv d st k) d (λj=>E j\/j=k) dp'/\(rlx A lv d st k).done=st.done/\(∀v,v<N->st.done.getD v true=true->(rlx A lv d st k).far.getD v 0=st.far.getD v 0)/\(rlx A lv d st k).q.length<=st.q.length+1:=by
 obtain ⟨uN,vN⟩:=G.ar k hk
 by_cases c:0<aL A k/\(st.far.getD (aT A k) 0<0\/nxt A lv d k<st.far.getD (aT A k) 0)
 case neg =>
  have e:rlx A lv d st k=st:=by unfold rlx;rw[if_neg c]
  rw [e]
  refine ⟨dp,⟨I.lf,I.ll,I.ld,I.hp,I.rch,I.qin,I.cur,I.dn,I.low,λj hj h1 h2 h3=>?_,I.src,I.d0,I.par,I.dps,I.dpu,I.dpd,I.mag⟩,rfl,λ_ _ _=>rfl,by omega⟩
  rcases h3 with h3 | h3
  .exact I.clo j hj h1 h2 h3
  .subst h3
   have : ¬(st.far.getD (aT A j) 0<0\/nxt A lv d j<st.far.getD (aT A j) 0):=λg=>c ⟨h2,g⟩
   rw [hd];omega
 obtain ⟨cl,cf⟩:=c
 have e:rlx A lv d st k=⟨st.far.set (aT A k) (nxt A lv d k),st.last.set (aT A k) k,st.done,G6 st.q (nxt A lv d k,aT A k)⟩:=by unfold rlx;rw[if_pos ⟨cl,cf⟩]
 have hrc:=G.rc k hk cl (I.rch _ uN (I.dn _ uN hu).1)
 have hnx:d<=nxt A lv d k:=by unfold nxt;omega
 have hd0:=I.d0
 have hvd:¬st.done.getD (aT A k) true=true:=λg=>by
  have := I.dn _ vN g
  omega
 have hvd':st.done.getD (aT A k) true=false:=by simpa using hvd
 have hvs:aT A k≠s:=λg=>by
  have := I.src
  rw [<-g]at this
  omega
 have huv:aF A k≠aT A k:=λg=>hvd (by rw[<-g];exact hu)
 have hfa:∀w,(st.far.set (aT A k) (nxt A lv d k)).getD w 0=if w=aT A k then nxt A lv d k else st.far.getD w 0:=λw=>Di (by rw[I.lf];exact vN)
 have hla:∀w,(st.last.set (aT A k) (k:Int)).getD w 0=if w=aT A k then (k:Int)else st.last.getD w 0:=λw=>Di (by rw[I.ll];exact vN)
 have hne:∀w,st.done.getD w true=true->¬w=aT A k:=λw hw g=>hvd (by rw[<-g];exact hw)
 have hle:∀w,0<=st.far.getD w 0->(if w=aT A k then nxt A lv d k else st.far.getD w 0)<=st.far.getD w 0:=λw hw=>by
  split
  .rename_i g;subst g;omega
  .exact pj _
 rw [e]
 refine ⟨λw=>if w=aT A k then dp (aF A k)+1 else dp w,⟨by simpa using I.lf,by simpa using I.ll,I.ld,iV I.hp,λv hv h=>?_,λx hx=>?_,λv hv h1 h2=>?_,λv hv h=>?_,λx hx=>?_,λj hj h1 h2 h3=>?_,?_,hd0,λv hv h1 h2=>?_,?_,λv hv h=>?_,λv hv h=>?_,λv hv h=>?_⟩,rfl,λv hv h=>?_,?_⟩ <;> (try dsimp only at *)
 .by_cases g:v=aT A k
  .subst g;exact .arc k hk cl (I.rch _ uN (I.dn _ uN hu).1)
  .rw [hfa,if_neg g]at h;exact I.rch v hv h
 .rw [hfa]
  rcases li.1 (push_perm.mem_iff.1 hx)with g | g
  .subst g;dsimp only;rw[if_pos rfl];exact⟨vN,by omega,pj _⟩
  .obtain ⟨g1,g2,g3⟩:=I.qin x g
   refine ⟨g1,?_,qj (hle _ g2) g3⟩
   split
   .omega
   .exact g2
 .rw [hfa]
  by_cases g:v=aT A k
  .subst g;rw[if_pos rfl];exact push_perm.mem_iff.2 (by simp)
  .rw [hfa,if_neg g]at h1
   rw [if_neg g]
   exact push_perm.mem_iff.2 (qk _ (I.cur v hv h1 h2))
 .rw [hfa,if_neg (hne v h)];exact I.dn v hv h
 .rcases li.1 (push_perm.mem_iff.1 hx)with g | g
  .subst g;exact hnx
  .exact I.low x g
 .rw [hfa,hfa,if_neg (hne _ h1)]
  rcases h3 with h3 | h3
  .obtain ⟨g1,g2⟩:=I.clo j hj h1 h2 h3
   refine ⟨?_,qj (hle _ g1) g2⟩
   split
   .omega
   .exact g1
  .subst h3;rw[if_pos rfl,hd];exact⟨by omega,pj _⟩
 .rw [hfa,if_neg (λg=>hvs g.symm)];exact I.src
 .by_cases g:v=aT A k
  .subst g
   refine ⟨k,by rw[hla,if_pos rfl],hk,cl,rfl,hu,?_,?_⟩
   .rw [hfa,hfa,if_pos rfl,if_neg huv,hd]
   .rw [if_pos rfl,if_neg huv]
  .rw [hfa,if_neg g]at h1
   obtain ⟨j,g1,g2,g3,g4,g5,g6,g7⟩:=I.par v hv h1 h2
   refine ⟨j,by rw[hla,if_neg g];exact g1,g2,g3,g4,g5,?_,?_⟩
   .rw [hfa,hfa,if_neg g,if_neg (hne _ g5)];exact g6
   .rw [if_neg g,if_neg (hne _ g5)];exact g7
 .rw [if_neg (λg=>hvs g.symm)];exact I.dps
 .by_cases g:v=aT A k
  .rw [if_pos g]
   have := I.dpd _ uN hu
   omega
  .rw [hfa,if_neg g]at h
   rw [if_neg g];exact I.dpu v hv h
 .rw [if_neg (hne v h)];exact I.dpd v hv h
 .by_cases g:v=aT A k
  .rw [hfa,if_pos g,if_pos g]
   have h1:=I.mag _ uN (I.dn _ uN hu).1
   have h2:=G.pr k hk
   rw [hd]at h1
   subst g
   have e1:nxt A lv d k+lv.getD (aT A k) 0=d+lv.getD (aF A k) 0+aP A k:=by unfold nxt;omega
   rw [e1]
   have e2:(((dp (aF A k)+1:Nat)):Int)=(dp (aF A k):Int)+1:=by omega
   rw [e2];omega
  .rw [hfa,if_neg g]at h
   rw [hfa,if_neg g,if_neg g];exact I.mag v hv h
 .rw [hfa,if_neg (hne v h)]
 .rw [Pa];exact cg _
theorem Zs (G:Gr A out lv N s):∀ {l:List Nat} {st:DS} {d:Int} {E:Nat->Prop} {dp:Nat->Nat} {u:Nat},DI A lv N s st d E dp->(∀k∈l,k<A.length/\aF A k=u)->st.done.getD u true=true->u<N->st.far.getD u 0=d ->
  ∃ dp',DI A lv N s (l.foldl (rlx A lv d) st) d (λj=>E j\/j∈l) dp'/\(l.foldl (rlx A lv d) st).done=st.done/\(l.foldl (rlx A lv d) st).q.length<=st.q.length+l.length/\(l.foldl (rlx A lv d) st).far.getD u 0=d
 | [],st,d,E,dp,u,I,_,hu,_,hd=>by
  refine ⟨dp,?_,rfl,by simp,hd⟩
  have : (λj=>E j\/j∈([]:List Nat))=E:=by funext j;simp
  rw [this];exact I
 | k::l,st,d,E,dp,u,I,h,hu,uN,hd=>by
  obtain ⟨hk,hku⟩:=h k (by simp)
  obtain ⟨dp1,I1,e1,e2,e3⟩:=rW G I hk (by rw[hku];exact hu) (by rw[hku];exact hd)
  obtain ⟨dp2,I2,f1,f2,f3⟩:=Zs G (l:=l) I1 (λj hj=>h j (by simp[hj])) (by rw[e1];exact hu) uN (by rw[e2 u uN hu];exact hd)
  refine ⟨dp2,?_,f1.trans e1,?_,f3⟩
  .have : (λj=>E j\/j∈k::l)=λj=>(E j\/j=k)\/j∈l:=by
    funext j;simp only[li,or_assoc]
   rw [this];exact I2
  .rw [List.foldl_cons,pg];omega
def SR (out:List (List Nat)) (done:List Bool):Nat->Nat
 | 0=>0
 | v+1=>SR out done v+if done.getD v true=true then 0 else (out.getD v []).length
def E4 (out:List (List Nat)) (st:DS):Nat:=st.q.length+SR out st.done out.length
theorem Lx {out:List (List Nat)} {done:List Bool} {u:Nat} (hu:u<done.length) (h:done.getD u true=false):∀n,SR out (done.set u true) n+(if u<n then (out.getD u []).length else 0)=SR out done n
 | 0=>by simp[SR]
 | n+1=>by
  have ih:=Lx (out:=out) hu h n
  simp only[SR]
  rw [FM hu]
  by_cases e:n=u
  .subst e
   rw [if_neg (show ¬n<n by omega)]at ih
   rw [if_pos (show n<n+1 by omega),if_pos rfl,h]
   simp; omega
  .rw [if_neg e]
   by_cases c:u<n
   .rw [if_pos c]at ih
    rw [if_pos (show u<n+1 by omega)];omega
   .rw [if_neg c]at ih
    rw [if_neg (show ¬u<n+1 by omega)];omega
section
variable {st:DS} {d:Int}
theorem SS {E:Nat->Prop} {dp:Nat->Nat} (I:DI A lv N s st d E dp) (hq:0<st.q.length) :
  (Bh st.q).2<N/\(st.done.getD (Bh st.q).2 true=false->(Bh st.q).1=st.far.getD (Bh st.q).2 0)/\(Bh st.q)∈st.q/\(∀x,x∈EZ st.q->x∈st.q)/\∀x∈st.q,x=Bh st.q\/x∈EZ st.q:=by
 obtain ⟨h1,h2,h3,h4,h5⟩:=I9 hq I.hp
 have hm:Bh st.q∈st.q:=h2.mem_iff.1 (by simp)
 obtain ⟨g1,g2,g3⟩:=I.qin _ hm
 refine ⟨g1,λh=>?_,hm,λx hx=>h2.mem_iff.1 (qk _ hx),λx hx=>li.1 (h2.mem_iff.2 hx)⟩
 have := h5 _ (I.cur _ g1 g2 h)
 dsimp only at this
 omega
theorem Abw {dp:Nat->Nat} (I:DI A lv N s st d (λ_=>True) dp) (hq:0<st.q.length) (h:st.done.getD (Bh st.q).2 true=true):DI A lv N s ⟨st.far,st.last,st.done,EZ st.q⟩ d (λ_=>True) dp:=by
 obtain ⟨h1,h2,h3,h4,h5⟩:=I9 hq I.hp
 obtain ⟨p1,p2,p3,p4,p5⟩:=SS I hq
 refine ⟨I.lf,I.ll,I.ld,h3,I.rch,λx hx=>I.qin x (p4 x hx),λv hv g1 g2=>?_,I.dn,λx hx=>I.low x (p4 x hx),I.clo,I.src,I.d0,I.par,I.dps,I.dpu,I.dpd,I.mag⟩
 rcases p5 _ (I.cur v hv g1 g2)with g | g
 .exfalso
  dsimp only at g2
  rw [<-g]at h
  dsimp only at h
  rw [h]at g2;cases g2
 .exact g
theorem Zt {dp:Nat->Nat} (I:DI A lv N s st d (λ_=>True) dp) (hq:0<st.q.length) (h:st.done.getD (Bh st.q).2 true=false):DI A lv N s (Ki st) (Bh st.q).1 (λk=>¬aF A k=(Bh st.q).2) dp:=by
 obtain ⟨h1,h2,h3,h4,h5⟩:=I9 hq I.hp
 obtain ⟨p1,p2,p3,p4,p5⟩:=SS I hq
 have hx1:=p2 h
 have hlow:=I.low _ p3
 have hd0:=I.d0
 have hdn:∀w,(st.done.set (Bh st.q).2 true).getD w true=if w=(Bh st.q).2 then true else st.done.getD w true:=λw=>FM (by rw[I.ld];exact p1)
 have hcnt:(st.done.set (Bh st.q).2 true).count true=st.done.count true+1:=by
  have hl:(Bh st.q).2<st.done.length:=by rw[I.ld];exact p1
  have e:st.done[(Bh st.q).2]=false:=by
   have := h
   rw [oa,gl hl]at this
   exact this
  rw [qf hl,e];simp
 unfold Ki
 refine ⟨I.lf,I.ll,by simpa using I.ld,h3,I.rch,λx hx=>I.qin x (p4 x hx),λv hv g1 g2=>?_,λv hv g=>?_,λx hx=>h5 x (p4 x hx),λk hk g1 g2 g3=>?_,I.src,by omega,λv hv g1 g2=>?_,I.dps,λv hv g=>?_,λv hv g=>?_,I.mag⟩ <;> dsimp only at *
 .rw [hdn]at g2
  by_cases e:v=(Bh st.q).2
  .rw [if_pos e]at g2;cases g2
  .rw [if_neg e]at g2
   rcases p5 _ (I.cur v hv g1 g2)with g | g
   .exact absurd (congrArg Prod.snd g) e
   .exact g
 .rw [hdn]at g
  by_cases e:v=(Bh st.q).2
  .subst e
   obtain ⟨q1,q2,q3⟩:=I.qin _ p3
   omega
  .rw [if_neg e]at g
   have := I.dn v hv g
   omega
 .rw [hdn,if_neg g3]at g1
  exact I.clo k hk g1 g2 trivial
 .obtain ⟨k,a1,a2,a3,a4,a5,a6,a7⟩:=I.par v hv g1 g2
  refine ⟨k,a1,a2,a3,a4,?_,a6,a7⟩
  rw [hdn];split
  .rfl
  .exact a5
 .rw [hcnt]
  have := I.dpu v hv g
  omega
 .rw [hcnt]
  rw [hdn]at g
  by_cases e:v=(Bh st.q).2
  .obtain ⟨q1,q2,q3⟩:=I.qin _ p3
   have := I.dpu _ q1 q2
   rw [e];omega
  .rw [if_neg e]at g
   have := I.dpd v hv g
   omega
end
theorem ST (G:Gr A out lv N s) {st:DS} {d:Int} {dp:Nat->Nat} (I:DI A lv N s st d (λ_=>True) dp) (hq:0<st.q.length):(∃d' dp',DI A lv N s (EQ A out lv st) d' (λ_=>True) dp')/\E4 out (EQ A out lv st)<E4 out st:=by
 obtain ⟨p1,p2,p3,p4,p5⟩:=SS I hq
 have hpl:=(I9 hq I.hp).2.2.2.1
 by_cases h:st.done.getD (Bh st.q).2 true=true
 .have e:EQ A out lv st=⟨st.far,st.last,st.done,EZ st.q⟩:=by unfold EQ;rw[if_pos h]
  rw [e]
  refine ⟨⟨d,dp,Abw I hq h⟩,?_⟩
  unfold E4;dsimp only;omega
 .have h':st.done.getD (Bh st.q).2 true=false:=by simpa using h
  have e:EQ A out lv st=(out.getD (Bh st.q).2 []).foldl (rlx A lv (Bh st.q).1) (Ki st):=by unfold EQ;rw[if_neg h]
  have hu:(Ki st).done.getD (Bh st.q).2 true=true:=by
   unfold Ki;dsimp only
   rw [FM (by rw[I.ld];exact p1),if_pos rfl]
  obtain ⟨dp',I',e1,e2,_⟩:=Zs G (l:=out.getD (Bh st.q).2 []) (Zt I hq h') (G.out1 _ p1) hu p1 (p2 h').symm
  rw [e]
  refine ⟨⟨(Bh st.q).1,dp',?_⟩,?_⟩
  .have I2:=I'
   refine ⟨I2.lf,I2.ll,I2.ld,I2.hp,I2.rch,I2.qin,I2.cur,I2.dn,I2.low,λk hk g1 g2 _=>I2.clo k hk g1 g2 ?_,I2.src,I2.d0,I2.par,I2.dps,I2.dpu,I2.dpd,I2.mag⟩
   by_cases c:aF A k=(Bh st.q).2
   .exact .inr (by rw[<-c];exact G.out2 k hk)
   .exact .inl c
  .unfold E4
   rw [e1]
   have := Lx (out:=out) (u:=(Bh st.q).2) (by rw[I.ld];exact p1) h' out.length
   rw [if_pos (by rw[G.lo];exact p1)]at this
   unfold Ki at *
   dsimp only at *
   omega
theorem rX (G:Gr A out lv N s):∀ {f:Nat} {st:DS} {d:Int} {dp:Nat->Nat},E4 out st<=f->DI A lv N s st d (λ_=>True) dp->(J3 A out lv f st).q.length=0/\∃d' dp',DI A lv N s (J3 A out lv f st) d' (λ_=>True) dp'
 | 0,st,d,dp,hf,I=>by
  unfold E4 at hf
  exact ⟨by simp only[J3];omega,d,dp,I⟩
 | f+1,st,d,dp,hf,I=>by
  simp only[J3]
  by_cases c:st.q.length=0
  .rw [if_pos c];exact⟨c,d,dp,I⟩
  .rw [if_neg c]
   obtain ⟨⟨d',dp',I'⟩,hm⟩:=ST G I (by omega)
   exact rX G (by omega) I'
theorem VA (G:Gr A out lv N s):∀ {f g:Nat} {st:DS} {d:Int} {dp:Nat->Nat},E4 out st<=f->E4 out st<=g->DI A lv N s st d (λ_=>True) dp->J3 A out lv f st=J3 A out lv g st
 | 0,0,_,_,_,_,_,_=>rfl
 | 0,g+1,st,d,dp,hf,hg,I=>by
  unfold E4 at hf
  simp only[J3]
  rw [if_pos (by omega)]
 | f+1,0,st,d,dp,hf,hg,I=>by
  unfold E4 at hg
  simp only[J3]
  rw [if_pos (by omega)]
 | f+1,g+1,st,d,dp,hf,hg,I=>by
  simp only[J3]
  by_cases c:st.q.length=0
  .rw [if_pos c,if_pos c]
  .rw [if_neg c,if_neg c]
   obtain ⟨⟨d',dp',I'⟩,hm⟩:=ST G I (by omega)
   exact VA G (by omega) (by omega) I'
end
def ini (N s:Nat):DS:=⟨(ba N (-1)).set s 0,ba N (-1),ba N false,[(0,s)]⟩
def IE (A:List Arc) (out:List (List Nat)) (lv:List Int) (N s:Nat):DS:=J3 A out lv (E4 out (ini N s)) (ini N s)
def lvN (lv:List Int) (st:DS) (N:Nat):List Int:=(List.range N).map λv=>if st.done.getD v true=true then lv.getD v 0+st.far.getD v 0 else lv.getD v 0
def Fg (A:List Arc) (last:List Int) (s:Nat):Nat->Nat->List Nat
 | 0,_ => []
 | f+1,v=>if v=s then []else (last.getD v 0).toNat::Fg A last s f (aF A (last.getD v 0).toNat)
def Dj (A:List Arc) (out:List (List Nat)) (lv:List Int) (N s t:Nat):List Nat:=Fg A (IE A out lv N s).last s N t
def lvM (A:List Arc) (out:List (List Nat)) (lv:List Int) (N s:Nat):List Int:=lvN lv (IE A out lv N s) N
inductive IsP (A:List Arc) (s:Nat):Nat->List Nat->Prop
 | nil:IsP A s s []
 | cons (k:Nat) (P:List Nat) (h:IsP A s (aF A k) P):IsP A s (aT A k) (k::P)
section
variable {A:List Arc} {out:List (List Nat)} {lv:List Int} {N s:Nat}
theorem An9 {n k:Nat} {x:Int} (h:k<n):(ba n x).getD k 0=x:=by simp[h]
theorem rZ (G:Gr A out lv N s):DI A lv N s (ini N s) 0 (λ_=>True) (λ_=>0):=by
 have sN:=G.sN
 have hfa:∀v,v<N->(ini N s).far.getD v 0=if v=s then 0 else -1:=λv hv=>by
  unfold ini;dsimp only
  rw [Di (by simpa using sN),An9 hv]
 have hdn:∀v,v<N->(ini N s).done.getD v true=false:=λv hv=>by
  unfold ini;dsimp only;simp[hv]
 have hv0:∀v,v<N->0<=(ini N s).far.getD v 0->v=s:=λv hv h=>by
  rw [hfa v hv]at h
  by_cases e:v=s
  .exact e
  .rw [if_neg e]at h;omega
 refine ⟨by simp[ini],by simp[ini],by simp[ini],λk k0 kl=>?_,λv hv h=>?_,λx hx=>?_,λv hv h1 h2=>?_,λv hv h=>?_,λx hx=>?_,λk hk h=>?_,?_,pj _,λv hv h1 h2=>absurd (hv0 v hv h1) h2,rfl,λv hv h=>Nat.zero_le _,λv hv h=>?_,λv hv h=>?_⟩
 .simp [ini]at kl;omega
 .rw [hv0 v hv h];exact .src
 .simp only[ini,ku]at hx
  subst hx
  rw [hfa s sN,if_pos rfl]
  exact ⟨sN,pj _,pj _⟩
 .have := hv0 v hv h1
  subst this
  rw [hfa v hv,if_pos rfl]
  simp [ini]
 .rw [hdn v hv]at h;cases h
 .simp only[ini,ku]at hx
  subst hx;exact pj _
 .rw [hdn _ (G.ar k hk).1]at h;cases h
 .rw [hfa s sN,if_pos rfl]
 .rw [hdn v hv]at h;cases h
 .have := hv0 v hv h
  subst this
  rw [hfa v hv,if_pos rfl,G.l0];simp
structure FD (A:List Arc) (lv:List Int) (N s:Nat) (st:DS) (dp:Nat->Nat):Prop where
 lf : st.far.length=N
 ll : st.last.length=N
 ld : st.done.length=N
 don : ∀v,v<N->(st.done.getD v true=true↔Rch A s v)
 far : ∀v,v<N->(0<=st.far.getD v 0↔Rch A s v)
 clo : ∀k,k<A.length->0<aL A k->Rch A s (aF A k)->st.far.getD (aT A k) 0<=nxt A lv (st.far.getD (aF A k) 0) k
 src : st.far.getD s 0=0
 par : ∀v,v<N->Rch A s v->v≠s->∃k:Nat,st.last.getD v 0=(k:Int)/\k<A.length/\0<aL A k/\aT A k=v/\Rch A s (aF A k)/\st.far.getD v 0=nxt A lv (st.far.getD (aF A k) 0) k/\dp v=dp (aF A k)+1
 dps : dp s=0
 dpN : ∀v,v<N->Rch A s v->dp v<N
 mag : ∀v,v<N->Rch A s v -> -(1000000*(N:Int))<=st.far.getD v 0+lv.getD v 0/\st.far.getD v 0+lv.getD v 0<=1000000*(N:Int)
theorem Aij (G:Gr A out lv N s) {v:Nat} (h:Rch A s v):v<N:=by
 cases h with
 | src=>exact G.sN
 | arc k hk hl h=>exact (G.ar k hk).2
theorem SU (G:Gr A out lv N s):∃dp,FD A lv N s (IE A out lv N s) dp:=by
 obtain ⟨hq,d,dp,I⟩:=rX G (cg _) (rZ G)
 have hst:J3 A out lv (E4 out (ini N s)) (ini N s)=IE A out lv N s:=rfl
 rw [hst]at hq I
 generalize IE A out lv N s=st at *
 have hq:st.q = []:=List.length_eq_zero_iff.1 hq
 have h1:∀v,v<N->0<=st.far.getD v 0->st.done.getD v true=true:=λv hv h=>by
  cases hd:st.done.getD v true with
  | true=>rfl
  | false =>
   have := I.cur v hv h hd
   rw [hq]at this;simp at this
 have h2:∀v,Rch A s v->v<N->0<=st.far.getD v 0:=λv h=>by
  induction h with
  | src=>intro _;rw[I.src];exact pj _
  | arc k hk hl h ih =>
   intro _
   have := ih (G.ar k hk).1
   exact (I.clo k hk (h1 _ (G.ar k hk).1 this) hl trivial).1
 have h3:∀v,v<N->(0<=st.far.getD v 0↔Rch A s v):=λv hv=>⟨I.rch v hv,λh=>h2 v h hv⟩
 have h4:∀v,v<N->(st.done.getD v true=true↔Rch A s v):=λv hv=>⟨λh=>I.rch v hv (I.dn v hv h).1,λh=>h1 v hv (h2 v h hv)⟩
 have hcN:st.done.count true<=N:=by rw[<-I.ld];exact List.count_le_length
 refine ⟨dp,I.lf,I.ll,I.ld,h4,h3,λk hk hl hr=>?_,I.src,λv hv hr hs=>?_,I.dps,λv hv hr=>?_,λv hv hr=>?_⟩
 .exact (I.clo k hk ((h4 _ (G.ar k hk).1).2 hr) hl trivial).2
 .obtain ⟨k,a1,a2,a3,a4,a5,a6,a7⟩:=I.par v hv ((h3 v hv).2 hr) hs
  exact ⟨k,a1,a2,a3,a4,(h4 _ (G.ar k a2).1).1 a5,a6,a7⟩
 .have := I.dpd v hv ((h4 v hv).2 hr)
  omega
 .have h5:=I.mag v hv ((h3 v hv).2 hr)
  have h6:=I.dpd v hv ((h4 v hv).2 hr)
  omega
theorem Pc {st:DS} {v:Nat} (h:v<N):(lvN lv st N).getD v 0=if st.done.getD v true=true then lv.getD v 0+st.far.getD v 0 else lv.getD v 0:=by
 unfold lvN;simp[h]
structure PathOK (A:List Arc) (lv':List Int) (s t:Nat) (P:List Nat):Prop where
 isP : IsP A s t P
 arc : ∀k∈P,k<A.length/\0<aL A k/\Rch A s (aF A k)/\Rch A s (aT A k)/\aP A k+lv'.getD (aF A k) 0-lv'.getD (aT A k) 0=0
 nd : (P.map (aT A)).Nodup
theorem Zu (G:Gr A out lv N s) {st:DS} {dp:Nat->Nat} (F:FD A lv N s st dp):∀ {f v:Nat},v<N->Rch A s v->dp v<=f->PathOK A (lvN lv st N) s v (Fg A st.last s f v)/\∀k∈Fg A st.last s f v,dp (aT A k)<=dp v
 | 0,v,hv,hr,hf=>by
  have e:v=s:=by
   apply pq
   intro g
   obtain ⟨k,_,_,_,_,_,_,h⟩:=F.par v hv hr g
   omega
  subst e
  exact ⟨⟨.nil,by simp[Fg],by simp[Fg]⟩,by simp[Fg]⟩
 | f + 1,v,hv,hr,hf=>by
  simp only[Fg]
  by_cases e:v=s
  .subst e
   rw [if_pos rfl]
   exact ⟨⟨.nil,by simp,by simp⟩,by simp⟩
  .rw [if_neg e]
   obtain ⟨k,a1,a2,a3,a4,a5,a6,a7⟩:=F.par v hv hr e
   rw [a1,pe]
   obtain ⟨⟨i1,i2,i3⟩,i4⟩:=Zu G F (f:=f) (G.ar k a2).1 a5 (by omega)
   refine ⟨⟨?_,?_,?_⟩,?_⟩
   .rw [<-a4];exact .cons k _ i1
   .intro j hj
    rcases li.1 hj with g | g
    .subst g
     refine ⟨a2,a3,a5,by rw[a4];exact hr,?_⟩
     rw [Pc (G.ar j a2).1,Pc (G.ar j a2).2,if_pos ((F.don _ (G.ar j a2).1).2 a5),if_pos ((F.don _ (G.ar j a2).2).2 (by rw[a4];exact hr)),a4,a6]
     unfold nxt
     rw [a4];omega
    .exact i2 j g
   .rw [nj,List.nodup_cons]
    refine ⟨λhm=>?_,i3⟩
    obtain ⟨j,hj,hje⟩:=oh.1 hm
    have := i4 j hj
    rw [hje,a4]at this
    omega
   .intro j hj
    rcases li.1 hj with g | g
    .subst g;rw[a4];exact cg _
    .have := i4 j g;omega
theorem NQ (G:Gr A out lv N s) {t:Nat} (ht:Rch A s t):PathOK A (lvM A out lv N s) s t (Dj A out lv N s t):=by
 obtain ⟨dp,F⟩:=SU G
 have hN:=Aij G ht
 have := F.dpN t hN ht
 exact (Zu G F hN ht (by omega)).1
theorem Agi (G:Gr A out lv N s):(lvM A out lv N s).length=N/\(lvM A out lv N s).getD s 0=0/\(∀k,k<A.length->0<aL A k->Rch A s (aF A k)->0<=aP A k+(lvM A out lv N s).getD (aF A k) 0-(lvM A out lv N s).getD (aT A k) 0) /\
  (∀ v,v<N->Rch A s v->lv.getD v 0<=(lvM A out lv N s).getD v 0 /\ -(1000000*(N:Int))<=(lvM A out lv N s).getD v 0/\(lvM A out lv N s).getD v 0<=1000000*(N:Int))/\∀v,v<N->¬Rch A s v->(lvM A out lv N s).getD v 0=lv.getD v 0:=by
 obtain ⟨dp,F⟩:=SU G
 have hy:∀v,v<N->Rch A s v->(lvM A out lv N s).getD v 0=lv.getD v 0+(IE A out lv N s).far.getD v 0:=λv hv hr=>by
  unfold lvM;rw[Pc hv,if_pos ((F.don v hv).2 hr)]
 refine ⟨by simp[lvM,lvN],?_,λk hk hl hr=>?_,λv hv hr=>?_,λv hv hr=>?_⟩
 .rw [hy s G.sN .src,G.l0,F.src];rfl
 .have hr2:Rch A s (aT A k):=.arc k hk hl hr
  rw [hy _ (G.ar k hk).1 hr,hy _ (G.ar k hk).2 hr2]
  have := F.clo k hk hl hr
  unfold nxt at this
  omega
 .rw [hy v hv hr]
  have h1:=F.mag v hv hr
  have h2:=(F.far v hv).2 hr
  omega
 .unfold lvM;rw[Pc hv,if_neg (λh=>hr ((F.don v hv).1 h))]
end
def rv (k:Nat):Nat:=if k % 2=0 then k+1 else k-1
def FO (A:List Arc) (k:Nat) (x:Int):List Arc:=A.set k ((A.getD k dA).1,(A.getD k dA).2.1,(A.getD k dA).2.2.1+x,(A.getD k dA).2.2.2)
def Dx (A:List Arc) (p:Int) (k:Nat):List Arc:=FO (FO A k (-p)) (rv k) p
def aug (A:List Arc) (p:Int) (P:List Nat):List Arc:=P.foldl (λA k=>Dx A p k) A
theorem Agj {k:Nat}:rv (rv k)=k:=by
 unfold rv
 by_cases h:k % 2=0
 .rw [if_pos h,if_neg (show ¬(k+1) % 2=0 by omega)];omega
 .rw [if_neg h,if_pos (show (k-1) % 2=0 by omega)];omega
theorem VB {k m:Nat} (h:k<2*m):rv k<2*m:=by unfold rv;split <;> omega
theorem Agk {k:Nat}:rv k≠k:=by unfold rv;split <;> omega
theorem FP {A:List Arc} {k:Nat} {x:Int}:(FO A k x).length=A.length:=by simp[FO]
theorem NR {A:List Arc} {k j:Nat} {x:Int} (h:k<A.length):(FO A k x).getD j dA=if j=k then ((A.getD k dA).1,(A.getD k dA).2.1,(A.getD k dA).2.2.1+x,(A.getD k dA).2.2.2)else A.getD j dA:=by
 unfold FO
 rw [oa,qb]
 by_cases e:j=k
 .subst e;simp[h]
 .have e':¬k=j:=λg=>e g.symm
  rw [if_neg e',if_neg e,oa]
section
variable {A:List Arc} {k j:Nat} {x:Int}
theorem sC (h:k<A.length):aF (FO A k x) j=aF A j:=by
 unfold aF;rw[NR h];split
 .rename_i e;rw[e]
 .rfl
theorem sD (h:k<A.length):aT (FO A k x) j=aT A j:=by
 unfold aT;rw[NR h];split
 .rename_i e;rw[e]
 .rfl
theorem sE (h:k<A.length):aP (FO A k x) j=aP A j:=by
 unfold aP;rw[NR h];split
 .rename_i e;rw[e]
 .rfl
theorem SV (h:k<A.length):aL (FO A k x) j=if j=k then aL A k+x else aL A j:=by
 unfold aL;rw[NR h];split <;> rfl
end
section
variable {A:List Arc} {p:Int} {m k j:Nat}
theorem G7:(Dx A p k).length=A.length:=by unfold Dx;rw[FP,FP]
theorem Yr (hm:A.length=2*m) (h:k<2*m):aF (Dx A p k) j=aF A j:=by
 have := VB h
 unfold Dx;rw[sC (by rw[FP];omega),sC (by omega)]
theorem Ys (hm:A.length=2*m) (h:k<2*m):aT (Dx A p k) j=aT A j:=by
 have := VB h
 unfold Dx;rw[sD (by rw[FP];omega),sD (by omega)]
theorem sF (hm:A.length=2*m) (h:k<2*m):aP (Dx A p k) j=aP A j:=by
 have := VB h
 unfold Dx;rw[sE (by rw[FP];omega),sE (by omega)]
theorem MH (hm:A.length=2*m) (h:k<2*m):aL (Dx A p k) j=aL A j-(if j=k then p else 0)+if j=rv k then p else 0:=by
 have h1:=VB h
 have h2:=Agk (k:=k)
 unfold Dx;rw[SV (by rw[FP];omega),SV (by omega),SV (by omega)]
 by_cases e1:j=rv k
 .rw [if_pos e1,if_pos e1,if_neg (by omega),if_neg (by omega),e1];omega
 .rw [if_neg e1,if_neg e1]
  by_cases e2:j=k
  .rw [if_pos e2,if_pos e2,e2];omega
  .rw [if_neg e2,if_neg e2];omega
theorem Ec:∀ {P:List Nat} {A:List Arc},(aug A p P).length=A.length
 | [],_=>rfl
 | k::P,A=>by
  have e:aug A p (k::P)=aug (Dx A p k) p P:=rfl
  rw [e,Ec,G7]
theorem Ly:∀ {P:List Nat} {A:List Arc},A.length=2*m->(∀k∈P,k<2*m)->aF (aug A p P) j=aF A j/\aT (aug A p P) j=aT A j/\aP (aug A p P) j=aP A j
 | [],_,_,_=>⟨rfl,rfl,rfl⟩
 | k::P,A,hm,h=>by
  have e:aug A p (k::P)=aug (Dx A p k) p P:=rfl
  have hk:=h k (by simp)
  obtain ⟨h1,h2,h3⟩:=Ly (P:=P) (A:=Dx A p k) (by rw[G7];exact hm) λk hk=>h k (by simp[hk])
  rw [e,h1,h2,h3,Yr hm hk,Ys hm hk,sF hm hk]
  exact ⟨rfl,rfl,rfl⟩
theorem Rh:∀ {P:List Nat} {A:List Arc},A.length=2*m->(∀k∈P,k<2*m)->aL (aug A p P) j=aL A j-p*(P.count j:Int)+p*(P.count (rv j):Int)
 | [],A,_,_=>by simp[aug]
 | k::P,A,hm,h=>by
  have e:aug A p (k::P)=aug (Dx A p k) p P:=rfl
  have hk:=h k (by simp)
  rw [e,Rh (P:=P) (A:=Dx A p k) (by rw[G7];exact hm) λk hk=>h k (by simp[hk]),MH hm hk]
  rw [ql,ql]
  have c1:(k==j)=decide (j=k):=by
   rw [nt];simp;exact⟨λh=>h.symm,λh=>h.symm⟩
  have c2:(k==rv j)=decide (j=rv k):=by
   rw [nt];simp
   exact ⟨λh=>by rw[h,Agj],λh=>by rw[h,Agj]⟩
  rw [c1,c2]
  have hx:∀(c:Nat) (q:Prop) [Decidable q],p*((c+(if decide q=true then 1 else 0):Nat):Int)=p*(c:Int)+if q then p else 0:=λc q _=>by
   by_cases hq:q
   .simp only[hq,decide_true,if_true]
    rw [Int.natCast_add,pn];simp
   .simp only[hq,decide_false,if_false]
    simp
  rw [hx,hx]
  omega
end
def fnA (A:List Arc) (N s t:Nat):FN:=⟨N,A.length / 2,s,t,λi=>aF A (2*i),λi=>aT A (2*i),λi=>aL A (2*i)+aL A (2*i+1),λi=>aP A (2*i)⟩
def flA (A:List Arc) (i:Nat):Int:=aL A (2*i+1)
structure WPr (A:List Arc) (m:Nat):Prop where
 len : A.length=2*m
 F : ∀i,i<m->aF A (2*i+1)=aT A (2*i)
 T : ∀i,i<m->aT A (2*i+1)=aF A (2*i)
 P : ∀i,i<m->aP A (2*i+1) = - aP A (2*i)
 nn : ∀j,j<2*m->0<=aL A j
theorem WPr.rv {A:List Arc} {m:Nat} (w:WPr A m) {k:Nat} (h:k<2*m):aF A (rv k)=aT A k/\aT A (rv k)=aF A k/\aP A (rv k) = - aP A k:=by
 unfold Sim.rv
 by_cases e:k % 2=0
 .rw [if_pos e]
  have h1:=w.F (k / 2) (by omega)
  have h2:=w.T (k / 2) (by omega)
  have h3:=w.P (k / 2) (by omega)
  rw [show 2*(k / 2)=k by omega]at h1 h2 h3
  exact ⟨h1,h2,h3⟩
 .rw [if_neg e]
  have h1:=w.F (k / 2) (by omega)
  have h2:=w.T (k / 2) (by omega)
  have h3:=w.P (k / 2) (by omega)
  rw [show 2*(k / 2)+1=k by omega,show 2*(k / 2)=k-1 by omega]at h1 h2 h3
  exact ⟨h2.symm,h1.symm,by omega⟩
section
variable {A:List Arc} {m N s t:Nat} {p:Int}
theorem iW {B:List Arc} (h:∀k,aF B k=aF A k/\aT B k=aT A k) {v:Nat} {P:List Nat} (hp:IsP A s v P):IsP B s v P:=by
 induction hp with
 | nil=>exact .nil
 | cons k P _ ih =>
  rw [<-(h k).2]
  refine .cons k P ?_
  rw [(h k).1];exact ih
theorem Zv {v:Nat} {P:List Nat} (hI:IsP A s v P):∀(w:∀i,i<m->aF A (2*i+1)=aT A (2*i)/\aT A (2*i+1)=aF A (2*i)) (hl:A.length=2*m),(∀k∈P,k<2*m)->∀x,(fnA A N s t).net (flA (aug A p P)) x=(fnA A N s t).net (flA A) x+((if s=x then p else 0)-if v=x then p else 0):=by
 intro w hl hP x
 have key:∀ {P:List Nat} {v:Nat} {B:List Arc},IsP B s v P->B.length=2*m->(∀i,i<m->aF B (2*i+1)=aT B (2*i)/\aT B (2*i+1)=aF B (2*i))->(∀k∈P,k<2*m)->(fnA B N s t).net (flA (aug B p P)) x=(fnA B N s t).net (flA B) x+((if s=x then p else 0)-if v=x then p else 0):=by
  intro P
  induction P with
  | nil =>
   intro v B h hl w hP
   cases h
   show (fnA B N s t).net (flA B) x=_
   omega
  | cons k P ih =>
   intro v B h hl w hP
   cases h with
   | cons _ _ h =>
    have hk:=hP k (by simp)
    have hs:∀j,aF (Dx B p k) j=aF B j/\aT (Dx B p k) j=aT B j:=λj=>⟨Yr hl hk,Ys hl hk⟩
    have h1:=ih (v:=aF B k) (B:=Dx B p k) (iW hs h) (by rw[G7];exact hl) (λi hi=>by rw[(hs _).1,(hs _).2,(hs _).1,(hs _).2];exact w i hi) λj hj=>hP j (by simp[hj])
    have e:aug B p (k::P)=aug (Dx B p k) p P:=rfl
    have hn:∀f,(fnA (Dx B p k) N s t).net f x=(fnA B N s t).net f x:=λf=>by
     unfold FN.net fnA
     dsimp only
     rw [G7]
     have hF:∀j,aF (Dx B p k) j=aF B j:=λj=>(hs j).1
     have hT:∀j,aT (Dx B p k) j=aT B j:=λj=>(hs j).2
     simp only[hF,hT]
    rw [hn,hn]at h1
    rw [e,h1]
    -- one arc
    have hm:(fnA B N s t).m=m:=by show B.length / 2=m;rw[hl];omega
    have e2:(fnA B N s t).net (flA (Dx B p k)) x=(fnA B N s t).net (flA B) x+As (λi=>if k / 2=i then ((if aF B k=x then p else 0)-if aT B k=x then p else 0)else 0) m:=by
     unfold FN.net
     rw [hm,<-B8]
     refine Am λi hi=>?_
     show (if aF B (2*i)=x then flA (Dx B p k) i else 0)-(if aT B (2*i)=x then flA (Dx B p k) i else 0)=(if aF B (2*i)=x then flA B i else 0)-(if aT B (2*i)=x then flA B i else 0)+_
     unfold flA
     rw [MH hl hk]
     by_cases c:k / 2=i
     .rw [if_pos c]
      by_cases e:k % 2=0
      .have e1:k=2*i:=by omega
       have e2:rv k=2*i+1:=by unfold rv;rw[if_pos e];omega
       rw [if_neg (show ¬2*i+1=k by omega),if_pos e2.symm,e1]
       repeat' split
       all_goals omega
      .have e1:k=2*i+1:=by omega
       have e2:rv k=2*i:=by unfold rv;rw[if_neg e];omega
       rw [if_pos e1.symm,if_neg (show ¬2*i+1=rv k by omega),e1,(w i hi).1,(w i hi).2]
       repeat' split
       all_goals omega
     .have e2:¬2*i+1=rv k:=by unfold rv;split <;> omega
      rw [if_neg c,if_neg (show ¬2*i+1=k by omega),if_neg e2]
      simp
    rw [e2,BH,if_pos (by omega)]
    omega
 exact key hI hl w hP
theorem Aik {P:List Nat}:∀ {A:List Arc} (w:∀i,i<m->aF A (2*i+1)=aT A (2*i)/\aT A (2*i+1)=aF A (2*i)) (hl:A.length=2*m) (hP:∀k∈P,k<2*m),(∀i,(fnA (aug A p P) N s t).cap i=(fnA A N s t).cap i):=by
 intro A w hl hP i
 show aL (aug A p P) (2*i)+aL (aug A p P) (2*i+1)=aL A (2*i)+aL A (2*i+1)
 rw [Rh hl hP,Rh hl hP]
 have e1:rv (2*i)=2*i+1:=by unfold rv;rw[if_pos (by omega)]
 have e2:rv (2*i+1)=2*i:=by unfold rv;rw[if_neg (by omega)];omega
 rw [e1,e2];omega
theorem Ail (w:WPr A m) {P:List Nat} {lv':List Int} {v:Nat} (h:PathOK A lv' s v P) (hp:0<=p) (hk:∀k∈P,p<=aL A k):WPr (aug A p P) m:=by
 have hP:∀k∈P,k<2*m:=λk hk=>by rw[<-w.len];exact (h.arc k hk).1
 have hs:=λj=>Ly (p:=p) (j:=j) w.len hP
 refine ⟨by rw[Ec];exact w.len,λi hi=>?_,λi hi=>?_,λi hi=>?_,λj hj=>?_⟩
 .rw [(hs _).1,(hs _).2.1];exact w.F i hi
 .rw [(hs _).1,(hs _).2.1];exact w.T i hi
 .rw [(hs _).2.2,(hs _).2.2];exact w.P i hi
 .rw [Rh w.len hP]
  have h0:=w.nn j hj
  have hnd:P.Nodup:=qm (aT A) (λa b g e=>g (by rw[e])) h.nd
  have c1:P.count j<=1:=List.nodup_iff_count.1 hnd j
  have c2:(0:Int)<=p*(P.count (rv j):Int):=pu hp (by omega)
  by_cases hj:j∈P
  .have := hk j hj
   have e:P.count j=1:=by have:=qh.2 hj;omega
   rw [e];simp;omega
  .rw [qn hj];simp;omega
end
structure SI (A:List Arc) (out:List (List Nat)) (lv:List Int) (N m s t:Nat) (sent:Int):Prop where
 wp : WPr A m
 ar : ∀k,k<A.length->aF A k<N/\aT A k<N
 out1 : ∀u,u<N->∀k∈out.getD u [],k<A.length/\aF A k=u
 out2 : ∀k,k<A.length->k∈out.getD (aF A k) []
 lo : out.length=N
 ll : lv.length=N
 sN : s<N
 tN : t<N
 st : s≠t
 pr : ∀k,k<A.length -> -1000000<=aP A k/\aP A k<=1000000
 l0 : lv.getD s 0=0
 lvb : ∀v,v<N -> -(1000000*(N:Int))<=lv.getD v 0/\lv.getD v 0<=1000000*(N:Int)
 val : (fnA A N s t).Val (flA A) sent
 pot : ∃φ:Nat->Int,(∀k,k<A.length->0<aL A k->0<=aP A k+φ (aF A k)-φ (aT A k))/\∀v,Rch A s v->φ v=lv.getD v 0
section
variable {A:List Arc} {out:List (List Nat)} {lv:List Int} {N m s t:Nat} {sent p:Int}
theorem SI.gr (S:SI A out lv N m s t sent):Gr A out lv N s:=by
 obtain ⟨φ,h1,h2⟩:=S.pot
 refine ⟨S.ar,S.out1,S.out2,S.lo,S.ll,S.sN,S.pr,λk hk hl hr=>?_,S.l0⟩
 have := h1 k hk hl
 rwa [h2 _ hr,h2 _ (.arc k hk hl hr)]at this
theorem MI {P:List Nat} (w:WPr A m) (hP:∀k∈P,k<2*m):fnA (aug A p P) N s t=fnA A N s t:=by
 have hs:=λj=>Ly (p:=p) (j:=j) w.len hP
 have hc:=Aik (N:=N) (s:=s) (t:=t) (p:=p) (A:=A) (λi hi=>⟨w.F i hi,w.T i hi⟩) w.len hP
 unfold fnA at hc ⊢
 dsimp only at hc
 rw [Ec]
 have e1:(λi=>aF (aug A p P) (2*i))=λi=>aF A (2*i):=funext λi=>(hs _).1
 have e2:(λi=>aT (aug A p P) (2*i))=λi=>aT A (2*i):=funext λi=>(hs _).2.1
 have e3:(λi=>aP (aug A p P) (2*i))=λi=>aP A (2*i):=funext λi=>(hs _).2.2
 have e4:(λi=>aL (aug A p P) (2*i)+aL (aug A p P) (2*i+1))=λi=>aL A (2*i)+aL A (2*i+1):=funext hc
 rw [e1,e2,e3,e4]
theorem Abx (S:SI A out lv N m s t sent) (ht:Rch A s t) (hp:0<=p) (hk:∀k∈Dj A out lv N s t,p<=aL A k):SI (aug A p (Dj A out lv N s t)) out (lvM A out lv N s) N m s t (sent+p):=by
 have G:=S.gr
 have hpo:=NQ G ht
 obtain ⟨y1,y2,y3,y4,y5⟩:=Agi G
 generalize Dj A out lv N s t=P at *
 generalize lvM A out lv N s=lv' at *
 have hP:∀k∈P,k<2*m:=λk hk=>by rw[<-S.wp.len];exact (hpo.arc k hk).1
 have hs:=λj=>Ly (p:=p) (j:=j) S.wp.len hP
 have hsF:∀j,aF (aug A p P) j=aF A j:=λj=>(hs j).1
 have hsT:∀j,aT (aug A p P) j=aT A j:=λj=>(hs j).2.1
 have hsP:∀j,aP (aug A p P) j=aP A j:=λj=>(hs j).2.2
 -- an open arc was open, or is the reverse of one of the path
 have hop:∀k,k<A.length->0<aL (aug A p P) k->(0<aL A k)\/(rv k∈P):=λk hk h=>by
  rw [Rh S.wp.len hP]at h
  by_cases c:rv k∈P
  .exact .inr c
  .rw [qn c]at h
   have := pu hp (show (0:Int)<=(P.count k:Int) by omega)
   refine .inl ?_
   simp at h;omega
 have hrev:∀k,k<A.length->rv k∈P->Rch A s (aF A k)/\Rch A s (aT A k)/\aP A k+lv'.getD (aF A k) 0-lv'.getD (aT A k) 0=0:=λk hk h=>by
  obtain ⟨_,_,a1,a2,a3⟩:=hpo.arc _ h
  obtain ⟨b1,b2,b3⟩:=S.wp.rv (k:=k) (by rw[<-S.wp.len];exact hk)
  rw [b1]at a1
  rw [b2]at a2
  rw [b1,b2,b3]at a3
  exact ⟨a2,a1,by omega⟩
 have hR:∀v,Rch (aug A p P) s v->Rch A s v:=λv h=>by
  induction h with
  | src=>exact .src
  | arc k hk hl h ih =>
   rw [Ec]at hk
   rw [hsT]
   rw [hsF]at ih
   rcases hop k hk hl with g | g
   .exact .arc k hk g ih
   .exact (hrev k hk g).2.1
 refine ⟨Ail S.wp hpo hp hk,λk hk=>?_,λu hu k hk=>?_,λk hk=>?_,S.lo,y1,S.sN,S.tN,S.st,λk hk=>?_,y2,λv hv=>?_,λv hv=>?_,?_⟩
 .rw [hsF,hsT];rw[Ec]at hk;exact S.ar k hk
 .rw [hsF,Ec];exact S.out1 u hu k hk
 .rw [hsF];rw[Ec]at hk;exact S.out2 k hk
 .rw [hsP];rw[Ec]at hk;exact S.pr k hk
 .by_cases c:Rch A s v
  .exact (y4 v hv c).2
  .rw [y5 v hv c];exact S.lvb v hv
 .have hn:=Zv (N:=N) (t:=t) (p:=p) (m:=m) hpo.isP (λi hi=>⟨S.wp.F i hi,S.wp.T i hi⟩) S.wp.len hP v
  rw [MI S.wp hP,hn,S.val v hv]
  show (if s=v then sent else 0)-(if t=v then sent else 0)+_=(if s=v then sent+p else 0)-(if t=v then sent+p else 0)
  repeat' split
  all_goals omega
 .obtain ⟨φ,f1,f2⟩:=S.pot
  refine ⟨λv=>@ite _ (Rch A s v) (qo _) (lv'.getD v 0) (φ v+2000000*(N:Int)),λk hk hl=>?_,λv hv=>?_⟩
  .rw [Ec]at hk
   rw [hsF,hsT,hsP]
   dsimp only
   rcases hop k hk hl with g | g
   .have h1:=f1 k hk g
    obtain ⟨u1,u2⟩:=S.ar k hk
    by_cases c1:Rch A s (aF A k)
    .have c2:Rch A s (aT A k):=.arc k hk g c1
     rw [if_pos c1,if_pos c2]
     exact y3 k hk g c1
    .rw [if_neg c1]
     by_cases c2:Rch A s (aT A k)
     .rw [if_pos c2]
      have h2:=f2 _ c2
      have h3:=y4 _ u2 c2
      have h4:=S.lvb _ u2
      omega
     .rw [if_neg c2];omega
   .obtain ⟨a1,a2,a3⟩:=hrev k hk g
    rw [if_pos a1,if_pos a2];omega
  .dsimp only;rw[if_pos (hR v hv)]
theorem Zw (S:SI A out lv N m s t sent):(fnA A N s t).WF/\(fnA A N s t).Flow (flA A) sent/\∃φ,(fnA A N s t).Pot (flA A) φ:=by
 have hm:(fnA A N s t).m=m:=by show A.length / 2=m;rw[S.wp.len];omega
 obtain ⟨φ,f1,f2⟩:=S.pot
 have hl:=S.wp.len
 refine ⟨⟨S.sN,S.tN,λi hi=>?_⟩,⟨λi hi=>?_,λi hi=>?_,S.val⟩,φ,λi hi=>⟨λh=>?_,λh=>?_⟩⟩ <;> rw[hm]at hi
 .exact S.ar (2*i) (by omega)
 .exact S.wp.nn _ (by omega)
 .have := S.wp.nn (2*i) (by omega)
  show aL A (2*i+1)<=aL A (2*i)+aL A (2*i+1)
  omega
 .have h:aL A (2*i+1)<aL A (2*i)+aL A (2*i+1):=h
  exact f1 (2*i) (by omega) (by omega)
 .have h:0<aL A (2*i+1):=h
  have := f1 (2*i+1) (by omega) h
  rw [S.wp.F i hi,S.wp.T i hi,S.wp.P i hi]at this
  show aP A (2*i)+φ (aF A (2*i))-φ (aT A (2*i))<=0
  omega
theorem Aim (S:SI A out lv N m s t sent) (h:¬Rch A s t) {f:Nat->Int} {b:Int} (hf:(fnA A N s t).Flow f b):b<=sent:=by
 have hm:(fnA A N s t).m=m:=by show A.length / 2=m;rw[S.wp.len];omega
 have hl:=S.wp.len
 refine @FN.cut (fnA A N s t) (Zw S).1 (flA A) f sent b (Rch A s) (λ_=>qo _) S.val hf .src h (λi hi h1 h2=>?_) λi hi h1 h2=>?_
 .rw [hm]at hi
  show aL A (2*i)+aL A (2*i+1)<=aL A (2*i+1)
  have : ¬0<aL A (2*i):=λg=>h2 (.arc (2*i) (by omega) g h1)
  omega
 .rw [hm]at hi
  show aL A (2*i+1)<=0
  have : ¬0<aL A (2*i+1):=λg=>h1 (by
   have : Rch A s (aT A (2*i+1)):=.arc (2*i+1) (by omega) g (by rw[S.wp.F i hi];exact h2)
   rwa [S.wp.T i hi]at this)
  omega
end
def Dp (A:List Arc) (b:Int) (P:List Nat):Int:=P.foldl (λx k=>if aL A k<x then aL A k else x) b
theorem Zx {A:List Arc}:∀ {P:List Nat} {b:Int},Dp A b P<=b/\(∀k∈P,Dp A b P<=aL A k)/\(0<b->(∀k∈P,0<aL A k)->0<Dp A b P)
 | [],b=>⟨pj _,by simp,λh _=>h⟩
 | k::P,b=>by
  obtain ⟨h1,h2,h3⟩:=Zx (A:=A) (P:=P) (b:=if aL A k<b then aL A k else b)
  have e:Dp A b (k::P)=Dp A (if aL A k<b then aL A k else b) P:=rfl
  rw [e]
  refine ⟨?_,λj hj=>?_,λhb hj=>h3 ?_ λj hj'=>hj j (by simp[hj'])⟩
  .split at h1 <;> rename_i c <;> simp only[c,if_true,if_false] <;> omega
  .rcases li.1 hj with g | g
   .subst g
    split at h1 <;> rename_i c <;> simp only[c,if_true,if_false] <;> omega
   .exact h2 j g
  .have := hj k (by simp)
   split <;> omega
inductive SendR (out:List (List Nat)) (N s t:Nat) (bytes:Int):List Arc->List Int->Int->List Arc->Int->Prop
 | full (A lv sent) (h:¬sent<bytes):SendR out N s t bytes A lv sent A sent
 | stop (A lv sent) (h:sent<bytes) (hd:(IE A out lv N s).done.getD t true=false):SendR out N s t bytes A lv sent A sent
 | step (A lv sent A' r) (h:sent<bytes) (hd:(IE A out lv N s).done.getD t true=true)
   (hr : SendR out N s t bytes (aug A (Dp A (bytes-sent) (Dj A out lv N s t)) (Dj A out lv N s t)) (lvM A out lv N s) (sent+Dp A (bytes-sent) (Dj A out lv N s t)) A' r):SendR out N s t bytes A lv sent A' r
theorem sG {out:List (List Nat)} {N s t:Nat} {bytes:Int} {A:List Arc} {lv:List Int} {sent:Int} {A' A'':List Arc} {r r':Int} (h:SendR out N s t bytes A lv sent A' r) (h':SendR out N s t bytes A lv sent A'' r'):A'=A''/\r=r':=by
 induction h with
 | full A lv sent h =>
  cases h' with
  | full=>exact⟨rfl,rfl⟩
  | stop _ _ _ g=>exact absurd g h
  | step _ _ _ _ _ g=>exact absurd g h
 | stop A lv sent h hd =>
  cases h' with
  | full _ _ _ g=>exact absurd h g
  | stop=>exact⟨rfl,rfl⟩
  | step _ _ _ _ _ _ g=>rw[hd]at g;cases g
 | step A lv sent A' r h hd hr ih =>
  cases h' with
  | full _ _ _ g=>exact absurd h g
  | stop _ _ _ _ g=>rw[hd]at g;cases g
  | step _ _ _ _ _ _ _ g=>exact ih g
section
variable {A:List Arc} {out:List (List Nat)} {lv:List Int} {N m s t:Nat} {sent bytes:Int}
theorem Lz (S:SI A out lv N m s t sent):(IE A out lv N s).done.getD t true=true↔Rch A s t:=by
 obtain ⟨dp,F⟩:=SU S.gr
 exact F.don t S.tN
theorem Pd (S:SI A out lv N m s t sent) (h:sent<bytes) (hd:(IE A out lv N s).done.getD t true=true):SI (aug A (Dp A (bytes-sent) (Dj A out lv N s t)) (Dj A out lv N s t)) out (lvM A out lv N s) N m s t (sent+Dp A (bytes-sent) (Dj A out lv N s t))/\0<Dp A (bytes-sent) (Dj A out lv N s t)/\Dp A (bytes-sent) (Dj A out lv N s t)<=bytes-sent:=by
 have ht:=(Lz S).1 hd
 have hpo:=NQ S.gr ht
 obtain ⟨h1,h2,h3⟩:=Zx (A:=A) (P:=Dj A out lv N s t) (b:=bytes-sent)
 have h4:=h3 (by omega) λk hk=>(hpo.arc k hk).2.1
 exact ⟨Abx S ht (by omega) h2,h4,h1⟩
theorem Aby:∀(n:Nat) {A:List Arc} {lv:List Int} {sent:Int},(bytes-sent).toNat<=n->SI A out lv N m s t sent->∃A' r,SendR out N s t bytes A lv sent A' r:=by
 intro n
 induction n with
 | zero =>
  intro A lv sent hn S
  exact ⟨A,sent,.full _ _ _ (by omega)⟩
 | succ n ih =>
  intro A lv sent hn S
  by_cases h:sent<bytes
  .cases hd:(IE A out lv N s).done.getD t true with
   | false=>exact⟨A,sent,.stop _ _ _ h hd⟩
   | true =>
    obtain ⟨S',h1,h2⟩:=Pd S h hd
    obtain ⟨A',r,hr⟩:=ih (by omega) S'
    exact ⟨A',r,.step _ _ _ _ _ h hd hr⟩
  .exact ⟨A,sent,.full _ _ _ h⟩
theorem Abz {A':List Arc} {r:Int} (h:SendR out N s t bytes A lv sent A' r):SI A out lv N m s t sent->sent<=bytes->∃lv',SI A' out lv' N m s t r/\r<=bytes/\sent<=r/\(r<bytes->¬Rch A' s t)/\fnA A' N s t=fnA A N s t:=by
 induction h with
 | full A lv sent h=>exact λS hb=>⟨lv,S,hb,pj _,λg=>absurd g h,rfl⟩
 | stop A lv sent h hd =>
  intro S hb
  exact ⟨lv,S,hb,pj _,λ_ g=>(by rw[(Lz S).2 g]at hd;cases hd),rfl⟩
 | step A lv sent A' r h hd hr ih =>
  intro S hb
  obtain ⟨S',h1,h2⟩:=Pd S h hd
  obtain ⟨lv',a1,a2,a3,a4,a5⟩:=ih S' (by omega)
  refine ⟨lv',a1,a2,by omega,a4,a5.trans ?_⟩
  have hpo:=NQ S.gr ((Lz S).1 hd)
  exact MI S.wp λk hk=>by rw[<-S.wp.len];exact (hpo.arc k hk).1
end
noncomputable def D0 (A:List Arc) (out:List (List Nat)) (lv:List Int) (N s t:Nat) (bytes:Int):List Arc×Int:=@dite _ (∃x:List Arc×Int,SendR out N s t bytes A lv 0 x.1 x.2) (qo _) Classical.choose λ_=>([],0)
section
variable {A:List Arc} {out:List (List Nat)} {lv:List Int}
theorem sH {N s t:Nat} {bytes:Int} {A':List Arc} {r:Int} (h:SendR out N s t bytes A lv 0 A' r):D0 A out lv N s t bytes=(A',r):=by
 unfold D0
 rw [dif_pos ⟨(A',r),h⟩]
 have := Classical.choose_spec (⟨(A',r),h⟩:∃x:List Arc×Int,SendR out N s t bytes A lv 0 x.1 x.2)
 obtain ⟨h1,h2⟩:=sG this h
 exact Prod.ext h1 h2
theorem Zy {N m s t:Nat} {bytes:Int} (S:SI A out lv N m s t 0):SendR out N s t bytes A lv 0 (D0 A out lv N s t bytes).1 (D0 A out lv N s t bytes).2:=by
 obtain ⟨A',r,h⟩:=Aby (bytes:=bytes) _ (cg _) S
 rw [sH h];exact h
end
end Sim
