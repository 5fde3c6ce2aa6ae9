/- The ideal run of code, with ranges over functions, is what the machine does. -/
import Derived.Test.YtppljhpecoeakaaSimM
set_option linter.unusedVariables false
set_option linter.unusedSimpArgs false
namespace Sim
open Go
section
variable {P:Program} {b:Frame} {a:Act} {k:List Item} {cs:List Frame} {w:World} {Q:Exit→Act→World→Prop} {F:Fence} {n:Nat}
theorem Db {c:Code}:step P (lone (b.atR a (.code (.scope c)::k)) cs w)=.next (lone (b.atR a (.code c::.inScope c::k)) cs w) :=
 step_lone_go (by simp[Go.stepG,Go.stepG.exec,Frame.atR])
theorem Mf {c:Code}:step P (lone (b.atR a (.inScope c::k)) cs w)=.next (lone (b.atR a k) cs w) :=
 step_lone_go (by simp[Go.stepG,Go.stepG.exec,Frame.atR])
def sP (Q:Exit→Act→World→Prop):Exit→Act→World→Prop
 | .goto _,_,_=>False
 | e,a,w=>Q e a w
theorem R4 {c:Code} (h:c.wpIn F n P (sP Q) a w):(Code.scope c).wpIn F n P Q a w:=by
 intro b k cs hro hb hr
 have h0:(lone (b.atR a (.code (.scope c)::k)) cs w).fenced P F:=fenced_calm hb hr rfl
 obtain ⟨e,a₁,w₁,hq,harr⟩:=h b (.inScope c::k) cs hro hb hr
 cases e with
 | normal=>exact⟨.normal,a₁,w₁,hq,.head h0 Db (StepsIn.trans harr (.one (fenced_calm hb hr rfl) Mf))⟩
 | exit id =>
  have hx:exitTo id (.inScope c::k)=exitTo id k:=by simp[exitTo]
  exact ⟨.exit id,a₁,w₁,hq,fun k' hk=>.head h0 Db (harr.1 k' (by rw[hx];exact hk)),
   fun hr' hk=>let ⟨k₁,h1,h2⟩:=harr.2 hr' (by rw[hx];exact hk);⟨k₁,h1,.head h0 Db h2⟩⟩
 | goto l=>exact hq.elim
 | ret=>exact⟨_,a₁,w₁,hq,.of_steps (.one h0 Db) harr⟩
 | panic ch=>exact⟨_,a₁,w₁,hq,.of_steps (.one h0 Db) harr⟩
 | outgrown=>exact⟨_,a₁,w₁,hq,.of_steps (.one h0 Db) harr⟩
end
def VC (P:Program) (f:FuncId) (args:List PV) (r:PV):Prop :=
 DN P f∧∀(imm:Nat→Nat→Option Value) (w:World) (vals:Array Value),(∀b o u,imm b o=some u→w.cell? ⟨b,o,none⟩=some u)→IXC.VRs (base imm w) vals args →
  Calls P f vals w fun e w'=>∃v,e=.returned v∧(w'.os=w.os∧w'.output=w.output)∧(∀b,b<w.heap.size→w'.heap[b]?=w.heap[b]?)∧w.heap.size≤w'.heap.size∧VR (base (DM imm w.heap.size w') w') v r
def Gn (P:Program) (s:IState):ResultVar→Option PV
 | .tmp t=>some (s.env t)
 | .cell a t=>(Bu P t).bind fun (z,ag)=>Dh s.st z ag (s.env a)
def Do (P:Program) (s:IState):List ResultVar→Option (List PV)
 | []=>some []
 | r::l=>(Gn P s r).bind fun p=>(Do P s l).map fun ps=>p::ps
def PO (P:Program) (rs:List ResultVar) (s:IState):Option PV :=
 match Do P s rs with
 | some [p]=>some p
 | some ps=>some (.tuple ps)
 | none=>none
section
variable {X:Cfg} {N:Nat} {C:Ctx} {s:IState} {a:Act} {w:World}
theorem UT {P:Program} {x:Addr}:(asAddr (.pointer (some x))).run P w=.ok x w:=rfl
theorem sQ {P:Program} {st:Store} (hi:Inv C st w) {v:Value} {px q:PV} (hx:VR C v px) {t:TypeId} {z:Nat} {ag:Bool} (ht:Bu P t=some (z,ag)) (hq:Dh st z ag px=some q) :
  ∃ u x,v=.pointer (some x)∧(loadVar t x).run P w=.ok u w∧VR C u q:=by
 have hp:∃cells off,Kp C w v cells off∧CI cells off z ag=some q:=by
  unfold Dh at hq
  split at hq
  ·exact ⟨_,_,Fo hi hx,hq⟩
  ·rename_i id gen idx off
   simp only[Option.bind_eq_some_iff]at hq
   obtain ⟨⟨z',es⟩,hes,hq⟩:=hq
   have hne:(nth es idx).cells ≠ []:=by
    intro e0
    obtain ⟨_,hpos,rfl,rfl⟩:=D6 ht
    simp only[CI,e0]at hq
    split at hq
    ·split at hq
     ·rename_i hle;simp at hle;omega
     ·cases hq
    ·simp at hq
   exact ⟨_,_,IM hi hx hes (Pn hne),hq⟩
  ·cases hq
 obtain ⟨cells,off,hp,hq⟩:=hp
 obtain ⟨u,hu,hu'⟩:=IN hp ht hq
 obtain ⟨b,o,rfl,_⟩:=hp
 exact ⟨u,_,rfl,by simpa [Instr.loadAt,Instr.sureAddr]using hu,hu'⟩
def IY (tmps:Array Value):ResultVar→Sem Value
 | .tmp t=>pure (tmps.getD t undef)
 | .cell a t=>do loadVar t (←asAddr (tmps.getD a undef))
theorem UU (fn:Func) (tmps:Array Value):results fn tmps=(do let vs ←fn.results.mapM (IY tmps);pure (if h:vs.size=1 then vs[0]else .tuple vs)):=by
 unfold results
 congr 1
theorem Mg {P:Program} {fn:Func} (hs:Simul N C s a w) {p:PV} (h:PO P fn.results.toList s=some p):∃v,(results fn a.tmps).run P w=.ok v w∧VR C v p:=by
 have one:∀(r:ResultVar) (q:PV),Gn P s r=some q→∃v,(IY a.tmps r).run P w=.ok v w∧VR C v q:=by
  intro r q hr
  have slot:∀t,VR C (a.tmps.getD t undef) (s.env t):=fun t=>hs.eval (.tmp t)
  cases r with
  | tmp t=>simp only[Gn,Option.some.injEq]at hr;subst hr;exact⟨_,rfl,slot t⟩
  | cell x t =>
   simp only[Gn,Option.bind_eq_some_iff]at hr
   obtain ⟨⟨z,ag⟩,ht,hq⟩:=hr
   obtain ⟨u,ad,he,hu,hu'⟩:=sQ hs.inv (slot x) ht hq
   refine ⟨u,?_,hu'⟩
   simp only[IY,he,Sem.run_bind,UT,Result.andThen,hu]
 have all:∀(l:List ResultVar) (ps:List PV),Do P s l=some ps→∃vs:List Value,(l.mapM (IY a.tmps)).run P w=.ok vs w ∧
   vs.length = ps.length∧∀(i:Nat) (q:PV),ps[i]?=some q→∃v,vs[i]?=some v∧VR C v q:=by
  intro l
  induction l with
  | nil=>intro ps h;simp only[Do,Option.some.injEq]at h;subst h;exact⟨[],rfl,rfl,by intro i q h;simp at h⟩
  | cons r l ih =>
   intro ps h
   simp only[Do,Option.bind_eq_some_iff,Option.map_eq_some_iff]at h
   obtain ⟨q,hq,ps',hps,rfl⟩:=h
   obtain ⟨v,hv,hv'⟩:=one r q hq
   obtain ⟨vs,hvs,hlen,hget⟩:=ih ps' hps
   refine ⟨v::vs,?_,by simp[hlen],fun i q' hi=>?_⟩
   ·simp only[List.mapM_cons,Sem.run_bind,hv,Result.andThen,hvs,Sem.run_pure]
   ·cases i with
    | zero=>simp at hi;subst hi;exact⟨v,rfl,hv'⟩
    | succ i=>simpa using hget i q' (by simpa using hi)
 unfold PO at h
 have hm:fn.results.mapM (IY a.tmps)=List.toArray <$> fn.results.toList.mapM (IY a.tmps):=Array.mapM_eq_mapM_toList ..
 cases hps:Do P s fn.results.toList with
 | none=>rw[hps]at h;cases h
 | some ps =>
  rw [hps]at h
  obtain ⟨vs,hvs,hlen,hget⟩:=all _ ps hps
  have hrun:(results fn a.tmps).run P w=.ok (if h:vs.toArray.size=1 then vs.toArray[0]else .tuple vs.toArray) w:=by
   rw [UU]
   simp only[Sem.run_bind]
   have : (fn.results.mapM (IY a.tmps)).run P w=.ok vs.toArray w:=by
    rw [hm,Sem.run_map,hvs];rfl
   rw [this]
   simp only[Result.andThen,Sem.run_pure]
  refine ⟨_,hrun,?_⟩
  match ps,h,hlen,hget with
  | [q],h,hlen,hget =>
   simp only[Option.some.injEq]at h;subst h
   obtain ⟨v,hv,hv'⟩:=hget 0 q rfl
   match vs,hlen,hv with
   | [v'],_,hv=>simp at hv;subst hv;simpa using hv'
  | [],h,hlen,hget =>
   simp only[Option.some.injEq]at h;subst h
   have : vs = []:=List.eq_nil_of_length_eq_zero (by simpa using hlen)
   subst this
   simpa using VR.tuple (C:=C) #[] [] rfl (by intro i p h;simp at h)
  | q1::q2::qs,h,hlen,hget =>
   simp only[Option.some.injEq]at h;subst h
   rw [dif_neg (by simp at hlen ⊢;omega)]
   refine .tuple _ _ (by simpa using hlen) (fun i q hi=>?_)
   obtain ⟨v,hv,hv'⟩:=hget i q hi
   have hlt:i<vs.length:=(List.getElem?_eq_some_iff.1 hv).1
   have e:vs.toArray.getD i undef=v:=by
    have :=(List.getElem?_eq_some_iff.1 hv).2
    simp [Array.getD,hlt,this]
   rw [e];exact hv'
end
theorem Ll {N:Nat} {C:Ctx} {st:Store} {w:World} {vals:Array Value} {args:List PV} (hi:Inv C st w) (hv:IXC.VRs C vals args) (hn:args.length≤N) (hown:∀b,C.caller b=true→C.keep b=true) :
  Simul N C ⟨FC args,st⟩ { tmps:=vals++Array.replicate (N-vals.size) undef,defers := [] } w:=by
 obtain ⟨h1,h2⟩:=hv
 refine ⟨fun d hd=>by simp at hd,List.nodup_nil,hown,by simp;omega,fun t ht=>?_,fun t ht=>?_,hi⟩
 ·show VR C _ (args.getD t .bad)
  rcases Nat.lt_or_ge t args.length with h | h
  ·have e:args[t]?=some (args.getD t .bad):=by simp[List.getD,h]
   have := h2 t _ e
   have e2:(vals++Array.replicate (N-vals.size) undef).getD t undef=vals.getD t undef:=by
    simp only[Array.getD_eq_getD_getElem?]
    rw [Array.getElem?_append_left (by omega)]
   rw [e2];exact this
  ·have : args.getD t .bad=.bad:=by simp[List.getD,List.getElem?_eq_none h]
   rw [this];exact .bad _
 ·show args.getD t .bad=.bad
  simp [List.getD,List.getElem?_eq_none (show args.length≤t by omega)]
def Ai (P:Program) (rs:List ResultVar) (Q:PV→Store→Prop):IExit→IState→Prop
 | .normal,s | .ret,s=>∃p,PO P rs s=some p∧Q p s.st
 | .exit _,_=>False
theorem Ho {P:Program} {fn:Func} {tmps:Array Value} {R:Ending→World→Prop} {st:Store}:∀(ds:List Deferred) (C:Ctx) (w:World),Inv C st w→(∀d∈ds,∃b,d=⟨.collected b,#[]⟩∧C.keep b=true∧C.caller b=false)→ds.Nodup→(∀b,C.caller b=true→C.keep b=true) →
  (∀ C' w',C'.imm=C.imm→C'.loc=C.loc→C'.born=C.born→C'.B=C.B→C'.h=C.h→C'.os=C.os→C'.out=C.out→C'.caller=C.caller→(∀b,C.caller b=true→C'.keep b=true)→Inv C' st w'→LeavesIn (FR none) 0 P fn tmps R [] .returning w') →
  LeavesInM (FR none) 0 P fn tmps R ds .returning w
 | [],C,w,hi,_,_,hown,hfin=>hfin C w rfl rfl rfl rfl rfl rfl rfl rfl hown hi
 | d::ds,C,w,hi,hd,hn,hown,hfin=>by
  obtain ⟨b,rfl,hb,hcb⟩:=hd d (by simp)
  obtain ⟨k1,k2⟩:=hi.keep b hb
  have hn':=List.nodup_cons.1 hn
  refine ⟨by simp,.inl ⟨b,w.putObj b (.deferred none),rfl,run_takeDeferred k2,?_⟩⟩
  refine Ho ds { C with keep:=fun x => !(x==b)&&C.keep x } _ (hi.shut hb (fun k hk=>World.putObj_heap_other hk) World.putObj_size rfl rfl) (fun d' hd'=>?_) hn'.2 (fun x hx=>?_) (fun C' w' e1 e2 e3 e4 e5 e6 e7 e8 hk hi'=>hfin C' w' e1 e2 e3 e4 e5 e6 e7 e8 hk hi')
  ·obtain ⟨b',rfl,hb',hcb'⟩:=hd d' (by simp[hd'])
   refine ⟨b',rfl,?_,hcb'⟩
   have hne:b'≠b:=fun e=>hn'.1 (e▸hd')
   simp [hne,hb']
  ·have hne:x≠b:=fun e=>by subst e;rw[hcb]at hx;cases hx
   simp [hne,hown x hx]
theorem Inv.lpAt {C0 C:Ctx} {st:Store} {w:World} (hi:Inv C st w) (hle:C0.lek C) {id:Nat} {r:Loop} {L0:Loc} (ho:st.obj id=some (.lp r)) (hb:C0.born id) (hL0:C0.loc id=some L0) :
  C.loc id=some L0∧ObjAt C w L0 (.lp r)∧w.heap[L0.blk]?=some (.loop r):=by
 obtain ⟨hbn,L,hL,hat⟩:=hi.obj id _ ho
 obtain ⟨L1,hL1,hor⟩:=hle.loc id hb L hL
 have h0:L0=L1:=by rw[hL0]at hL1;cases hL1;rfl
 subst h0
 have hg:=hat.1
 have : L=L0:=hor.resolve_right (by omega)
 subst this
 exact ⟨hL,hat,hat.2.2.2.2⟩
theorem Inv.putLp {C:Ctx} {st:Store} {w:World} (hi:Inv C st w) {id:Nat} {r:Loop} {L:Loc} (hL:C.loc id=some L) (hb:C.born id) (hat:ObjAt C w L (.lp r)) (r':Loop) :
  C.le (C.set id L)∧Inv (C.set id L) (st.set id (.lp r')) (w.putObj L.blk (.loop r')):=by
 obtain ⟨h1,h2,h3,h4,h5⟩:=hat
 have hlt:id<st.next:=by
  rcases Nat.lt_or_ge id st.next with h | h
  ·exact h
  ·exact absurd hb (hi.next id h)
 exact hi.put (id:=id) (nx:=st.next) (o:=.lp r') (L':=L) (.inl ⟨L,hL,.inl rfl⟩) (.inr (.inr ⟨L,hL,rfl,by omega⟩))
  (fun b hb hne=>World.putObj_heap_other (hne L hL (by omega))) (by simp) (fun hle=>⟨h1,h2,h3,h4,World.putObj_heap_same (Array.getElem?_eq_some_iff.1 h5).1⟩) (Nat.le_refl _) hlt
theorem Inv.newKeep {C:Ctx} {st:Store} {w:World} (h:Inv C st w) :
  C.le { C with keep:=fun x=>x==w.heap.size||C.keep x }∧Inv { C with keep:=fun x=>x==w.heap.size||C.keep x } st (w.alloc (.deferred (some []))):=by
 have hold:∀b,b<w.heap.size→(w.alloc (.deferred (some []))).heap[b]?=w.heap[b]?:=fun b hb=>Go.heap_alloc_old w _ hb
 have hle:C.le { C with keep:=fun x=>x==w.heap.size||C.keep x }:=⟨fun _ _ _ h=>h,fun _ _ _=>rfl,fun _ h=>h,fun id _ L' hL=>⟨L',hL,.inl rfl⟩,rfl,rfl,rfl,rfl,fun b hb=>by simp[hb],rfl⟩
 refine ⟨hle,?_⟩
 constructor
 ·exact h.os
 ·exact h.out
 ·have := h.hB;simp;omega
 ·intro b hb
  have hb':b<C.B:=hb
  rw [hold b (by have:=h.hB;omega)];exact h.old b hb'
 ·intro b o v hv
  have h1:=h.imm b o v hv
  rw [cell?_heap (hold b (World.block_lt_of_cell? _ _ h1))];exact h1
 ·exact h.next
 ·exact h.none_
 ·intro id o ho
  obtain ⟨hb,L,hL,hat⟩:=h.obj id o ho
  exact ⟨hb,L,hL,hat.mono hle (fun _ _ h=>h) (fun hc=>hold _ (hat.own hc).2.2)⟩
 ·exact h.sep
 ·intro b hb
  simp only[Bool.or_eq_true,beq_iff_eq]at hb
  rcases hb with rfl | hb
  ·exact ⟨h.hB,World.alloc_heap_new _ _⟩
  ·obtain ⟨k1,k2⟩:=h.keep b hb
   exact ⟨k1,by rw[hold b (Array.getElem?_eq_some_iff.1 k2).1];exact k2⟩
theorem Inv.newLp {C:Ctx} {st:Store} {w:World} (h:Inv C st w) (r:Loop) :
  C.le (C.set st.next ⟨w.heap.size,0,0,1,0⟩)∧Inv (C.set st.next ⟨w.heap.size,0,0,1,0⟩) (st.new (.lp r)) (w.alloc (.loop r)):=by
 refine h.put (id:=st.next) (nx:=st.next+1) (o:=.lp r) (L':=⟨w.heap.size,0,0,1,0⟩) (.inr (h.next _ (Nat.le_refl _))) (.inr (.inl (Nat.le_refl _)))
  (fun b hb _=>Go.heap_alloc_old w _ hb) (by simp) (fun hle=>⟨rfl,rfl,h.hB,fun o=>?_,World.alloc_heap_new _ _⟩) (by omega) (by omega)
 exact h.immLt (Nat.le_refl _)
theorem Ln {N:Nat} {C:Ctx}:∀(ps:List Nat) (vs:List PV) (as:List Value) (tmps:Array Value) (ρ:Nat→PV),as.length=vs.length→(∀p∈ps,p<N)→tmps.size=N →
  (∀ t,t<N→VR C (tmps.getD t undef) (ρ t))→(∀t,N≤t→ρ t=.bad)→(∀i p,vs[i]?=some p→VR C (as.getD i undef) p) →
  ((ps.zip as).foldl (fun tmps (t,a)=>tmps.setIfInBounds t a) tmps).size=N∧(∀t,t<N→VR C (((ps.zip as).foldl (fun tmps (t,a)=>tmps.setIfInBounds t a) tmps).getD t undef) (Fs ρ ps vs t))∧∀t,N≤t→Fs ρ ps vs t=.bad
 | [],vs,as,tmps,ρ,hl,hp,hn,ht,ho,hv=>⟨hn,ht,ho⟩
 | p::ps,[],as,tmps,ρ,hl,hp,hn,ht,ho,hv=>by
  have : as = []:=List.eq_nil_of_length_eq_zero (by simpa using hl)
  subst this
  exact ⟨hn,ht,ho⟩
 | p::ps,v::vs,[],tmps,ρ,hl,hp,hn,ht,ho,hv=>by simp at hl
 | p :: ps,v::vs,a::as,tmps,ρ,hl,hp,hn,ht,ho,hv=>by
  have hpN:p<N:=hp p (by simp)
  have := Ln ps vs as (tmps.setIfInBounds p a) (upd ρ p v) (by simpa using hl) (fun q hq=>hp q (by simp[hq])) (by simpa using hn) (fun t h=>?_) (fun t h=>?_) (fun i q hq=>by simpa using hv (i+1) q (by simpa using hq))
  ·simpa [Fs]using this
  ·by_cases e:t=p
   ·subst e
    have h0:=hv 0 v rfl
    simp only[upd,if_true]
    have : (tmps.setIfInBounds t a).getD t undef=a:=by simp[Array.getD,hn,h]
    rw [this];simpa using h0
   ·simp only[upd,e,if_false]
    have : (tmps.setIfInBounds p a).getD t undef=tmps.getD t undef:=by
     simp only[Array.getD_eq_getD_getElem?,Array.getElem?_setIfInBounds_ne (fun x=>e x.symm)]
    rw [this];exact ht t h
  ·have : t≠p:=by omega
   simp only[upd,this,if_false];exact ho t h
def PR (G:WP):Prop:=∀(X:Cfg) (rd:Option Nat) (C0:Ctx),El X→Bo X→X.P.follows .mixedOrders=true→Ez X C0→(rd=none∨X.rnd=true) →
 ∀ (N:Nat) (c:Code) (R:IExit→IState→Prop) (C:Ctx) (s:IState) (a:Act) (w:World),C0.lek C→G X N c R s→Simul N C s a w→c.wpIn (FR rd) 0 X.P (RQ N C R) a w
section
abbrev PS (G:WP) (N:Nat) (c:Code):Prop:=∀(X:Cfg) (rd:Option Nat) (C0:Ctx),El X→Bo X→X.P.follows .mixedOrders=true→Ez X C0→(rd=none∨X.rnd=true) →
 ∀ (R:IExit→IState→Prop) (C:Ctx) (s:IState) (a:Act) (w:World),C0.lek C→wpC G X N c R s→Simul N C s a w→c.wpIn (FR rd) 0 X.P (RQ N C R) a w
theorem R5 {G:WP} {X:Cfg} {C0:Ctx} (hX:El X) (hq:Bo X) (hmix:X.P.follows .mixedOrders=true) (hY:Ez X C0) {N:Nat} {ps:Array Tmp} {assign body:Code}
  (iha : PS G N assign) (ihb:PS G N body) {s:IState} {a:Act} {id l:Nat} {C3:Ctx} {L0:Loc} (hC3:C0.lek C3) (hbn:C3.born id) (hL0:C3.loc id=some L0) (hl:L0.blk=l) (hn:a.tmps.size=N)
  (htmp : ∀t,t<N→VR C3 (a.tmps.getD t undef) (s.env t)) (hout:∀t,N≤t→s.env t=.bad) (hps:∀p∈ps.toList,p<N) {r:Loop} (hr:r.state=.ready) (hpn:r.pending=none) (hrt:r.tmps=a.tmps) (hrp:r.params=ps) (hra:r.assign=assign) (hrb:r.body=body) :
  ∀ (args:List PV) (st:Store) (K:Bool→Store→Prop) (C:Ctx) (w:World) (vals:Array Value),C3.lek C→(st.obj id=some (.lp r)∧args.length=ps.size ∧
       wpC G (DJ X) N assign (fun e s1=>e=.normal∧s1.st.obj id=some (.lp r) ∧
        wpC G (DJ X) N body (fun e s2=>s2.st.obj id=some (.lp { r with state:=.busy }) ∧
         match e with
         | .normal=>K true (s2.st.set id (.lp r))
         | .ret=>K false (s2.st.set id (.lp { r with state:=.done,pending:=some .ret }))
         | .exit i=>K false (s2.st.set id (.lp { r with state:=.done,pending:=some (.exit i) })))
         ⟨s1.env, s1.st.set id (.lp { r with state:=.busy })⟩)
        ⟨Fs s.env ps.toList args,st⟩)→Inv C st w→IXC.VRs C vals args→(∀b,C.caller b=true→C.keep b=true) →
   ∃ f tmps assign body,(Instr.yield l vals).run X.P w=.ok (.round l f tmps assign body) w∧RoundIn (FR none) 0 X.P l f tmps assign body w (fun e w'=>∃b C' st',e=.returned (.bool b)∧C.le C'∧Inv C' st' w'∧K b st'):=by
 intro args st K C w vals hle hH hi hv hown
 obtain ⟨ho,hlen,hwp⟩:=hH
 obtain ⟨hvs,hvp⟩:=hv
 obtain ⟨hLc,hatc,hcell⟩:=hi.lpAt hle ho hbn hL0
 have hbc:C.born id:=hle.born id hbn
 rw [hl]at hcell
 refine ⟨r.fn,_,r.assign,r.body,run_yield hcell (by rw[hrp,hvs,hlen]),?_⟩
 refine roundIn_of_wpIn trivial ?_
 have hfold:(r.params.zip vals).foldl (fun tmps (t,a)=>tmps.setIfInBounds t a) r.tmps=(ps.toList.zip vals.toList).foldl (fun tmps (t,a)=>tmps.setIfInBounds t a) a.tmps:=by
  rw [hrp,hrt,←Array.foldl_toList,Array.toList_zip]
 obtain ⟨g1,g2,g3⟩:=Ln (N:=N) (C:=C) ps.toList args vals.toList a.tmps s.env (by simp[hvs]) hps hn (fun t ht=>(htmp t ht).lek hle) hout (fun i p hp=>by
  have := hvp i p hp
  simpa [Array.getD_eq_getD_getElem?]using this)
 rw [hfold,hra,hrb]
 have hs1:Simul N C ⟨Fs s.env ps.toList args,st⟩ { tmps:=(ps.toList.zip vals.toList).foldl (fun tmps (t,a)=>tmps.setIfInBounds t a) a.tmps,defers := [] } w :=
  ⟨fun d hd=>by simp at hd,List.nodup_nil,hown,g1,g2,g3,hi⟩
 refine wpIn_mono (iha (DJ X) (some l) C0 hX hq hmix hY (.inr rfl) _ C _ _ w (hC3.trans hle) hwp hs1) fun e a1 w1 hr1=>?_
 obtain ⟨e',C',s1,k1,k2,k3,rfl,k4,k5⟩:=hr1
 cases e <;> first | (exact k1.elim) | skip
 obtain ⟨hL1,hat1,hcell1⟩:=k3.inv.lpAt (hle.trans k2.lek) k4 hbn hL0
 rw [hl]at hcell1
 obtain ⟨p1,p2⟩:=k3.inv.putLp hL1 (k2.born id hbc) hat1 { r with state:=.busy }
 rw [hl]at p2
 refine ⟨_,run_beginRound hcell1 hr,?_⟩
 have hs2:Simul N (C'.set id L0) ⟨s1.env,s1.st.set id (.lp { r with state:=.busy })⟩ a1 (w1.putObj l (.loop { r with state:=.busy })) :=
  ⟨k3.defersMono p1,k3.nodup,k3.ownMono p1,k3.size,fun t ht=>(k3.tmp t ht).mono p1,k3.out,p2⟩
 refine wpIn_mono (ihb (DJ X) (some l) C0 hX hq hmix hY (.inr rfl) _ _ _ a1 _ ((hC3.trans hle).trans (k2.trans p1).lek) k5 hs2) fun e a2 w2 hr2=>?_
 obtain ⟨e',C2,s2,m1,m2,m3,m4,m5⟩:=hr2
 obtain ⟨hL2,hat2,hcell2⟩:=m3.inv.lpAt ((hle.trans k2.lek).trans (p1.trans m2).lek) m4 hbn hL0
 have hb2:C2.born id:=m2.born id (p1.born id (k2.born id hbc))
 have hcl:C.le C2:=(k2.trans p1).trans m2
 have fin:∀(jump:Option Code) (r':Loop),r'={ r with state:=if jump.isNone then .ready else .done,pending:=jump }→K jump.isNone (s2.st.set id (.lp r')) →
   ∃ v w',(Instr.endRound l jump).run X.P w2=.ok v w'∧∃b C' st',(Ending.returned v)=.returned (.bool b)∧C.le C'∧Inv C' st' w'∧K b st':=by
  intro jump r' hr' hk
  obtain ⟨q1,q2⟩:=m3.inv.putLp hL2 hb2 hat2 r'
  refine ⟨.bool jump.isNone,_,run_endRound jump (r:={ r with state:=.busy }) (by rw[hl]at hcell2;exact hcell2),_,_,_,rfl,hcl.trans q1,?_,hk⟩
  rw [hl,hr']at q2;exact hr'▸q2
 cases e <;> cases e' <;> first | (exact m1.elim) | skip
 ·exact fin none r (by cases r;simp at hr hpn;subst hr hpn;rfl) m5
 ·subst m1;exact fin (some (.exit _)) _ rfl m5
 ·exact fin (some .ret) _ rfl m5
theorem R6 {G:WP} (hG:PR G) {X:Cfg} {rd:Option Nat} {C0:Ctx} (hX:El X) (hq:Bo X) (hmix:X.P.follows .mixedOrders=true) (hY:Ez X C0) (hrd:rd=none∨X.rnd=true) {N:Nat} {g:Operand} {ps:Array Tmp} {assign body:Code}
  (iha : PS G N assign) (ihb:PS G N body) {R:IExit→IState→Prop} {C:Ctx} {s:IState} {a:Act} {w:World} (hC:C0.lek C) (h:wpC G X N (.rangeFunc g ps assign body) R s) (hs:Simul N C s a w) :
  (Code.rangeFunc g ps assign body).wpIn (FR rd) 0 X.P (RQ N C R) a w:=by
 simp only[wpC]at h
 obtain ⟨s,hgh,hrnd,h⟩:=h
 obtain ⟨C,hle0,hs⟩:=hgh.sound hs
 refine wpIn_mono ?_ (fun e a' w' hq'=>RQ.mono hle0 (fun _ _ x=>x) hq')
 have hC:=hC.trans hle0.lek
 have hrd':rd=none:=hrd.resolve_right (by simp[hrnd])
 subst hrd'
 split at h
 case h_2=>exact h.elim
 rename_i f first captured hg
 obtain ⟨fn,c,hf,hb,hname,hres,hlen,hps,h⟩:=h
 have hps':∀p∈ps.toList,p<N:=fun p hp=>by simpa using List.all_eq_true.1 hps p hp
 refine wpIn_rangeFunc fun fn0 _=>?_
 have hvg:=hs.eval g
 rw [hg]at hvg
 obtain ⟨vf,vc,hev,hvf1,hvf2,hvc1,hvc2⟩:∃vf vc:Array Value,a.eval g=.func (.func f) vf vc∧vf.size=first.length∧(∀(i:Nat) (p:PV),first[i]?=some p→VR C (vf.getD i undef) p) ∧
   vc.size = captured.length∧(∀(i:Nat) (p:PV),captured[i]?=some p→VR C (vc.getD i undef) p):=by
  generalize a.eval g=v at hvg
  cases hvg with
  | func fn f1 c1 pf pc h1 h2 h3 h4=>exact⟨f1,c1,rfl,h1,h3,h2,h4⟩
 -- the record
 let b:=w.heap.size
 let r:Loop:={ state:=.ready,pending:=none,fn:=fn0,tmps:=a.tmps,params:=ps,assign:=assign,body:=body,defers:=b }
 let w1:=(w.alloc (.deferred (some []))).alloc (.loop r)
 let vals:Array Value:=vf ++ #[.func (.yield (b+1)) #[] #[]]++vc
 have hen:DN X.P f:=⟨fn,hf,by simp[hb],hname⟩
 refine ⟨b+1,[⟨.collected b,#[]⟩],w1,⟨.fn (.func f) vc,vf ++ #[.func (.yield (b+1)) #[] #[]]⟩,w1,f,vals,w1,run_enterLoop_outer ..,?_,fun _ _=>trivial,?_,fun hd=>by simp[FR,Fence.wide]at hd,?_⟩
 ·simp [resolve,rangeCall,hev,Deferred.ofValue,Sem.run_pure]
  rfl
 ·exact Gh hen
 -- the context
 obtain ⟨c1,i1⟩:=hs.inv.newKeep
 obtain ⟨c2,i2⟩:=i1.newLp r
 have hsz1:(w.alloc (.deferred (some []))).heap.size=b+1:=by simp[b]
 rw [hsz1]at c2 i2
 let L0:Loc:=⟨b+1,0,0,1,0⟩
 let C2:Ctx:=({ C with keep:=fun x=>x==w.heap.size||C.keep x }:Ctx).set s.st.next L0
 have c12:C.le C2:=c1.trans c2
 let C3:Ctx:={ C2 with keep:=C2.keep,caller:=C2.keep }
 have i3:Inv C3 (s.st.new (.lp r)) w1:=i2.same C2.keep C2.keep (fun _ h=>h)
 have hC3:C0.lek C3:=hC.trans ⟨c12.imm,c12.old,c12.born,c12.loc,c12.B,c12.h,c12.os,c12.out,c12.keep,rfl⟩
 have c13:∀ {v:Value} {p:PV},VR C v p→VR C3 v p:=fun hv=>VR.same (C:=C2) (C':=C3) rfl rfl rfl (hv.mono c12)
 have hbn:C3.born s.st.next:=.inl rfl
 have hL0:C3.loc s.st.next=some L0:=by simp[C3,C2,Ctx.set]
 have hv3:IXC.VRs C3 vals (first++.func (.yield (b+1)) [] []::captured):=by
  refine ⟨by simp[vals,hvf1,hvc1];omega,fun i p hp=>?_⟩
  rw [List.getElem?_append]at hp
  split at hp
  ·rename_i hlt
   have e:vals.getD i undef=vf.getD i undef:=by
    have hi':i<vf.size:=by omega
    simp [vals,Array.getD_eq_getD_getElem?,Array.getElem?_append,hi',show i<vf.size+1 by omega,Array.getElem_push_lt hi']
   rw [e];exact c13 (hvf2 i p hp)
  ·rename_i hlt
   rcases Nat.eq_or_lt_of_le (Nat.le_of_not_lt hlt)with he | he
   ·have e:vals.getD i undef=.func (.yield (b+1)) #[] #[]:=by
     have hi':i=vf.size:=by omega
     subst hi'
     simp [vals,Array.getD_eq_getD_getElem?,Array.getElem?_append]
    have hp':p=.func (.yield (b+1)) [] []:=by
     rw [←he]at hp;simpa using hp.symm
    rw [e,hp']
    exact .func _ _ _ _ _ rfl rfl (by intro i p h;simp at h) (by intro i p h;simp at h)
   ·have e:vals.getD i undef=vc.getD (i-first.length-1) undef:=by
     simp [vals,Array.getD_eq_getD_getElem?,Array.getElem?_append,hvf1,show ¬i<first.length+1 by omega,show i-(first.length+1)=i-first.length-1 by omega]
    have hp':captured[i-first.length-1]?=some p:=by
     have : i-first.length=(i-first.length-1)+1:=by omega
     rw [this]at hp;simpa using hp
    rw [e];exact c13 (hvc2 _ p hp')
 have hgen:=h (b+1) r rfl rfl
 have hs3:=Ll (N:=fn.ntmps) i3 hv3 (by simp;omega) (fun _ h=>h)
 have hY3:∀(H:Fk),(∀(args:List PV) (st:Store) (K:Bool→Store→Prop) (C:Ctx) (w:World) (vals:Array Value),C3.lek C→H args st K→Inv C st w→IXC.VRs C vals args→(∀b,C.caller b=true→C.keep b=true) →
   ∃ f tmps assign body,(Instr.yield (b+1) vals).run X.P w=.ok (.round (b+1) f tmps assign body) w∧RoundIn (FR none) 0 X.P (b+1) f tmps assign body w (fun e w'=>∃b C' st',e=.returned (.bool b)∧C.le C'∧Inv C' st' w'∧K b st'))→Ez (L5 X (b+1,H)) C3:=by
  intro H hH l' H' he
  simp only[L5,Option.some.injEq,Prod.mk.injEq]at he
  obtain ⟨rfl,rfl⟩:=he
  exact hH
 have hwalk:=hG (L5 X (b+1,_)) none C3 hX hq hmix (hY3 _ (R5 hX hq hmix hY iha ihb hC3 hbn hL0 rfl hs.size (fun t ht=>c13 (hs.tmp t ht)) hs.out hps' (r:=r) rfl rfl rfl rfl rfl rfl)) (.inl rfl) _ c _ C3 _ _ w1 (Ctx.le.refl C3).lek hgen hs3
 refine callsIn_of_wp_marks hf hb trivial (wpIn_mono hwalk fun e a' w' hr=>?_)
 obtain ⟨e',C',s',h1,h2,h3,h4,h5⟩:=hr
 have fin:LeavesInM (FR none) 0 X.P fn a'.tmps (rangePost (FR none) 0 X.P (b+1) (RQ N C R) { a with defers := [⟨.collected b,#[]⟩]++a.defers }) a'.defers .returning w':=by
  refine Ho a'.defers C' w' h3.inv h3.defers h3.nodup h3.own fun C4 w4 e1 e2 e3 e4 e5 e6 e7 e8 hk hi4=>?_
  have hs4:Simul fn.ntmps C4 s' { tmps:=a'.tmps,defers := [] } w4:=⟨fun d hd=>by simp at hd,List.nodup_nil,fun b hb=>hk b (by rw[←e8];exact hb),h3.size,fun t ht=>(h3.tmp t ht).same e1 e2 e3,h3.out,hi4⟩
  obtain ⟨v,hv,_⟩:=Mg (P:=X.P) (fn:=fn) hs4 (p:=.tuple []) (by simp[PO,Do,hres])
  refine ⟨v,hv,?_⟩
  have hck:∀b,C2.keep b=true→C4.keep b=true:=fun b hb=>hk b (by rw[h2.caller];exact hb)
  let C5:Ctx:={ C4 with keep:=C2.keep,caller:=C.caller }
  have i5:Inv C5 s'.st w4:=hi4.same C2.keep C.caller hck
  have c25:C2.le C5:=⟨fun b o u hu=>by show C4.imm b o=_;rw[e1];exact h2.imm b o u hu,fun b o hb=>by show C4.imm b o=_;rw[e1];exact h2.old b o hb,fun id hb=>by show C4.born id;rw[e3];exact h2.born id hb,
   fun id hb L' hL=>h2.loc id hb L' (by rw[←e2];exact hL),e4.trans h2.B,e5.trans h2.h,e6.trans h2.os,e7.trans h2.out,fun _ h=>h,rfl⟩
  have end_:∀(r':Loop) (e:IExit),s'.st.obj s.st.next=some (.lp r')→r'.state≠.busy→R e ⟨s.env,s'.st.set s.st.next (.lp { r' with state:=.exhausted })⟩ →
    (match r'.pending,e with | none,.normal=>True | some .ret,.ret=>True | some (.exit i),.exit j=>i=j | _,_=>False) →
    rangePost (FR none) 0 X.P (b+1) (RQ N C R) { a with defers := [⟨.collected b,#[]⟩]++a.defers } (.returned v) w4:=by
   intro r' e ho hst hR hm
   obtain ⟨hL5,hat5,hcell5⟩:=i5.lpAt (C0:=C2) c25.lek ho (.inl rfl) (L0:=L0) (by simp[C2,Ctx.set])
   obtain ⟨q1,q2⟩:=i5.putLp hL5 (c25.born _ (.inl rfl)) hat5 { r' with state:=.exhausted }
   have cle:C.le (C5.set s.st.next L0):=(c12.trans c25).trans q1
   have hkb:(C5.set s.st.next L0).keep b=true:=by simp[C5,C2,Ctx.set,b]
   have hnb:C.keep b≠true:=fun hb=>by
    have :=(hs.inv.keep b hb).2
    simp [b]at this
   have hcb:(C5.set s.st.next L0).caller b=false:=by
    show C.caller b=false
    cases hc:C.caller b with
    | false=>rfl
    | true=>exact absurd (hs.own b hc) hnb
   have hsim:Simul N (C5.set s.st.next L0) ⟨s.env,s'.st.set s.st.next (.lp { r' with state:=.exhausted })⟩ { a with defers := [⟨.collected b,#[]⟩]++a.defers } (w4.putObj (b+1) (.loop { r' with state:=.exhausted })):=by
    refine ⟨fun d hd=>?_,?_,hs.ownMono cle,hs.size,fun t ht=>(hs.tmp t ht).mono cle,hs.out,q2⟩
    ·rcases List.mem_append.1 hd with hd | hd
     ·simp at hd;exact⟨b,hd,hkb,hcb⟩
     ·exact hs.defersMono cle d hd
    ·refine List.nodup_cons.2 ⟨fun hm=>?_,hs.nodup⟩
     obtain ⟨b',hb',hk',_⟩:=hs.defers _ hm
     simp at hb'
     exact hnb (hb'▸hk')
   refine ⟨_,_,run_endLoop hcell5 hst,?_⟩
   split
   ·rename_i hj
    rw [hj]at hm
    cases e <;> first | (exact hm.elim) | skip
    exact ⟨.normal,_,_,trivial,cle,hsim,hR⟩
   ·rename_i cj hj
    rw [hj]at hm
    cases cj <;> cases e <;> first | (exact hm.elim) | skip
    ·exact wpIn_exit ⟨.exit _,_,_,hm,cle,hsim,hR⟩
    ·exact wpIn_ret ⟨.ret,_,_,trivial,cle,hsim,hR⟩
  rcases h5 with ⟨o1,o2⟩ | ⟨o1,o2⟩ | ⟨i,o1,o2⟩
  ·exact end_ r .normal o1 (by simp[r]) o2 trivial
  ·exact end_ _ .ret o1 (by simp) o2 trivial
  ·exact end_ _ (.exit i) o1 (by simp) o2 rfl
 cases e <;> cases e' <;> first | (exact h1.elim) | skip
 ·exact fin
 ·simp at h4
 ·exact fin
end
theorem Oh {G:WP} (hG:PR G):PR (wpC G):=by
 intro X rd C0 hX hq hmix hY hrd N c
 induction c generalizing X rd C0 with
 | skip=>intro R C s a w hC h hs;exact wpIn_skip ⟨.normal,C,s,trivial,Ctx.le.refl C,hs,h⟩
 | region id all draw =>
  intro R C s a w hC h hs
  rcases h with ⟨hdr,hrun⟩ | ⟨rfl,ia,ib,hd2,hrun1,hrun2⟩
  case inr =>
   refine wpIn_region_any hmix ?_
   exact R3 hX hq hY hd2 hrun1 hrun2 ⟨hs.defers,hs.nodup,hs.own,hs.size,hs.tmp,hs.out,hs.inv.heap rfl⟩ hC fun C' s' a' w' hle hs' hR=>⟨.normal,C',s',trivial,hle,hs',hR⟩
  cases draw with
  | false =>
   refine wpIn_region_list (Me hX hY _ _ C _ _ _ hrun hs hC fun C' s' a' w' hle hs' hR=>⟨.normal,C',s',trivial,hle,hs',hR⟩)
  | true =>
   have hd:=hdr rfl
   refine wpIn_region_any hmix ?_
   refine US hX hq hY hd all.size (List.range all.size) _ C s a _ (fun j y hy hl=>by simp[Array.getD]at hl) (by simp) (by simpa using List.pairwise_lt_range) (fun i=>?_) (by simp) (K:=R .normal) ?_ ⟨hs.defers,hs.nodup,hs.own,hs.size,hs.tmp,hs.out,hs.inv.heap rfl⟩ hC
    fun C' s' a' w' hle hs' hR=>⟨.normal,C',s',trivial,hle,hs',hR⟩
   ·by_cases hlt:i<all.size <;> simp[hlt,Array.getD]
   ·rw [List.range_eq_range',←Array.length_toList,IX all.toList 0 s (by simp)];exact hrun
 | seq x y ihx ihy =>
  intro R C s a w hC h hs
  refine wpIn_seq (wpIn_mono (ihx X rd C0 hX hq hmix hY hrd _ C s a w hC h hs) fun e a' w' hq'=>?_)
  obtain ⟨e',C',s1,h1,h2,h3,h4⟩:=hq'
  cases e <;> cases e' <;> first | (exact h1.elim) | skip
  ·exact wpIn_mono (ihy X rd C0 hX hq hmix hY hrd R C' s1 a' w' (hC.trans h2.lek) h4 h3) fun e a w h=>RQ.mono h2 (fun _ _ x=>x) h
  ·exact ⟨.exit _,C',s1,h1,h2,h3,h4⟩
  ·exact ⟨.ret,C',s1,trivial,h2,h3,h4⟩
 | cond c x y ihx ihy =>
  intro R C s a w hC h hs
  simp only[wpC]at h
  split at h
  ·rename_i v hv
   have := hs.eval c
   rw [hv]at this
   refine wpIn_cond (t:=v) (Dj this) ?_
   cases v
   ·exact ihy X rd C0 hX hq hmix hY hrd R C s a w hC (h.2 rfl) hs
   ·exact ihx X rd C0 hX hq hmix hY hrd R C s a w hC (h.1 rfl) hs
  ·exact h.elim
 | block id c ih =>
  intro R C s a w hC h hs
  refine wpIn_block (wpIn_mono (ih X rd C0 hX hq hmix hY hrd _ C s a w hC h hs) fun e a' w' hq'=>?_)
  obtain ⟨e',C',s1,h1,h2,h3,h4⟩:=hq'
  cases e <;> cases e' <;> first | (exact h1.elim) | skip
  ·exact ⟨.normal,C',s1,trivial,h2,h3,h4⟩
  ·rename_i i j
   subst h1
   simp only[Exit.inBlock]
   split
   ·rename_i hi
    simp only[hi,if_true]at h4
    exact ⟨.normal,C',s1,trivial,h2,h3,h4⟩
   ·rename_i hi
    simp only[hi,if_false]at h4
    exact ⟨.exit i,C',s1,rfl,h2,h3,h4⟩
  ·exact ⟨.ret,C',s1,trivial,h2,h3,h4⟩
 | loop c ih =>
  intro R C s a w hC h hs
  obtain ⟨J,n0,⟨s0,hgh,hJ⟩,hround⟩:=h
  -- the measure of a machine's state: of any ideal state that it stands for, met on the way
  intro b k cs hro hb hr
  have key:∀n C s a w,C0.lek C→J n s→Simul N C s a w→∃e a' w',RQ N C R e a' w'∧ArrivesIn (Machine.fenced X.P (FR rd)) X.P (lone (b.atR a (.code c::.inLoop c::k)) cs w) b k cs e a' w':=by
   intro n
   induction n using Nat.strongRecOn with
   | _ n ihn =>
    intro C s a w hC hJ hs
    obtain ⟨e,a₁,w₁,hq',harr⟩:=ih X rd C0 hX hq hmix hY hrd _ C s a w hC (hround n s hJ) hs b (.inLoop c::k) cs hro hb hr
    obtain ⟨e',C',s1,h1,h2,h3,h4⟩:=hq'
    cases e <;> cases e' <;> first | (exact h1.elim) | skip
    ·obtain ⟨m',hlt,s3,hgh3,hJ1⟩:=h4
     obtain ⟨C3,hle3,hs3⟩:=hgh3.sound h3
     obtain ⟨e₂,a₂,w₂,hq₂,harr₂⟩:=ihn m' hlt C3 s3 a₁ w₁ ((hC.trans h2.lek).trans hle3.lek) hJ1 hs3
     exact ⟨e₂,a₂,w₂,RQ.mono (h2.trans hle3) (fun _ _ x=>x) hq₂,.of_steps (StepsIn.trans harr (.one (fenced_calm hb hr rfl) stepR_inLoop)) harr₂⟩
    ·exact ⟨_,a₁,w₁,⟨.exit _,C',s1,h1,h2,h3,h4⟩,.pass (x:=.inLoop c) rfl (fun _ _=>.inl (by simp)) harr⟩
    ·exact ⟨_,a₁,w₁,⟨.ret,C',s1,trivial,h2,h3,h4⟩,.pass (x:=.inLoop c) rfl (fun _ _=>.inl (by simp)) harr⟩
  obtain ⟨C9,hle0,hs0⟩:=hgh.sound hs
  obtain ⟨e,a',w',hq',harr⟩:=key _ C9 s0 a w (hC.trans hle0.lek) hJ hs0
  exact ⟨e,a',w',RQ.mono hle0 (fun _ _ x=>x) hq',.of_steps (.one (fenced_calm hb hr rfl) stepR_loop) harr⟩
 | exit id=>intro R C s a w hC h hs;exact wpIn_exit ⟨.exit id,C,s,rfl,Ctx.le.refl C,hs,h⟩
 | ret=>intro R C s a w hC h hs;exact wpIn_ret ⟨.ret,C,s,trivial,Ctx.le.refl C,hs,h⟩
 | rangeFunc g ps assign body iha ihb =>
  intro R C s a w hC h hs
  exact R6 hG hX hq hmix hY hrd (fun X rd C0 hX hq hmix hY hrd R C s a w=>iha X rd C0 hX hq hmix hY hrd R C s a w) (fun X rd C0 hX hq hmix hY hrd R C s a w=>ihb X rd C0 hX hq hmix hY hrd R C s a w) hC h hs
 | scope c ih =>
  intro R C s a w hC h hs
  refine R4 (wpIn_mono (ih X rd C0 hX hq hmix hY hrd _ C s a w hC h hs) fun e a' w' hq'=>?_)
  obtain ⟨e',C',s1,h1,h2,h3,h4⟩:=hq'
  cases e <;> cases e' <;> first | (exact h1.elim) | skip
  ·exact ⟨.normal,C',s1,trivial,h2,h3,h4⟩
  ·exact ⟨.exit _,C',s1,h1,h2,h3,h4⟩
  ·exact ⟨.ret,C',s1,trivial,h2,h3,h4⟩
 | label l=>intro R C s a w hC h hs;exact wpIn_label ⟨.normal,C,s,trivial,Ctx.le.refl C,hs,h⟩
 | goto=>intro R C s a w hC h hs;exact h.elim
 | refuse=>intro R C s a w hC h hs;exact h.elim
theorem Oi:∀d,PR (gen d)
 | 0=>fun _ _ _ _ _ _ _ _ _ _ _ _ _ _ _ _ h _=>h.elim
 | d+1=>fun X rd C0 hX hq hmix hY hrd N c R C s a w hC ⟨X',h1,h2,h3,h4,h5,h6,h⟩ hs=>by
  have := Oh (Oi d) X' rd C0 h5 h6 (h1▸hmix) (fun l H hl=>h1▸hY l H (h2▸hl)) (by rw[h3];exact hrd) N c R C s a w hC h hs
  rw [h1]at this;exact this
end Sim
