/- The ideal run of code, with ranges over functions, is what the machine does. -/
import Derived.Test.YtdfjimjbdakofaaGreatSimM
set_option linter.unusedVariables false
set_option linter.unusedSimpArgs false
namespace Sim
open Go
section
variable {P:Program} {b:Frame} {a:Act} {k:List Item} {cs:List Frame} {w:World} {Q:Exit→Act→World→Prop} {F:Fence} {n:Nat}
theorem Dg {c:Code}:step P (lone (b.atR a (.code (.scope c)::k)) cs w)=.next (lone (b.atR a (.code c::.inScope c::k)) cs w) :=
 step_lone_go (by simp[Go.stepG,Go.stepG.exec,Frame.atR])
theorem Ov {c:Code}:step P (lone (b.atR a (.inScope c::k)) cs w)=.next (lone (b.atR a k) cs w) :=
 step_lone_go (by simp[Go.stepG,Go.stepG.exec,Frame.atR])
def xQ (Q:Exit→Act→World→Prop):Exit→Act→World→Prop
 | .goto _,_,_=>False
 | e,a,w=>Q e a w
theorem Up {c:Code} (h:c.wpIn F n P (xQ Q) a w):(Code.scope c).wpIn F n P Q a w:=by
 intro b k cs hro hb hr
 have h0:(lone (b.atR a (.code (.scope c)::k)) cs w).fenced P F:=fenced_calm hb hr rfl
 obtain ⟨e,a₁,w₁,hq,harr⟩:=h b (.inScope c::k) cs hro hb hr
 cases e with
 | normal=>exact⟨.normal,a₁,w₁,hq,.head h0 Dg (StepsIn.trans harr (.one (fenced_calm hb hr rfl) Ov))⟩
 | exit id =>
  have hx:exitTo id (.inScope c::k)=exitTo id k:=by simp[exitTo]
  exact ⟨.exit id,a₁,w₁,hq,fun k' hk=>.head h0 Dg (harr.1 k' (by rw[hx];exact hk)),
   fun hr' hk=>let ⟨k₁,h1,h2⟩:=harr.2 hr' (by rw[hx];exact hk);⟨k₁,h1,.head h0 Dg h2⟩⟩
 | goto l=>exact hq.elim
 | ret=>exact⟨_,a₁,w₁,hq,.of_steps (.one h0 Dg) harr⟩
 | panic ch=>exact⟨_,a₁,w₁,hq,.of_steps (.one h0 Dg) harr⟩
 | outgrown=>exact⟨_,a₁,w₁,hq,.of_steps (.one h0 Dg) harr⟩
end
def VC (P:Program) (f:FuncId) (args:List PV) (r:PV):Prop :=
 Dx P f∧∀(imm:Nat→Nat→Option Value) (w:World) (vals:Array Value),(∀b o u,imm b o=some u→w.cell? ⟨b,o,none⟩=some u)→IXC.VRs (base imm w) vals args →
  Calls P f vals w fun e w'=>∃v,e=.returned v∧(w'.os=w.os∧w'.output=w.output)∧(∀b,b<w.heap.size→w'.heap[b]?=w.heap[b]?)∧w.heap.size≤w'.heap.size∧VR (base (D0 imm w.heap.size w') w') v r
def Hm (P:Program) (s:IState):ResultVar→Option PV
 | .tmp t=>some (s.env t)
 | .cell a t=>(Bu P t).bind fun (z,ag)=>Dl s.st z ag (s.env a)
def Dz (P:Program) (s:IState):List ResultVar→Option (List PV)
 | []=>some []
 | r::l=>(Hm P s r).bind fun p=>(Dz P s l).map fun ps=>p::ps
def RS (P:Program) (rs:List ResultVar) (s:IState):Option PV :=
 match Dz P s rs with
 | some [p]=>some p
 | some ps=>some (.tuple ps)
 | none=>none
section
variable {X:Cfg} {N:Nat} {C:Ctx} {s:IState} {a:Act} {w:World}
theorem WJ {P:Program} {x:Addr}:(asAddr (.pointer (some x))).run P w=.ok x w:=rfl
theorem xR {P:Program} {st:Store} (hi:Inv C st w) {v:Value} {px q:PV} (hx:VR C v px) {t:TypeId} {z:Nat} {ag:Bool} (ht:Bu P t=some (z,ag)) (hq:Dl st z ag px=some q) :
  ∃ u x,v=.pointer (some x)∧(loadVar t x).run P w=.ok u w∧VR C u q:=by
 have hp:∃cells off,L4 C w v cells off∧CL cells off z ag=some q:=by
  unfold Dl at hq
  split at hq
  ·exact ⟨_,_,Gi hi hx,hq⟩
  ·rename_i id gen idx off
   simp only[Option.bind_eq_some_iff]at hq
   obtain ⟨⟨z',es⟩,hes,hq⟩:=hq
   have hne:(nth es idx).cells ≠ []:=by
    intro e0
    obtain ⟨_,hpos,rfl,rfl⟩:=Eh ht
    simp only[CL,e0]at hq
    split at hq
    ·split at hq
     ·rename_i hle;simp at hle;omega
     ·cases hq
    ·simp at hq
   exact ⟨_,_,J3 hi hx hes (Rv hne),hq⟩
  ·cases hq
 obtain ⟨cells,off,hp,hq⟩:=hp
 obtain ⟨u,hu,hu'⟩:=J4 hp ht hq
 obtain ⟨b,o,rfl,_⟩:=hp
 exact ⟨u,_,rfl,by simpa [Instr.loadAt,Instr.sureAddr]using hu,hu'⟩
def Ke (tmps:Array Value):ResultVar→Sem Value
 | .tmp t=>pure (tmps.getD t undef)
 | .cell a t=>do loadVar t (←asAddr (tmps.getD a undef))
theorem WK (fn:Func) (tmps:Array Value):results fn tmps=(do let vs ←fn.results.mapM (Ke tmps);pure (if h:vs.size=1 then vs[0]else .tuple vs)):=by
 unfold results
 congr 1
theorem Ow {P:Program} {fn:Func} (hs:Simul N C s a w) {p:PV} (h:RS P fn.results.toList s=some p):∃v,(results fn a.tmps).run P w=.ok v w∧VR C v p:=by
 have one:∀(r:ResultVar) (q:PV),Hm P s r=some q→∃v,(Ke a.tmps r).run P w=.ok v w∧VR C v q:=by
  intro r q hr
  have slot:∀t,VR C (a.tmps.getD t undef) (s.env t):=fun t=>hs.eval (.tmp t)
  cases r with
  | tmp t=>simp only[Hm,Option.some.injEq]at hr;subst hr;exact⟨_,rfl,slot t⟩
  | cell x t =>
   simp only[Hm,Option.bind_eq_some_iff]at hr
   obtain ⟨⟨z,ag⟩,ht,hq⟩:=hr
   obtain ⟨u,ad,he,hu,hu'⟩:=xR hs.inv (slot x) ht hq
   refine ⟨u,?_,hu'⟩
   simp only[Ke,he,Sem.run_bind,WJ,Result.andThen,hu]
 have all:∀(l:List ResultVar) (ps:List PV),Dz P s l=some ps→∃vs:List Value,(l.mapM (Ke a.tmps)).run P w=.ok vs w ∧
   vs.length = ps.length∧∀(i:Nat) (q:PV),ps[i]?=some q→∃v,vs[i]?=some v∧VR C v q:=by
  intro l
  induction l with
  | nil=>intro ps h;simp only[Dz,Option.some.injEq]at h;subst h;exact⟨[],rfl,rfl,by intro i q h;simp at h⟩
  | cons r l ih =>
   intro ps h
   simp only[Dz,Option.bind_eq_some_iff,Option.map_eq_some_iff]at h
   obtain ⟨q,hq,ps',hps,rfl⟩:=h
   obtain ⟨v,hv,hv'⟩:=one r q hq
   obtain ⟨vs,hvs,hlen,hget⟩:=ih ps' hps
   refine ⟨v::vs,?_,by simp[hlen],fun i q' hi=>?_⟩
   ·simp only[List.mapM_cons,Sem.run_bind,hv,Result.andThen,hvs,Sem.run_pure]
   ·cases i with
    | zero=>simp at hi;subst hi;exact⟨v,rfl,hv'⟩
    | succ i=>simpa using hget i q' (by simpa using hi)
 unfold RS at h
 have hm:fn.results.mapM (Ke a.tmps)=List.toArray <$> fn.results.toList.mapM (Ke a.tmps):=Array.mapM_eq_mapM_toList ..
 cases hps:Dz P s fn.results.toList with
 | none=>rw[hps]at h;cases h
 | some ps =>
  rw [hps]at h
  obtain ⟨vs,hvs,hlen,hget⟩:=all _ ps hps
  have hrun:(results fn a.tmps).run P w=.ok (if h:vs.toArray.size=1 then vs.toArray[0]else .tuple vs.toArray) w:=by
   rw [WK]
   simp only[Sem.run_bind]
   have : (fn.results.mapM (Ke a.tmps)).run P w=.ok vs.toArray w:=by
    rw [hm,Sem.run_map,hvs];rfl
   rw [this]
   simp only[Result.andThen,Sem.run_pure]
  refine ⟨_,hrun,?_⟩
  match ps,h,hlen,hget with
  | [q],h,hlen,hget =>
   simp only[Option.some.injEq]at h;subst h
   obtain ⟨v,hv,hv'⟩:=hget 0 q rfl
   match vs,hlen,hv with
   | [v'],_,hv=>simp at hv;subst hv;simpa using hv'
  | [],h,hlen,hget =>
   simp only[Option.some.injEq]at h;subst h
   have : vs = []:=List.eq_nil_of_length_eq_zero (by simpa using hlen)
   subst this
   simpa using VR.tuple (C:=C) #[] [] rfl (by intro i p h;simp at h)
  | q1::q2::qs,h,hlen,hget =>
   simp only[Option.some.injEq]at h;subst h
   rw [dif_neg (by simp at hlen ⊢;omega)]
   refine .tuple _ _ (by simpa using hlen) (fun i q hi=>?_)
   obtain ⟨v,hv,hv'⟩:=hget i q hi
   have hlt:i<vs.length:=(List.getElem?_eq_some_iff.1 hv).1
   have e:vs.toArray.getD i undef=v:=by
    have :=(List.getElem?_eq_some_iff.1 hv).2
    simp [Array.getD,hlt,this]
   rw [e];exact hv'
end
theorem Nl {N:Nat} {C:Ctx} {st:Store} {w:World} {vals:Array Value} {args:List PV} (hi:Inv C st w) (hv:IXC.VRs C vals args) (hn:args.length≤N) (hown:∀b,C.caller b=true→C.keep b=true) :
  Simul N C ⟨GK args,st⟩ { tmps:=vals++Array.replicate (N-vals.size) undef,defers := [] } w:=by
 obtain ⟨h1,h2⟩:=hv
 refine ⟨fun d hd=>by simp at hd,List.nodup_nil,hown,by simp;omega,fun t ht=>?_,fun t ht=>?_,hi⟩
 ·show VR C _ (args.getD t .bad)
  rcases Nat.lt_or_ge t args.length with h | h
  ·have e:args[t]?=some (args.getD t .bad):=by simp[List.getD,h]
   have := h2 t _ e
   have e2:(vals++Array.replicate (N-vals.size) undef).getD t undef=vals.getD t undef:=by
    simp only[Array.getD_eq_getD_getElem?]
    rw [Array.getElem?_append_left (by omega)]
   rw [e2];exact this
  ·have : args.getD t .bad=.bad:=by simp[List.getD,List.getElem?_eq_none h]
   rw [this];exact .bad _
 ·show args.getD t .bad=.bad
  simp [List.getD,List.getElem?_eq_none (show args.length≤t by omega)]
def Ao (P:Program) (rs:List ResultVar) (Q:PV→Store→Prop):IExit→IState→Prop
 | .normal,s | .ret,s=>∃p,RS P rs s=some p∧Q p s.st
 | .exit _,_=>False
theorem II {P:Program} {fn:Func} {tmps:Array Value} {R:Ending→World→Prop} {st:Store}:∀(ds:List Deferred) (C:Ctx) (w:World),Inv C st w→(∀d∈ds,∃b,d=⟨.collected b,#[]⟩∧C.keep b=true∧C.caller b=false)→ds.Nodup→(∀b,C.caller b=true→C.keep b=true) →
  (∀ C' w',C'.imm=C.imm→C'.loc=C.loc→C'.born=C.born→C'.B=C.B→C'.h=C.h→C'.os=C.os→C'.out=C.out→C'.caller=C.caller→(∀b,C.caller b=true→C'.keep b=true)→Inv C' st w'→LeavesIn (FR none) 0 P fn tmps R [] .returning w') →
  LeavesInM (FR none) 0 P fn tmps R ds .returning w
 | [],C,w,hi,_,_,hown,hfin=>hfin C w rfl rfl rfl rfl rfl rfl rfl rfl hown hi
 | d::ds,C,w,hi,hd,hn,hown,hfin=>by
  obtain ⟨b,rfl,hb,hcb⟩:=hd d (by simp)
  obtain ⟨k1,k2⟩:=hi.keep b hb
  have hn':=List.nodup_cons.1 hn
  refine ⟨by simp,.inl ⟨b,w.putObj b (.deferred none),rfl,run_takeDeferred k2,?_⟩⟩
  refine II ds { C with keep:=fun x => !(x==b)&&C.keep x } _ (hi.shut hb (fun k hk=>World.putObj_heap_other hk) World.putObj_size rfl rfl) (fun d' hd'=>?_) hn'.2 (fun x hx=>?_) (fun C' w' e1 e2 e3 e4 e5 e6 e7 e8 hk hi'=>hfin C' w' e1 e2 e3 e4 e5 e6 e7 e8 hk hi')
  ·obtain ⟨b',rfl,hb',hcb'⟩:=hd d' (by simp[hd'])
   refine ⟨b',rfl,?_,hcb'⟩
   have hne:b'≠b:=fun e=>hn'.1 (e▸hd')
   simp [hne,hb']
  ·have hne:x≠b:=fun e=>by subst e;rw[hcb]at hx;cases hx
   simp [hne,hown x hx]
theorem Inv.lpAt {C0 C:Ctx} {st:Store} {w:World} (hi:Inv C st w) (hle:C0.lek C) {id:Nat} {r:Loop} {L0:Loc} (ho:st.obj id=some (.lp r)) (hb:C0.born id) (hL0:C0.loc id=some L0) :
  C.loc id=some L0∧ObjAt C w L0 (.lp r)∧w.heap[L0.blk]?=some (.loop r):=by
 obtain ⟨hbn,L,hL,hat⟩:=hi.obj id _ ho
 obtain ⟨L1,hL1,hor⟩:=hle.loc id hb L hL
 have h0:L0=L1:=by rw[hL0]at hL1;cases hL1;rfl
 subst h0
 have hg:=hat.1
 have : L=L0:=hor.resolve_right (by omega)
 subst this
 exact ⟨hL,hat,hat.2.2.2.2⟩
section
variable {C:Ctx} {st:Store} {w:World}
theorem Inv.putLp (hi:Inv C st w) {id:Nat} {r:Loop} {L:Loc} (hL:C.loc id=some L) (hb:C.born id) (hat:ObjAt C w L (.lp r)) (r':Loop) :
  C.le (C.set id L)∧Inv (C.set id L) (st.set id (.lp r')) (w.putObj L.blk (.loop r')):=by
 obtain ⟨h1,h2,h3,h4,h5⟩:=hat
 have hlt:id<st.next:=by
  rcases Nat.lt_or_ge id st.next with h | h
  ·exact h
  ·exact absurd hb (hi.next id h)
 exact hi.put (id:=id) (nx:=st.next) (o:=.lp r') (L':=L) (.inl ⟨L,hL,.inl rfl⟩) (.inr (.inr ⟨L,hL,rfl,by omega⟩))
  (fun b hb hne=>World.putObj_heap_other (hne L hL (by omega))) (by simp) (fun hle=>⟨h1,h2,h3,h4,World.putObj_heap_same (Array.getElem?_eq_some_iff.1 h5).1⟩) (Nat.le_refl _) hlt
theorem Inv.newKeep (h:Inv C st w) :
  C.le { C with keep:=fun x=>x==w.heap.size||C.keep x }∧Inv { C with keep:=fun x=>x==w.heap.size||C.keep x } st (w.alloc (.deferred (some []))):=by
 have hold:∀b,b<w.heap.size→(w.alloc (.deferred (some []))).heap[b]?=w.heap[b]?:=fun b hb=>Go.heap_alloc_old w _ hb
 have hle:C.le { C with keep:=fun x=>x==w.heap.size||C.keep x }:=⟨fun _ _ _ h=>h,fun _ _ _=>rfl,fun _ h=>h,fun id _ L' hL=>⟨L',hL,.inl rfl⟩,rfl,rfl,rfl,rfl,fun b hb=>by simp[hb],rfl⟩
 refine ⟨hle,?_⟩
 constructor
 ·exact h.os
 ·exact h.out
 ·have := h.hB;simp;omega
 ·intro b hb
  have hb':b<C.B:=hb
  rw [hold b (by have:=h.hB;omega)];exact h.old b hb'
 ·intro b o v hv
  have h1:=h.imm b o v hv
  rw [cell?_heap (hold b (World.block_lt_of_cell? _ _ h1))];exact h1
 ·exact h.next
 ·exact h.none_
 ·intro id o ho
  obtain ⟨hb,L,hL,hat⟩:=h.obj id o ho
  exact ⟨hb,L,hL,hat.mono hle (fun _ _ h=>h) (fun hc=>hold _ (hat.own hc).2.2)⟩
 ·exact h.sep
 ·intro b hb
  simp only[Bool.or_eq_true,beq_iff_eq]at hb
  rcases hb with rfl | hb
  ·exact ⟨h.hB,World.alloc_heap_new _ _⟩
  ·obtain ⟨k1,k2⟩:=h.keep b hb
   exact ⟨k1,by rw[hold b (Array.getElem?_eq_some_iff.1 k2).1];exact k2⟩
theorem Inv.newLp (h:Inv C st w) (r:Loop) :
  C.le (C.set st.next ⟨w.heap.size,0,0,1,0⟩)∧Inv (C.set st.next ⟨w.heap.size,0,0,1,0⟩) (st.new (.lp r)) (w.alloc (.loop r)):=by
 refine h.put (id:=st.next) (nx:=st.next+1) (o:=.lp r) (L':=⟨w.heap.size,0,0,1,0⟩) (.inr (h.next _ (Nat.le_refl _))) (.inr (.inl (Nat.le_refl _)))
  (fun b hb _=>Go.heap_alloc_old w _ hb) (by simp) (fun hle=>⟨rfl,rfl,h.hB,fun o=>?_,World.alloc_heap_new _ _⟩) (by omega) (by omega)
 exact h.immLt (Nat.le_refl _)
end
theorem Nm {N:Nat} {C:Ctx}:∀(ps:List Nat) (vs:List PV) (as:List Value) (tmps:Array Value) (ρ:Nat→PV),as.length=vs.length→(∀p∈ps,p<N)→tmps.size=N →
  (∀ t,t<N→VR C (tmps.getD t undef) (ρ t))→(∀t,N≤t→ρ t=.bad)→(∀i p,vs[i]?=some p→VR C (as.getD i undef) p) →
  ((ps.zip as).foldl (fun tmps (t,a)=>tmps.setIfInBounds t a) tmps).size=N∧(∀t,t<N→VR C (((ps.zip as).foldl (fun tmps (t,a)=>tmps.setIfInBounds t a) tmps).getD t undef) (Gl ρ ps vs t))∧∀t,N≤t→Gl ρ ps vs t=.bad
 | [],vs,as,tmps,ρ,hl,hp,hn,ht,ho,hv=>⟨hn,ht,ho⟩
 | p::ps,[],as,tmps,ρ,hl,hp,hn,ht,ho,hv=>by
  have : as = []:=List.eq_nil_of_length_eq_zero (by simpa using hl)
  subst this
  exact ⟨hn,ht,ho⟩
 | p::ps,v::vs,[],tmps,ρ,hl,hp,hn,ht,ho,hv=>by simp at hl
 | p :: ps,v::vs,a::as,tmps,ρ,hl,hp,hn,ht,ho,hv=>by
  have hpN:p<N:=hp p (by simp)
  have := Nm ps vs as (tmps.setIfInBounds p a) (upd ρ p v) (by simpa using hl) (fun q hq=>hp q (by simp[hq])) (by simpa using hn) (fun t h=>?_) (fun t h=>?_) (fun i q hq=>by simpa using hv (i+1) q (by simpa using hq))
  ·simpa [Gl]using this
  ·by_cases e:t=p
   ·subst e
    have h0:=hv 0 v rfl
    simp only[upd,if_true]
    have : (tmps.setIfInBounds t a).getD t undef=a:=by simp[Array.getD,hn,h]
    rw [this];simpa using h0
   ·simp only[upd,e,if_false]
    have : (tmps.setIfInBounds p a).getD t undef=tmps.getD t undef:=by
     simp only[Array.getD_eq_getD_getElem?,Array.getElem?_setIfInBounds_ne (fun x=>e x.symm)]
    rw [this];exact ht t h
  ·have : t≠p:=by omega
   simp only[upd,this,if_false];exact ho t h
def RT (G:WP):Prop:=∀(X:Cfg) (rd:Option Nat) (C0:Ctx),E8 X→Bx X→X.P.follows .mixedOrders=true→FG X C0→(rd=none∨X.rnd=true) →
 ∀ (N:Nat) (c:Code) (R:IExit→IState→Prop) (C:Ctx) (s:IState) (a:Act) (w:World),C0.lek C→G X N c R s→Simul N C s a w→c.wpIn (FR rd) 0 X.P (RQ N C R) a w
section
abbrev RU (G:WP) (N:Nat) (c:Code):Prop:=∀(X:Cfg) (rd:Option Nat) (C0:Ctx),E8 X→Bx X→X.P.follows .mixedOrders=true→FG X C0→(rd=none∨X.rnd=true) →
 ∀ (R:IExit→IState→Prop) (C:Ctx) (s:IState) (a:Act) (w:World),C0.lek C→wpC G X N c R s→Simul N C s a w→c.wpIn (FR rd) 0 X.P (RQ N C R) a w
theorem Uq {G:WP} {X:Cfg} {C0:Ctx} (hX:E8 X) (hq:Bx X) (hmix:X.P.follows .mixedOrders=true) (hY:FG X C0) {N:Nat} {ps:Array Tmp} {assign body:Code}
  (iha : RU G N assign) (ihb:RU G N body) {s:IState} {a:Act} {id l:Nat} {C3:Ctx} {L0:Loc} (hC3:C0.lek C3) (hbn:C3.born id) (hL0:C3.loc id=some L0) (hl:L0.blk=l) (hn:a.tmps.size=N)
  (htmp : ∀t,t<N→VR C3 (a.tmps.getD t undef) (s.env t)) (hout:∀t,N≤t→s.env t=.bad) (hps:∀p∈ps.toList,p<N) {r:Loop} (hr:r.state=.ready) (hpn:r.pending=none) (hrt:r.tmps=a.tmps) (hrp:r.params=ps) (hra:r.assign=assign) (hrb:r.body=body) :
  ∀ (args:List PV) (st:Store) (K:Bool→Store→Prop) (C:Ctx) (w:World) (vals:Array Value),C3.lek C→(st.obj id=some (.lp r)∧args.length=ps.size ∧
       wpC G (DX X) N assign (fun e s1=>e=.normal∧s1.st.obj id=some (.lp r) ∧
        wpC G (DX X) N body (fun e s2=>s2.st.obj id=some (.lp { r with state:=.busy }) ∧
         match e with
         | .normal=>K true (s2.st.set id (.lp r))
         | .ret=>K false (s2.st.set id (.lp { r with state:=.done,pending:=some .ret }))
         | .exit i=>K false (s2.st.set id (.lp { r with state:=.done,pending:=some (.exit i) })))
         ⟨s1.env, s1.st.set id (.lp { r with state:=.busy })⟩)
        ⟨Gl s.env ps.toList args,st⟩)→Inv C st w→IXC.VRs C vals args→(∀b,C.caller b=true→C.keep b=true) →
   ∃ f tmps assign body,(Instr.yield l vals).run X.P w=.ok (.round l f tmps assign body) w∧RoundIn (FR none) 0 X.P l f tmps assign body w (fun e w'=>∃b C' st',e=.returned (.bool b)∧C.le C'∧Inv C' st' w'∧K b st'):=by
 intro args st K C w vals hle hH hi hv hown
 obtain ⟨ho,hlen,hwp⟩:=hH
 obtain ⟨hvs,hvp⟩:=hv
 obtain ⟨hLc,hatc,hcell⟩:=hi.lpAt hle ho hbn hL0
 have hbc:C.born id:=hle.born id hbn
 rw [hl]at hcell
 refine ⟨r.fn,_,r.assign,r.body,run_yield hcell (by rw[hrp,hvs,hlen]),?_⟩
 refine roundIn_of_wpIn trivial ?_
 have hfold:(r.params.zip vals).foldl (fun tmps (t,a)=>tmps.setIfInBounds t a) r.tmps=(ps.toList.zip vals.toList).foldl (fun tmps (t,a)=>tmps.setIfInBounds t a) a.tmps:=by
  rw [hrp,hrt,←Array.foldl_toList,Array.toList_zip]
 obtain ⟨g1,g2,g3⟩:=Nm (N:=N) (C:=C) ps.toList args vals.toList a.tmps s.env (by simp[hvs]) hps hn (fun t ht=>(htmp t ht).lek hle) hout (fun i p hp=>by
  have := hvp i p hp
  simpa [Array.getD_eq_getD_getElem?]using this)
 rw [hfold,hra,hrb]
 have hs1:Simul N C ⟨Gl s.env ps.toList args,st⟩ { tmps:=(ps.toList.zip vals.toList).foldl (fun tmps (t,a)=>tmps.setIfInBounds t a) a.tmps,defers := [] } w :=
  ⟨fun d hd=>by simp at hd,List.nodup_nil,hown,g1,g2,g3,hi⟩
 refine wpIn_mono (iha (DX X) (some l) C0 hX hq hmix hY (.inr rfl) _ C _ _ w (hC3.trans hle) hwp hs1) fun e a1 w1 hr1=>?_
 obtain ⟨e',C',s1,k1,k2,k3,rfl,k4,k5⟩:=hr1
 cases e <;> first | (exact k1.elim) | skip
 obtain ⟨hL1,hat1,hcell1⟩:=k3.inv.lpAt (hle.trans k2.lek) k4 hbn hL0
 rw [hl]at hcell1
 obtain ⟨p1,p2⟩:=k3.inv.putLp hL1 (k2.born id hbc) hat1 { r with state:=.busy }
 rw [hl]at p2
 refine ⟨_,run_beginRound hcell1 hr,?_⟩
 have hs2:Simul N (C'.set id L0) ⟨s1.env,s1.st.set id (.lp { r with state:=.busy })⟩ a1 (w1.putObj l (.loop { r with state:=.busy })) :=
  ⟨k3.defersMono p1,k3.nodup,k3.ownMono p1,k3.size,fun t ht=>(k3.tmp t ht).mono p1,k3.out,p2⟩
 refine wpIn_mono (ihb (DX X) (some l) C0 hX hq hmix hY (.inr rfl) _ _ _ a1 _ ((hC3.trans hle).trans (k2.trans p1).lek) k5 hs2) fun e a2 w2 hr2=>?_
 obtain ⟨e',C2,s2,m1,m2,m3,m4,m5⟩:=hr2
 obtain ⟨hL2,hat2,hcell2⟩:=m3.inv.lpAt ((hle.trans k2.lek).trans (p1.trans m2).lek) m4 hbn hL0
 have hb2:C2.born id:=m2.born id (p1.born id (k2.born id hbc))
 have hcl:C.le C2:=(k2.trans p1).trans m2
 have fin:∀(jump:Option Code) (r':Loop),r'={ r with state:=if jump.isNone then .ready else .done,pending:=jump }→K jump.isNone (s2.st.set id (.lp r')) →
   ∃ v w',(Instr.endRound l jump).run X.P w2=.ok v w'∧∃b C' st',(Ending.returned v)=.returned (.bool b)∧C.le C'∧Inv C' st' w'∧K b st':=by
  intro jump r' hr' hk
  obtain ⟨q1,q2⟩:=m3.inv.putLp hL2 hb2 hat2 r'
  refine ⟨.bool jump.isNone,_,run_endRound jump (r:={ r with state:=.busy }) (by rw[hl]at hcell2;exact hcell2),_,_,_,rfl,hcl.trans q1,?_,hk⟩
  rw [hl,hr']at q2;exact hr'▸q2
 cases e <;> cases e' <;> first | (exact m1.elim) | skip
 ·exact fin none r (by cases r;simp at hr hpn;subst hr hpn;rfl) m5
 ·subst m1;exact fin (some (.exit _)) _ rfl m5
 ·exact fin (some .ret) _ rfl m5
theorem Ur {G:WP} (hG:RT G) {X:Cfg} {rd:Option Nat} {C0:Ctx} (hX:E8 X) (hq:Bx X) (hmix:X.P.follows .mixedOrders=true) (hY:FG X C0) (hrd:rd=none∨X.rnd=true) {N:Nat} {g:Operand} {ps:Array Tmp} {assign body:Code}
  (iha : RU G N assign) (ihb:RU G N body) {R:IExit→IState→Prop} {C:Ctx} {s:IState} {a:Act} {w:World} (hC:C0.lek C) (h:wpC G X N (.rangeFunc g ps assign body) R s) (hs:Simul N C s a w) :
  (Code.rangeFunc g ps assign body).wpIn (FR rd) 0 X.P (RQ N C R) a w:=by
 simp only[wpC]at h
 obtain ⟨s,hgh,hrnd,h⟩:=h
 obtain ⟨C,hle0,hs⟩:=hgh.sound hs
 refine wpIn_mono ?_ (fun e a' w' hq'=>RQ.mono hle0 (fun _ _ x=>x) hq')
 have hC:=hC.trans hle0.lek
 have hrd':rd=none:=hrd.resolve_right (by simp[hrnd])
 subst hrd'
 split at h
 case h_2=>exact h.elim
 rename_i f first captured hg
 obtain ⟨fn,c,hf,hb,hname,hres,hlen,hps,h⟩:=h
 have hps':∀p∈ps.toList,p<N:=fun p hp=>by simpa using List.all_eq_true.1 hps p hp
 refine wpIn_rangeFunc fun fn0 _=>?_
 have hvg:=hs.eval g
 rw [hg]at hvg
 obtain ⟨vf,vc,hev,hvf1,hvf2,hvc1,hvc2⟩:∃vf vc:Array Value,a.eval g=.func (.func f) vf vc∧vf.size=first.length∧(∀(i:Nat) (p:PV),first[i]?=some p→VR C (vf.getD i undef) p) ∧
   vc.size = captured.length∧(∀(i:Nat) (p:PV),captured[i]?=some p→VR C (vc.getD i undef) p):=by
  generalize a.eval g=v at hvg
  cases hvg with
  | func fn f1 c1 pf pc h1 h2 h3 h4=>exact⟨f1,c1,rfl,h1,h3,h2,h4⟩
 -- the record
 let b:=w.heap.size
 let r:Loop:={ state:=.ready,pending:=none,fn:=fn0,tmps:=a.tmps,params:=ps,assign:=assign,body:=body,defers:=b }
 let w1:=(w.alloc (.deferred (some []))).alloc (.loop r)
 let vals:Array Value:=vf ++ #[.func (.yield (b+1)) #[] #[]]++vc
 have hen:Dx X.P f:=⟨fn,hf,by simp[hb],hname⟩
 refine ⟨b+1,[⟨.collected b,#[]⟩],w1,⟨.fn (.func f) vc,vf ++ #[.func (.yield (b+1)) #[] #[]]⟩,w1,f,vals,w1,run_enterLoop_outer ..,?_,fun _ _=>trivial,?_,fun hd=>by simp[FR,Fence.wide]at hd,?_⟩
 ·simp [resolve,rangeCall,hev,Deferred.ofValue,Sem.run_pure]
  rfl
 ·exact Fh hen
 -- the context
 obtain ⟨c1,i1⟩:=hs.inv.newKeep
 obtain ⟨c2,i2⟩:=i1.newLp r
 have hsz1:(w.alloc (.deferred (some []))).heap.size=b+1:=by simp[b]
 rw [hsz1]at c2 i2
 let L0:Loc:=⟨b+1,0,0,1,0⟩
 let C2:Ctx:=({ C with keep:=fun x=>x==w.heap.size||C.keep x }:Ctx).set s.st.next L0
 have c12:C.le C2:=c1.trans c2
 let C3:Ctx:={ C2 with keep:=C2.keep,caller:=C2.keep }
 have i3:Inv C3 (s.st.new (.lp r)) w1:=i2.same C2.keep C2.keep (fun _ h=>h)
 have hC3:C0.lek C3:=hC.trans ⟨c12.imm,c12.old,c12.born,c12.loc,c12.B,c12.h,c12.os,c12.out,c12.keep,rfl⟩
 have c13:∀ {v:Value} {p:PV},VR C v p→VR C3 v p:=fun hv=>VR.same (C:=C2) (C':=C3) rfl rfl rfl (hv.mono c12)
 have hbn:C3.born s.st.next:=.inl rfl
 have hL0:C3.loc s.st.next=some L0:=by simp[C3,C2,Ctx.set]
 have hv3:IXC.VRs C3 vals (first++.func (.yield (b+1)) [] []::captured):=by
  refine ⟨by simp[vals,hvf1,hvc1];omega,fun i p hp=>?_⟩
  rw [List.getElem?_append]at hp
  split at hp
  ·rename_i hlt
   have e:vals.getD i undef=vf.getD i undef:=by
    have hi':i<vf.size:=by omega
    simp [vals,Array.getD_eq_getD_getElem?,Array.getElem?_append,hi',show i<vf.size+1 by omega,Array.getElem_push_lt hi']
   rw [e];exact c13 (hvf2 i p hp)
  ·rename_i hlt
   rcases Nat.eq_or_lt_of_le (Nat.le_of_not_lt hlt)with he | he
   ·have e:vals.getD i undef=.func (.yield (b+1)) #[] #[]:=by
     have hi':i=vf.size:=by omega
     subst hi'
     simp [vals,Array.getD_eq_getD_getElem?,Array.getElem?_append]
    have hp':p=.func (.yield (b+1)) [] []:=by
     rw [←he]at hp;simpa using hp.symm
    rw [e,hp']
    exact .func _ _ _ _ _ rfl rfl (by intro i p h;simp at h) (by intro i p h;simp at h)
   ·have e:vals.getD i undef=vc.getD (i-first.length-1) undef:=by
     simp [vals,Array.getD_eq_getD_getElem?,Array.getElem?_append,hvf1,show ¬i<first.length+1 by omega,show i-(first.length+1)=i-first.length-1 by omega]
    have hp':captured[i-first.length-1]?=some p:=by
     have : i-first.length=(i-first.length-1)+1:=by omega
     rw [this]at hp;simpa using hp
    rw [e];exact c13 (hvc2 _ p hp')
 have hgen:=h (b+1) r rfl rfl
 have hs3:=Nl (N:=fn.ntmps) i3 hv3 (by simp;omega) (fun _ h=>h)
 have hY3:∀(H:Gx),(∀(args:List PV) (st:Store) (K:Bool→Store→Prop) (C:Ctx) (w:World) (vals:Array Value),C3.lek C→H args st K→Inv C st w→IXC.VRs C vals args→(∀b,C.caller b=true→C.keep b=true) →
   ∃ f tmps assign body,(Instr.yield (b+1) vals).run X.P w=.ok (.round (b+1) f tmps assign body) w∧RoundIn (FR none) 0 X.P (b+1) f tmps assign body w (fun e w'=>∃b C' st',e=.returned (.bool b)∧C.le C'∧Inv C' st' w'∧K b st'))→FG (Oj X (b+1,H)) C3:=by
  intro H hH l' H' he
  simp only[Oj,Option.some.injEq,Prod.mk.injEq]at he
  obtain ⟨rfl,rfl⟩:=he
  exact hH
 have hwalk:=hG (Oj X (b+1,_)) none C3 hX hq hmix (hY3 _ (Uq hX hq hmix hY iha ihb hC3 hbn hL0 rfl hs.size (fun t ht=>c13 (hs.tmp t ht)) hs.out hps' (r:=r) rfl rfl rfl rfl rfl rfl)) (.inl rfl) _ c _ C3 _ _ w1 (Ctx.le.refl C3).lek hgen hs3
 refine callsIn_of_wp_marks hf hb trivial (wpIn_mono hwalk fun e a' w' hr=>?_)
 obtain ⟨e',C',s',h1,h2,h3,h4,h5⟩:=hr
 have fin:LeavesInM (FR none) 0 X.P fn a'.tmps (rangePost (FR none) 0 X.P (b+1) (RQ N C R) { a with defers := [⟨.collected b,#[]⟩]++a.defers }) a'.defers .returning w':=by
  refine II a'.defers C' w' h3.inv h3.defers h3.nodup h3.own fun C4 w4 e1 e2 e3 e4 e5 e6 e7 e8 hk hi4=>?_
  have hs4:Simul fn.ntmps C4 s' { tmps:=a'.tmps,defers := [] } w4:=⟨fun d hd=>by simp at hd,List.nodup_nil,fun b hb=>hk b (by rw[←e8];exact hb),h3.size,fun t ht=>(h3.tmp t ht).same e1 e2 e3,h3.out,hi4⟩
  obtain ⟨v,hv,_⟩:=Ow (P:=X.P) (fn:=fn) hs4 (p:=.tuple []) (by simp[RS,Dz,hres])
  refine ⟨v,hv,?_⟩
  have hck:∀b,C2.keep b=true→C4.keep b=true:=fun b hb=>hk b (by rw[h2.caller];exact hb)
  let C5:Ctx:={ C4 with keep:=C2.keep,caller:=C.caller }
  have i5:Inv C5 s'.st w4:=hi4.same C2.keep C.caller hck
  have c25:C2.le C5:=⟨fun b o u hu=>by show C4.imm b o=_;rw[e1];exact h2.imm b o u hu,fun b o hb=>by show C4.imm b o=_;rw[e1];exact h2.old b o hb,fun id hb=>by show C4.born id;rw[e3];exact h2.born id hb,
   fun id hb L' hL=>h2.loc id hb L' (by rw[←e2];exact hL),e4.trans h2.B,e5.trans h2.h,e6.trans h2.os,e7.trans h2.out,fun _ h=>h,rfl⟩
  have end_:∀(r':Loop) (e:IExit),s'.st.obj s.st.next=some (.lp r')→r'.state≠.busy→R e ⟨s.env,s'.st.set s.st.next (.lp { r' with state:=.exhausted })⟩ →
    (match r'.pending,e with | none,.normal=>True | some .ret,.ret=>True | some (.exit i),.exit j=>i=j | _,_=>False) →
    rangePost (FR none) 0 X.P (b+1) (RQ N C R) { a with defers := [⟨.collected b,#[]⟩]++a.defers } (.returned v) w4:=by
   intro r' e ho hst hR hm
   obtain ⟨hL5,hat5,hcell5⟩:=i5.lpAt (C0:=C2) c25.lek ho (.inl rfl) (L0:=L0) (by simp[C2,Ctx.set])
   obtain ⟨q1,q2⟩:=i5.putLp hL5 (c25.born _ (.inl rfl)) hat5 { r' with state:=.exhausted }
   have cle:C.le (C5.set s.st.next L0):=(c12.trans c25).trans q1
   have hkb:(C5.set s.st.next L0).keep b=true:=by simp[C5,C2,Ctx.set,b]
   have hnb:C.keep b≠true:=fun hb=>by
    have :=(hs.inv.keep b hb).2
    simp [b]at this
   have hcb:(C5.set s.st.next L0).caller b=false:=by
    show C.caller b=false
    cases hc:C.caller b with
    | false=>rfl
    | true=>exact absurd (hs.own b hc) hnb
   have hsim:Simul N (C5.set s.st.next L0) ⟨s.env,s'.st.set s.st.next (.lp { r' with state:=.exhausted })⟩ { a with defers := [⟨.collected b,#[]⟩]++a.defers } (w4.putObj (b+1) (.loop { r' with state:=.exhausted })):=by
    refine ⟨fun d hd=>?_,?_,hs.ownMono cle,hs.size,fun t ht=>(hs.tmp t ht).mono cle,hs.out,q2⟩
    ·rcases List.mem_append.1 hd with hd | hd
     ·simp at hd;exact⟨b,hd,hkb,hcb⟩
     ·exact hs.defersMono cle d hd
    ·refine List.nodup_cons.2 ⟨fun hm=>?_,hs.nodup⟩
     obtain ⟨b',hb',hk',_⟩:=hs.defers _ hm
     simp at hb'
     exact hnb (hb'▸hk')
   refine ⟨_,_,run_endLoop hcell5 hst,?_⟩
   split
   ·rename_i hj
    rw [hj]at hm
    cases e <;> first | (exact hm.elim) | skip
    exact ⟨.normal,_,_,trivial,cle,hsim,hR⟩
   ·rename_i cj hj
    rw [hj]at hm
    cases cj <;> cases e <;> first | (exact hm.elim) | skip
    ·exact wpIn_exit ⟨.exit _,_,_,hm,cle,hsim,hR⟩
    ·exact wpIn_ret ⟨.ret,_,_,trivial,cle,hsim,hR⟩
  rcases h5 with ⟨o1,o2⟩ | ⟨o1,o2⟩ | ⟨i,o1,o2⟩
  ·exact end_ r .normal o1 (by simp[r]) o2 trivial
  ·exact end_ _ .ret o1 (by simp) o2 trivial
  ·exact end_ _ (.exit i) o1 (by simp) o2 rfl
 cases e <;> cases e' <;> first | (exact h1.elim) | skip
 ·exact fin
 ·simp at h4
 ·exact fin
end
theorem QI {G:WP} (hG:RT G):RT (wpC G):=by
 intro X rd C0 hX hq hmix hY hrd N c
 induction c generalizing X rd C0 with
 | skip=>intro R C s a w hC h hs;exact wpIn_skip ⟨.normal,C,s,trivial,Ctx.le.refl C,hs,h⟩
 | region id all draw =>
  intro R C s a w hC h hs
  rcases h with ⟨hdr,hrun⟩ | ⟨rfl,t,ht,hrun⟩
  case inr =>
   refine wpIn_region_any hmix ?_
   exact Uo hX hq hY ht hrun ⟨hs.defers,hs.nodup,hs.own,hs.size,hs.tmp,hs.out,hs.inv.heap rfl⟩ hC fun C' s' a' w' hle hs' hR=>⟨.normal,C',s',trivial,hle,hs',hR⟩
  cases draw with
  | false =>
   refine wpIn_region_list (Ot hX hY _ _ C _ _ _ hrun hs hC fun C' s' a' w' hle hs' hR=>⟨.normal,C',s',trivial,hle,hs',hR⟩)
  | true =>
   have hd:=hdr rfl
   refine wpIn_region_any hmix ?_
   refine WH hX hq hY hd all.size (List.range all.size) _ C s a _ (fun j y hy hl=>by simp[Array.getD]at hl) (by simp) (by simpa using List.pairwise_lt_range) (fun i=>?_) (by simp) (K:=R .normal) ?_ ⟨hs.defers,hs.nodup,hs.own,hs.size,hs.tmp,hs.out,hs.inv.heap rfl⟩ hC
    fun C' s' a' w' hle hs' hR=>⟨.normal,C',s',trivial,hle,hs',hR⟩
   ·by_cases hlt:i<all.size <;> simp[hlt,Array.getD]
   ·rw [List.range_eq_range',←Array.length_toList,Ou all.toList 0 s (by simp)];exact hrun
 | seq x y ihx ihy =>
  intro R C s a w hC h hs
  refine wpIn_seq (wpIn_mono (ihx X rd C0 hX hq hmix hY hrd _ C s a w hC h hs) fun e a' w' hq'=>?_)
  obtain ⟨e',C',s1,h1,h2,h3,h4⟩:=hq'
  cases e <;> cases e' <;> first | (exact h1.elim) | skip
  ·exact wpIn_mono (ihy X rd C0 hX hq hmix hY hrd R C' s1 a' w' (hC.trans h2.lek) h4 h3) fun e a w h=>RQ.mono h2 (fun _ _ x=>x) h
  ·exact ⟨.exit _,C',s1,h1,h2,h3,h4⟩
  ·exact ⟨.ret,C',s1,trivial,h2,h3,h4⟩
 | cond c x y ihx ihy =>
  intro R C s a w hC h hs
  simp only[wpC]at h
  split at h
  ·rename_i v hv
   have := hs.eval c
   rw [hv]at this
   refine wpIn_cond (t:=v) (Dn this) ?_
   cases v
   ·exact ihy X rd C0 hX hq hmix hY hrd R C s a w hC (h.2 rfl) hs
   ·exact ihx X rd C0 hX hq hmix hY hrd R C s a w hC (h.1 rfl) hs
  ·exact h.elim
 | block id c ih =>
  intro R C s a w hC h hs
  refine wpIn_block (wpIn_mono (ih X rd C0 hX hq hmix hY hrd _ C s a w hC h hs) fun e a' w' hq'=>?_)
  obtain ⟨e',C',s1,h1,h2,h3,h4⟩:=hq'
  cases e <;> cases e' <;> first | (exact h1.elim) | skip
  ·exact ⟨.normal,C',s1,trivial,h2,h3,h4⟩
  ·rename_i i j
   subst h1
   simp only[Exit.inBlock]
   split
   ·rename_i hi
    simp only[hi,if_true]at h4
    exact ⟨.normal,C',s1,trivial,h2,h3,h4⟩
   ·rename_i hi
    simp only[hi,if_false]at h4
    exact ⟨.exit i,C',s1,rfl,h2,h3,h4⟩
  ·exact ⟨.ret,C',s1,trivial,h2,h3,h4⟩
 | loop c ih =>
  intro R C s a w hC h hs
  obtain ⟨J,n0,⟨s0,hgh,hJ⟩,hround⟩:=h
  -- the measure of a machine's state: of any ideal state that it stands for, met on the way
  intro b k cs hro hb hr
  have key:∀n C s a w,C0.lek C→J n s→Simul N C s a w→∃e a' w',RQ N C R e a' w'∧ArrivesIn (Machine.fenced X.P (FR rd)) X.P (lone (b.atR a (.code c::.inLoop c::k)) cs w) b k cs e a' w':=by
   intro n
   induction n using Nat.strongRecOn with
   | _ n ihn =>
    intro C s a w hC hJ hs
    obtain ⟨e,a₁,w₁,hq',harr⟩:=ih X rd C0 hX hq hmix hY hrd _ C s a w hC (hround n s hJ) hs b (.inLoop c::k) cs hro hb hr
    obtain ⟨e',C',s1,h1,h2,h3,h4⟩:=hq'
    cases e <;> cases e' <;> first | (exact h1.elim) | skip
    ·obtain ⟨m',hlt,s3,hgh3,hJ1⟩:=h4
     obtain ⟨C3,hle3,hs3⟩:=hgh3.sound h3
     obtain ⟨e₂,a₂,w₂,hq₂,harr₂⟩:=ihn m' hlt C3 s3 a₁ w₁ ((hC.trans h2.lek).trans hle3.lek) hJ1 hs3
     exact ⟨e₂,a₂,w₂,RQ.mono (h2.trans hle3) (fun _ _ x=>x) hq₂,.of_steps (StepsIn.trans harr (.one (fenced_calm hb hr rfl) stepR_inLoop)) harr₂⟩
    ·exact ⟨_,a₁,w₁,⟨.exit _,C',s1,h1,h2,h3,h4⟩,.pass (x:=.inLoop c) rfl (fun _ _=>.inl (by simp)) harr⟩
    ·exact ⟨_,a₁,w₁,⟨.ret,C',s1,trivial,h2,h3,h4⟩,.pass (x:=.inLoop c) rfl (fun _ _=>.inl (by simp)) harr⟩
  obtain ⟨C9,hle0,hs0⟩:=hgh.sound hs
  obtain ⟨e,a',w',hq',harr⟩:=key _ C9 s0 a w (hC.trans hle0.lek) hJ hs0
  exact ⟨e,a',w',RQ.mono hle0 (fun _ _ x=>x) hq',.of_steps (.one (fenced_calm hb hr rfl) stepR_loop) harr⟩
 | exit id=>intro R C s a w hC h hs;exact wpIn_exit ⟨.exit id,C,s,rfl,Ctx.le.refl C,hs,h⟩
 | ret=>intro R C s a w hC h hs;exact wpIn_ret ⟨.ret,C,s,trivial,Ctx.le.refl C,hs,h⟩
 | rangeFunc g ps assign body iha ihb =>
  intro R C s a w hC h hs
  exact Ur hG hX hq hmix hY hrd (fun X rd C0 hX hq hmix hY hrd R C s a w=>iha X rd C0 hX hq hmix hY hrd R C s a w) (fun X rd C0 hX hq hmix hY hrd R C s a w=>ihb X rd C0 hX hq hmix hY hrd R C s a w) hC h hs
 | scope c ih =>
  intro R C s a w hC h hs
  refine Up (wpIn_mono (ih X rd C0 hX hq hmix hY hrd _ C s a w hC h hs) fun e a' w' hq'=>?_)
  obtain ⟨e',C',s1,h1,h2,h3,h4⟩:=hq'
  cases e <;> cases e' <;> first | (exact h1.elim) | skip
  ·exact ⟨.normal,C',s1,trivial,h2,h3,h4⟩
  ·exact ⟨.exit _,C',s1,h1,h2,h3,h4⟩
  ·exact ⟨.ret,C',s1,trivial,h2,h3,h4⟩
 | label l=>intro R C s a w hC h hs;exact wpIn_label ⟨.normal,C,s,trivial,Ctx.le.refl C,hs,h⟩
 | goto=>intro R C s a w hC h hs;exact h.elim
 | refuse=>intro R C s a w hC h hs;exact h.elim
theorem QJ:∀d,RT (gen d)
 | 0=>fun _ _ _ _ _ _ _ _ _ _ _ _ _ _ _ _ h _=>h.elim
 | d+1=>fun X rd C0 hX hq hmix hY hrd N c R C s a w hC ⟨X',h1,h2,h3,h4,h5,h6,h⟩ hs=>by
  have := QI (QJ d) X' rd C0 h5 h6 (h1▸hmix) (fun l H hl=>h1▸hY l H (h2▸hl)) (by rw[h3];exact hrd) N c R C s a w hC h hs
  rw [h1]at this;exact this
theorem Hn {X:Cfg} (hyl:X.yl=none) (hX:E8 X) (hq:Bx X) (hmix:X.P.follows .mixedOrders=true) {f:FuncId} {fn:Func} {c:Code} (hf:X.P.funcs[f]?=some fn) (hb:fn.body=some c)
  (hname : (fn.name == "runtime.NumGoroutine") = false) {args : List PV} (hn : args.length ≤ fn.ntmps) {st : Store} {s0 : IState} (hg : Ghost ⟨GK args, st⟩ s0) {Q : PV → Store → Prop}
  (h : run X fn.ntmps (Ao X.P fn.results.toList Q) c [] s0):IXC X.P f args st Q:=by
 refine ⟨⟨fn,hf,by simp[hb],hname⟩,fun C w vals hi hv=>?_⟩
 have hi1:Inv { C with keep:=C.keep,caller:=C.keep } st w:=hi.same C.keep C.keep (fun _ h=>h)
 have hv1:IXC.VRs { C with keep:=C.keep,caller:=C.keep } vals args:=⟨hv.1,fun i p hp=>VR.same (C:=C) (C':={ C with keep:=C.keep,caller:=C.keep }) rfl rfl rfl (hv.2 i p hp)⟩
 obtain ⟨C0,hle0,hs0⟩:=hg.sound (Nl hi1 hv1 hn (fun _ h=>h))
 refine (callsIn_FR (rd:=none) (n:=0)).1 (callsIn_of_wp_marks hf hb trivial (wpIn_mono (QI (QJ X.dep) X none C0 hX hq hmix (Um hyl) (.inl rfl) _ c _ C0 _ _ w (Ctx.le.refl C0).lek h hs0) fun e a w' hr=>?_))
 obtain ⟨e',C',s',h1,h2,h3,h4⟩:=hr
 replace h2:=hle0.trans h2
 have fin:(∃p,RS X.P fn.results.toList s'=some p∧Q p s'.st)→LeavesInM (FR none) 0 X.P fn a.tmps (fun e w'=>∃v C' r st',e=.returned v∧C.le C'∧Inv C' st' w'∧VR C' v r∧Q r st') a.defers .returning w':=by
  rintro ⟨p,hp,hQ⟩
  refine II a.defers C' w' h3.inv h3.defers h3.nodup h3.own fun C2 w2 e1 e2 e3 e4 e5 e6 e7 e8 hk hi2=>?_
  have hs2:Simul fn.ntmps C2 s' { tmps:=a.tmps,defers := [] } w2:=⟨fun d hd=>by simp at hd,List.nodup_nil,fun b hb=>hk b (by rw[←e8];exact hb),h3.size,fun t ht=>(h3.tmp t ht).same e1 e2 e3,h3.out,hi2⟩
  obtain ⟨v,hv,hv'⟩:=Ow hs2 hp
  have hck:∀b,C.keep b=true→C2.keep b=true:=fun b hb=>hk b (by rw[h2.caller];exact hb)
  refine ⟨v,hv,v,{ C2 with keep:=C.keep,caller:=C.caller },p,s'.st,rfl,?_,hi2.same C.keep C.caller hck,VR.same (C:=C2) (C':={ C2 with keep:=C.keep,caller:=C.caller }) rfl rfl rfl hv',hQ⟩
  exact ⟨fun b o u hu=>by rw[e1];exact h2.imm b o u hu,fun b o hb=>by show C2.imm b o=_;rw[e1];exact h2.old b o hb,fun id hb=>by show C2.born id;rw[e3];exact h2.born id hb,
   fun id hb L' hL=>h2.loc id hb L' (by rw[←e2];exact hL),e4.trans h2.B,e5.trans h2.h,e6.trans h2.os,e7.trans h2.out,fun _ h=>h,rfl⟩
 cases e <;> cases e' <;> first | (exact h1.elim) | skip
 ·exact fin h4
 ·exact h4.elim
 ·exact fin h4
def st0:Store:=⟨fun _=>none,0⟩
def stR (n:Nat):Store:=⟨fun i=>if i<n then some (.arr 0 1 [])else none,n⟩
theorem Md {ρ:Nat→PV}:∀n,Ghost ⟨ρ,st0⟩ ⟨ρ,stR n⟩
 | 0=>by
  have : stR 0=st0:=by simp[stR,st0]
  rw [this];exact .refl _
 | n+1=>by
  refine .trans (Md n) ?_
  have : stR (n+1)=(stR n).new (.arr 0 1 []):=by
   simp only[stR,Store.new]
   congr 1
   funext i
   simp only[Ab]
   by_cases h:i=n
   ·simp [h]
   ·by_cases h2:i<n
    ·simp [h,h2,show i<n+1 by omega]
    ·simp [h,h2,show ¬i<n+1 by omega]
  rw [this]
  exact .res _ 1 (by omega)
theorem Us {imm:Nat→Nat→Option Value} {w:World} (h:∀b o u,imm b o=some u→w.cell? ⟨b,o,none⟩=some u):Inv (base imm w) st0 w where
 os := rfl
 out := rfl
 hB := Nat.le_refl _
 old := fun b _=>rfl
 imm := h
 next := fun _ _ h=>h
 none_ := fun _ _=>rfl
 obj := fun id o h=>by simp[st0]at h
 sep := fun id id' L L' _ h=>by simp[base]at h
 keep := fun b h=>by simp[base]at h
theorem bZ {X:Cfg} (hyl:X.yl=none) (hX:E8 X) (hq:Bx X) (hmix:X.P.follows .mixedOrders=true) {f:FuncId} {fn:Func} {c:Code} (hf:X.P.funcs[f]?=some fn) (hb:fn.body=some c)
  (hname : (fn.name == "runtime.NumGoroutine") = false) {args : List PV} (hn : args.length ≤ fn.ntmps) {r : PV} {s0 : IState} (hg : Ghost ⟨GK args, st0⟩ s0)
  (h : run X fn.ntmps (Ao X.P fn.results.toList (fun p st=>DR st p r)) c [] s0):VC X.P f args r:=by
 obtain ⟨hen,hc⟩:=Hn hyl hX hq hmix hf hb hname hn hg h
 refine ⟨hen,fun imm w vals himm hv=>?_⟩
 refine Calls.mono (hc _ w vals (Us himm) hv) fun e w' he=>?_
 obtain ⟨v,C',p,st',rfl,hle,hi,hvp,hdr⟩:=he
 have hBB:C'.B=w.heap.size:=hle.B
 have hold:∀b,b<w.heap.size→w'.heap[b]?=w.heap[b]?:=fun b hb=>by
  rw [hi.old b (by omega),hle.h];rfl
 refine ⟨v,rfl,⟨by rw[hi.os,hle.os];rfl,by rw[hi.out,hle.out];rfl⟩,hold,by have:=hi.hB;omega,?_⟩
 refine hdr.sound (imm:=D0 imm w.heap.size w') hi (fun b o u hu=>?_) (fun id L hL hcap o u hu=>?_) hvp
 ·unfold D0
  split
  ·rename_i hlt
   have := hle.old b o hlt
   rw [this]at hu;exact hu
  ·exact hi.imm b o u hu
 ·obtain ⟨ob,_,_,hat⟩:=hi.live hL
  have :=(hat.own hcap).1
  unfold D0
  rw [if_neg (by omega)]
  exact hu
def PV.scal1:PV→Bool
 | .bool _ | .int _ _ | .str _ | .nilp | .nils | .nilf | .nili | .nilm=>true
 | _=>false
def PV.scal:PV→Bool
 | .agg l=>l.all PV.scal1
 | .tuple l=>l.all PV.scal1
 | p=>p.scal1
theorem VR.scal1 {C C':Ctx} {v:Value} {p:PV} (h:VR C v p) (hs:p.scal1=true):VR C' v p:=by
 cases h <;> first | (simp[PV.scal1]at hs;done) | (constructor;done) | (constructor <;> assumption)
theorem VR.scal {C C':Ctx} {v:Value} {p:PV} (h:VR C v p) (hs:p.scal=true):VR C' v p:=by
 cases h with
 | agg cs l hn hc h=>exact .agg cs l hn hc fun i p hi=>(h i p hi).scal1 ((List.all_eq_true.1 hs) p (List.mem_of_getElem? hi))
 | tuple cs l hn h=>exact .tuple cs l hn fun i p hi=>(h i p hi).scal1 ((List.all_eq_true.1 hs) p (List.mem_of_getElem? hi))
 | bad v=>simp[PV.scal,PV.scal1]at hs
 | bool b=>exact .bool b
 | int k n=>exact .int k n
 | str s l h hm=>exact .str s l h hm
 | nilp=>exact .nilp
 | nils=>exact .nils
 | nilf=>exact .nilf
 | nili=>exact .nili
 | nilm=>exact .nilm
 | _=>simp[PV.scal,PV.scal1]at hs
theorem Inv.after {C:Ctx} {st:Store} {w w':World} (hi:Inv C st w) (ho:w'.os=w.os∧w'.output=w.output) (hold:∀b,b<w.heap.size→w'.heap[b]?=w.heap[b]?) (hsz:w.heap.size≤w'.heap.size) :
  C.le { C with imm:=D0 C.imm w.heap.size w' }∧Inv { C with imm:=D0 C.imm w.heap.size w' } st w':=by
 have himm:∀b o v,C.imm b o=some v→D0 C.imm w.heap.size w' b o=some v:=fun b o v hv=>by
  have : b<w.heap.size:=by
   rcases Nat.lt_or_ge b w.heap.size with h | h
   ·exact h
   ·rw [hi.immLt h]at hv;cases hv
  simp [D0,this,hv]
 have hle:C.le { C with imm:=D0 C.imm w.heap.size w' } :=
  ⟨himm, fun b o hb=>by have:=hi.hB;simp[D0,show b<w.heap.size by omega],fun _ h=>h,fun id _ L' hL=>⟨L',hL,.inl rfl⟩,rfl,rfl,rfl,rfl,fun _ h=>h,rfl⟩
 refine ⟨hle,?_⟩
 constructor
 ·exact ho.1.trans hi.os
 ·exact ho.2.trans hi.out
 ·exact Nat.le_trans hi.hB hsz
 ·intro b hb
  have hb':b<C.B:=hb
  rw [hold b (by have:=hi.hB;omega)];exact hi.old b hb'
 ·intro b o v hv
  have hv':D0 C.imm w.heap.size w' b o=some v:=hv
  unfold D0 at hv'
  split at hv'
  ·rename_i hlt
   rw [cell?_heap (hold b hlt)];exact hi.imm b o v hv'
  ·exact hv'
 ·exact hi.next
 ·exact hi.none_
 ·intro id o ho
  obtain ⟨hb,L,hL,hat⟩:=hi.obj id o ho
  refine ⟨hb,L,hL,hat.mono hle (fun hc o ho=>?_) (fun hc=>hold _ (hat.own hc).2.2)⟩
  have :=(hat.own hc).2.2
  show D0 C.imm w.heap.size w' L.blk o=none
  simp [D0,this,ho]
 ·exact hi.sep
 ·intro b hb
  obtain ⟨k1,k2⟩:=hi.keep b hb
  exact ⟨k1,by rw[hold b (Array.getElem?_eq_some_iff.1 k2).1];exact k2⟩
mutual
def PV.small:PV→Prop
 | .str l=>l.length≤9223372036854775807
 | .lits _ l=>l.length≤9223372036854775807∧AK l
 | .vptr cs _=>AK cs
 | .agg l=>AK l
 | .tuple l=>AK l
 | .iface _ v=>v.small
 | _=>True
def AK:List PV→Prop
 | []=>True
 | p::l=>p.small∧AK l
end
theorem Fs {l:List PV} (h:∀p∈l,p.small):AK l:=by
 induction l with
 | nil=>trivial
 | cons a l ih=>exact⟨h a (by simp),ih fun p hp=>h p (by simp[hp])⟩
theorem VR.small {C:Ctx} {v:Value} {p:PV} (h:VR C v p):p.small:=by
 have ml:maxLen=9223372036854775807:=rfl
 induction h with
 | str s l h hm=>rw[ml]at hm;exact hm
 | vptr b o off cells hc hi h ih=>exact Fs (fun c hm=>(List.mem_iff_getElem?.1 hm).elim fun j hj=>ih j c hj)
 | lits b o size cap l hcap hmax hsz hl hi h ih =>
  rw [ml]at hmax
  refine ⟨by omega,Fs fun e he=>?_⟩
  obtain ⟨i,hi'⟩:=List.mem_iff_getElem?.1 he
  have hc:∀c∈e.cells,c.small:=fun c hm=>by
   obtain ⟨j,hj⟩:=List.mem_iff_getElem?.1 hm
   exact ih i j e c hi' hj
  cases e <;> first
   | trivial
   | (exact hc _ (List.mem_singleton.2 rfl))
   | (exact Fs hc)
   | skip
  all_goals (have:=(hl _ he).1;simp only[PV.cells,List.length_nil]at this;omega)
 | lits0 a cap z=>exact⟨by simp,trivial⟩
 | iface t v p h ih=>exact ih
 | agg cs l hn hc h ih=>exact Fs (fun c hm=>(List.mem_iff_getElem?.1 hm).elim fun j hj=>ih j c hj)
 | tuple cs l hn h ih=>exact Fs (fun c hm=>(List.mem_iff_getElem?.1 hm).elim fun j hj=>ih j c hj)
 | _=>trivial
def cA (spec:List PV→Option PV) (args:List PV) (st:Store):Option (PV×Store) :=
 if AT args=true then (spec args).map fun r=>(r,st)
 else (B8 st args).bind fun as=>(spec as).bind fun r=>if r.scal=true then some (r,st)else none
section
variable {P:Program} {f:FuncId}
theorem Ox {spec:List PV→Option PV} (hspec:∀args r,spec args=some r→VC P f args r) {args:List PV} {st st':Store} {r:PV} (h:cA spec args st=some (r,st')) :
  st' = st∧IXC P f args st fun r' st''=>r'=r∧st''=st':=by
 unfold cA at h
 split at h
 ·rename_i hp
  simp only[Option.map_eq_some_iff,Prod.mk.injEq]at h
  obtain ⟨q,hq,rfl,rfl⟩:=h
  obtain ⟨hen,hc⟩:=hspec _ _ hq
  refine ⟨rfl,hen,fun C w vals hi hv=>?_⟩
  refine Calls.mono (hc C.imm w vals hi.imm ⟨hv.1,fun i p hi'=>(hv.2 i p hi').pureMono (fun _ _ _ h=>h) (Cg hp p (List.mem_of_getElem? hi'))⟩) fun e w' he=>?_
  obtain ⟨v,rfl,ho,hold,hsz,hvr⟩:=he
  obtain ⟨h1,h2⟩:=hi.after ho hold hsz
  exact ⟨v,_,q,st,rfl,h1,h2,hvr.ofBase (fun _ _ _ h=>h),rfl,rfl⟩
 ·simp only[Option.bind_eq_some_iff]at h
  obtain ⟨as,has,q,hq,h⟩:=h
  split at h
  ·rename_i hsc
   simp only[Option.some.injEq,Prod.mk.injEq]at h
   obtain ⟨rfl,rfl⟩:=h
   obtain ⟨hen,hc⟩:=hspec _ _ hq
   refine ⟨rfl,hen,fun C w vals hi hv=>?_⟩
   obtain ⟨hl,hget⟩:=L7 has
   refine Calls.mono (hc (fun b o=>w.cell? ⟨b,o,none⟩) w vals (fun _ _ _ h=>h) ⟨by rw[hv.1,hl],fun i p hi'=>?_⟩) fun e w' he=>?_
   ·have hlt:i<args.length:=by have:=(List.getElem?_eq_some_iff.1 hi').1;omega
    exact (hget i _ p (List.getElem?_eq_getElem hlt) hi').sound hi (fun b o u h=>hi.imm b o u h) (fun _ _ _ _ _ _ h=>h) (hv.2 i _ (List.getElem?_eq_getElem hlt))
   ·obtain ⟨v,rfl,ho,hold,hsz,hvr⟩:=he
    obtain ⟨h1,h2⟩:=hi.after ho hold hsz
    exact ⟨v,_,q,st,rfl,h1,h2,hvr.scal hsc,rfl,rfl⟩
  ·cases h
def VCM (P:Program) (f:FuncId) (args:List PV) (mk:MK) (es:List (PV×PV)):Prop :=
 Dx P f∧∀(imm:Nat→Nat→Option Value) (w:World) (vals:Array Value),(∀b o u,imm b o=some u→w.cell? ⟨b,o,none⟩=some u)→IXC.VRs (base imm w) vals args →
  Calls P f vals w fun e w'=>∃(b:Nat) (ces:Array MapEntry),e=.returned (.map (some b))∧(w'.os=w.os∧w'.output=w.output)∧(∀b,b<w.heap.size→w'.heap[b]?=w.heap[b]?)∧w.heap.size≤w'.heap.size∧w.heap.size≤b ∧
   w'.heap[b]? = some (.map ces es.length)∧ces.size=es.length∧∀(i:Nat) (k v:PV),es[i]?=some (k,v)→∃e:MapEntry,ces[i]?=some e∧(∀C,VR C e.key k)∧(∀C,VR C e.val v)∧e.born=i∧BM mk k=true
def Agh (mk:MK) (spec:List PV→Option (List (PV×PV))) (args:List PV) (st:Store):Option (PV×Store) :=
 if AT args=true then (spec args).map fun es=>(.mref st.next 0,st.new (.map 0 mk es))else none
theorem WL {mk:MK} {spec:List PV→Option (List (PV×PV))} (hspec:∀args r,spec args=some r→VCM P f args mk r) {args:List PV} {st st':Store} {r:PV} (h:Agh mk spec args st=some (r,st')) :
  IXC P f args st fun r' st''=>r'=r∧st''=st':=by
 unfold Agh at h
 split at h
 ·rename_i hp
  simp only[Option.map_eq_some_iff,Prod.mk.injEq]at h
  obtain ⟨es,hq,rfl,rfl⟩:=h
  obtain ⟨hen,hc⟩:=hspec _ _ hq
  refine ⟨hen,fun C w vals hi hv=>?_⟩
  refine Calls.mono (hc C.imm w vals hi.imm ⟨hv.1,fun i p hi'=>(hv.2 i p hi').pureMono (fun _ _ _ h=>h) (Cg hp p (List.mem_of_getElem? hi'))⟩) fun e w' he=>?_
  obtain ⟨b,ces,rfl,ho,hold,hsz,hb,hblk,hces,hes⟩:=he
  obtain ⟨h1,h2⟩:=hi.put (w':=w') (id:=st.next) (nx:=st.next+1) (o:=.map 0 mk es) (L':=⟨b,0,0,1,0⟩) (.inr (hi.next _ (Nat.le_refl _))) (.inr (.inl hb)) (fun x hx _=>hold x hx) hsz
   (fun hle=>⟨rfl,rfl,by rw[hle.B];exact Nat.le_trans hi.hB hb,fun o=>hi.immLt hb,ces,hblk,hces,fun i k v hk=>by
    obtain ⟨e,g1,g2,g3,g4,g5⟩:=hes i k v hk
    exact ⟨e,g1,g2 _,g3 _,g4,g5⟩⟩) (by omega) (by omega) ho.1 ho.2
  exact ⟨.map (some b),_,_,_,rfl,h1,h2,TW hi,rfl,rfl⟩
 ·cases h
def VCA (P:Program) (f:FuncId) (args:List PV) (z:Nat) (es:List PV):Prop :=
 Dx P f∧∀(imm:Nat→Nat→Option Value) (w:World) (vals:Array Value),(∀b o u,imm b o=some u→w.cell? ⟨b,o,none⟩=some u)→IXC.VRs (base imm w) vals args →
  Calls P f vals w fun e w'=>∃(v:Value) (L:Loc),e=.returned v∧(w'.os=w.os∧w'.output=w.output)∧(∀b,b<w.heap.size→w'.heap[b]?=w.heap[b]?)∧w.heap.size≤w'.heap.size ∧
   (v.oneCell' = true∧jZ L 0 es.length v)∧(L.size=z∧0<z∧(es.length≤L.cap∧L.cap≤maxLen))∧(0<L.cap→w.heap.size≤L.blk ∧
    ∃ cs T,w'.heap[L.blk]?=some (.cells cs T (0,0))∧L.off+L.cap*L.size≤cs.size∧∀i e,es[i]?=some e→∀C,CellsAt C cs (L.off+i*L.size) L.size e)
def xS (z:Nat) (spec:List PV→Option (List PV)) (args:List PV) (st:Store):Option (PV×Store) :=
 if AT args=true then (spec args).map fun es=>(.ref st.next 0 0 es.length,st.new (.arr 0 z es))else none
theorem WM {z:Nat} {spec:List PV→Option (List PV)} (hspec:∀args r,spec args=some r→VCA P f args z r) {args:List PV} {st st':Store} {r:PV} (h:xS z spec args st=some (r,st')) :
  IXC P f args st fun r' st''=>r'=r∧st''=st':=by
 unfold xS at h
 split at h
 ·rename_i hp
  simp only[Option.map_eq_some_iff,Prod.mk.injEq]at h
  obtain ⟨es,hq,rfl,rfl⟩:=h
  obtain ⟨hen,hc⟩:=hspec _ _ hq
  refine ⟨hen,fun C w vals hi hv=>?_⟩
  refine Calls.mono (hc C.imm w vals hi.imm ⟨hv.1,fun i p hi'=>(hv.2 i p hi').pureMono (fun _ _ _ h=>h) (Cg hp p (List.mem_of_getElem? hi'))⟩) fun e w' he=>?_
  obtain ⟨v,L,rfl,ho,hold,hsz,⟨hone,href⟩,⟨hz1,hz2,hz3⟩,harr⟩:=he
  obtain ⟨h1,h2⟩:=hi.put (w':=w') (id:=st.next) (nx:=st.next+1) (o:=.arr 0 z es) (L':={ L with gen:=0 }) (.inr (hi.next _ (Nat.le_refl _))) (by
    rcases Nat.eq_zero_or_pos L.cap with h0 | h0
    ·exact .inl h0
    ·exact .inr (.inl (harr h0).1)) (fun x hx _=>hold x hx) hsz
   (fun hle=>⟨rfl,hz1,hz2,hz3,fun hcap=>by
    obtain ⟨g1,cs,T,g2,g3,g4⟩:=harr hcap
    exact ⟨by rw[hle.B];exact Nat.le_trans hi.hB g1,fun o=>hi.immLt g1,cs,T,g2,g3,fun i e he=>g4 i e he _⟩⟩) (by omega) (by omega) ho.1 ho.2
  refine ⟨v,_,_,_,rfl,h1,h2,?_,rfl,rfl⟩
  refine .ref v st.next 0 0 es.length hone (.inl rfl) (fun L' hL=>by omega) (fun L' hL _=>?_)
  have : L'={ L with gen:=0 }:=by simpa [Ctx.set]using hL.symm
  subst this
  obtain ⟨a,r1,r2,r3⟩:=href
  exact ⟨a,r1,r2,r3⟩
 ·cases h
end
def VCS (P:Program) (f g:FuncId) (z:Nat) (es es':List PV):Prop :=
 es'.length = es.length∧(∀e∈es,e.scal=true) ∧
 ∀ (w:World) (blk off cap:Nat) (cs:Array Value) (T:TypeId),w.heap[blk]?=some (.cells cs T (0,0))→0<es.length→off+es.length*z≤cs.size→(∀i e,es[i]?=some e→∀C,CellsAt C cs (off+i*z) z e) →
  Calls P f #[.slice (some ⟨blk,off,none⟩) es.length cap,.func (.func g) #[] #[]] w fun e w' =>
   e = .returned (.tuple #[])∧(w'.os=w.os∧w'.output=w.output)∧w.heap.size≤w'.heap.size∧(∀b,b<w.heap.size→b≠blk→w'.heap[b]?=w.heap[b]?) ∧
   ∃ cs',w'.heap[blk]?=some (.cells cs' T (0,0))∧cs'.size=cs.size∧∀i e,es'[i]?=some e→∀C,CellsAt C cs' (off+i*z) z e
def Agi (P:Program) (f:FuncId):Prop:=∀(p:Option Addr) (cap:Nat) (fv:Value) (w:World),Calls P f #[.slice p 0 cap,fv] w fun e w'=>e=.returned (.tuple #[])∧w'=w
def QK (z g:Nat) (spec:List PV→Option (List PV)) (args:List PV) (st:Store):Option (PV×Store) :=
 match args with
 | [.nils,_]=>some (.tuple [],st)
 | [.ref id gen 0 n,.func (.func g') [] []]=>if g'=g then (st.arr? id gen).bind fun a=>if a.1=z∧n=a.2.length then (spec a.2).map fun es'=>(.tuple [],st.set id (.arr gen z es'))else none else none
 | _=>none
theorem cB {e:PV} (h:e.scal=true):∀c∈e.cells,c.scal1=true:=by
 intro c hm
 cases e <;> simp only[PV.cells,List.mem_singleton]at hm <;> first | (subst hm;exact h) | (cases hm;done) | exact List.all_eq_true.1 h c hm
theorem lR {C:Ctx} {v:Value} {f:Fn} (h:VR C v (.func f [] [])):v=.func f #[] #[]:=by
 cases h with
 | func _ first captured _ _ hf hc _ _ =>
  have h1:first = #[]:=Array.eq_empty_of_size_eq_zero hf
  have h2:captured = #[]:=Array.eq_empty_of_size_eq_zero hc
  rw [h1,h2]
theorem Ut {P:Program} {f g:FuncId} {z:Nat} {spec:List PV→Option (List PV)} (hen:Dx P f) (h0:Agi P f) (hspec:∀es es',spec es=some es'→VCS P f g z es es') {args:List PV} {st st':Store} {r:PV} (h:QK z g spec args st=some (r,st')) :
  IXC P f args st fun r' st''=>r'=r∧st''=st':=by
 have two:∀ {C:Ctx} {vals:Array Value} {a b:PV},IXC.VRs C vals [a,b]→∃x y,vals = #[x,y]∧VR C x a∧VR C y b:=by
  rintro C ⟨vals⟩ a b ⟨h1,h2⟩
  match vals,h1 with
  | [x,y],_=>exact⟨x,y,rfl,h2 0 a rfl,h2 1 b rfl⟩
 unfold QK at h
 split at h
 ·simp only[Option.some.injEq,Prod.mk.injEq]at h
  obtain ⟨rfl,rfl⟩:=h
  refine ⟨hen,fun C w vals hi hv=>?_⟩
  obtain ⟨x,y,rfl,hx,hy⟩:=two hv
  cases hx
  refine (h0 none 0 y w).mono ?_
  rintro e w' ⟨rfl,rfl⟩
  exact ⟨_,C,_,_,rfl,Ctx.le.refl C,hi,.tuple #[] [] rfl (by simp),rfl,rfl⟩
 ·rename_i id gen n g'
  split at h
  ·rename_i hg
   subst hg
   simp only[Option.bind_eq_some_iff]at h
   obtain ⟨⟨z',es⟩,hes,h⟩:=h
   dsimp only at h
   split at h
   ·rename_i hzn
    obtain ⟨rfl,rfl⟩:=hzn
    simp only[Option.map_eq_some_iff,Prod.mk.injEq]at h
    obtain ⟨es',hs,rfl,rfl⟩:=h
    obtain ⟨hlen,hsc,hc⟩:=hspec _ _ hs
    refine ⟨hen,fun C w vals hi hv=>?_⟩
    obtain ⟨x,y,rfl,hx,hy⟩:=two hv
    cases lR hy
    obtain ⟨K,hK,hb,hgen,hKz,hzz,hcap,hat⟩:=hi.arr hes
    cases hx with
    | ref _ _ _ _ _ hv' hb' hg' hr =>
     obtain ⟨a,rfl,h10,h11⟩:=hr K hK hgen.symm
     rcases Nat.eq_zero_or_pos es.length with hn | hn
     ·have e1:es = []:=List.eq_nil_of_length_eq_zero hn
      subst e1
      have e2:es' = []:=List.eq_nil_of_length_eq_zero (by rw[hlen];rfl)
      subst e2
      refine (h0 a _ _ w).mono ?_
      rintro e w' ⟨rfl,rfl⟩
      exact ⟨_,C,_,_,rfl,Ctx.le.refl C,hi.sameObj (arr?_parts hes),.tuple #[] [] rfl (by simp),rfl,rfl⟩
     ·obtain ⟨h5,h6,cur,T,h7,h8,h9⟩:=hat (by omega)
      have ha:=h11 (by omega)
      rw [Nat.zero_mul,Nat.add_zero]at ha
      subst ha
      have hmul:=Nat.mul_le_mul_right K.size hcap
      rw [hKz]at h8 hmul
      refine Calls.mono (hc w K.blk K.off _ cur T h7 hn (by omega) (fun i e he C'=>?_)) fun e w' he=>?_
      ·obtain ⟨c1,c2,c3⟩:=h9 i e he
       rw [hKz]at c1 c3
       exact ⟨c1,c2,fun j c hj=>(c3 j c hj).scal1 (cB (hsc e (List.mem_of_getElem? he)) c (List.mem_of_getElem? hj))⟩
      ·obtain ⟨rfl,ho,hsz,hold,cs',hb1,hb2,hb3⟩:=he
       obtain ⟨C',k1,k2,k3,k4⟩:=hi.reArr (gen':=gen) (L':=K) (cs:=cs') hes hK (by omega) (.inl rfl) hgen rfl (by omega) (by rw[hlen];exact hcap) (hi.arrMax hes hK) h7 (by rw[hb2,hKz];exact h8) (fun i e he=>by rw[hKz];exact hb3 i e he C)
       rw [hKz]at k2
       obtain ⟨m1,m2⟩:=k2.after (w':=w') ho (fun b hb=>by
        by_cases e:b=K.blk
        ·subst e
         rw [hb1,setRow_heap w _ _ cs' T _ h7]
        ·rw [setRow_other w K.blk b cs' e];exact hold b (by simpa using hb) e) (by simpa using hsz)
       exact ⟨_,_,_,_,rfl,k1.trans m1,m2,.tuple #[] [] rfl (by simp),rfl,rfl⟩
   ·cases h
  ·cases h
 ·cases h
inductive Ent where
 | v (spec:List PV→Option PV)
 | m (mk:MK) (spec:List PV→Option (List (PV×PV)))
 | a (z:Nat) (spec:List PV→Option (List PV))
 | s (z g:Nat) (spec:List PV→Option (List PV))
 | x (spec:List PV→Store→Option (PV×Store))
 | c (spec:List PV→(Nat→Option IObj)→Option PV)
def Ent.tab:Ent→List PV→Store→Option (PV×Store)
 | .v spec=>cA spec
 | .m mk spec=>Agh mk spec
 | .a z spec=>xS z spec
 | .s z g spec=>QK z g spec
 | .x spec=>spec
 | .c spec=>fun args st=>(spec args st.obj).map fun r=>(r,st)
def Ent.calm:Ent→Bool
 | .c _=>true
 | _=>false
def Ent.anew:Ent→Bool
 | .a ..=>true
 | _=>false
def Ent.quiet:Ent→Bool
 | .v _=>true
 | .m ..=>false
 | .a ..=>false
 | .s ..=>false
 | .x ..=>false
 | .c ..=>false
def AM (P:Program) (f:FuncId):Ent→Prop
 | .v spec=>∀args r,spec args=some r→VC P f args r
 | .m mk spec=>∀args r,spec args=some r→VCM P f args mk r
 | .a z spec=>∀args r,spec args=some r→VCA P f args z r
 | .s z g spec=>Dx P f∧Agi P f∧∀es es',spec es=some es'→VCS P f g z es es'
 | .x spec=>∀args st r st',spec args st=some (r,st')→IXC P f args st fun r' st''=>r'=r∧st''=st'
 | .c spec=>(∀args ob ob' r,(∀i o,ob i=some o→ob' i=some o)→spec args ob=some r→spec args ob'=some r)∧∀args st r,spec args st.obj=some r→IXC P f args st fun r' st''=>r'=r∧st''=st
abbrev AW:=List (Nat×Ent)
def Fa (l:AW):Tab:=fun f args st=>match l.find? (fun e=>e.1==f)with | some e=>e.2.tab args st | none=>none
def RV (l:AW):Nat→Bool:=fun f=>match l.find? (fun e=>e.1==f)with | some e=>e.2.quiet | none=>true
def Me (l:AW):Nat→Bool:=fun f=>if f<1000000 then (match l.find? (fun e=>e.1==f)with | some e=>e.2.calm | none=>false)else (match l.find? (fun e=>e.1==f-1000000)with | some e=>e.2.anew | none=>false)
def Bv (P:Program) (l:AW):Prop:=∀e∈l,AM P e.1 e.2
theorem GL {P:Program} {l:AW} (h:Bv P l) {muts quiet frz calm:Nat→Bool} {num:Nat→Nat} {yl:Option (Nat×Gx)} {dep:Nat} {rnd:Bool}:E8 ⟨P,Fa l,muts,quiet,frz,num,yl,dep,rnd,calm⟩:=by
 intro f args st r st' ht
 simp only[Fa]at ht
 split at ht
 ·rename_i e he
  have hm:=List.mem_of_find?_eq_some he
  have hf:=List.find?_some he
  have hf:e.1=f:=by simpa using hf
  subst hf
  have := h e hm
  obtain ⟨f,e⟩:=e
  cases e with
  | v spec=>exact (Ox this ht).2
  | m mk spec=>exact WL this ht
  | a z spec=>exact WM this ht
  | s z g spec=>exact Ut this.1 this.2.1 this.2.2 ht
  | x spec=>exact this _ _ _ _ ht
  | c spec =>
   simp only[Ent.tab,Option.map_eq_some_iff,Prod.mk.injEq]at ht
   obtain ⟨r',h1,rfl,rfl⟩:=ht
   exact this.2 _ _ _ h1
 ·cases ht
theorem WN {P:Program} {l:AW} (h:Bv P l):∀f args st r st',f<1000000→Me l f=true→Fa l f args st=some (r,st')→st'=st∧∀st2:Store,(∀i o,st.obj i=some o→st2.obj i=some o)→Fa l f args st2=some (r,st2):=by
 intro f args st r st' hf6 hqu ht
 simp only[Fa]at ht ⊢
 simp only[Me,if_pos hf6]at hqu
 split at ht
 ·rename_i e he
  have hok:=h e (List.mem_of_find?_eq_some he)
  obtain ⟨f',e⟩:=e
  simp only[he]at hqu ⊢
  cases e with
  | c spec =>
   simp only[Ent.tab,Option.map_eq_some_iff,Prod.mk.injEq]at ht ⊢
   obtain ⟨r',h1,rfl,rfl⟩:=ht
   exact ⟨rfl,fun st2 he2=>⟨r',hok.1 _ _ _ _ he2 h1,rfl,trivial⟩⟩
  | _=>simp[Ent.calm]at hqu
 ·cases ht
theorem WO {l:AW}:∀f args st r st',Me l (1000000+f)=true→Fa l f args st=some (r,st')→(∀i o,st.obj i=some o→i<st.next)→∀i o,st.obj i=some o→st'.obj i=some o:=by
 intro f args st r st' hqu ht hwf i o ho
 simp only[Fa]at ht
 simp only[Me,if_neg (show ¬1000000+f<1000000 by omega),show 1000000+f-1000000=f by omega]at hqu
 split at ht
 ·rename_i e he
  obtain ⟨f',e⟩:=e
  simp only[he]at hqu
  cases e with
  | a z spec =>
   simp only[Ent.tab,xS]at ht
   split at ht
   ·simp only[Option.map_eq_some_iff,Prod.mk.injEq]at ht
    obtain ⟨es,_,_,rfl⟩:=ht
    have := hwf i o ho
    simp [Store.new,Ab,show i≠st.next by omega,ho]
   ·cases ht
  | _=>simp[Ent.anew]at hqu
 ·cases ht
section
variable {P:Program}
theorem DO {l:AW} (h:Bv P l) {muts frz:Nat→Bool} {num:Nat→Nat} {yl:Option (Nat×Gx)} {dep:Nat} {rnd:Bool}:Bx ⟨P,Fa l,muts,RV l,frz,num,yl,dep,rnd,Me l⟩:=by
 refine ⟨?_,WO,WN h⟩
 intro f args st r st' hqu ht
 simp only[Fa]at ht
 simp only[RV]at hqu
 split at ht
 ·rename_i e he
  have hok:=h e (List.mem_of_find?_eq_some he)
  obtain ⟨f',e⟩:=e
  simp only[he]at hqu
  cases e with
  | m mk spec=>simp[Ent.quiet]at hqu
  | a z spec=>simp[Ent.quiet]at hqu
  | s z g spec=>simp[Ent.quiet]at hqu
  | x spec=>simp[Ent.quiet]at hqu
  | c spec=>simp[Ent.quiet]at hqu
  | v spec =>
   refine ⟨(Ox hok ht).1,fun hp st2=>?_⟩
   simp only[Fa,he]
   simp only[Ent.tab]at ht ⊢
   unfold cA at ht ⊢
   rw [if_pos hp]at ht ⊢
   simp only[Option.map_eq_some_iff,Prod.mk.injEq]at ht ⊢
   obtain ⟨q,h1,h2,h3⟩:=ht
   exact ⟨q,h1,h2,trivial⟩
 ·cases ht
def K3 (frz:List Nat) (d:Nat):Nat:=if frz.contains (100000+d)then 1 else if frz.contains (200000+d)then 2 else if frz.contains (300000+d)then 3 else if frz.contains (500000+d)then 4 else 0
def cfg (P:Program) (l:AW) (muts:List Nat) (frz:List Nat := []) (dep:Nat:=0) (yl:Option (Nat×Gx):=none) (rnd:Bool:=false):Cfg:=⟨P,Fa l,fun d=>muts.contains d,RV l,fun d=>frz.contains d,K3 frz,yl,dep,rnd,Me l⟩
theorem VC.of_small {f:FuncId} {args:List PV} {r:PV} (h:AK args→VC P f args r) (hen:Dx P f):VC P f args r:=by
 refine ⟨hen,fun imm w vals himm hv=>?_⟩
 have hs:AK args:=Fs fun p hp=>by
  obtain ⟨i,hi⟩:=List.mem_iff_getElem?.1 hp
  exact (hv.2 i p hi).small
 exact (h hs).2 imm w vals himm hv
theorem WQ (hmix:P.follows .mixedOrders=true) {l:AW} (hl:Bv P l) (muts:List Nat) (frz:List Nat) {f:FuncId} {fn:Func} {c:Code} (hf:P.funcs[f]?=some fn) (hb:fn.body=some c)
  (hname : (fn.name == "runtime.NumGoroutine") = false) {args : List PV} {N : Nat} (hN : fn.ntmps = N) (hn : args.length ≤ N) {rs : List ResultVar} (hrs : fn.results.toList = rs) {r : PV} (n : Nat) {dep : Nat}
  (h : AK args→run (cfg P l muts frz dep) N (Ao P rs (fun p st=>DR st p r)) c [] ⟨GK args,stR n⟩):VC P f args r:=by
 subst hN;subst hrs
 exact VC.of_small (fun hs=>bZ (X:=cfg P l muts frz dep) rfl (GL hl) (DO hl) hmix hf hb hname hn (Md n) (h hs)) ⟨fn,hf,by simp[hb],hname⟩
theorem xT (hmix:P.follows .mixedOrders=true) {l:AW} (hl:Bv P l) (muts:List Nat) (frz:List Nat) {f:FuncId} {fn:Func} {c:Code} (hf:P.funcs[f]?=some fn) (hb:fn.body=some c)
  (hname : (fn.name == "runtime.NumGoroutine") = false) {args : List PV} {N : Nat} (hN : fn.ntmps = N) (hn : args.length ≤ N) {rs : List ResultVar} (hrs : fn.results.toList = rs) {st : Store} {Q : PV → Store → Prop} {dep : Nat}
  (h : run (cfg P l muts frz dep) N (Ao P rs Q) c [] ⟨GK args,st⟩):IXC P f args st Q:=by
 subst hN;subst hrs
 exact Hn (X:=cfg P l muts frz dep) rfl (GL hl) (DO hl) hmix hf hb hname hn (.refl _) h
theorem xU (hmix:P.follows .mixedOrders=true) {l:AW} (hl:Bv P l) (muts:List Nat) (frz:List Nat) {f:FuncId} {fn:Func} {c:Code} (hf:P.funcs[f]?=some fn) (hb:fn.body=some c)
  (hname : (fn.name == "runtime.NumGoroutine") = false) {args : List PV} {N : Nat} (hN : fn.ntmps = N) (hn : args.length ≤ N) {rs : List ResultVar} (hrs : fn.results.toList = rs) {z : Nat} {es : List PV} (n : Nat) {dep : Nat}
  (hs : ∀e∈es,e.scal=true)
  (h : run (cfg P l muts frz dep) N (Ao P rs (fun p st=>(∃id g,p=.ref id g 0 es.length∧st.obj id=some (.arr g z es))∨(es = []∧0<z∧p=.nils))) c [] ⟨GK args,stR n⟩):VCA P f args z es:=by
 subst hN;subst hrs
 obtain ⟨hen,hc⟩:=Hn (X:=cfg P l muts frz dep) rfl (GL hl) (DO hl) hmix hf hb hname hn (Md n) h
 refine ⟨hen,fun imm w vals himm hv=>?_⟩
 refine Calls.mono (hc _ w vals (Us himm) hv) fun e w' he=>?_
 obtain ⟨v,C',p,st',rfl,hle,hi,hvp,hpp⟩:=he
 have hBB:C'.B=w.heap.size:=hle.B
 have hold:∀b,b<w.heap.size→w'.heap[b]?=w.heap[b]?:=fun b hb=>by
  rw [hi.old b (by omega),hle.h];rfl
 rcases hpp with ⟨id,g,rfl,ho⟩ | ⟨rfl,hz,rfl⟩
 case inr =>
  cases hvp
  exact ⟨_,⟨0,0,z,0,0⟩,rfl,⟨by rw[hi.os,hle.os];rfl,by rw[hi.out,hle.out];rfl⟩,hold,by have:=hi.hB;omega,⟨rfl,none,rfl,Nat.le_refl _,fun h=>absurd h (by simp)⟩,⟨rfl,hz,Nat.le_refl _,by simp⟩,fun h=>absurd h (by simp)⟩
 obtain ⟨_,L,hL,hat⟩:=hi.obj id _ ho
 obtain ⟨a1,a2,a3,a4,a5⟩:=hat
 cases hvp with
 | ref _ _ _ _ _ h1 h2 h3 h4 =>
  refine ⟨v,L,rfl,⟨by rw[hi.os,hle.os];rfl,by rw[hi.out,hle.out];rfl⟩,hold,by have:=hi.hB;omega,⟨h1,h4 L hL a1.symm⟩,⟨a2,a3,a4⟩,fun hcap=>?_⟩
  obtain ⟨b1,b2,cs,T,b3,b4,b5⟩:=a5 hcap
  refine ⟨by omega,cs,T,b3,b4,fun i e he C=>?_⟩
  obtain ⟨c1,c2,c3⟩:=b5 i e he
  refine ⟨c1,c2,fun j c hj=>?_⟩
  have hsc:=hs e (List.mem_of_getElem? he)
  refine (c3 j c hj).scal1 (C':=C) ?_
  have hm:=List.mem_of_getElem? hj
  cases e <;> simp only[PV.cells,List.mem_singleton]at hm <;> first | (subst hm;exact hsc) | (cases hm;done) | skip
  ·exact List.all_eq_true.1 hsc c hm
abbrev I (n:Int):PV:=.int .i64 n
abbrev B (b:Bool):PV:=.bool b
@[reducible] def ints (l:List Int):PV:=.lits 1 (l.map (PV.int .i64))
theorem Akz {l:AW} {m f:List Nat} {dp:Nat} {yl:Option (Nat×Gx)} {rnd:Bool}:(cfg P l m f dp yl rnd).P=P:=nrfl rfl
theorem xV {l:AW} {m f:List Nat} {dp:Nat} {yl:Option (Nat×Gx)} {rnd:Bool}:(cfg P l m f dp yl rnd).tab=Fa l:=nrfl rfl
theorem lS {l:AW} {m f:List Nat} {dp:Nat} {yl:Option (Nat×Gx)} {rnd:Bool} {d:Nat}:(cfg P l m f dp yl rnd).muts d=m.contains d:=nrfl rfl
theorem xW {l:AW} {m f:List Nat} {dp:Nat} {yl:Option (Nat×Gx)} {rnd:Bool} {d:Nat}:(cfg P l m f dp yl rnd).num d=K3 f d:=nrfl rfl
end
theorem cC {d:Nat}:K3 [] d=0:=by simp[K3]
theorem lW {f:List Nat} {d:Nat}:K3 f d=if f.contains (100000+d)then 1 else if f.contains (200000+d)then 2 else if f.contains (300000+d)then 3 else if f.contains (500000+d)then 4 else 0:=nrfl rfl
theorem xX {P:Program} {l:AW} {m f:List Nat} {dp:Nat} {yl:Option (Nat×Gx)} {rnd:Bool} {d:Nat}:(cfg P l m f dp yl rnd).frz d=f.contains d:=nrfl rfl
theorem WR {g f:Nat} {e:Ent} {l:AW} {args:List PV} {st:Store}:Fa ((g,e)::l) f args st=if g=f then e.tab args st else Fa l f args st:=by
 unfold Fa
 by_cases h:g=f
 ·subst h;simp
 ·simp [h]
theorem Ak0 {spec:List PV→Option PV} {args:List PV} {st:Store}:(Ent.v spec).tab args st=cA spec args st:=nrfl rfl
theorem Ak1 {mk:MK} {spec:List PV→Option (List (PV×PV))} {args:List PV} {st:Store}:(Ent.m mk spec).tab args st=if AT args=true then (spec args).map fun es=>(.mref st.next 0,st.new (.map 0 mk es))else none:=nrfl rfl
theorem Ak2 {z:Nat} {spec:List PV→Option (List PV)} {args:List PV} {st:Store}:(Ent.a z spec).tab args st=if AT args=true then (spec args).map fun es=>(.ref st.next 0 0 es.length,st.new (.arr 0 z es))else none:=nrfl rfl
theorem Ak3 {spec:List PV→Store→Option (PV×Store)} {args:List PV} {st:Store}:(Ent.x spec).tab args st=spec args st:=nrfl rfl
theorem Ak4 {spec:List PV→(Nat→Option IObj)→Option PV} {args:List PV} {st:Store}:(Ent.c spec).tab args st=(spec args st.obj).map fun r=>(r,st):=nrfl rfl
theorem Ak5 {z g:Nat} {spec:List PV→Option (List PV)} {args:List PV} {st:Store}:(Ent.s z g spec).tab args st=QK z g spec args st:=nrfl rfl
theorem cD {z g g' id gen n:Nat} {spec:List PV→Option (List PV)} {st:Store}:QK z g spec [.ref id gen 0 n,.func (.func g') [] []] st=if g'=g then (st.arr? id gen).bind fun a=>if a.1=z∧n=a.2.length then (spec a.2).map fun es'=>(.tuple [],st.set id (.arr gen z es'))else none else none:=nrfl rfl
theorem WS {z g:Nat} {spec:List PV→Option (List PV)} {st:Store} {p:PV}:QK z g spec [.nils,p] st=some (.tuple [],st):=nrfl rfl
def AY {ι:Type}:ι→Prop:=fun _=>True
noncomputable def Ap {ι ω:Type} (A:ι→List PV) (R:ι→ω) (H:ι→Prop) (args:List PV):Option ω :=
 open Classical in if h:∃i,A i=args∧H i then some (R h.choose)else none
section
variable {ι ω:Type} {A:ι→List PV} {R:ι→ω} {H:ι→Prop}
theorem AC (hinj:∀i j,A i=A j→i=j) {i:ι} (hi:H i):Ap A R H (A i)=some (R i):=by
 unfold Ap
 have h:∃j,A j=A i∧H j:=⟨i,rfl,hi⟩
 rw [dif_pos h,hinj _ _ h.choose_spec.1]
theorem Br (hinj:∀i j,A i=A j→i=j) (i:ι):Ap A R H (A i)=@ite (Option ω) (H i) (Classical.propDecidable _) (some (R i)) none:=by
 by_cases h:H i
 ·rw [if_pos h];exact AC hinj h
 ·rw [if_neg h]
  unfold Ap
  rw [dif_neg]
  rintro ⟨j,hj,hh⟩
  rw [hinj _ _ hj]at hh
  exact h hh
end
section
variable {P:Program} {f:FuncId} {ι:Type} {A:ι→List PV}
theorem Ax {R:ι→PV} {H:ι→Prop} (hok:∀i,H i→VC P f (A i) (R i)):AM P f (.v (Ap A R H)):=by
 intro args r h
 unfold Ap at h
 split at h
 ·rename_i hx
  simp only[Option.some.injEq]at h;subst h
  have := hok _ hx.choose_spec.2
  rw [hx.choose_spec.1]at this;exact this
 ·cases h
theorem Ho {z:Nat} {R:ι→List PV} {H:ι→Prop} (hok:∀i,H i→VCA P f (A i) z (R i)):AM P f (.a z (Ap A R H)):=by
 intro args r h
 unfold Ap at h
 split at h
 ·rename_i hx
  simp only[Option.some.injEq]at h;subst h
  have := hok _ hx.choose_spec.2
  rw [hx.choose_spec.1]at this;exact this
 ·cases h
end
section
variable {P:Program}
theorem WT {f g z:Nat} {ι:Type} {A:ι→List PV} {R:ι→List PV} {H:ι→Prop} (hen:Dx P f) (h0:Agi P f) (hok:∀i,H i→VCS P f g z (A i) (R i)):AM P f (.s z g (Ap A R H)):=by
 refine ⟨hen,h0,fun args r h=>?_⟩
 unfold Ap at h
 split at h
 ·rename_i hx
  simp only[Option.some.injEq]at h;subst h
  have := hok _ hx.choose_spec.2
  rw [hx.choose_spec.1]at this;exact this
 ·cases h
theorem Au:Bv P []:=by intro e h;simp at h
theorem Ad {f:Nat} {x:Ent} {l:AW} (h:AM P f x) (hl:Bv P l):Bv P ((f,x)::l):=by
 intro e he
 rcases List.mem_cons.1 he with rfl | he
 ·exact h
 ·exact hl e he
end
theorem GN {α β:Type} {f:α→β} (hf:∀x y,f x=f y→x=y):∀ {l m:List α},l.map f=m.map f→l=m
 | [],[],_=>rfl
 | [],b::m,h=>by simp at h
 | a::l,[],h=>by simp at h
 | a::l,b::m,h=>by
  simp only[List.map_cons,List.cons.injEq]at h
  rw [hf _ _ h.1,GN hf h.2]
theorem B1 {k:IntKind} {l m:List Int}:(l.map (PV.int k)=m.map (PV.int k))=(l=m):=propext ⟨GN fun x y h=>by injection h,fun h=>by rw[h]⟩
theorem GO {k:IntKind} {l:List Int}:AT (l.map (PV.int k))=true:=L6 fun _=>rfl
theorem lX {l:List (List UInt8)}:AT (l.map PV.str)=true:=L6 fun _=>rfl
theorem inj:True=True:=nrfl rfl
theorem xY {k:IntKind} {l:List Int} {i:Nat} (h:i<l.length):nth (l.map (PV.int k)) i=PV.int k (l.getD i 0):=by simp[nth,h]
theorem xZ {l:List (List UInt8)} {i:Nat} (h:i<l.length):nth (l.map PV.str) i=PV.str (l.getD i []):=by simp[nth,h]
theorem lY {a:PV} {l:List PV}:nth (a::l) 0=a:=nrfl rfl
theorem lZ {a:PV} {l:List PV} {i:Nat}:nth (a::l) (i+1)=nth l i:=by simp[nth]
theorem RY {α β:Type} {f:α→β} {l:List α}:(l.map f).take l.length=l.map f:=by rw[←List.length_map (f:=f)];exact List.take_length
def GS (st:Store) (p:PV) (id z:Nat) (es:List PV):Prop:=∃g,p=.ref id g 0 es.length∧st.obj id=some (.arr g z es)
theorem Agj {st:Store} {id' g n id z:Nat} {es:List PV}:GS st (.ref id' g 0 n) id z es=(id'=id∧n=es.length∧st.obj id=some (.arr g z es)):=by
 refine propext ⟨?_,?_⟩
 ·rintro ⟨g',h1,h2⟩;cases h1;exact⟨rfl,rfl,h2⟩
 ·rintro ⟨rfl,rfl,h⟩;exact⟨g,rfl,h⟩
theorem QL {f:Nat→Option IObj} {id:Nat} {o:Option IObj}:Ab f id o id=o:=by simp[Ab]
theorem RZ {f:Nat→Option IObj} {id i:Nat} {o:Option IObj} (h:(i==id)=false):Ab f id o i=f i:=by
 have : i≠id:=by simpa using h
 simp [Ab,this]
theorem DR.int {st:Store} {k:IntKind} {a b:Int} (h:a=b):DR st (.int k a) (.int k b):=h▸.pure _ rfl
theorem DR.bool {st:Store} {a b:Bool} (h:a=b):DR st (.bool a) (.bool b):=h▸.pure _ rfl
theorem DR.tuple2 {st:Store} {a b c d:PV} (h1:DR st a c) (h2:DR st b d):DR st (.tuple [a,b]) (.tuple [c,d]):=by
 refine .tuple _ _ rfl fun i x y hx hy=>?_
 match i with
 | 0=>simp at hx hy;subst hx;subst hy;exact h1
 | 1=>simp at hx hy;subst hx;subst hy;exact h2
 | i+2=>simp at hx
theorem DR.tuple3 {st:Store} {a b c d e f:PV} (h1:DR st a d) (h2:DR st b e) (h3:DR st c f):DR st (.tuple [a,b,c]) (.tuple [d,e,f]):=by
 refine .tuple _ _ rfl fun i x y hx hy=>?_
 match i with
 | 0=>simp at hx hy;subst hx;subst hy;exact h1
 | 1=>simp at hx hy;subst hx;subst hy;exact h2
 | 2=>simp at hx hy;subst hx;subst hy;exact h3
 | i+3=>simp at hx
inductive DRs (st:Store):List PV→List PV→Prop where
 | nil:DRs st [] []
 | cons {a b:PV} {l m:List PV} (h:DR st a b) (hb:b.isCell=true) (t:DRs st l m):DRs st (a::l) (b::m)
section
variable {st:Store} {l m:List PV}
theorem DRs.get (h:DRs st l m):l.length=m.length∧(∀c∈m,c.isCell=true)∧∀(i:Nat) (c d:PV),l[i]?=some c→m[i]?=some d→DR st c d:=by
 induction h with
 | nil=>exact⟨rfl,by simp,by intro i c d h;simp at h⟩
 | cons h hb t ih =>
  refine ⟨by simp[ih.1],fun c hc=>?_,fun i c d hc hd=>?_⟩
  ·rcases List.mem_cons.1 hc with rfl | hc
   ·exact hb
   ·exact ih.2.1 c hc
  ·cases i with
   | zero=>simp at hc hd;subst hc;subst hd;exact h
   | succ i=>exact ih.2.2 i c d (by simpa using hc) (by simpa using hd)
theorem DR.aggs (h:DRs st l m):DR st (.agg l) (.agg m):=.agg _ _ h.get.1 h.get.2.1 h.get.2.2
end
theorem Ah {n:Int} (h1 : -9223372036854775808≤n) (h2:n≤9223372036854775807):IntKind.i64.wrap n=n:=by rw[IntKind.wrap_i64];omega
theorem yA {p:Prop} [Decidable p]:(!decide p)=decide (¬p):=by by_cases h:p <;> simp[h]
def JW (W:List Nat) (ρ0 ρ:Nat→PV):Nat→PV:=fun t=>if W.contains t=true then ρ t else ρ0 t
section
variable {W:List Nat} {ρ0 ρ:Nat→PV}
theorem Uu {t:Nat} (h:W.contains t=true):JW W ρ0 ρ t=ρ t:=by simp only[JW,h,if_true]
theorem Ja {t:Nat} (h:W.contains t=false):JW W ρ0 ρ t=ρ0 t:=by simp only[JW,h,Bool.false_eq_true,if_false]
def Ic (W:List Nat) (ρ0 ρ:Nat→PV):Prop:=∀t,W.contains t=false→ρ t=ρ0 t
theorem cE {t:Nat} {v:PV} (h:W.contains t=true):Ic W ρ0 (upd ρ t v)=Ic W ρ0 ρ:=by
 refine propext ⟨fun g u hu=>?_,fun g u hu=>?_⟩
 all_goals
  have hne:u≠t:=fun e=>by subst e;rw[h]at hu;cases hu
  have := g u hu
  simpa [upd,hne]using this
theorem Uv:Ic W ρ0 (JW W ρ0 ρ)=True:=eq_true fun t ht=>Ja ht
end
theorem WU {W:List Nat} {ρ0:Nat→PV}:Ic W ρ0 ρ0=True:=eq_true fun _ _=>rfl
theorem IJ {W:List Nat} {ρ0 ρ:Nat→PV} (h:Ic W ρ0 ρ):ρ=JW W ρ0 ρ:=by
 funext t
 cases hc:W.contains t with
 | true=>rw[Uu hc]
 | false=>rw[Ja hc,h t hc]
section
variable {X:Cfg} {N:Nat} {Q:IExit→IState→Prop} {ks:List Kf}
theorem Aw {c:Code} (W:List Nat) (n:Nat) (J:Nat→(Nat→PV)→Store→Prop) {ρ0 ρ1:Nat→PV} {st st1:Store} (hg:Ghost ⟨ρ0,st⟩ ⟨ρ1,st1⟩) (h0:J 0 ρ1 st1)
  (h : ∀k ρ st',k≤n→J k ρ st'→run X N Q c (.lp (fun s''=>k<n∧Ic W ρ1 s''.env∧J (k+1) s''.env s''.st)::ks) ⟨JW W ρ1 ρ,st'⟩) (hm:Bl X:=by first | assumption | exact A7 rfl):run X N Q (.loop c) ks ⟨ρ0,st⟩:=by
 refine RJ hm n (fun k s=>Ic W ρ1 s.env∧J k s.env s.st) hg ⟨fun _ _=>rfl,h0⟩ ?_
 rintro k ⟨env,st'⟩ hk ⟨ha,hJ⟩
 dsimp only at ha hJ
 have := h k env st' hk hJ
 rwa [←IJ ha]at this
theorem El {c:Code} (W:List Nat) (n:Nat) (J:Nat→(Nat→PV)→Store→Prop) {ρ0 ρ1:Nat→PV} {st st1:Store} (hg:Ghost ⟨ρ0,st⟩ ⟨ρ1,st1⟩) (h0:J n ρ1 st1)
  (h : ∀m ρ st',J m ρ st'→run X N Q c (.lp (fun s''=>∃m',m'<m∧Ic W ρ1 s''.env∧J m' s''.env s''.st)::ks) ⟨JW W ρ1 ρ,st'⟩) (hm:Bl X:=by first | assumption | exact A7 rfl):run X N Q (.loop c) ks ⟨ρ0,st⟩:=by
 refine T6 (fun m s=>Ic W ρ1 s.env∧J m s.env s.st) n hg ⟨fun _ _=>rfl,h0⟩ ?_
 rintro m ⟨env,st'⟩ ⟨ha,hJ⟩
 dsimp only at ha hJ
 have := Ni hm (fun s'' ⟨m',h1,h2⟩=>(⟨m',h1,s'',.refl _,h2⟩:∃m',m'<m∧∃s3,Ghost s'' s3∧(Ic W ρ1 s3.env∧J m' s3.env s3.st))) (h m env st' hJ)
 rwa [←IJ ha]at this
end
mutual
def DRx (st:Store):PV→PV→Prop
 | .int k a,.int k' b=>k=k'∧a=b
 | .bool a,.bool b=>a=b
 | .str a,.str b=>a=b
 | .nils,.lits _ l=>l = []
 | .lits z l,.lits z' m=>z=z'∧l=m∧AT m=true
 | .ref id gen s n,.lits z l=>∃es,st.arr? id gen=some (z,es)∧s+n≤es.length∧AT es=true∧(es.drop s).take n=l
 | .agg cs,.agg ds=>(∀c∈ds,c.isCell=true)∧DRxL st cs ds
 | .tuple cs,.tuple ds=>DRxL st cs ds
 | p,q=>p=q∧q.pur=true
def DRxL (st:Store):List PV→List PV→Prop
 | [],[]=>True
 | a::l,b::m=>DRx st a b∧DRxL st l m
 | _,_=>False
end
theorem Ak6 {st:Store} {id gen s n z:Nat} {es:List PV} (h:st.arr? id gen=some (z,es)) (hn:s+n≤es.length) (hp:AT es=true):DR st (.ref id gen s n) (.lits z ((es.drop s).take n)) :=
 Wl (by simp[rdC,h,hn,hp])
mutual
theorem DRx.sound {st:Store}:∀ {p q:PV},DRx st p q→DR st p q
 | .int k a,q,h=>by
  cases q <;> simp only[DRx,reduceCtorEq,false_and]at h
  obtain ⟨rfl,rfl⟩:=h;exact .pure _ rfl
 | .bool a,q,h=>by
  cases q <;> simp only[DRx,reduceCtorEq,false_and]at h
  subst h;exact .pure _ rfl
 | .str a,q,h=>by
  cases q <;> simp only[DRx,reduceCtorEq,false_and]at h
  subst h;exact .pure _ rfl
 | .nils,q,h=>by
  cases q <;> simp only[DRx,reduceCtorEq,false_and]at h
  ·exact .pure _ rfl
  ·subst h;exact .nils _
 | .lits z l,q,h=>by
  cases q <;> simp only[DRx,reduceCtorEq,false_and]at h
  obtain ⟨rfl,rfl,hp⟩:=h;exact .pure _ hp
 | .ref id gen s n,q,h=>by
  cases q <;> simp only[DRx,reduceCtorEq,false_and]at h
  ·obtain ⟨es,h1,h2,h3,rfl⟩:=h;exact Ak6 h1 h2 h3
  ·simp [PV.pur]at h
 | .agg cs,q,h=>by
  cases q <;> simp only[DRx,reduceCtorEq,false_and]at h
  exact .agg _ _ (DRxL.sound h.2).1 h.1 (DRxL.sound h.2).2
 | .tuple cs,q,h=>by
  cases q <;> simp only[DRx,reduceCtorEq,false_and]at h
  exact .tuple _ _ (DRxL.sound h).1 (DRxL.sound h).2
 | .bad,q,h=>by cases q <;> simp only[DRx,reduceCtorEq,false_and]at h <;> simp[PV.pur]at h
 | .nilp,q,h=>by cases q <;> simp only[DRx,reduceCtorEq,false_and]at h;exact .pure _ rfl
 | .ptr ..,q,h=>by cases q <;> simp only[DRx,reduceCtorEq,false_and]at h;simp[PV.pur]at h
 | .vptr ..,q,h=>by cases q <;> simp only[DRx,reduceCtorEq,false_and]at h;rw[h.1];exact .pure _ h.2
 | .func ..,q,h=>by cases q <;> simp only[DRx,reduceCtorEq,false_and]at h;rw[h.1];exact .pure _ h.2
 | .nilf,q,h=>by cases q <;> simp only[DRx,reduceCtorEq,false_and]at h;exact .pure _ rfl
 | .iface ..,q,h=>by cases q <;> simp only[DRx,reduceCtorEq,false_and]at h;rw[h.1];exact .pure _ h.2
 | .nili,q,h=>by cases q <;> simp only[DRx,reduceCtorEq,false_and]at h;exact .pure _ rfl
 | .nilm,q,h=>by cases q <;> simp only[DRx,reduceCtorEq,false_and]at h;exact .pure _ rfl
 | .mref ..,q,h=>by cases q <;> simp only[DRx,reduceCtorEq,false_and]at h;simp[PV.pur]at h
 | .iter ..,q,h=>by cases q <;> simp only[DRx,reduceCtorEq,false_and]at h;simp[PV.pur]at h
theorem DRxL.sound {st:Store}:∀ {l m:List PV},DRxL st l m→l.length=m.length∧∀(i:Nat) (c d:PV),l[i]?=some c→m[i]?=some d→DR st c d
 | [],m,h=>by
  cases m <;> simp only[DRxL]at h
  exact ⟨rfl,by intro i c d h;simp at h⟩
 | a::l,m,h=>by
  cases m <;> simp only[DRxL]at h
  obtain ⟨h1,h2⟩:=DRxL.sound h.2
  refine ⟨by simp[h1],fun i c d hc hd=>?_⟩
  cases i with
  | zero=>simp at hc hd;subst hc;subst hd;exact DRx.sound h.1
  | succ i=>exact h2 i c d (by simpa using hc) (by simpa using hd)
end
theorem WV (b:Bool):PV.cells (PV.bool b) = [(PV.bool b)]:=nrfl rfl
theorem WW (b:Bool):PV.scal1 (PV.bool b)=true:=nrfl rfl
theorem cF (b:Bool):PV.scal (PV.bool b)=true:=nrfl rfl
theorem mD (b:Bool):PV.pur (PV.bool b)=true:=by simp only[PV.pur]
theorem mE (st:Store) (b:Bool):rdC st (PV.bool b)=some (PV.bool b):=by simp[rdC,PV.pur]
theorem mF (st:Store) (b:Bool):rdP st (PV.bool b)=some (PV.bool b):=by simp[rdP,rdC,PV.pur]
theorem Uw (b:Bool):PV.isCell (PV.bool b)=true:=nrfl rfl
theorem cG (k:IntKind) (n:Int):PV.cells (PV.int k n) = [(PV.int k n)]:=nrfl rfl
theorem cI (k:IntKind) (n:Int):PV.scal1 (PV.int k n)=true:=nrfl rfl
theorem mG (k:IntKind) (n:Int):PV.scal (PV.int k n)=true:=nrfl rfl
theorem Fk (k:IntKind) (n:Int):PV.pur (PV.int k n)=true:=by simp only[PV.pur]
theorem yB (st:Store) (k:IntKind) (n:Int):rdC st (PV.int k n)=some (PV.int k n):=by simp[rdC,PV.pur]
theorem yC (st:Store) (k:IntKind) (n:Int):rdP st (PV.int k n)=some (PV.int k n):=by simp[rdP,rdC,PV.pur]
theorem WX (k:IntKind) (n:Int):PV.isCell (PV.int k n)=true:=nrfl rfl
theorem cJ (s:List UInt8):PV.cells (PV.str s) = [(PV.str s)]:=nrfl rfl
theorem cK (s:List UInt8):PV.scal1 (PV.str s)=true:=nrfl rfl
theorem mH (s:List UInt8):PV.scal (PV.str s)=true:=nrfl rfl
theorem yD (s:List UInt8):PV.pur (PV.str s)=true:=by simp only[PV.pur]
theorem yE (st:Store) (s:List UInt8):rdC st (PV.str s)=some (PV.str s):=by simp[rdC,PV.pur]
theorem yF (st:Store) (s:List UInt8):rdP st (PV.str s)=some (PV.str s):=by simp[rdP,rdC,PV.pur]
theorem WY (s:List UInt8):PV.isCell (PV.str s)=true:=nrfl rfl
theorem WZ  : PV.cells PV.nilp = [PV.nilp]:=nrfl rfl
theorem W0  : PV.scal1 PV.nilp=true:=nrfl rfl
theorem cM  : PV.scal PV.nilp=true:=nrfl rfl
theorem mI  : PV.pur PV.nilp=true:=by simp only[PV.pur]
theorem mJ (st:Store)  : rdC st PV.nilp=some PV.nilp:=by simp[rdC,PV.pur]
theorem mK (st:Store)  : rdP st PV.nilp=some PV.nilp:=by simp[rdP,rdC,PV.pur]
theorem cN (i g x o:Nat):PV.cells (PV.ptr i g x o) = [(PV.ptr i g x o)]:=nrfl rfl
theorem W1 (cs:List PV) (o:Nat):PV.cells (PV.vptr cs o) = [(PV.vptr cs o)]:=nrfl rfl
theorem Ux (cs:List PV) (o:Nat):PV.pur (PV.vptr cs o)=AT cs:=by simp only[PV.pur]
theorem mL (st:Store) (cs:List PV) (o:Nat):rdC st (PV.vptr cs o)=if AT cs=true then some (PV.vptr cs o)else none:=by simp only[rdC,PV.pur];congr
theorem mM (st:Store) (cs:List PV) (o:Nat):rdP st (PV.vptr cs o)=if AT cs=true then some (PV.vptr cs o)else none:=by simp only[rdP,rdC,PV.pur];congr
theorem W3  : PV.cells PV.nils = [PV.nils]:=nrfl rfl
theorem W4  : PV.scal1 PV.nils=true:=nrfl rfl
theorem cO  : PV.scal PV.nils=true:=nrfl rfl
theorem mN  : PV.pur PV.nils=true:=by simp only[PV.pur]
theorem mO (st:Store)  : rdC st PV.nils=some PV.nils:=by simp[rdC,PV.pur]
theorem mP (st:Store)  : rdP st PV.nils=some PV.nils:=by simp[rdP,rdC,PV.pur]
theorem Uy  : PV.isCell PV.nils=true:=nrfl rfl
theorem W5 (z:Nat) (l:List PV):PV.cells (PV.lits z l) = [(PV.lits z l)]:=nrfl rfl
theorem W6 (z:Nat) (l:List PV):PV.scal1 (PV.lits z l)=false:=nrfl rfl
theorem cP (z:Nat) (l:List PV):PV.scal (PV.lits z l)=false:=nrfl rfl
theorem K4 (z:Nat) (l:List PV):PV.pur (PV.lits z l)=AT l:=by simp only[PV.pur]
theorem mQ (st:Store) (z:Nat) (l:List PV):rdC st (PV.lits z l)=if AT l=true then some (PV.lits z l)else none:=by simp only[rdC,PV.pur];congr
theorem mR (st:Store) (z:Nat) (l:List PV):rdP st (PV.lits z l)=if AT l=true then some (PV.lits z l)else none:=by simp only[rdP,rdC,PV.pur];congr
theorem Uz (z:Nat) (l:List PV):PV.isCell (PV.lits z l)=true:=nrfl rfl
theorem cQ (i g s n:Nat):PV.cells (PV.ref i g s n) = [(PV.ref i g s n)]:=nrfl rfl
theorem yG (i g s n:Nat):PV.pur (PV.ref i g s n)=false:=by simp only[PV.pur]
theorem cR (i g s n:Nat):PV.scal1 (PV.ref i g s n)=false:=nrfl rfl
theorem yH (st:Store) (i g s n:Nat):rdC st (PV.ref i g s n)=(st.arr? i g).bind fun q=>if s+n≤q.2.length∧AT q.2=true then some (.lits q.1 ((q.2.drop s).take n))else none:=by simp only[rdC]
theorem yJ (st:Store) (i g s n:Nat):rdP st (PV.ref i g s n)=(st.arr? i g).bind fun q=>if s+n≤q.2.length∧AT q.2=true then some (.lits q.1 ((q.2.drop s).take n))else none:=by simp only[rdP,rdC]
theorem W7 (f:Fn) (a b:List PV):PV.cells (PV.func f a b) = [(PV.func f a b)]:=nrfl rfl
theorem UA (f:Fn) (a b:List PV):PV.pur (PV.func f a b)=(AT a&&AT b):=by simp only[PV.pur]
theorem mS (st:Store) (f:Fn) (a b:List PV):rdC st (PV.func f a b)=if (AT a&&AT b)=true then some (PV.func f a b)else none:=by simp only[rdC,PV.pur];congr
theorem mT (st:Store) (f:Fn) (a b:List PV):rdP st (PV.func f a b)=if (AT a&&AT b)=true then some (PV.func f a b)else none:=by simp only[rdP,rdC,PV.pur];congr
theorem W8  : PV.cells PV.nilf = [PV.nilf]:=nrfl rfl
theorem W9  : PV.scal1 PV.nilf=true:=nrfl rfl
theorem cT  : PV.scal PV.nilf=true:=nrfl rfl
theorem mU  : PV.pur PV.nilf=true:=by simp only[PV.pur]
theorem mV (st:Store)  : rdC st PV.nilf=some PV.nilf:=by simp[rdC,PV.pur]
theorem mW (st:Store)  : rdP st PV.nilf=some PV.nilf:=by simp[rdP,rdC,PV.pur]
theorem UB  : PV.isCell PV.nilf=true:=nrfl rfl
theorem UC (t:TypeId) (v:PV):PV.cells (PV.iface t v) = [(PV.iface t v)]:=nrfl rfl
theorem Xa  : PV.cells PV.nili = [PV.nili]:=nrfl rfl
theorem Xb  : PV.scal1 PV.nili=true:=nrfl rfl
theorem cU  : PV.scal PV.nili=true:=nrfl rfl
theorem mZ  : PV.pur PV.nili=true:=by simp only[PV.pur]
theorem nA (st:Store)  : rdC st PV.nili=some PV.nili:=by simp[rdC,PV.pur]
theorem nB (st:Store)  : rdP st PV.nili=some PV.nili:=by simp[rdP,rdC,PV.pur]
theorem UD  : PV.isCell PV.nili=true:=nrfl rfl
theorem cV (l:List PV):PV.cells (PV.agg l)=l:=nrfl rfl
theorem nC (l:List PV):PV.scal (PV.agg l)=l.all PV.scal1:=nrfl rfl
theorem Hp (l:List PV):PV.pur (PV.agg l)=AT l:=by simp only[PV.pur]
theorem yK (st:Store) (l:List PV):rdP st (PV.agg l)=(rdL st l).bind fun ds=>if ds.all PV.isCell=true then some (.agg ds)else none:=by simp only[rdP]
theorem Xc (l:List PV):PV.scal (PV.tuple l)=l.all PV.scal1:=nrfl rfl
theorem cW (l:List PV):PV.pur (PV.tuple l)=AT l:=by simp only[PV.pur]
theorem Xd  : PV.cells PV.nilm = [PV.nilm]:=nrfl rfl
theorem Xe  : PV.scal1 PV.nilm=true:=nrfl rfl
theorem cX  : PV.scal PV.nilm=true:=nrfl rfl
theorem nD  : PV.pur PV.nilm=true:=by simp only[PV.pur]
theorem nE (st:Store)  : rdC st PV.nilm=some PV.nilm:=by simp[rdC,PV.pur]
theorem nF (st:Store)  : rdP st PV.nilm=some PV.nilm:=by simp[rdP,rdC,PV.pur]
theorem yL (st:Store) (k k2:IntKind) (a b:Int):DRx st (.int k a) (.int k2 b)=(k=k2∧a=b):=by rw[DRx]
theorem nG (st:Store) (a b:Bool):DRx st (.bool a) (.bool b)=(a=b):=by rw[DRx]
theorem yM (st:Store) (a b:List UInt8):DRx st (.str a) (.str b)=(a=b):=by rw[DRx]
theorem P5 (st:Store) (z:Nat) (l:List PV):DRx st .nils (.lits z l)=(l = []):=by rw[DRx]
theorem P6 (st:Store):DRx st .nils .nils=True:=by simp[DRx,PV.pur]
theorem nH (st:Store) (z y:Nat) (l m:List PV):DRx st (.lits z l) (.lits y m)=(z=y∧l=m∧AT m=true):=by rw[DRx]
theorem yN (st:Store) (i g s n z:Nat) (l:List PV):DRx st (.ref i g s n) (.lits z l)=∃es,st.arr? i g=some (z,es)∧s+n≤es.length∧AT es=true∧(es.drop s).take n=l:=by rw[DRx]
theorem yO (st:Store) (l m:List PV):DRx st (.agg l) (.agg m)=(m.all PV.isCell=true∧DRxL st l m):=by rw[DRx,List.all_eq_true]
theorem cZ (st:Store) (l m:List PV):DRx st (.tuple l) (.tuple m)=DRxL st l m:=by rw[DRx]
theorem dB (st:Store) (a b:PV) (l m:List PV):DRxL st (a::l) (b::m)=(DRx st a b∧DRxL st l m):=by rw[DRxL]
theorem nI (st:Store):DRxL st [] []=True:=by rw[DRxL]
theorem R3 {X:Cfg} (hm:Bl X) {N:Nat} {Q Q':IExit→IState→Prop} {c:Code} {s:IState} (h:∀e s,Q e s→Q' e s) (hr:run X N Q c [] s):run X N Q' c [] s:=QC hm h hr
theorem Afo {P:Program} (hmix:P.follows .mixedOrders=true) {l:AW} (hl:Bv P l) (muts:List Nat) (frz:List Nat) {f:FuncId} {fn:Func} {c:Code} (hf:P.funcs[f]?=some fn) (hb:fn.body=some c)
  (hname : (fn.name == "runtime.NumGoroutine") = false) {args : List PV} {N : Nat} (hN : fn.ntmps = N) (hn : args.length ≤ N) {rs : List ResultVar} (hrs : fn.results.toList = rs) {r : PV} (n : Nat) {dep : Nat}
  (h : AK args→run (cfg P l muts frz dep) N (Ao P rs (fun p st=>DRx st p r)) c [] ⟨GK args,stR n⟩):VC P f args r :=
 WQ hmix hl muts frz hf hb hname hN hn hrs n fun hs=>R3 (A7 rfl) (fun e s hq=>by
  cases e with
  | normal=>obtain⟨p,h1,h2⟩:=hq;exact⟨p,h1,h2.sound⟩
  | exit i=>exact hq.elim
  | ret=>obtain⟨p,h1,h2⟩:=hq;exact⟨p,h1,h2.sound⟩) (h hs)
end Sim
