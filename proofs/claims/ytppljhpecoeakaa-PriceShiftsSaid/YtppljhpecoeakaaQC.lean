/- What functions of this seat compute, by values: contracts (lemmas of the statement's proof, under the conditions that each names). -/
import Derived.Test.YtppljhpecoeakaaQPX
import Derived.Test.YtppljhpecoeakaaQV
set_option linter.unusedVariables false
set_option linter.unusedSimpArgs false
set_option maxRecDepth 10000
set_option maxHeartbeats 2000000
namespace Sim
def rA (p:Nat→Arc) (f:Nat→Int):Nat→List Arc
 | 0 => []
 | n+1=>rA p f n ++ [((p n).2.1,(p n).1,(p n).2.2.1-f n,(p n).2.2.2),((p n).1,(p n).2.1,f n,-(p n).2.2.2)]
section
variable {p:Nat→Arc} {f:Nat→Int}
theorem HC:∀ {n},(rA p f n).length=2*n
 | 0=>rfl
 | n+1=>by rw[rA,List.length_append,HC];simp;omega
theorem XB:∀ {n i:Nat},i<n→(rA p f n).getD (2*i) dA=((p i).2.1,(p i).1,(p i).2.2.1-f i,(p i).2.2.2)
 | 0,i,h=>absurd h (by omega)
 | n+1,i,h=>by
  by_cases e:i=n
  ·subst e
   rw [rA,List.getD_eq_getElem?_getD,List.getElem?_append_right (by rw[HC];omega),HC]
   simp
  ·rw [rA,List.getD_eq_getElem?_getD,List.getElem?_append_left (by rw[HC];omega),←List.getD_eq_getElem?_getD,XB (by omega)]
theorem mU:∀ {n i:Nat},i<n→(rA p f n).getD (2*i+1) dA=((p i).1,(p i).2.1,f i,-(p i).2.2.2)
 | 0,i,h=>absurd h (by omega)
 | n+1,i,h=>by
  by_cases e:i=n
  ·subst e
   rw [rA,List.getD_eq_getElem?_getD,List.getElem?_append_right (by rw[HC];omega),HC,show 2*i+1-2*i=1 by omega]
   simp
  ·rw [rA,List.getD_eq_getElem?_getD,List.getElem?_append_left (by rw[HC];omega),←List.getD_eq_getElem?_getD,mU (by omega)]
end
theorem Ad1 {A:List Arc} {N s:Nat} {st:BS} {M:Int} (cs:st.cost.getD s 0=0) {v:Nat} {P:List Nat} (h:IsP A s v P):(∀k∈P,-M≤aP A k∧aP A k≤M∧aP A k+st.cost.getD (aF A k) 0-st.cost.getD (aT A k) 0=0) → -(M*(P.length:Int))≤st.cost.getD v 0∧st.cost.getD v 0≤M*(P.length:Int):=by
 induction h with
 | nil=>intro _;rw[cs];simp
 | cons k P h ih =>
  intro g
  have i:=ih fun j hj=>g j (List.mem_cons_of_mem _ hj)
  have q:=g k (List.mem_cons_self ..)
  rw [List.length_cons]
  have e:M*((P.length+1:Nat):Int)=M*(P.length:Int)+M:=by rw[show ((P.length+1:Nat):Int)=(P.length:Int)+1 by omega,Int.mul_add,Int.mul_one]
  omega
namespace TN
section
variable {T:TN} {D a c:Nat} {b:Int} {g:Nat→Nat→Int}
theorem lam_ex (ok:T.OK D) (ha:a<T.h) (P:T.Plan D a c b g) {f:Nat→Int} (hw:∀t x,t<D→x<T.h→T.wf f x t=T.stk a b g t x-T.outF g x t) (hg:∀t k,t<D→k<T.L→T.gf f k t=g k t) (hb:b<1099511627776)
  (hp : ∃φ,(T.G D a c).Pot f φ):∃lam:Nat→Nat→Int,T.Lam D g (fun t x=>T.stk a b g t x-T.outF g x t) lam∧(∀t x,0≤lam t x)∧lam 0 a=0∧∀t x,t≤D→x<T.h→lam t x≤1000000*(((D+1)*T.h:Nat):Int):=by
 obtain ⟨φ,hφ⟩:=hp
 have hpo:=TN.p_ok ok
 obtain ⟨A,hA⟩:∃A,rA T.p f (D*T.W)=A:=⟨_,rfl⟩
 obtain ⟨N,hN⟩:∃N,(D+1)*T.h=N:=⟨_,rfl⟩
 have hlen:A.length=2*(D*T.W):=by rw[←hA];exact HC
 have he:∀i,i<D*T.W→A.getD (2*i) dA=((T.p i).2.1,(T.p i).1,(T.p i).2.2.1-f i,(T.p i).2.2.2):=fun i hi=>by rw[←hA];exact XB hi
 have ho:∀i,i<D*T.W→A.getD (2*i+1) dA=((T.p i).1,(T.p i).2.1,f i,-(T.p i).2.2.2):=fun i hi=>by rw[←hA];exact mU hi
 have hs:a<N:=by
  have := TN.node_lt (T:=T) (D:=D) (t:=0) (by omega) ha
  rw [Nat.zero_mul,Nat.zero_add,hN]at this
  exact this
 rw [hN]at hpo
 have G:Gb A N a (fun v => - φ v):=by
  refine ⟨fun k hk=>?_,hs,fun k hk=>?_,fun k hk hl=>?_⟩
  all_goals (rw[hlen]at hk;obtain⟨i,hi,rfl | rfl⟩:=B5 hk)
  ·unfold aF aT;rw[he i hi];have:=hpo i hi;exact⟨this.2.1,this.1⟩
  ·unfold aF aT;rw[ho i hi];have:=hpo i hi;exact⟨this.1,this.2.1⟩
  ·unfold aP;rw[he i hi];have:=hpo i hi;dsimp only;omega
  ·unfold aP;rw[ho i hi];have:=hpo i hi;dsimp only;omega
  ·unfold aF aT aP;unfold aL at hl;rw[he i hi]at hl ⊢
   have h1:f i<(T.G D a c).cap i→0≤(T.p i).2.2.2+φ (T.p i).1-φ (T.p i).2.1:=(hφ i hi).1
   have h2:(T.G D a c).cap i=(T.p i).2.2.1:=rfl
   dsimp only at hl ⊢
   have := h1 (by omega)
   omega
  ·unfold aF aT aP;unfold aL at hl;rw[ho i hi]at hl ⊢
   have h1:0<f i→(T.p i).2.2.2+φ (T.p i).1-φ (T.p i).2.1≤0:=(hφ i hi).2
   dsimp only at hl ⊢
   have := h1 hl
   omega
 have F:=wT G
 obtain ⟨st,hst⟩:∃st,Qt A N a=st:=⟨_,rfl⟩
 rw [hst]at F
 -- the arcs of the houses and links
 have hW:=fun {t x:Nat} (ht:t<D) (hx:x<T.h)=>(TN.pair_lt (T:=T) ht (j:=x) (show x<T.h+T.L by omega))
 have hK:=fun {t k:Nat} (ht:t<D) (hk:k<T.L)=>(TN.pair_lt (T:=T) ht (j:=T.h+k) (show T.h+k<T.h+T.L by omega))
 have clo:∀ {k:Nat},k<A.length→0<aL A k→Rch A a (aF A k)→Rch A a (aT A k)∧st.cost.getD (aT A k) 0≤st.cost.getD (aF A k) 0+aP A k:=fun hk hl hr=>⟨.arc _ hk hl hr,F.clo _ hk hl hr⟩
 -- over a house, forward in the flow, backward here
 have arcH:∀ {t x:Nat},t<D→x<T.h→Rch A a ((t+1)*T.h+x)→T.wf f x t<1099511627776→Rch A a (t*T.h+x)∧st.cost.getD (t*T.h+x) 0≤st.cost.getD ((t+1)*T.h+x) 0:=fun {t x} ht hx hr hlt=>by
  have hi:=hW ht hx
  have e:=he _ hi
  rw [TN.p_house hx]at e
  have := clo (k:=2*(t*T.W+x)) (by omega) (by unfold aL;rw[e];dsimp only;unfold wf at hlt;omega) (by unfold aF;rw[e];exact hr)
  unfold aT aF aP at this
  rw [e]at this
  dsimp only at this
  rw [Int.add_zero]at this
  exact this
 have arcH':∀ {t x:Nat},t<D→x<T.h→Rch A a (t*T.h+x)→0<T.wf f x t→Rch A a ((t+1)*T.h+x)∧st.cost.getD ((t+1)*T.h+x) 0≤st.cost.getD (t*T.h+x) 0:=fun {t x} ht hx hr hlt=>by
  have hi:=hW ht hx
  have e:=ho _ hi
  rw [TN.p_house hx]at e
  have := clo (k:=2*(t*T.W+x)+1) (by omega) (by unfold aL;rw[e];exact hlt) (by unfold aF;rw[e];exact hr)
  unfold aT aF aP at this
  rw [e]at this
  dsimp only at this
  rw [Int.neg_zero,Int.add_zero]at this
  exact this
 have arcK:∀ {t k:Nat},t<D→k<T.L→Rch A a ((t+1)*T.h+T.to k)→g k t<T.lf k t→Rch A a (t*T.h+T.fr k)∧st.cost.getD (t*T.h+T.fr k) 0≤st.cost.getD ((t+1)*T.h+T.to k) 0+T.pr k t:=fun {t k} ht hk hr hlt=>by
  have hi:=hK ht hk
  have e:=he _ hi
  have hgk:=hg t k ht hk
  unfold gf at hgk
  rw [TN.p_link hk]at e
  have := clo (k:=2*(t*T.W+(T.h+k))) (by omega) (by unfold aL;rw[e];dsimp only;omega) (by unfold aF;rw[e];exact hr)
  unfold aT aF aP at this
  rw [e]at this
  exact this
 have arcK':∀ {t k:Nat},t<D→k<T.L→Rch A a (t*T.h+T.fr k)→0<g k t→Rch A a ((t+1)*T.h+T.to k)∧st.cost.getD ((t+1)*T.h+T.to k) 0≤st.cost.getD (t*T.h+T.fr k) 0-T.pr k t:=fun {t k} ht hk hr hlt=>by
  have hi:=hK ht hk
  have e:=ho _ hi
  have hgk:=hg t k ht hk
  unfold gf at hgk
  rw [TN.p_link hk]at e
  have := clo (k:=2*(t*T.W+(T.h+k))+1) (by omega) (by unfold aL;rw[e];dsimp only;omega) (by unfold aF;rw[e];exact hr)
  unfold aT aF aP at this
  rw [e]at this
  dsimp only at this
  refine ⟨this.1,by omega⟩
 -- what carries
 have carry:∀t,t≤D→∀x,x<T.h→0<T.stk a b g t x→Rch A a (t*T.h+x)∧st.cost.getD (t*T.h+x) 0≤0:=fun t=>by
  induction t with
  | zero =>
   intro _ x hx h
   have : T.stk a b g 0 x=if a=x then b else 0:=rfl
   rw [this]at h
   by_cases e:a=x
   ·subst e
    rw [Nat.zero_mul,Nat.zero_add]
    exact ⟨.src,by rw[F.cs];exact Int.le_refl _⟩
   ·rw [if_neg e]at h;omega
  | succ t ih =>
   intro ht x hx h
   by_cases c0:0<T.stk a b g t x-T.outF g x t
   ·have ho':=J5 P (x:=x) (t:=t) (by omega)
    obtain ⟨r1,r2⟩:=ih (by omega) x hx (by omega)
    obtain ⟨r3,r4⟩:=arcH' (by omega) hx r1 (by rw[hw t x (by omega) hx];exact c0)
    exact ⟨r3,by omega⟩
   ·have hst':=P.st t x (by omega) hx
    have hin:0<T.inF g x t:=by rw[TN.stk]at h;omega
    have : ∃k,k<T.L∧T.to k=x∧0<g k t:=by
     refine Classical.byContradiction fun hno=>?_
     have : T.inF g x t=0:=A3 fun k hk=>by
      by_cases e:T.to k=x
      ·rw [if_pos e]
       have := P.nn k t hk (by omega)
       have : ¬0<g k t:=fun g=>hno ⟨k,hk,e,g⟩
       omega
      ·rw [if_neg e]
     omega
    obtain ⟨k,hk,e,hgk⟩:=this
    obtain ⟨s1,_⟩:=J6 P (fun k hk=>(ok.e k hk).1) (fun k hk=>(ok.e k hk).2) hk (by omega) hgk
    obtain ⟨r1,r2⟩:=ih (by omega) (T.fr k) (ok.e k hk).1 s1
    obtain ⟨r3,r4⟩:=arcK' (by omega) hk r1 hgk
    have :=(ok.pr k t hk (by omega)).1
    rw [e]at r3 r4
    exact ⟨r3,by omega⟩
 -- the bound
 have bnd:∀v,v<N→Rch A a v → -(1000000*(N:Int))≤st.cost.getD v 0:=fun v hv hr=>by
  obtain ⟨P',_,q2,q3,q4⟩:=F.path v hv hr
  have hl:=CT N _ q3 fun x hx=>by
   obtain ⟨k,hk,rfl⟩:=List.mem_map.1 hx
   exact (G.ar k (q4 k hk).1).2
  rw [List.length_map]at hl
  have :=(Ad1 (N:=N) (M:=1000000) F.cs q2 fun k hk=>⟨(G.pr k (q4 k hk).1).1,(G.pr k (q4 k hk).1).2,(q4 k hk).2.2.2.2⟩).1
  omega
 refine ⟨fun t x=>@ite _ (Rch A a (t*T.h+x)) (Classical.propDecidable _) (max 0 (-(st.cost.getD (t*T.h+x) 0))) 0,⟨fun k hk=>(ok.e k hk).1,fun k hk=>(ok.e k hk).2,fun t k ht hk h=>?_,fun t k ht hk h=>?_,fun t x ht hx=>?_,fun t x ht hx h=>?_⟩,fun t x=>?_,?_,fun t x ht hx=>?_⟩
 ·try dsimp only
  have hp:=(ok.pr k t hk ht).1
  by_cases r:Rch A a ((t+1)*T.h+T.to k)
  ·obtain ⟨r1,r2⟩:=arcK ht hk r h
   rw [if_pos r,if_pos r1];omega
  ·rw [if_neg r]
   split <;> omega
 ·try dsimp only
  have hp:=(ok.pr k t hk ht).1
  obtain ⟨s1,s2⟩:=J6 P (fun k hk=>(ok.e k hk).1) (fun k hk=>(ok.e k hk).2) hk ht h
  obtain ⟨r1,r2⟩:=carry t (by omega) _ (ok.e k hk).1 s1
  obtain ⟨r3,r4⟩:=arcK' ht hk r1 h
  rw [if_pos r1,if_pos r3];omega
 ·try dsimp only
  by_cases r:Rch A a ((t+1)*T.h+x)
  ·by_cases e:T.wf f x t<1099511627776
   ·obtain ⟨r1,r2⟩:=arcH ht hx r e
    rw [if_pos r,if_pos r1];omega
   ·rw [hw t x ht hx]at e
    have ho':=J5 P (x:=x) (t:=t) ht
    have h3:=Fw (f:=fun x=>T.stk a b g t x) (k:=x) (n:=T.h) (fun x hx=>XA P ht hx) hx
    rw [MS (fun k hk=>(ok.e k hk).1) (fun k hk=>(ok.e k hk).2) ha]at h3
    omega
  ·rw [if_neg r]
   split <;> omega
 ·
  try dsimp only at h
  have ho':=J5 P (x:=x) (t:=t) ht
  obtain ⟨r1,r2⟩:=carry t (by omega) x hx (by omega)
  obtain ⟨r3,r4⟩:=arcH' ht hx r1 (by rw[hw t x ht hx];exact h)
  rw [if_pos r1,if_pos r3];omega
 ·try dsimp only
  split <;> omega
 ·try dsimp only
  rw [Nat.zero_mul,Nat.zero_add,if_pos .src,F.cs];rfl
 ·try dsimp only
  rw [←hN]at bnd
  have hv:=TN.node_lt (T:=T) ht hx
  split
  ·rename_i r
   have := bnd _ hv r
   omega
  ·omega
end
end TN
end Sim
namespace Sim
open Go Go.Proofs
attribute [local congr] Ap Aq Al AC As Ar Av
structure QS where
 aid : Nat
 g : Nat
 n : Nat
 l : List It
 u : Nat
 v : Nat
def QS.sl (x:QS):PV:=.ref x.aid x.g 0 x.n
def QS.at (x:QS) (st:Store):Prop:=st.obj x.aid=some (.arr x.g 2 (x.l.map itV))∧x.n≤x.l.length∧x.l.length≤1073741824
theorem QS.same {x y:QS} {st:Store} (h:x.sl=y.sl) (hx:x.at st) (hy:y.at st):x.aid=y.aid∧x.g=y.g∧x.n=y.n∧x.l=y.l:=by
 unfold QS.sl at h
 simp only[PV.ref.injEq,true_and]at h
 have hy1:=hy.1
 rw [←h.1]at hy1
 have := hx.1.symm.trans hy1
 simp only[Option.some.injEq,IObj.arr.injEq,W0]at this
 exact ⟨h.1,h.2.1,h.2.2,this.2.2⟩
def KO (x:QS):List PV := [x.sl]
def KP (x:QS) (st:Store):PV×Store:=(I (x.n:Nat),st)
noncomputable def e_qlen:Nat×Ent:=(81,.x (Be KO QS.at KP))
theorem Ad2 (x y:QS) (st:Store) (h:KO x=KO y) (hx:x.at st) (hy:y.at st):KP x st=KP y st:=by
 simp only[KO,List.cons.injEq,and_true]at h
 simp only[KP,(QS.same h hx hy).2.2.1]
def Et (x:QS) (st:Store):Prop:=x.at st∧x.u<x.n∧x.v<x.n
def EJ (x:QS):List PV := [x.sl,I (x.u:Nat),I (x.v:Nat)]
theorem QS.same3 {x y:QS} {st:Store} (h:EJ x=EJ y) (hx:Et x st) (hy:Et y st):x=y:=by
 simp only[EJ,List.cons.injEq,and_true,PV.int.injEq,true_and]at h
 obtain ⟨a1,a2,a3,a4⟩:=QS.same h.1 hx.1 hy.1
 cases x;cases y
 simp only at a1 a2 a3 a4 h
 simp only[QS.mk.injEq]
 exact ⟨a1,a2,a3,a4,by omega,by omega⟩
def H9 (x:QS) (st:Store):PV×Store:=(.bool (decide (kI x.l x.u<kI x.l x.v)),st)
noncomputable def e_qless:Nat×Ent:=(104,.x (Be EJ Et H9))
def Gx (x:QS) (st:Store):PV×Store:=(.tuple [],st.set x.aid (.arr x.g 2 ((swp x.l x.u x.v).map itV)))
noncomputable def e_qswap:Nat×Ent:=(107,.x (Be EJ Et Gx))
theorem A4 {ob:Nat→Option IObj} {i:Nat} {a b:Option IObj}:Aa (Aa ob i a) i b=Aa ob i b:=by
 funext j;simp only[Aa];split <;> rfl
theorem bI {r:PV} {st:Store}:Left r st r st:=Left.refl
theorem yF {l:List It} {k:Nat} {x:It}:(l.map itV).set k (.agg [I x.1,I (x.2:Nat)])=(l.set k x).map itV:=by rw[List.map_set]
theorem Wp:AM Try.prog e_qlen.1 e_qlen.2:=Cx fun x st hx=>by
 obtain ⟨aid,g,n,l,u,v⟩:=x
 obtain ⟨ob,M⟩:=st
 unfold QS.at at hx
 dsimp only at hx
 obtain ⟨h1,h2,h3⟩:=hx
 simp only[KO,KP,QS.sl]
 refine Ch AP (l := []) (Ao) [] [] 0 Try.func81 rfl (by decide +kernel) (N:=5) rfl (by simp) rfl (by kernel_rfl) ?_
 simp +contextual (maxSteps:=4000000) only[↓bdD,bdP,Nat.reduceLT,Nat.reduceBEq,Ai,Nat.reduceAdd,↓reduceIte,Try.f81,Dg,h1,bI]
theorem XC:AM Try.prog e_qless.1 e_qless.2:=Cx fun x st hx=>by
 obtain ⟨aid,g,n,l,u,v⟩:=x
 obtain ⟨ob,M⟩:=st
 unfold Et QS.at at hx
 dsimp only at hx
 obtain ⟨⟨h1,h2,h3⟩,h4,h5⟩:=hx
 simp only[EJ,H9,QS.sl,kI]
 have h6:u<l.length:=by omega
 have h7:v<l.length:=by omega
 refine Ch AP (l := []) (Ao) [] [] 0 Try.func104 rfl (by decide +kernel) (N:=18) rfl (by simp) rfl (by kernel_rfl) ?_
 simp +contextual (maxSteps:=4000000) only[↓bdD,bdP,Nat.reduceLT,Nat.reduceBEq,Ai,Nat.reduceAdd,↓reduceIte,JS,Try.f104,ty3,Hr,Dg,h1,h2,h4,h5,h6,h7]
 exact Left.refl
theorem QH:AM Try.prog e_qswap.1 e_qswap.2:=Cx fun x st hx=>by
 obtain ⟨aid,g,n,l,u,v⟩:=x
 obtain ⟨ob,M⟩:=st
 unfold Et QS.at at hx
 dsimp only at hx
 obtain ⟨⟨h1,h2,h3⟩,h4,h5⟩:=hx
 have h6:u<l.length:=by omega
 have h7:v<l.length:=by omega
 simp only[EJ,Gx,QS.sl]
 refine Ch AP (l := []) (Ao) [] [] 0 Try.func107 rfl (by decide +kernel) (N:=20) rfl (by simp) rfl (by kernel_rfl) ?_
 have h8:v<(l.set u (l.getD v dI)).length:=by rw[List.length_set];exact h7
 have e1:A6 (nth ((l.set u (l.getD v dI)).map itV) v) 0 [I (l.getD u dI).1,I ((l.getD u dI).2:Nat)]=.agg [I (l.getD u dI).1,I ((l.getD u dI).2:Nat)]:=by rw[JS h8];rfl
 simp +contextual (maxSteps:=4000000) only[↓bdD,bdP,Nat.reduceLT,Nat.reduceBEq,Ai,Nat.reduceAdd,Store.set,↓reduceIte,JS,Try.f107,Hr,Dg,h1,h2,h4,h5,h6,h7,List.length_set,yF,A4]
 exact ⟨_,rfl,Left.refl⟩
end Sim
namespace Sim
open Go Go.Proofs
attribute [local congr] Ap Aq Al AC As Ar Av
structure HS where
 qid : Nat
 qg : Nat
 aid : Nat
 g : Nat
 q : List It
 tl : List It
 x : It
 j : Nat
 k : Nat
def HS.p (h:HS):PV:=.ptr h.qid h.qg 0 0
def HS.at (h:HS) (st:Store):Prop:=st.obj h.qid=some (.arr h.qg 1 [.ref h.aid h.g 0 h.q.length])∧st.obj h.aid=some (.arr h.g 2 ((h.q++h.tl).map itV))∧(h.q++h.tl).length≤1000000000∧h.qid<st.next∧h.aid<st.next
def hpS (ob:Nat→Option IObj) (nx qid qg aid g:Nat) (q tl:List It):Store:=⟨Aa (Aa ob aid (some (.arr g 2 ((q++tl).map itV)))) qid (some (.arr qg 1 [.ref aid g 0 q.length])),nx⟩
theorem HS.same {x y:HS} {st:Store} (h:x.p=y.p) (hx:x.at st) (hy:y.at st):x.qid=y.qid∧x.qg=y.qg∧x.aid=y.aid∧x.g=y.g∧x.q=y.q∧x.tl=y.tl:=by
 unfold HS.p at h
 simp only[PV.ptr.injEq,and_true]at h
 obtain ⟨h1,h2,_,_⟩:=hx
 obtain ⟨h3,h4,_,_⟩:=hy
 rw [←h.1,h1]at h3
 simp only[Option.some.injEq,IObj.arr.injEq,List.cons.injEq,PV.ref.injEq,and_true,true_and]at h3
 rw [←h3.2.1,h2]at h4
 simp only[Option.some.injEq,IObj.arr.injEq,W0,true_and]at h4
 obtain ⟨e1,e2⟩:=List.append_inj h4.2 h3.2.2.2
 exact ⟨h.1,h.2,h3.2.1,h3.2.2.1,e1,e2⟩
theorem HS.ne {h:HS} {st:Store} (hx:h.at st):¬h.aid=h.qid:=fun e=>by
 have h1:=hx.1
 rw [←e,hx.2.1]at h1
 simp only[Option.some.injEq,IObj.arr.injEq]at h1
 omega
theorem HS.lt {h:HS} {st:Store} (hx:h.at st):h.qid<st.next∧h.aid<st.next:=hx.2.2.2
theorem OQ {l:List It}:(l.map itV).all PV.isInt=true:=by simp[PV.isInt,PV.isInt1]
def bJ (h:HS):List PV := [h.p,.iface 138 (itV h.x)]
def psQ (h:HS):Nat×List It:=if h.tl = []then (h.g+1,[])else (h.g,h.tl.tail)
def Ia (h:HS) (st:Store):PV×Store:=(.tuple [],hpS st.obj st.next h.qid h.qg h.aid (psQ h).1 (h.q ++ [h.x]) (psQ h).2)
noncomputable def e_qpush:Nat×Ent:=(106,.x (Be bJ HS.at Ia))
theorem yG (x y:HS) (st:Store) (h:bJ x=bJ y) (hx:x.at st) (hy:y.at st):Ia x st=Ia y st:=by
 simp only[bJ,List.cons.injEq,and_true,PV.iface.injEq,true_and,PV.agg.injEq,PV.int.injEq]at h
 obtain ⟨a1,a2,a3,a4,a5,a6⟩:=HS.same h.1 hx hy
 have a7:x.x=y.x:=Prod.ext h.2.1 (by omega)
 simp only[Ia,psQ,a1,a2,a3,a4,a5,a6,a7]
theorem yH:AM Try.prog e_qpush.1 e_qpush.2:=Cx fun h st hx=>by
 have hne:=HS.ne hx
 obtain ⟨qid,qg,aid,g,q,tl,x,j,k⟩:=h
 obtain ⟨ob,M⟩:=st
 unfold HS.at at hx
 dsimp only at hx hne
 obtain ⟨h1,h2,h3,h4⟩:=hx
 have hne2:¬qid=aid:=fun e=>hne e.symm
 rw [List.length_append]at h3
 simp only[bJ,Ia,HS.p]
 refine Ch AP (l := []) (Ao) [] [700011,700012] 0 Try.func106 rfl (by decide +kernel) (N:=13) rfl (by simp) rfl (by kernel_rfl) ?_
 have b1:q.length+1≤2147483648:=by omega
 cases tl with
 | nil =>
  simp only[List.append_nil]at h2
  have b2:¬q.length+1≤q.length:=by omega
  simp +contextual (maxSteps:=4000000) only[↓bdD,bdP,Nat.reduceLT,Nat.reduceBEq,Ai,Nat.reduceAdd,Nat.reduceMul,Nat.reduceLeDiff,reduceCtorEq,Store.set,↓reduceIte,Try.f106,Hr,Dg,h1,h2,hne2,OQ,b1,b2]
  refine ⟨_,rfl,?_⟩
  simp only[psQ,if_true,hpS,List.append_nil,List.length_append,List.length_cons,List.length_nil,Nat.zero_add,List.map_append,List.map_cons,List.map_nil]
  exact Left.refl
 | cons y tl =>
  have b2:q.length+1≤q.length+(tl.length+1):=by omega
  have b3:q.length≤q.length+(tl.length+1):=by omega
  have e0:(q.map itV).length=q.length:=List.length_map _
  simp +contextual (maxSteps:=4000000) only[↓bdD,bdP,Nat.reduceLT,Nat.reduceBEq,Ai,Nat.reduceAdd,Nat.reduceMul,Nat.reduceLeDiff,reduceCtorEq,Store.set,↓reduceIte,Try.f106,Hr,Dg,h1,h2,hne2,OQ,b1,b2,b3]
  have e1:List.take q.length ((q++y::tl).map itV) ++ [itV x]++List.drop (q.length+1) ((q++y::tl).map itV)=(q ++ [x]++tl).map itV:=by
   rw [List.map_append,List.take_left' e0,List.drop_append,e0,List.drop_of_length_le (by omega),show q.length+1-q.length=1 by omega]
   simp
  refine ⟨_,rfl,?_⟩
  rw [e1]
  simp only[psQ,hpS,reduceCtorEq,if_false,List.tail_cons,List.length_append,List.length_cons,List.length_nil,Nat.zero_add]
  exact Left.refl
def bK (h:HS):List PV := [h.p]
def FE (h:HS) (st:Store):Prop:=h.at st∧0<h.q.length
def KQ (h:HS) (st:Store):PV×Store:=(.iface 138 (itV (h.q.getD (h.q.length-1) dI)),hpS (Aa st.obj st.next none) (st.next+1) h.qid h.qg h.aid h.g (h.q.take (h.q.length-1)) (h.q.drop (h.q.length-1)++h.tl))
noncomputable def e_qpop:Nat×Ent:=(105,.x (Be bK FE KQ))
theorem Ad3 (x y:HS) (st:Store) (h:bK x=bK y) (hx:FE x st) (hy:FE y st):KQ x st=KQ y st:=by
 simp only[bK,List.cons.injEq,and_true]at h
 obtain ⟨a1,a2,a3,a4,a5,a6⟩:=HS.same h hx.1 hy.1
 simp only[KQ,a1,a2,a3,a4,a5,a6]
theorem Ad4:AM Try.prog e_qpop.1 e_qpop.2:=Cx fun h st hx=>by
 obtain ⟨hx,hq⟩:=hx
 have hne:=HS.ne hx
 have hlt:=HS.lt hx
 obtain ⟨qid,qg,aid,g,q,tl,x,j,k⟩:=h
 obtain ⟨ob,M⟩:=st
 unfold HS.at at hx
 dsimp only at hx hne hq hlt
 obtain ⟨h1,h2,h3,h4⟩:=hx
 obtain ⟨l1,l2⟩:=hlt
 have hne2:¬qid=aid:=fun e=>hne e.symm
 have m1:¬qid=M:=by omega
 have m2:¬aid=M:=by omega
 have m3:¬M=qid:=by omega
 have m4:¬M=aid:=by omega
 rw [List.length_append]at h3
 simp only[bK,KQ,HS.p]
 refine Ch AP (l := []) (Ao) [] [] 0 Try.func105 rfl (by decide +kernel) (N:=23) rfl (by simp) rfl (by kernel_rfl) ?_
 obtain ⟨n,hn⟩:∃n,q.length=n+1:=⟨q.length-1,by omega⟩
 have w1:IntKind.i64.wrap ((n:Int)+1-1)=(n:Int):=by rw[Ag (by omega) (by omega)];omega
 have w2:IntKind.i64.wrap (((n+1:Nat):Int)-1)=(n:Int):=by rw[Ag (by omega) (by omega)];omega
 have b1:n<(q++tl).length:=by rw[List.length_append];omega
 have b2:n<n+1:=by omega
 have e1:(q++tl).getD n dI=q.getD n dI:=by
  rw [List.getD_eq_getElem?_getD,List.getElem?_append_left (by omega),List.getD_eq_getElem?_getD]
 rw [hn]at h1
 have hn1:=JS b1
 simp +contextual (maxSteps:=4000000) only[↓bdD,bdP,Nat.reduceLT,Nat.reduceBEq,Ai,Nat.reduceAdd,Nat.reduceLeDiff,Int.reduceToNat,Store.new,Store.set,↓reduceIte,Try.f105,Hr,Dg,h1,h2,hn,hn1,m1,m2,m3,w2,b2,e1]
 refine ⟨by omega,by omega,Left.same rfl (fun i o hi=>?_) (Nat.le_refl _)⟩
 simp only[hpS,Aa]at hi ⊢
 by_cases c1:i=qid
 ·rw [if_pos c1]at hi ⊢
  rw [←hi]
  simp [hn]
 ·rw [if_neg c1]at hi ⊢
  by_cases c2:i=aid
  ·subst c2
   rw [if_pos rfl]at hi
   rw [if_neg m2,if_neg m2,h2,←hi,←List.append_assoc,List.take_append_drop]
  ·rw [if_neg c2]at hi
   by_cases c3:i=M
   ·rw [if_pos c3]at hi;cases hi
   ·rw [if_neg c3]at hi
    rw [if_neg c3,if_neg c3,hi]
def HS.pi (h:HS):PV:=.iface 136 h.p
end Sim
