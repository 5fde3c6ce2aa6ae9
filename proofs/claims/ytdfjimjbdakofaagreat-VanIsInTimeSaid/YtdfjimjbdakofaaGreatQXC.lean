/- Lemmas. -/
import Derived.Test.YtdfjimjbdakofaaGreatQUB4
import Derived.Test.YtdfjimjbdakofaaGreatQN8
set_option maxRecDepth 10000
set_option maxHeartbeats 4000000
set_option linter.all false
open Classical renaming byContradiction->pq,propDecidable->qo
open Go.IntKind renaming i64->nm
open Go.Proofs.Tryz renaming prog->pk
open Int renaming mul_zero->uk,le_refl->pj,mul_add->pn,mul_sub->po,mul_le_mul_of_nonneg_right->vt,sub_mul->vw,mul_comm->p8,add_zero->th,le_trans->qj,mul_le_mul_of_nonneg_left->v6
open List renaming cons.injEq->ix,length_map->ow,length_pos_iff->vq,getD_eq_getElem?_getD->oa,getElem?_append_right->ct,getElem?_append_left->cq,mem_map->oh,getElem?_cons_succ->qx,length_range->vz
open Nat renaming reduceBEq->r8,le_refl->cg,lt_of_lt_of_le->np,lt_succ_self->ny,zero_mul->vy,zero_add->cd
open Prod renaming ext_iff->tn
open Sim.PV renaming lits.injEq->s6,int.injEq->qt,vptr.injEq->s7,small->s8,func.injEq->vp
open Sim.TN renaming stk->vr
noncomputable section
namespace Sim
open Go Go.Proofs
attribute [local congr] Ah Ai Ag At Al Aj Aq
def lnP (hn:Int) (l:List Int):Bool := !decide ((l.length:Int)=hn)
def KP:Int×List Lnk×List Snd×Dem×List Int->List PV:=λ(hn,ls,us,d,l) => [ints l,.vptr [I hn,AS ls,Ay us,I d.1,I d.2.1,I d.2.2.1,I d.2.2.2.1,I d.2.2.2.2] 0]
def Tu:Int×List Lnk×List Snd×Dem×List Int->PV:=λ(hn,ls,us,d,l)=>B (lnP hn l)
def e_bnd1:Nat×Ent:=(59,.v (An KP Tu AZ))
theorem Ake:∀i j,KP i=KP j->i=j:=by
 rintro ⟨_,_,_,_,_⟩ ⟨_,_,_,_,_⟩ h
 simp only[KP,ix,and_true,s6,qt,s7,true_and,B7,AG,AF]at h
 simp [tn,h] <;> omega
theorem vY (hn:Int) (ls:List Lnk) (us:List Snd) (d:Dem) (l:List Int):An KP Tu AZ [ints l,.vptr [I hn,AS ls,Ay us,I d.1,I d.2.1,I d.2.2.1,I d.2.2.2.1,I d.2.2.2.2] 0]=some (B (lnP hn l)):=AD Ake (i:=(hn,ls,us,d,l)) trivial
def Akf:Prop:=∀(hn:Int) (ls:List Lnk) (us:List Snd) (d:Dem) (l:List Int) ,VC pk 59 (KP (hn,ls,us,d,l)) (Tu (hn,ls,us,d,l))
theorem Akg:Akf:=by
 intro hn ls us d l
 dsimp only[KP,Tu]
 refine Bd AQ (l := []) (Au) [] []  Tryz.func59 rfl (by decide +kernel) (N:=10) rfl (by simp) rfl (by kernel_rfl) λhs=>?_
 simp only[AK,s8,ow,and_true,true_and]at hs
 unfold lnP
 by_cases h:(l.length:Int)=hn
 .simp only[↓bdD,bdP,seval,Ao,st0,Tryz.f59,ty3,AJ,AR,BG,h]
 .simp only[↓bdD,bdP,seval,Ao,st0,Tryz.f59,ty3,AJ,AR,BG,h]
theorem Akh:AM pk e_bnd1.1 e_bnd1.2:=Ax λ⟨hn,ls,us,d,l⟩ h=>Akg hn ls us d l
def L3 (hn:Int) (y:List (List Int)):Int:=if y.findIdx (lnP hn)<y.length then (y.findIdx (lnP hn):Int)else -1
section
variable {hn:Int} {y:List (List Int)}
theorem Aea {k:Nat} (hk:k<y.length) (h:lnP hn (y.getD k [])=true) (g:∀j,j<k->lnP hn (y.getD j [])=false):L3 hn y=k:=by
 have e:y.findIdx (lnP hn)=k:=by
  rw [List.findIdx_eq hk]
  refine ⟨?_,λj hj=>?_⟩
  .have : y.getD k []=y[k]:=by simp[hk]
   rw [<-this];exact h
  .have hjl:j<y.length:=by omega
   have : y.getD j []=y[j]:=by simp[hjl]
   rw [<-this];exact g j hj
 unfold L3
 rw [e,if_pos hk]
theorem vZ (g:∀j,j<y.length->lnP hn (y.getD j [])=false):L3 hn y = -1:=by
 have e:y.findIdx (lnP hn)=y.length:=by
  rw [List.findIdx_eq_length]
  intro x hx
  obtain ⟨j,hj,rfl⟩:=List.getElem_of_mem hx
  have : y.getD j []=y[j]:=by simp[hj]
  rw [<-this];exact g j hj
 unfold L3
 rw [e,if_neg (by omega)]
end
def KQ:Int×List Lnk×List Snd×Dem×List (List Int)->List PV:=λ(hn,ls,us,d,y) => [Hi y,.func (.func 59) [] [.vptr [I hn,AS ls,Ay us,I d.1,I d.2.1,I d.2.2.1,I d.2.2.2.1,I d.2.2.2.2] 0]]
def Tv:Int×List Lnk×List Snd×Dem×List (List Int)->PV:=λ(hn,ls,us,d,y)=>I (L3 hn y)
def e_idxR:Nat×Ent:=(84,.v (An KQ Tv AZ))
theorem Aki:∀i j,KQ i=KQ j->i=j:=by
 rintro ⟨_,_,_,_,_⟩ ⟨_,_,_,_,_⟩ h
 simp only[KQ,ix,and_true,s6,qt,vp,s7,true_and,AG,AF,LP]at h
 simp [tn,h] <;> omega
theorem wA (hn:Int) (ls:List Lnk) (us:List Snd) (d:Dem) (y:List (List Int)):An KQ Tv AZ [Hi y,.func (.func 59) [] [.vptr [I hn,AS ls,Ay us,I d.1,I d.2.1,I d.2.2.1,I d.2.2.2.1,I d.2.2.2.2] 0]]=some (I (L3 hn y)):=AD Aki (i:=(hn,ls,us,d,y)) trivial
def Akj:Prop:=∀(hn:Int) (ls:List Lnk) (us:List Snd) (d:Dem) (y:List (List Int)) ,VC pk 84 (KQ (hn,ls,us,d,y)) (Tv (hn,ls,us,d,y))
theorem Akk:Akj:=by
 intro hn ls us d y
 dsimp only[KQ,Tv]
 refine Bd AQ (l := [e_bnd1]) ((Ad Akh Au)) [] []  Tryz.func84 rfl (by decide +kernel) (N:=19) rfl (by simp) rfl (by kernel_rfl) λhs=>?_
 simp only[AK,s8,ow,and_true]at hs
 have hsl:=hs.1
 generalize hr:L3 hn y=r
 simp only[↓bdD,bdP,seval,st0,e_bnd1,Tryz.f84,BM]
 refine Aw [4,5,8,9,10,11,12,13,14,15,16,17,18] y.length (λk ρ st'=>ρ 8=I k/\∀j,j<k->lnP hn (y.getD j [])=false) (.refl _) ?_ ?_
 .simp only[↓bdD,bdP]
  exact λj hj=>absurd hj (by omega)
 rintro k ρ ⟨ob,M⟩ hk ⟨h8,hI⟩
 by_cases hlt:k<y.length
 .have hwk:nm.wrap ((k:Int)+1)=((k+1:Nat):Int):=by rw[Af (by omega) (by omega)];omega
  cases hp:lnP hn (y.getD k [])
  .simp only[↓bdD,bdP,seval,vY,Ac,Aa,Db,AR,BM,h8,hlt,hwk,hp]
   intro j hj
   by_cases e:j=k
   .rw [e];exact hp
   .exact hI j (by omega)
  .have := Aea hlt hp hI
   rw [hr]at this
   simp only[↓bdD,bdP,seval,Ao,vY,Ac,Aa,Db,AR,BM,h8,hlt,hp,this]
 .have e:k=y.length:=by omega
  subst e
  have := vZ hI
  rw [hr]at this
  simp only[↓bdD,bdP,seval,Ao,h8,this]
theorem Akl:AM pk e_idxR.1 e_idxR.2:=Ax λ⟨hn,ls,us,d,y⟩ h=>Akk hn ls us d y
def KR:Int×List Lnk×List Snd×Dem×List (List Int)->List PV:=λ(hn,ls,us,d,y) => [Hi y,.func (.func 59) [] [.vptr [I hn,AS ls,Ay us,I d.1,I d.2.1,I d.2.2.1,I d.2.2.2.1,I d.2.2.2.2] 0]]
def Tw:Int×List Lnk×List Snd×Dem×List (List Int)->PV:=λ(hn,ls,us,d,y)=>B (decide (0<=L3 hn y))
def e_cntR:Nat×Ent:=(58,.v (An KR Tw AZ))
theorem Akm:∀i j,KR i=KR j->i=j:=by
 rintro ⟨_,_,_,_,_⟩ ⟨_,_,_,_,_⟩ h
 simp only[KR,ix,and_true,s6,qt,vp,s7,true_and,AG,AF,LP]at h
 simp [tn,h] <;> omega
theorem wB (hn:Int) (ls:List Lnk) (us:List Snd) (d:Dem) (y:List (List Int)):An KR Tw AZ [Hi y,.func (.func 59) [] [.vptr [I hn,AS ls,Ay us,I d.1,I d.2.1,I d.2.2.1,I d.2.2.2.1,I d.2.2.2.2] 0]]=some (B (decide (0<=L3 hn y))):=AD Akm (i:=(hn,ls,us,d,y)) trivial
def Akn:Prop:=∀(hn:Int) (ls:List Lnk) (us:List Snd) (d:Dem) (y:List (List Int)) ,VC pk 58 (KR (hn,ls,us,d,y)) (Tw (hn,ls,us,d,y))
theorem Ako:Akn:=by
 intro hn ls us d y
 dsimp only[KR,Tw]
 refine Bd AQ (l := [e_idxR]) ((Ad Akl Au)) [] []  Tryz.func58 rfl (by decide +kernel) (N:=9) rfl (by simp) rfl (by kernel_rfl) λhs=>?_
 simp only[AK,s8,ow,and_true]at hs
 by_cases h:0<=L3 hn y
 .simp only[↓bdD,bdP,seval,Ao,st0,e_idxR,wA,Ac,Aa,DB,Tryz.f58,BM,Zp,h]
 .simp only[↓bdD,bdP,seval,Ao,st0,e_idxR,wA,Ac,Aa,DB,Tryz.f58,BM,Zp,h]
theorem Akp:AM pk e_cntR.1 e_cntR.2:=Ax λ⟨hn,ls,us,d,y⟩ h=>Ako hn ls us d y
theorem fnd_iff {hn:Int} {y:List (List Int)}:0<=L3 hn y↔¬ ∀l∈y,(l.length:Int)=hn:=by
 have key:(∃x∈y,lnP hn x=true)↔¬ ∀l∈y,(l.length:Int)=hn:=by
  constructor
  .rintro ⟨x,hx,h⟩ g
   have := g x hx
   simp [lnP,this]at h
  .intro h
   refine pq λg=>h λl hl=>?_
   refine pq λc=>g ⟨l,hl,?_⟩
   simp [lnP,c]
 rw [<-key,<-List.findIdx_lt_length]
 unfold L3
 constructor
 .intro h
  split at h
  .assumption
  .omega
 .intro h
  rw [if_pos h];omega
def mnT (l:List Int):Nat->Int
 | 0=>l.getD 0 0
 | k+1=>min (mnT l k) (l.getD k 0)
def mxT (l:List Int):Nat->Int
 | 0=>l.getD 0 0
 | k+1=>max (mxT l k) (l.getD k 0)
def PS:List Int->List PV:=λl => [ints l]
def Z7:List Int->PV:=λl=>I (mnT l l.length)
def Agw:List Int->Prop:=λl=>l ≠ []
def e_mnR:Nat×Ent:=(60,.v (An PS Z7 Agw))
theorem Ann:∀i j,PS i=PS j->i=j:=by
 rintro l₁ l₂ h
 simp only[PS,ix,and_true,s6,true_and,B7]at h
 first | exact h | omega | (simp[tn,h];done)
theorem wC (l:List Int):An PS Z7 Agw [ints l]=@ite (Option (PV)) (l ≠ []) (qo _) (some (I (mnT l l.length))) none:=Bs Ann l
def Ano:Prop:=∀(l:List Int) (h:l ≠ []) ,VC pk 60 (PS l) (Z7 l)
theorem Anp:Ano:=by
 intro l hne
 dsimp only[PS,Z7]
 refine Bd AQ (l := []) (Au) [] []  Tryz.func60 rfl (by decide +kernel) (N:=25) rfl (by simp) rfl (by kernel_rfl) λhs=>?_
 simp only[AK,s8,ow,and_true]at hs
 have hp:0<l.length:=vq.2 hne
 have hpi:¬(l.length:Int)<1:=by omega
 have hsl:=hs.1
 have h01:mnT l 1=l.getD 0 0:=by show min (l.getD 0 0) (l.getD 0 0)=_;omega
 generalize hr:mnT l l.length=r
 simp only[↓bdD,bdP,seval,st0,Tryz.f60,ty3,AR,hp,hpi]
 refine Aw [3,4,12,13,14,15,16,17,18,19,20,21,22,23] (l.length-1) (λk ρ st'=>ρ 4=I ((k+1:Nat):Int)/\ρ 3=I (mnT l (k+1))) (.refl _) ?_ ?_
 .simp only[↓bdD,bdP,r8,h01]
 rintro k ρ ⟨ob,M⟩ hk ⟨h4,h3⟩
 by_cases hlt:k<l.length-1
 .have hlt2:k+1<l.length:=by omega
  have hwk:nm.wrap (((k+1:Nat):Int)+1)=((k+1+1:Nat):Int):=by rw[Af (by omega) (by omega)];omega
  have hst:mnT l (k+1+1)=min (mnT l (k+1)) (l.getD (k+1) 0):=rfl
  simp only[↓bdD,bdP,seval,ty3,AR,h4,h3,hlt2,hwk,hst]
  exact ⟨hlt,by split <;> omega⟩
 .have e:k+1=l.length:=by omega
  rw [e]at h4 h3
  rw [hr]at h3
  simp only[↓bdD,bdP,seval,Ao,AR,h4,h3]
theorem Anq:AM pk e_mnR.1 e_mnR.2:=Ax λl h=>Anp l h
def PT:List Int->List PV:=λl => [ints l]
def Z8:List Int->PV:=λl=>I (mxT l l.length)
def Agx:List Int->Prop:=λl=>l ≠ []
def e_mxR:Nat×Ent:=(61,.v (An PT Z8 Agx))
theorem Anr:∀i j,PT i=PT j->i=j:=by
 rintro l₁ l₂ h
 simp only[PT,ix,and_true,s6,true_and,B7]at h
 first | exact h | omega | (simp[tn,h];done)
theorem Agy (l:List Int):An PT Z8 Agx [ints l]=@ite (Option (PV)) (l ≠ []) (qo _) (some (I (mxT l l.length))) none:=Bs Anr l
def Ans:Prop:=∀(l:List Int) (h:l ≠ []) ,VC pk 61 (PT l) (Z8 l)
theorem Ant:Ans:=by
 intro l hne
 dsimp only[PT,Z8]
 refine Bd AQ (l := []) (Au) [] []  Tryz.func61 rfl (by decide +kernel) (N:=25) rfl (by simp) rfl (by kernel_rfl) λhs=>?_
 simp only[AK,s8,ow,and_true]at hs
 have hp:0<l.length:=vq.2 hne
 have hpi:¬(l.length:Int)<1:=by omega
 have hsl:=hs.1
 have h01:mxT l 1=l.getD 0 0:=by show max (l.getD 0 0) (l.getD 0 0)=_;omega
 generalize hr:mxT l l.length=r
 simp only[↓bdD,bdP,seval,st0,Tryz.f61,ty3,AR,hp,hpi]
 refine Aw [3,4,12,13,14,15,16,17,18,19,20,21,22,23] (l.length-1) (λk ρ st'=>ρ 4=I ((k+1:Nat):Int)/\ρ 3=I (mxT l (k+1))) (.refl _) ?_ ?_
 .simp only[↓bdD,bdP,r8,h01]
 rintro k ρ ⟨ob,M⟩ hk ⟨h4,h3⟩
 by_cases hlt:k<l.length-1
 .have hlt2:k+1<l.length:=by omega
  have hwk:nm.wrap (((k+1:Nat):Int)+1)=((k+1+1:Nat):Int):=by rw[Af (by omega) (by omega)];omega
  have hst:mxT l (k+1+1)=max (mxT l (k+1)) (l.getD (k+1) 0):=rfl
  simp only[↓bdD,bdP,seval,ty3,AR,h4,h3,hlt2,hwk,hst]
  exact ⟨hlt,by split <;> omega⟩
 .have e:k+1=l.length:=by omega
  rw [e]at h4 h3
  rw [hr]at h3
  simp only[↓bdD,bdP,seval,Ao,AR,h4,h3]
theorem Anu:AM pk e_mxR.1 e_mxR.2:=Ax λl h=>Ant l h
theorem wE {l:List Int} {b:Int}:∀ {k},k<=l.length->(0<k)->(b<=mnT l k↔∀j,j<k->b<=l.getD j 0)
 | 0,_,h=>absurd h (by omega)
 | 1,hk,_=>by
  show b<=min (l.getD 0 0) (l.getD 0 0)↔_
  constructor
  .intro h j hj
   rw [show j=0 by omega];omega
  .intro h;have:=h 0 (by omega);omega
 | k+2,hk,_=>by
  have ih:=wE (l:=l) (b:=b) (k:=k+1) (by omega) (by omega)
  show b<=min (mnT l (k+1)) (l.getD (k+1) 0)↔_
  constructor
  .intro h j hj
   by_cases e:j=k+1
   .rw [e];omega
   .exact ih.1 (by omega) j (by omega)
  .intro h
   have h1:=ih.2 λj hj=>h j (by omega)
   have h2:=h (k+1) (by omega)
   omega
theorem wF {l:List Int} {b:Int}:∀ {k},k<=l.length->(0<k)->(mxT l k<=b↔∀j,j<k->l.getD j 0<=b)
 | 0,_,h=>absurd h (by omega)
 | 1,hk,_=>by
  show max (l.getD 0 0) (l.getD 0 0)<=b↔_
  constructor
  .intro h j hj
   rw [show j=0 by omega];omega
  .intro h;have:=h 0 (by omega);omega
 | k+2,hk,_=>by
  have ih:=wF (l:=l) (b:=b) (k:=k+1) (by omega) (by omega)
  show max (mxT l (k+1)) (l.getD (k+1) 0)<=b↔_
  constructor
  .intro h j hj
   by_cases e:j=k+1
   .rw [e];omega
   .exact ih.1 (by omega) j (by omega)
  .intro h
   have h1:=ih.2 λj hj=>h j (by omega)
   have h2:=h (k+1) (by omega)
   omega
end Sim
namespace Sim
namespace TN
section
variable {T:TN} {D a c:Nat} {b:Int} {g:Nat->Nat->Int} {y:Nat->Nat->Int}
theorem PU {f:Nat->Int} {t:Nat} (hf:∀k,k<T.L->T.fr k<T.h):As (λx=>f x*T.outF g x t) T.h=As (λk=>f (T.fr k)*g k t) T.L:=by
 have e1:As (λx=>f x*T.outF g x t) T.h=As (λx=>As (λk=>if T.fr k=x then f (T.fr k)*g k t else 0) T.L) T.h:=by
  refine Am λx _=>?_
  unfold outF
  rw [<-G5]
  refine Am λk _=>?_
  by_cases e:T.fr k=x
  .rw [if_pos e,if_pos e,e]
  .rw [if_neg e,if_neg e,uk]
 rw [e1,DY]
 exact Am λk hk=>by rw[BH,if_pos (hf k hk)]
theorem Tx {f:Nat->Int} {t:Nat} (hf:∀k,k<T.L->T.to k<T.h):As (λx=>f x*T.inF g x t) T.h=As (λk=>f (T.to k)*g k t) T.L:=by
 have e1:As (λx=>f x*T.inF g x t) T.h=As (λx=>As (λk=>if T.to k=x then f (T.to k)*g k t else 0) T.L) T.h:=by
  refine Am λx _=>?_
  unfold inF
  rw [<-G5]
  refine Am λk _=>?_
  by_cases e:T.to k=x
  .rw [if_pos e,if_pos e,e]
  .rw [if_neg e,if_neg e,uk]
 rw [e1,DY]
 exact Am λk hk=>by rw[BH,if_pos (hf k hk)]
theorem PX (hfr:∀k,k<T.L->T.fr k<T.h) (hto:∀k,k<T.L->T.to k<T.h) (ha:a<T.h):∀t,As (λx=>T.stk a b g t x) T.h=b
 | 0=>by
  show As (λx=>if a=x then b else 0) T.h=b
  rw [BH,if_pos ha]
 | t+1=>by
  have ih:=PX hfr hto ha t
  have e:As (λx=>T.stk a b g (t+1) x) T.h=As (λx=>(T.stk a b g t x-T.outF g x t)+T.inF g x t) T.h:=rfl
  have o:=PU (g:=g) (f:=λ_=>1) (t:=t) hfr
  have i:=Tx (g:=g) (f:=λ_=>1) (t:=t) hto
  simp only[Int.one_mul]at o i
  rw [e,B8,Co,ih,o,i];omega
theorem L4 (P:T.Plan D a c b g) {t x:Nat} (ht:t<D):0<=T.outF g x t:=BD λk hk=>by
 split
 .exact P.nn k t hk ht
 .exact pj _
theorem Z9 (P:T.Plan D a c b g) {t x:Nat} (ht:t<D) (hx:x<T.h):0<=T.stk a b g t x:=by
 have := P.st t x ht hx
 have := L4 P (x:=x) ht
 omega
theorem aA (P:T.Plan D a c b g) (hfr:∀k,k<T.L->T.fr k<T.h) (hto:∀k,k<T.L->T.to k<T.h) (ha:a<T.h) {k t:Nat} (hk:k<T.L) (ht:t<D):g k t<=b:=by
 have h1:g k t<=T.outF g (T.fr k) t:=by
  have := EM (f:=λj=>if T.fr j=T.fr k then g j t else 0) (k:=k) (n:=T.L) (λi hi=>by
   split
   .exact P.nn i t hi ht
   .exact pj _) hk
  rw [if_pos rfl]at this
  exact this
 have h2:=P.st t (T.fr k) ht (hfr k hk)
 have h3:=EM (f:=λx=>T.stk a b g t x) (k:=T.fr k) (n:=T.h) (λx hx=>Z9 P ht hx) (hfr k hk)
 rw [PX hfr hto ha]at h3
 omega
def pot (T:TN) (a:Nat) (b:Int) (g:Nat->Nat->Int) (y:Nat->Nat->Int) (t:Nat):Int:=As (λx=>y t x*T.stk a b g t x) T.h
theorem wG (P:T.Plan D a c b g) (hfr:∀k,k<T.L->T.fr k<T.h) (hto:∀k,k<T.L->T.to k<T.h) {t:Nat} (ht:t<D) (hy:∀x,x<T.h->y (t+1) x<=y t x) :
  T.pot a b g y (t+1)<=T.pot a b g y t+As (λk=>(y (t+1) (T.to k)-y t (T.fr k))*g k t) T.L:=by
 have e1:T.pot a b g y (t+1)=As (λx=>y (t+1) x*(T.stk a b g t x-T.outF g x t)+y (t+1) x*T.inF g x t) T.h:=by
  refine Am λx _=>?_
  rw [vr,pn]
 have e2:As (λx=>y (t+1) x*(T.stk a b g t x-T.outF g x t)) T.h<=As (λx=>y t x*T.stk a b g t x-y t x*T.outF g x t) T.h:=by
  refine EK λx hx=>?_
  rw [<-po]
  exact vt (hy x hx) (by have:=P.st t x ht hx;omega)
 have e3:As (λk=>(y (t+1) (T.to k)-y t (T.fr k))*g k t) T.L=As (λk=>y (t+1) (T.to k)*g k t) T.L-As (λk=>y t (T.fr k)*g k t) T.L:=by
  rw [<-Co]
  exact Am λk _=>vw _ _ _
 rw [Co,PU hfr]at e2
 rw [e1,B8,Tx hto,e3]
 have e4:T.pot a b g y t=As (λx=>y t x*T.stk a b g t x) T.h:=rfl
 omega
theorem aB (P:T.Plan D a c b g) (hfr:∀k,k<T.L->T.fr k<T.h) (hto:∀k,k<T.L->T.to k<T.h) (hy:∀t x,t<D->x<T.h->y (t+1) x<=y t x):∀t,t<=D ->
  T.pot a b g y t<=T.pot a b g y 0+As (λs=>As (λk=>(y (s+1) (T.to k)-y s (T.fr k))*g k s) T.L) t
 | 0,_=>by rw[As];omega
 | t+1,ht=>by
  have ih:=aB P hfr hto hy t (by omega)
  have h:=wG (y:=y) P hfr hto (t:=t) (by omega) (λx hx=>hy t x (by omega) hx)
  rw [As]
  omega
def exc (T:TN) (y:Nat->Nat->Int) (t k:Nat):Int:=max 0 (y (t+1) (T.to k)-y t (T.fr k)-T.pr k t)
theorem Akq (P:T.Plan D a c b g) (hfr:∀k,k<T.L->T.fr k<T.h) (hto:∀k,k<T.L->T.to k<T.h) (ha:a<T.h) {k t:Nat} (hk:k<T.L) (ht:t<D) :
  (y (t+1) (T.to k)-y t (T.fr k))*g k t<=T.pr k t*g k t+min b (T.lf k t)*T.exc y t k:=by
 have h0:=P.nn k t hk ht
 have h1:=P.le k t hk ht
 have h2:=aA P hfr hto ha hk ht
 have h3:(y (t+1) (T.to k)-y t (T.fr k)-T.pr k t)*g k t<=T.exc y t k*g k t:=vt (by unfold exc;omega) h0
 have h4:g k t*T.exc y t k<=min b (T.lf k t)*T.exc y t k:=vt (by omega) (by unfold exc;omega)
 rw [vw]at h3
 rw [p8 (g k t)]at h4
 omega
def bnd (T:TN) (D a c:Nat) (b:Int) (y:Nat->Nat->Int):Int:=b*(y D c-y 0 a)-As (λt=>As (λk=>min b (T.lf k t)*T.exc y t k) T.L) D
theorem bnd_le (P:T.Plan D a c b g) (hfr:∀k,k<T.L->T.fr k<T.h) (hto:∀k,k<T.L->T.to k<T.h) (ha:a<T.h) (hc:c<T.h) (hy:∀t x,t<D->x<T.h->y (t+1) x<=y t x):T.bnd D a c b y<=T.cst D g:=by
 have h:=aB P hfr hto hy D (cg _)
 have p0:T.pot a b g y 0=y 0 a*b:=by
  have : T.pot a b g y 0=As (λx=>if a=x then y 0 a*b else 0) T.h:=Am λx _=>by
   show y 0 x*(if a=x then b else 0)=_
   by_cases e:a=x
   .rw [if_pos e,if_pos e,e]
   .rw [if_neg e,if_neg e,uk]
  rw [this,BH,if_pos ha]
 have pD:T.pot a b g y D=y D c*b:=by
  have : T.pot a b g y D=As (λx=>if c=x then y D c*b else 0) T.h:=Am λx hx=>by
   show y D x*T.stk a b g D x=_
   rw [P.en x hx]
   by_cases e:c=x
   .rw [if_pos e,if_pos e,e]
   .rw [if_neg e,if_neg e,uk]
  rw [this,BH,if_pos hc]
 have s:As (λs=>As (λk=>(y (s+1) (T.to k)-y s (T.fr k))*g k s) T.L) D<=T.cst D g+As (λt=>As (λk=>min b (T.lf k t)*T.exc y t k) T.L) D:=by
  have e:T.cst D g+As (λt=>As (λk=>min b (T.lf k t)*T.exc y t k) T.L) D=As (λt=>As (λk=>T.pr k t*g k t+min b (T.lf k t)*T.exc y t k) T.L) D:=by
   unfold cst
   rw [<-B8]
   exact Am λt _=>by rw[B8]
  rw [e]
  exact EK λt ht=>EK λk hk=>Akq P hfr hto ha hk ht
 unfold bnd
 rw [po,p8 b,p8 b]
 omega
end
end TN
namespace TN
section
variable {T:TN} {D a c:Nat} {b:Int} {g:Nat->Nat->Int} {y:Nat->Nat->Int}
structure Tight (T:TN) (D a:Nat) (b:Int) (g:Nat->Nat->Int) (y:Nat->Nat->Int):Prop where
 up : ∀t k,t<D->k<T.L->g k t<T.lf k t->y (t+1) (T.to k)<=y t (T.fr k)+T.pr k t
 dn : ∀t k,t<D->k<T.L->0<g k t->y t (T.fr k)+T.pr k t<=y (t+1) (T.to k)
 mono : ∀t x,t<D->x<T.h->y (t+1) x<=y t x
 stay : ∀t x,t<D->x<T.h->0<T.stk a b g t x-T.outF g x t->y t x<=y (t+1) x
theorem Akr (P:T.Plan D a c b g) (hfr:∀k,k<T.L->T.fr k<T.h) (hto:∀k,k<T.L->T.to k<T.h) (H:T.Tight D a b g y) {t:Nat} (ht:t<D) :
  T.pot a b g y (t+1)=T.pot a b g y t+As (λk=>(y (t+1) (T.to k)-y t (T.fr k))*g k t) T.L:=by
 have e1:T.pot a b g y (t+1)=As (λx=>y (t+1) x*(T.stk a b g t x-T.outF g x t)+y (t+1) x*T.inF g x t) T.h:=by
  refine Am λx _=>?_
  rw [vr,pn]
 have e2:As (λx=>y (t+1) x*(T.stk a b g t x-T.outF g x t)) T.h=As (λx=>y t x*T.stk a b g t x-y t x*T.outF g x t) T.h:=by
  refine Am λx hx=>?_
  rw [<-po]
  have h0:=P.st t x ht hx
  by_cases c0:0<T.stk a b g t x-T.outF g x t
  .have h1:=H.stay t x ht hx c0
   have h2:=H.mono t x ht hx
   rw [show y (t+1) x=y t x by omega]
  .rw [show T.stk a b g t x-T.outF g x t=0 by omega,uk,uk]
 have e3:As (λk=>(y (t+1) (T.to k)-y t (T.fr k))*g k t) T.L=As (λk=>y (t+1) (T.to k)*g k t) T.L-As (λk=>y t (T.fr k)*g k t) T.L:=by
  rw [<-Co]
  exact Am λk _=>vw _ _ _
 rw [Co,PU hfr]at e2
 rw [e1,B8,Tx hto,e3]
 have e4:T.pot a b g y t=As (λx=>y t x*T.stk a b g t x) T.h:=rfl
 omega
theorem Wb (P:T.Plan D a c b g) (hfr:∀k,k<T.L->T.fr k<T.h) (hto:∀k,k<T.L->T.to k<T.h) (H:T.Tight D a b g y):∀t,t<=D ->
  T.pot a b g y t=T.pot a b g y 0+As (λs=>As (λk=>(y (s+1) (T.to k)-y s (T.fr k))*g k s) T.L) t
 | 0,_=>by rw[As];omega
 | t+1,ht=>by
  have ih:=Wb P hfr hto H t (by omega)
  have h:=Akr P hfr hto H (t:=t) (by omega)
  rw [As]
  omega
theorem Aks (P:T.Plan D a c b g) (hfr:∀k,k<T.L->T.fr k<T.h) (hto:∀k,k<T.L->T.to k<T.h) (ha:a<T.h) (hb:0<=b) (H:T.Tight D a b g y) {k t:Nat} (hk:k<T.L) (ht:t<D) :
  (y (t+1) (T.to k)-y t (T.fr k))*g k t=T.pr k t*g k t+min b (T.lf k t)*T.exc y t k:=by
 have h0:=P.nn k t hk ht
 have h1:=P.le k t hk ht
 have h2:=aA P hfr hto ha hk ht
 have hu:=H.up t k ht hk
 have hd:=H.dn t k ht hk
 have ex:T.exc y t k=max 0 (y (t+1) (T.to k)-y t (T.fr k)-T.pr k t):=rfl
 generalize y (t+1) (T.to k)=p at *
 generalize y t (T.fr k)=q at *
 generalize T.pr k t=r at *
 generalize T.exc y t k=e at *
 generalize T.lf k t=l at *
 generalize g k t=f at *
 by_cases c1:f<l
 .have hu:=hu c1
  have e0:e=0:=by omega
  rw [e0,uk,th]
  by_cases c2:0<f
  .have := hd c2
   rw [show p-q=r by omega]
  .rw [show f=0 by omega,uk,uk]
 .have c1:f=l:=by omega
  rw [show min b l=f by omega]
  by_cases c2:0<f
  .have := hd c2
   rw [show e=p-q-r by omega,p8 f,<-Int.add_mul]
   congr 1
   omega
  .rw [show f=0 by omega,uk,uk,Int.zero_mul];rfl
theorem bnd_eq (P:T.Plan D a c b g) (hfr:∀k,k<T.L->T.fr k<T.h) (hto:∀k,k<T.L->T.to k<T.h) (ha:a<T.h) (hc:c<T.h) (hb:0<=b) (H:T.Tight D a b g y):T.bnd D a c b y=T.cst D g:=by
 have h:=Wb P hfr hto H D (cg _)
 have p0:T.pot a b g y 0=y 0 a*b:=by
  have : T.pot a b g y 0=As (λx=>if a=x then y 0 a*b else 0) T.h:=Am λx _=>by
   show y 0 x*(if a=x then b else 0)=_
   by_cases e:a=x
   .rw [if_pos e,if_pos e,e]
   .rw [if_neg e,if_neg e,uk]
  rw [this,BH,if_pos ha]
 have pD:T.pot a b g y D=y D c*b:=by
  have : T.pot a b g y D=As (λx=>if c=x then y D c*b else 0) T.h:=Am λx hx=>by
   show y D x*T.stk a b g D x=_
   rw [P.en x hx]
   by_cases e:c=x
   .rw [if_pos e,if_pos e,e]
   .rw [if_neg e,if_neg e,uk]
  rw [this,BH,if_pos hc]
 have s:As (λs=>As (λk=>(y (s+1) (T.to k)-y s (T.fr k))*g k s) T.L) D=T.cst D g+As (λt=>As (λk=>min b (T.lf k t)*T.exc y t k) T.L) D:=by
  have e:T.cst D g+As (λt=>As (λk=>min b (T.lf k t)*T.exc y t k) T.L) D=As (λt=>As (λk=>T.pr k t*g k t+min b (T.lf k t)*T.exc y t k) T.L) D:=by
   unfold cst
   rw [<-B8]
   exact Am λt _=>by rw[B8]
  rw [e]
  exact Am λt ht=>Am λk hk=>Aks P hfr hto ha hb H hk ht
 unfold bnd
 rw [po,p8 b,p8 b]
 omega
theorem Aeb (P:T.Plan D a c b g) {t z:Nat} (ht:t<D):0<=T.inF g z t:=BD λk hk=>by
 split
 .exact P.nn k t hk ht
 .exact pj _
theorem L5 (P:T.Plan D a c b g) (hfr:∀k,k<T.L->T.fr k<T.h) (hto:∀k,k<T.L->T.to k<T.h) {k t:Nat} (hk:k<T.L) (ht:t<D) (hg:0<g k t):0<T.stk a b g t (T.fr k)/\0<T.stk a b g (t+1) (T.to k):=by
 have h1:g k t<=T.outF g (T.fr k) t:=by
  have := EM (f:=λj=>if T.fr j=T.fr k then g j t else 0) (k:=k) (n:=T.L) (λi hi=>by
   split
   .exact P.nn i t hi ht
   .exact pj _) hk
  rw [if_pos rfl]at this
  exact this
 have h2:=P.st t (T.fr k) ht (hfr k hk)
 have h3:=P.st t (T.to k) ht (hto k hk)
 have h4:g k t<=T.inF g (T.to k) t:=by
  have := EM (f:=λj=>if T.to j=T.to k then g j t else 0) (k:=k) (n:=T.L) (λi hi=>by
   split
   .exact P.nn i t hi ht
   .exact pj _) hk
  rw [if_pos rfl]at this
  exact this
 refine ⟨by omega,?_⟩
 rw [vr];omega
structure Fix (T:TN) (D a c:Nat) (b:Int) (g:Nat->Nat->Int) (y:Nat->Nat->Int) (mx:Int):Prop where
 up : ∀t k,t<D->k<T.L->g k t<T.lf k t->y t (T.fr k)<mx->y (t+1) (T.to k)<=y t (T.fr k)+T.pr k t
 dn : ∀t k,t<D->k<T.L->0<g k t->y (t+1) (T.to k)<mx->y t (T.fr k)<=y (t+1) (T.to k)-T.pr k t
 mono : ∀t x,t<D->x<T.h->y (t+1) x<=y t x
 stay : ∀t x,t<D->x<T.h->0<T.stk a b g t x-T.outF g x t->y t x<=y (t+1) x
 le : ∀t x,t<=D->x<T.h->y t x<=mx
 lt : y D c<mx
 pr : ∀k t,k<T.L->t<D->0<=T.pr k t
theorem Fix.low {mx:Int} (P:T.Plan D a c b g) (hfr:∀k,k<T.L->T.fr k<T.h) (hto:∀k,k<T.L->T.to k<T.h) (H:T.Fix D a c b g y mx):∀j t,t+j=D->∀x,x<T.h->0<T.stk a b g t x->y t x<=y D c
 | 0,t,ht,x,hx,h=>by
  have e:t=D:=by omega
  subst e
  rw [P.en x hx]at h
  by_cases e:c=x
  .rw [e];exact pj _
  .rw [if_neg e]at h;omega
 | j + 1,t,ht,x,hx,h=>by
  have ih:=Fix.low P hfr hto H j (t+1) (by omega)
  have htD:t<D:=by omega
  by_cases c0:0<T.stk a b g t x-T.outF g x t
  .have h1:=H.stay t x htD hx c0
   have h2:=ih x hx (by rw[vr];have:=Aeb P (z:=x) htD;omega)
   omega
  .have ho:0<T.outF g x t:=by omega
   have : ∃k,k<T.L/\T.fr k=x/\0<g k t:=by
    refine pq λhno=>?_
    have : T.outF g x t=0:=Bu λk hk=>by
     by_cases e:T.fr k=x
     .rw [if_pos e]
      have := P.nn k t hk htD
      have : ¬0<g k t:=λg=>hno ⟨k,hk,e,g⟩
      omega
     .rw [if_neg e]
    omega
   obtain ⟨k,hk,e,hg⟩:=this
   have h2:=ih (T.to k) (hto k hk) (L5 P hfr hto hk htD hg).2
   have h1:=H.dn t k htD hk hg (by have:=H.lt;omega)
   rw [e]at h1
   have := H.pr k t hk htD
   omega
theorem Fix.tight {mx:Int} (P:T.Plan D a c b g) (hfr:∀k,k<T.L->T.fr k<T.h) (hto:∀k,k<T.L->T.to k<T.h) (H:T.Fix D a c b g y mx):T.Tight D a b g λt x=>min (y t x) (y D c):=by
 have low:=λt (ht:t<=D)=>Fix.low P hfr hto H (D-t) t (by omega)
 have hlt:=H.lt
 refine ⟨λt k ht hk h=>?_,λt k ht hk h=>?_,λt x ht hx=>?_,λt x ht hx h=>?_⟩
 .have hp:=H.pr k t hk ht
  have h1:=H.le (t+1) (T.to k) (by omega) (hto k hk)
  by_cases c1:y t (T.fr k)<mx
  .have := H.up t k ht hk h c1
   omega
  .omega
 .obtain ⟨s1,s2⟩:=L5 P hfr hto hk ht h
  have h1:=low t (by omega) (T.fr k) (hfr k hk) s1
  have h2:=low (t+1) (by omega) (T.to k) (hto k hk) s2
  have h3:=H.dn t k ht hk h (by omega)
  omega
 .have := H.mono t x ht hx
  omega
 .have h1:=H.stay t x ht hx h
  omega
end
end TN
structure YS where
 y : Nat->Nat->Int
 ch : Bool
def YS.rl (s:YS) (t x:Nat) (v:Int):YS:=if v<s.y t x then⟨λt' x'=>if t'=t/\x'=x then v else s.y t' x',true⟩else s
theorem Ty {f g:Nat->Int} {i:Nat}:∀ {n},(∀j,j<n->f j<=g j)->i<n->f i<g i->As f n<As g n
 | 0,_,h,_=>absurd h (by omega)
 | n+1,h,hi,hl=>by
  have h0:=h n (by omega)
  rw [As,As]
  by_cases e:i=n
  .subst e
   have := EK (f:=f) (g:=g) (n:=i) λj hj=>h j (by omega)
   omega
  .have := Ty (f:=f) (g:=g) (n:=n) (λj hj=>h j (by omega)) (by omega) hl
   omega
namespace TN
def stU (T:TN) (mx:Int) (g:Nat->Nat->Int) (s:YS) (t k:Nat):YS:=if g k t<T.lf k t/\s.y t (T.fr k)<mx then s.rl (t+1) (T.to k) (s.y t (T.fr k)+T.pr k t)else s
def stD (T:TN) (mx:Int) (g:Nat->Nat->Int) (s:YS) (t k:Nat):YS:=if 0<g k t/\s.y (t+1) (T.to k)<mx then s.rl t (T.fr k) (s.y (t+1) (T.to k)-T.pr k t)else s
def stL (T:TN) (mx:Int) (g:Nat->Nat->Int) (s:YS) (t k:Nat):YS:=T.stD mx g (T.stU mx g s t k) t k
def stA (s:YS) (t x:Nat):YS:=s.rl (t+1) x (s.y t x)
def stB (so:Nat->Nat->Int) (s:YS) (t x:Nat):YS:=if 0<so t x then s.rl t x (s.y (t+1) x)else s
def pass1 (T:TN) (mx:Int) (g:Nat->Nat->Int) (s:YS):Nat->YS
 | 0=>s
 | n+1=>T.stL mx g (pass1 T mx g s n) (n / T.L) (n % T.L)
def pass2 (T:TN) (so:Nat->Nat->Int) (s:YS):Nat->YS
 | 0=>s
 | n+1=>stB so (stA (pass2 T so s n) (n / T.h) (n % T.h)) (n / T.h) (n % T.h)
def rnd (T:TN) (D:Nat) (mx:Int) (g so:Nat->Nat->Int) (y:Nat->Nat->Int):YS:=T.pass2 so (T.pass1 mx g ⟨y,false⟩ (D*T.L)) (D*T.h)
section
variable {T:TN} {D a c:Nat} {b mx far:Int} {g so lam:Nat->Nat->Int}
def ms (T:TN) (D:Nat) (y:Nat->Nat->Int):Int:=As (λt=>As (λx=>y t x) T.h) (D+1)
def Low (T:TN) (D:Nat) (lam y:Nat->Nat->Int):Prop:=∀t x,t<=D->x<T.h->lam t x<=y t x
structure Rel (T:TN) (D:Nat) (lam:Nat->Nat->Int) (s s':YS):Prop where
 same : s'.ch=false->s'=s
 le : ∀t x,s'.y t x<=s.y t x
 lt : s'.ch=true->s.ch=true\/T.ms D s'.y<T.ms D s.y
 low : T.Low D lam s.y->T.Low D lam s'.y
theorem Agz {y y':Nat->Nat->Int} (h:∀t x,y' t x<=y t x):T.ms D y'<=T.ms D y:=EK λt _=>EK λx _=>h t x
theorem Rel.refl {s:YS}:T.Rel D lam s s:=⟨λ_=>rfl,λ_ _=>pj _,λh=>.inl h,λh=>h⟩
theorem Rel.trans {s s' s'':YS} (h:T.Rel D lam s s') (k:T.Rel D lam s' s''):T.Rel D lam s s'':=by
 refine ⟨λe=>?_,λt x=>qj (k.le t x) (h.le t x),λe=>?_,λl=>k.low (h.low l)⟩
 .have := k.same e
  subst this
  exact h.same e
 .have h1:=Agz (T:=T) (D:=D) h.le
  have h2:=Agz (T:=T) (D:=D) k.le
  rcases k.lt e with g | g
  .rcases h.lt g with g | g
   .exact .inl g
   .exact .inr (by omega)
  .exact .inr (by omega)
theorem Tz {s:YS} {t x:Nat} {v:Int} (ht:t<=D) (hx:x<T.h) (hv:T.Low D lam s.y->lam t x<=v):T.Rel D lam s (s.rl t x v):=by
 unfold YS.rl
 by_cases e:v<s.y t x
 .rw [if_pos e]
  have hle:∀t' x',(if t'=t/\x'=x then v else s.y t' x')<=s.y t' x':=λt' x'=>by
   split
   .rename_i q;rw[q.1,q.2];omega
   .exact pj _
  refine ⟨λh=>by simp at h,hle,λ_=>.inr ?_,λl t' x' ht' hx'=>?_⟩
  .refine Ty (i:=t) (λj _=>EK λx _=>hle _ _) (by omega) (Ty (i:=x) (λj _=>hle _ _) hx ?_)
   dsimp only
   rw [if_pos ⟨rfl,rfl⟩];exact e
  .dsimp only
   split
   .rename_i q;rw[q.1,q.2];exact hv l
   .exact l t' x' ht' hx'
 .rw [if_neg e];exact .refl
structure Lam (T:TN) (D:Nat) (g so lam:Nat->Nat->Int):Prop where
 fr : ∀k,k<T.L->T.fr k<T.h
 to : ∀k,k<T.L->T.to k<T.h
 up : ∀t k,t<D->k<T.L->g k t<T.lf k t->lam (t+1) (T.to k)<=lam t (T.fr k)+T.pr k t
 dn : ∀t k,t<D->k<T.L->0<g k t->lam t (T.fr k)<=lam (t+1) (T.to k)-T.pr k t
 mono : ∀t x,t<D->x<T.h->lam (t+1) x<=lam t x
 stay : ∀t x,t<D->x<T.h->0<so t x->lam t x<=lam (t+1) x
theorem stU_rel (H:T.Lam D g so lam) {s:YS} {t k:Nat} (ht:t<D) (hk:k<T.L):T.Rel D lam s (T.stU mx g s t k):=by
 unfold stU
 split
 .rename_i h
  exact Tz (by omega) (H.to k hk) λl=>by
   have h1:=H.up t k ht hk h.1
   have h2:=l t (T.fr k) (by omega) (H.fr k hk)
   omega
 .exact .refl
theorem Aec (H:T.Lam D g so lam) {s:YS} {t k:Nat} (ht:t<D) (hk:k<T.L):T.Rel D lam s (T.stD mx g s t k):=by
 unfold stD
 split
 .rename_i h
  exact Tz (by omega) (H.fr k hk) λl=>by
   have h1:=H.dn t k ht hk h.1
   have h2:=l (t+1) (T.to k) (by omega) (H.to k hk)
   omega
 .exact .refl
theorem Aed (H:T.Lam D g so lam) {s:YS} {t x:Nat} (ht:t<D) (hx:x<T.h):T.Rel D lam s (stA s t x) :=
 Tz (by omega) hx λl=>by
  have h1:=H.mono t x ht hx
  have h2:=l t x (by omega) hx
  omega
theorem Aee (H:T.Lam D g so lam) {s:YS} {t x:Nat} (ht:t<D) (hx:x<T.h):T.Rel D lam s (stB so s t x):=by
 unfold stB
 split
 .rename_i h
  exact Tz (by omega) hx λl=>by
   have h1:=H.stay t x ht hx h
   have h2:=l (t+1) x (by omega) hx
   omega
 .exact .refl
theorem idx_lt {n L i:Nat} (h:i<n*L):i / L<n/\i % L<L:=by
 have hL:0<L:=by
  rcases Nat.eq_zero_or_pos L with e | e
  .rw [e,Nat.mul_zero]at h;omega
  .exact e
 exact ⟨(Nat.div_lt_iff_lt_mul hL).2 h,Nat.mod_lt _ hL⟩
theorem pass1_rel (H:T.Lam D g so lam) {s:YS}:∀ {n},n<=D*T.L->T.Rel D lam s (T.pass1 mx g s n)
 | 0,_=>.refl
 | n+1,hn=>by
  obtain ⟨h1,h2⟩:=idx_lt (i:=n) (np (ny n) hn)
  exact (pass1_rel H (by omega)).trans ((stU_rel H h1 h2).trans (Aec H h1 h2))
theorem RH (H:T.Lam D g so lam) {s:YS}:∀ {n},n<=D*T.h->T.Rel D lam s (T.pass2 so s n)
 | 0,_=>.refl
 | n+1,hn=>by
  obtain ⟨h1,h2⟩:=idx_lt (i:=n) (np (ny n) hn)
  exact (RH H (by omega)).trans ((Aed H h1 h2).trans (Aee H h1 h2))
theorem rnd_rel (H:T.Lam D g so lam) {y:Nat->Nat->Int}:T.Rel D lam ⟨y,false⟩ (T.rnd D mx g so y) :=
 (pass1_rel H (cg _)).trans (RH H (cg _))
theorem TA {s:YS} {t x:Nat} {v:Int} (h:(s.rl t x v).ch=false):s.rl t x v=s/\s.y t x<=v:=by
 unfold YS.rl at h ⊢
 by_cases e:v<s.y t x
 .rw [if_pos e]at h;cases h
 .rw [if_neg e];exact⟨rfl,by omega⟩
theorem Aef {s:YS} {t k:Nat} (h:(T.stU mx g s t k).ch=false):T.stU mx g s t k=s/\(g k t<T.lf k t->s.y t (T.fr k)<mx->s.y (t+1) (T.to k)<=s.y t (T.fr k)+T.pr k t):=by
 unfold stU at h ⊢
 split
 .rename_i q
  rw [if_pos q]at h
  obtain ⟨h1,h2⟩:=TA h
  exact ⟨h1,λ_ _=>h2⟩
 .rename_i q
  exact ⟨rfl,λa b=>absurd ⟨a,b⟩ q⟩
theorem Aeg {s:YS} {t k:Nat} (h:(T.stD mx g s t k).ch=false):T.stD mx g s t k=s/\(0<g k t->s.y (t+1) (T.to k)<mx->s.y t (T.fr k)<=s.y (t+1) (T.to k)-T.pr k t):=by
 unfold stD at h ⊢
 split
 .rename_i q
  rw [if_pos q]at h
  obtain ⟨h1,h2⟩:=TA h
  exact ⟨h1,λ_ _=>h2⟩
 .rename_i q
  exact ⟨rfl,λa b=>absurd ⟨a,b⟩ q⟩
theorem Aeh {s:YS} {t x:Nat} (h:(stB so s t x).ch=false):stB so s t x=s/\(0<so t x->s.y t x<=s.y (t+1) x):=by
 unfold stB at h ⊢
 split
 .rename_i q
  rw [if_pos q]at h
  obtain ⟨h1,h2⟩:=TA h
  exact ⟨h1,λ_=>h2⟩
 .rename_i q
  exact ⟨rfl,λa=>absurd a q⟩
theorem RI {s:YS}:∀ {n},(T.pass1 mx g s n).ch=false->T.pass1 mx g s n=s/\∀i,i<n->(g (i % T.L) (i / T.L)<T.lf (i % T.L) (i / T.L)->s.y (i / T.L) (T.fr (i % T.L))<mx->s.y (i / T.L+1) (T.to (i % T.L))<=s.y (i / T.L) (T.fr (i % T.L))+T.pr (i % T.L) (i / T.L))/\(0<g (i % T.L) (i / T.L)->s.y (i / T.L+1) (T.to (i % T.L))<mx->s.y (i / T.L) (T.fr (i % T.L))<=s.y (i / T.L+1) (T.to (i % T.L))-T.pr (i % T.L) (i / T.L))
 | 0,_=>⟨rfl,λi hi=>absurd hi (by omega)⟩
 | n+1,h=>by
  obtain ⟨h1,h2⟩:=Aeg h
  have h1':T.pass1 mx g s (n+1)=T.stU mx g (T.pass1 mx g s n) (n / T.L) (n % T.L):=h1
  rw [h1']at h
  obtain ⟨h3,h4⟩:=Aef h
  rw [h3]at h h1' h2
  obtain ⟨h5,h6⟩:=RI h
  rw [h5]at h1' h2 h4
  refine ⟨h1',λi hi=>?_⟩
  by_cases e:i=n
  .subst e;exact⟨h4,h2⟩
  .exact h6 i (by omega)
theorem RJ {s:YS}:∀ {n},(T.pass2 so s n).ch=false->T.pass2 so s n=s/\∀i,i<n->s.y (i / T.h+1) (i % T.h)<=s.y (i / T.h) (i % T.h)/\(0<so (i / T.h) (i % T.h)->s.y (i / T.h) (i % T.h)<=s.y (i / T.h+1) (i % T.h))
 | 0,_=>⟨rfl,λi hi=>absurd hi (by omega)⟩
 | n+1,h=>by
  obtain ⟨h1,h2⟩:=Aeh h
  have h1':T.pass2 so s (n+1)=stA (T.pass2 so s n) (n / T.h) (n % T.h):=h1
  rw [h1']at h
  obtain ⟨h3,h4⟩:=TA h
  have h3':stA (T.pass2 so s n) (n / T.h) (n % T.h)=T.pass2 so s n:=h3
  rw [h3']at h h1' h2
  obtain ⟨h5,h6⟩:=RJ h
  rw [h5]at h1' h2 h4
  refine ⟨h1',λi hi=>?_⟩
  by_cases e:i=n
  .subst e;exact⟨h4,h2⟩
  .exact h6 i (by omega)
theorem row_idx {L t k:Nat} (hk:k<L):(t*L+k) / L=t/\(t*L+k) % L=k :=
 ⟨by rw[Nat.mul_comm,Nat.mul_add_div (by omega),Nat.div_eq_of_lt hk];omega,by rw[Nat.mul_comm,Nat.mul_add_mod,Nat.mod_eq_of_lt hk]⟩
theorem wH {D L t k:Nat} (ht:t<D) (hk:k<L):t*L+k<D*L:=by
 have := Nat.mul_le_mul_right L (show t+1<=D by omega)
 rw [Nat.add_mul,Nat.one_mul]at this
 omega
theorem rnd_fix {y:Nat->Nat->Int} (h:(T.rnd D mx g so y).ch=false):(T.rnd D mx g so y).y=y/\(∀t k,t<D->k<T.L->(g k t<T.lf k t->y t (T.fr k)<mx->y (t+1) (T.to k)<=y t (T.fr k)+T.pr k t)/\(0<g k t->y (t+1) (T.to k)<mx->y t (T.fr k)<=y (t+1) (T.to k)-T.pr k t)) /\
  ∀ t x,t<D->x<T.h->y (t+1) x<=y t x/\(0<so t x->y t x<=y (t+1) x):=by
 unfold rnd at h ⊢
 obtain ⟨h1,h2⟩:=RJ h
 rw [h1]at h ⊢
 obtain ⟨h3,h4⟩:=RI h
 rw [h3]at h2 ⊢
 refine ⟨rfl,λt k ht hk=>?_,λt x ht hx=>?_⟩
 .have := h4 (t*T.L+k) (wH ht hk)
  rw [(row_idx hk).1,(row_idx hk).2]at this
  exact this
 .have := h2 (t*T.h+x) (wH ht hx)
  rw [(row_idx hx).1,(row_idx hx).2]at this
  exact this
inductive PrvR (T:TN) (D:Nat) (mx:Int) (g so:Nat->Nat->Int):(Nat->Nat->Int)->(Nat->Nat->Int)->Prop
 | done (y:Nat->Nat->Int) (h:(T.rnd D mx g so y).ch=false):PrvR T D mx g so y y
 | more (y y':Nat->Nat->Int) (h:(T.rnd D mx g so y).ch=true) (k:PrvR T D mx g so (T.rnd D mx g so y).y y'):PrvR T D mx g so y y'
theorem prv_det {y y1 y2:Nat->Nat->Int} (h1:T.PrvR D mx g so y y1) (h2:T.PrvR D mx g so y y2):y1=y2:=by
 induction h1 with
 | done y h =>
  cases h2 with
  | done _ _=>rfl
  | more _ _ h' _=>rw[h]at h';cases h'
 | more y y' h k ih =>
  cases h2 with
  | done _ h'=>rw[h]at h';cases h'
  | more _ _ _ k'=>exact ih k'
theorem wI (H:T.Lam D g so lam) (nn:∀t x,0<=lam t x):∀(n:Nat) (y:Nat->Nat->Int),T.Low D lam y->(T.ms D y).toNat<=n->∃y',T.PrvR D mx g so y y'/\T.Low D lam y'/\(∀t x,y' t x<=y t x)/\(T.rnd D mx g so y').ch=false
 | n,y,hl,hn=>by
  have R:=rnd_rel (mx:=mx) H (y:=y)
  cases hc:(T.rnd D mx g so y).ch
  .exact ⟨y,.done y hc,hl,λ_ _=>pj _,hc⟩
  .have h1:=R.lt hc
   have h2:=R.low hl
   have h3:0<=T.ms D (T.rnd D mx g so y).y:=BD λt ht=>BD λx hx=>qj (nn t x) (h2 t x (by omega) hx)
   rcases h1 with h1 | h1
   .cases h1
   .dsimp only at h1
    cases n with
    | zero=>omega
    | succ n =>
     obtain ⟨y',p,q,r,s⟩:=wI H nn n _ h2 (by omega)
     exact ⟨y',.more y y' hc p,q,λt x=>qj (r t x) (R.le t x),s⟩
def iniY (D a c:Nat) (mx far:Int) (t x:Nat):Int:=if t=0/\x=a then 0 else if t=D/\x=c then far else mx
def prvY (T:TN) (D a c:Nat) (mx far:Int) (g so:Nat->Nat->Int):Nat->Nat->Int :=
 @dite _ (∃y,T.PrvR D mx g so (iniY D a c mx far) y) (qo _) (λh=>h.choose) (λ_=>iniY D a c mx far)
theorem Aei {y:Nat->Nat->Int} (h:T.PrvR D mx g so (iniY D a c mx far) y):T.prvY D a c mx far g so=y:=by
 unfold prvY
 have hx:∃y,T.PrvR D mx g so (iniY D a c mx far) y:=⟨y,h⟩
 rw [dif_pos hx]
 exact prv_det hx.choose_spec h
theorem prv_ok (H:T.Lam D g so lam) (nn:∀t x,0<=lam t x) (l0:lam 0 a<=0) (lD:lam D c<=far) (lm:∀t x,t<=D->x<T.h->lam t x<=mx) (hf0:0<=far) (hfar:far<mx) (hpr:∀k t,k<T.L->t<D->0<=T.pr k t)
  (hso : ∀t x,t<D->x<T.h->so t x=T.stk a b g t x-T.outF g x t) (hc:c<T.h) :
  T.PrvR D mx g so (iniY D a c mx far) (T.prvY D a c mx far g so)/\T.Fix D a c b g (T.prvY D a c mx far g so) mx/\∀t x,t<=D->x<T.h->0<=T.prvY D a c mx far g so t x:=by
 have hl:T.Low D lam (iniY D a c mx far):=λt x ht hx=>by
  unfold iniY
  split
  .rename_i h;rw[h.1,h.2];exact l0
  .split
   .rename_i h;rw[h.1,h.2];exact lD
   .exact lm t x ht hx
 obtain ⟨y,p,q,r,s⟩:=wI (mx:=mx) H nn _ _ hl (cg _)
 rw [Aei p]
 obtain ⟨f1,f2,f3⟩:=rnd_fix s
 refine ⟨p,⟨λt k ht hk h1 h2=>(f2 t k ht hk).1 h1 h2,λt k ht hk h1 h2=>(f2 t k ht hk).2 h1 h2,λt x ht hx=>(f3 t x ht hx).1,λt x ht hx h=>(f3 t x ht hx).2 (by rw[hso t x ht hx];exact h),λt x ht hx=>?_,?_,hpr⟩,λt x ht hx=>qj (nn t x) (q t x ht hx)⟩
 .refine qj (r t x) ?_
  unfold iniY
  split
  .omega
  .split <;> omega
 .refine Int.lt_of_le_of_lt (r D c) ?_
  unfold iniY
  split
  .omega
  .rw [if_pos ⟨rfl,rfl⟩];exact hfar
end
end TN
def rA (p:Nat->Arc) (f:Nat->Int):Nat->List Arc
 | 0 => []
 | n+1=>rA p f n ++ [((p n).2.1,(p n).1,(p n).2.2.1-f n,(p n).2.2.2),((p n).1,(p n).2.1,f n,-(p n).2.2.2)]
section
variable {p:Nat->Arc} {f:Nat->Int}
theorem Jk:∀ {n},(rA p f n).length=2*n
 | 0=>rfl
 | n+1=>by rw[rA,List.length_append,Jk];simp;omega
theorem aC:∀ {n i:Nat},i<n->(rA p f n).getD (2*i) dA=((p i).2.1,(p i).1,(p i).2.2.1-f i,(p i).2.2.2)
 | 0,i,h=>absurd h (by omega)
 | n+1,i,h=>by
  by_cases e:i=n
  .subst e
   rw [rA,oa,ct (by rw[Jk];omega),Jk]
   simp
  .rw [rA,oa,cq (by rw[Jk];omega),<-oa,aC (by omega)]
theorem wJ:∀ {n i:Nat},i<n->(rA p f n).getD (2*i+1) dA=((p i).1,(p i).2.1,f i,-(p i).2.2.2)
 | 0,i,h=>absurd h (by omega)
 | n+1,i,h=>by
  by_cases e:i=n
  .subst e
   rw [rA,oa,ct (by rw[Jk];omega),Jk,show 2*i+1-2*i=1 by omega]
   simp
  .rw [rA,oa,cq (by rw[Jk];omega),<-oa,wJ (by omega)]
end
theorem Akt {A:List Arc} {N s:Nat} {st:BS} {M:Int} (cs:st.cost.getD s 0=0) {v:Nat} {P:List Nat} (h:IsP A s v P):(∀k∈P,-M<=aP A k/\aP A k<=M/\aP A k+st.cost.getD (aF A k) 0-st.cost.getD (aT A k) 0=0) -> -(M*(P.length:Int))<=st.cost.getD v 0/\st.cost.getD v 0<=M*(P.length:Int):=by
 induction h with
 | nil=>intro _;rw[cs];simp
 | cons k P h ih =>
  intro g
  have i:=ih λj hj=>g j (List.mem_cons_of_mem _ hj)
  have q:=g k (List.mem_cons_self ..)
  rw [List.length_cons]
  have e:M*((P.length+1:Nat):Int)=M*(P.length:Int)+M:=by rw[show ((P.length+1:Nat):Int)=(P.length:Int)+1 by omega,pn,Int.mul_one]
  omega
namespace TN
section
variable {T:TN} {D a c:Nat} {b:Int} {g:Nat->Nat->Int}
theorem lam_ex (ok:T.OK D) (ha:a<T.h) (P:T.Plan D a c b g) {f:Nat->Int} (hw:∀t x,t<D->x<T.h->T.wf f x t=T.stk a b g t x-T.outF g x t) (hg:∀t k,t<D->k<T.L->T.gf f k t=g k t) (hb:b<1099511627776)
  (hp : ∃φ,(T.G D a c).Pot f φ):∃lam:Nat->Nat->Int,T.Lam D g (λt x=>T.stk a b g t x-T.outF g x t) lam/\(∀t x,0<=lam t x)/\lam 0 a=0/\∀t x,t<=D->x<T.h->lam t x<=1000000*(((D+1)*T.h:Nat):Int):=by
 obtain ⟨φ,hφ⟩:=hp
 have hpo:=TN.p_ok ok
 obtain ⟨A,hA⟩:∃A,rA T.p f (D*T.W)=A:=⟨_,rfl⟩
 obtain ⟨N,hN⟩:∃N,(D+1)*T.h=N:=⟨_,rfl⟩
 have hlen:A.length=2*(D*T.W):=by rw[<-hA];exact Jk
 have he:∀i,i<D*T.W->A.getD (2*i) dA=((T.p i).2.1,(T.p i).1,(T.p i).2.2.1-f i,(T.p i).2.2.2):=λi hi=>by rw[<-hA];exact aC hi
 have ho:∀i,i<D*T.W->A.getD (2*i+1) dA=((T.p i).1,(T.p i).2.1,f i,-(T.p i).2.2.2):=λi hi=>by rw[<-hA];exact wJ hi
 have hs:a<N:=by
  have := TN.node_lt (T:=T) (D:=D) (t:=0) (by omega) ha
  rw [vy,cd,hN]at this
  exact this
 rw [hN]at hpo
 have G:Gb A N a (λv => - φ v):=by
  refine ⟨λk hk=>?_,hs,λk hk=>?_,λk hk hl=>?_⟩
  all_goals (rw[hlen]at hk;obtain⟨i,hi,rfl | rfl⟩:=D3 hk)
  .unfold aF aT;rw[he i hi];have:=hpo i hi;exact⟨this.2.1,this.1⟩
  .unfold aF aT;rw[ho i hi];have:=hpo i hi;exact⟨this.1,this.2.1⟩
  .unfold aP;rw[he i hi];have:=hpo i hi;dsimp only;omega
  .unfold aP;rw[ho i hi];have:=hpo i hi;dsimp only;omega
  .unfold aF aT aP;unfold aL at hl;rw[he i hi]at hl ⊢
   have h1:f i<(T.G D a c).cap i->0<=(T.p i).2.2.2+φ (T.p i).1-φ (T.p i).2.1:=(hφ i hi).1
   have h2:(T.G D a c).cap i=(T.p i).2.2.1:=rfl
   dsimp only at hl ⊢
   have := h1 (by omega)
   omega
  .unfold aF aT aP;unfold aL at hl;rw[ho i hi]at hl ⊢
   have h1:0<f i->(T.p i).2.2.2+φ (T.p i).1-φ (T.p i).2.1<=0:=(hφ i hi).2
   dsimp only at hl ⊢
   have := h1 hl
   omega
 have F:=Ab6 G
 obtain ⟨st,hst⟩:∃st,SX A N a=st:=⟨_,rfl⟩
 rw [hst]at F
 -- the arcs of the houses and links
 have hW:=λ{t x:Nat} (ht:t<D) (hx:x<T.h)=>(TN.pair_lt (T:=T) ht (j:=x) (show x<T.h+T.L by omega))
 have hK:=λ{t k:Nat} (ht:t<D) (hk:k<T.L)=>(TN.pair_lt (T:=T) ht (j:=T.h+k) (show T.h+k<T.h+T.L by omega))
 have clo:∀ {k:Nat},k<A.length->0<aL A k->Rch A a (aF A k)->Rch A a (aT A k)/\st.cost.getD (aT A k) 0<=st.cost.getD (aF A k) 0+aP A k:=λhk hl hr=>⟨.arc _ hk hl hr,F.clo _ hk hl hr⟩
 -- over a house, forward in the flow, backward here
 have arcH:∀ {t x:Nat},t<D->x<T.h->Rch A a ((t+1)*T.h+x)->T.wf f x t<1099511627776->Rch A a (t*T.h+x)/\st.cost.getD (t*T.h+x) 0<=st.cost.getD ((t+1)*T.h+x) 0:=λ{t x} ht hx hr hlt=>by
  have hi:=hW ht hx
  have e:=he _ hi
  rw [TN.p_house hx]at e
  have := clo (k:=2*(t*T.W+x)) (by omega) (by unfold aL;rw[e];dsimp only;unfold wf at hlt;omega) (by unfold aF;rw[e];exact hr)
  unfold aT aF aP at this
  rw [e]at this
  dsimp only at this
  rw [th]at this
  exact this
 have arcH':∀ {t x:Nat},t<D->x<T.h->Rch A a (t*T.h+x)->0<T.wf f x t->Rch A a ((t+1)*T.h+x)/\st.cost.getD ((t+1)*T.h+x) 0<=st.cost.getD (t*T.h+x) 0:=λ{t x} ht hx hr hlt=>by
  have hi:=hW ht hx
  have e:=ho _ hi
  rw [TN.p_house hx]at e
  have := clo (k:=2*(t*T.W+x)+1) (by omega) (by unfold aL;rw[e];exact hlt) (by unfold aF;rw[e];exact hr)
  unfold aT aF aP at this
  rw [e]at this
  dsimp only at this
  rw [Int.neg_zero,th]at this
  exact this
 have arcK:∀ {t k:Nat},t<D->k<T.L->Rch A a ((t+1)*T.h+T.to k)->g k t<T.lf k t->Rch A a (t*T.h+T.fr k)/\st.cost.getD (t*T.h+T.fr k) 0<=st.cost.getD ((t+1)*T.h+T.to k) 0+T.pr k t:=λ{t k} ht hk hr hlt=>by
  have hi:=hK ht hk
  have e:=he _ hi
  have hgk:=hg t k ht hk
  unfold gf at hgk
  rw [TN.p_link hk]at e
  have := clo (k:=2*(t*T.W+(T.h+k))) (by omega) (by unfold aL;rw[e];dsimp only;omega) (by unfold aF;rw[e];exact hr)
  unfold aT aF aP at this
  rw [e]at this
  exact this
 have arcK':∀ {t k:Nat},t<D->k<T.L->Rch A a (t*T.h+T.fr k)->0<g k t->Rch A a ((t+1)*T.h+T.to k)/\st.cost.getD ((t+1)*T.h+T.to k) 0<=st.cost.getD (t*T.h+T.fr k) 0-T.pr k t:=λ{t k} ht hk hr hlt=>by
  have hi:=hK ht hk
  have e:=ho _ hi
  have hgk:=hg t k ht hk
  unfold gf at hgk
  rw [TN.p_link hk]at e
  have := clo (k:=2*(t*T.W+(T.h+k))+1) (by omega) (by unfold aL;rw[e];dsimp only;omega) (by unfold aF;rw[e];exact hr)
  unfold aT aF aP at this
  rw [e]at this
  dsimp only at this
  refine ⟨this.1,by omega⟩
 -- what carries
 have carry:∀t,t<=D->∀x,x<T.h->0<T.stk a b g t x->Rch A a (t*T.h+x)/\st.cost.getD (t*T.h+x) 0<=0:=λt=>by
  induction t with
  | zero =>
   intro _ x hx h
   have : T.stk a b g 0 x=if a=x then b else 0:=rfl
   rw [this]at h
   by_cases e:a=x
   .subst e
    rw [vy,cd]
    exact ⟨.src,by rw[F.cs];exact pj _⟩
   .rw [if_neg e]at h;omega
  | succ t ih =>
   intro ht x hx h
   by_cases c0:0<T.stk a b g t x-T.outF g x t
   .have ho':=L4 P (x:=x) (t:=t) (by omega)
    obtain ⟨r1,r2⟩:=ih (by omega) x hx (by omega)
    obtain ⟨r3,r4⟩:=arcH' (by omega) hx r1 (by rw[hw t x (by omega) hx];exact c0)
    exact ⟨r3,by omega⟩
   .have hst':=P.st t x (by omega) hx
    have hin:0<T.inF g x t:=by rw[vr]at h;omega
    have : ∃k,k<T.L/\T.to k=x/\0<g k t:=by
     refine pq λhno=>?_
     have : T.inF g x t=0:=Bu λk hk=>by
      by_cases e:T.to k=x
      .rw [if_pos e]
       have := P.nn k t hk (by omega)
       have : ¬0<g k t:=λg=>hno ⟨k,hk,e,g⟩
       omega
      .rw [if_neg e]
     omega
    obtain ⟨k,hk,e,hgk⟩:=this
    obtain ⟨s1,_⟩:=L5 P (λk hk=>(ok.e k hk).1) (λk hk=>(ok.e k hk).2) hk (by omega) hgk
    obtain ⟨r1,r2⟩:=ih (by omega) (T.fr k) (ok.e k hk).1 s1
    obtain ⟨r3,r4⟩:=arcK' (by omega) hk r1 hgk
    have :=(ok.pr k t hk (by omega)).1
    rw [e]at r3 r4
    exact ⟨r3,by omega⟩
 -- the bound
 have bnd:∀v,v<N->Rch A a v -> -(1000000*(N:Int))<=st.cost.getD v 0:=λv hv hr=>by
  obtain ⟨P',_,q2,q3,q4⟩:=F.path v hv hr
  have hl:=Dm N _ q3 λx hx=>by
   obtain ⟨k,hk,rfl⟩:=oh.1 hx
   exact (G.ar k (q4 k hk).1).2
  rw [ow]at hl
  have :=(Akt (N:=N) (M:=1000000) F.cs q2 λk hk=>⟨(G.pr k (q4 k hk).1).1,(G.pr k (q4 k hk).1).2,(q4 k hk).2.2.2.2⟩).1
  omega
 refine ⟨λt x=>@ite _ (Rch A a (t*T.h+x)) (qo _) (max 0 (-(st.cost.getD (t*T.h+x) 0))) 0,⟨λk hk=>(ok.e k hk).1,λk hk=>(ok.e k hk).2,λt k ht hk h=>?_,λt k ht hk h=>?_,λt x ht hx=>?_,λt x ht hx h=>?_⟩,λt x=>?_,?_,λt x ht hx=>?_⟩
 .try dsimp only
  have hp:=(ok.pr k t hk ht).1
  by_cases r:Rch A a ((t+1)*T.h+T.to k)
  .obtain ⟨r1,r2⟩:=arcK ht hk r h
   rw [if_pos r,if_pos r1];omega
  .rw [if_neg r]
   split <;> omega
 .try dsimp only
  have hp:=(ok.pr k t hk ht).1
  obtain ⟨s1,s2⟩:=L5 P (λk hk=>(ok.e k hk).1) (λk hk=>(ok.e k hk).2) hk ht h
  obtain ⟨r1,r2⟩:=carry t (by omega) _ (ok.e k hk).1 s1
  obtain ⟨r3,r4⟩:=arcK' ht hk r1 h
  rw [if_pos r1,if_pos r3];omega
 .try dsimp only
  by_cases r:Rch A a ((t+1)*T.h+x)
  .by_cases e:T.wf f x t<1099511627776
   .obtain ⟨r1,r2⟩:=arcH ht hx r e
    rw [if_pos r,if_pos r1];omega
   .rw [hw t x ht hx]at e
    have ho':=L4 P (x:=x) (t:=t) ht
    have h3:=EM (f:=λx=>T.stk a b g t x) (k:=x) (n:=T.h) (λx hx=>Z9 P ht hx) hx
    rw [PX (λk hk=>(ok.e k hk).1) (λk hk=>(ok.e k hk).2) ha]at h3
    omega
  .rw [if_neg r]
   split <;> omega
 ·
  try dsimp only at h
  have ho':=L4 P (x:=x) (t:=t) ht
  obtain ⟨r1,r2⟩:=carry t (by omega) x hx (by omega)
  obtain ⟨r3,r4⟩:=arcH' ht hx r1 (by rw[hw t x ht hx];exact h)
  rw [if_pos r1,if_pos r3];omega
 .try dsimp only
  split <;> omega
 .try dsimp only
  rw [vy,cd,if_pos .src,F.cs];rfl
 .try dsimp only
  rw [<-hN]at bnd
  have hv:=TN.node_lt (T:=T) ht hx
  split
  .rename_i r
   have := bnd _ hv r
   omega
  .omega
end
end TN
end Sim
namespace Sim
open Go Go.Proofs
attribute [local congr] Ah Ai Ag At Al Aj Aq
abbrev pt (y:List (List Int)) (t k:Nat):Int:=(y.getD t []).getD k 0
def shA (hn:Int) (d:Dem) (y:List (List Int)):Prop:=(y.length:Int)=d.2.2.2.2-d.2.2.2.1+1/\∀l∈y,(l.length:Int)=hn
instance {hn:Int} {d:Dem} {y:List (List Int)}:Decidable (shA hn d y):=inferInstanceAs (Decidable (_/\_))
def shB (hn:Int) (y:List (List Int)):Prop:=∀t,t<y.length->∀k,k<hn.toNat->0<=pt y t k/\pt y t k<=536870912
instance {hn:Int} {y:List (List Int)}:Decidable (shB hn y):=inferInstanceAs (Decidable (∀t,t<y.length->_))
def shC (hn:Int) (y:List (List Int)):Prop:=∀t,t<y.length-1->∀k,k<hn.toNat->pt y (t+1) k<=pt y t k
instance {hn:Int} {y:List (List Int)}:Decidable (shC hn y):=inferInstanceAs (Decidable (∀t,t<y.length-1->_))
def shE (hn:Int) (d:Dem) (y:List (List Int)):Int:=if ¬shA hn d y then 1 else if ¬shB hn y then 3 else if ¬shC hn y then 22 else 0
def HX (hn:Int) (ls:List Lnk) (us:List Snd) (d:Dem) (y:List (List Int)):Int:=if Ek hn ls us d≠0 then Ek hn ls us d else shE hn d y
def YR (ls:List Lnk) (us:List Snd) (d:Dem) (y:List (List Int)) (t k:Nat):Int :=
 min d.2.2.1 (lfM ls us (k:Nat) (d.2.2.2.1+(t:Int)))*max 0 (pt y (t+1) (ls.getD k dL).2.1.toNat-pt y t (ls.getD k dL).1.toNat-Dk ls (k:Nat) (d.2.2.2.1+(t:Int)))
def KS (ls:List Lnk) (us:List Snd) (d:Dem) (y:List (List Int)) (n:Nat):Int :=
 d.2.2.1 * (pt y (Ap d) d.2.1.toNat-pt y 0 d.1.toNat)-As (λi=>YR ls us d y (i / ls.length) (i % ls.length)) n
def HY (hn:Int) (ls:List Lnk) (us:List Snd) (d:Dem) (y:List (List Int)):Int:=if HX hn ls us d y≠0 then 0 else KS ls us d y (Ap d*ls.length)
theorem pck_zero {hn:Int} {ls:List Lnk} {us:List Snd} {d:Dem}:Ek hn ls us d=0↔EB hn ls us d=0/\d.2.2.1<=4194304:=by
 unfold Ek
 constructor
 .intro h
  split at h
  .contradiction
  .rename_i c
   split at h
   .cases h
   .exact ⟨Classical.not_not.1 c,by omega⟩
 .rintro ⟨h1,h2⟩
  rw [if_neg (λg=>g h1),if_neg (by omega)]
section
variable {ls:List Lnk} {us:List Snd} {r:Int}
theorem YT {k t:Nat}:(II ls us r k t)[1]?=some (I (r+(t:Int))):=rfl
theorem YU {k t:Nat}:(II ls us r k t)[2]?=some (I (ls.getD k dL).1):=by simp[II,lkC]
theorem YV {k t:Nat}:(II ls us r k t)[3]?=some (I (ls.getD k dL).2.1):=by simp[II,lkC]
theorem TB {k t:Nat}:(II ls us r k t)[52]?=some (I (lfM ls us (k:Nat) (r+(t:Int)))):=by
 unfold II
 rw [qx,qx,ct (by rw[BK];omega),BK];rfl
theorem aD {k t:Nat}:(II ls us r k t)[53]?=some (I (Dk ls (k:Nat) (r+(t:Int)))):=by
 unfold II
 rw [qx,qx,ct (by rw[BK];omega),BK];rfl
theorem CC {k t:Nat}:(II ls us r k t).length=54:=by simp[II,BK]
theorem TC {D i:Nat} {y:List PV} (h:(LK ls us r D)[i]?=some y):i<D*ls.length/\y = [Adk ls us r (i % ls.length) (i / ls.length)]:=by
 unfold LK at h
 rw [List.getElem?_map,Option.map_eq_some_iff]at h
 obtain ⟨x,h1,h2⟩:=h
 obtain ⟨hi,rfl⟩:=List.getElem?_eq_some_iff.1 h1
 rw [vz]at hi
 rw [List.getElem_range]at h2
 exact ⟨hi,h2.symm⟩
theorem PY {D:Nat}:(LK ls us r D).length=D*ls.length:=by unfold LK;rw[ow,vz]
theorem PZ {D:Nat}:∀y∈LK ls us r D,y.length=1:=λy hy=>by
 obtain ⟨i,_,rfl⟩:=oh.1 hy
 rfl
end
theorem aE {hn:Int} {ls:List Lnk} {us:List Snd} {d:Dem} {y:List (List Int)} (hf:Cy hn ls us=0) (hB:shB hn y) (hb:0<=d.2.2.1/\d.2.2.1<=4194304) (hr:0<=d.2.2.2.1) {t k:Nat} (ht:t+1<y.length) (hk:k<ls.length) :
  0 <= lfM ls us (k:Nat) (d.2.2.2.1+(t:Int))/\lfM ls us (k:Nat) (d.2.2.2.1+(t:Int))<=1073741824/\0<=Dk ls (k:Nat) (d.2.2.2.1+(t:Int))/\Dk ls (k:Nat) (d.2.2.2.1+(t:Int))<=1000000 /\
  0 <= YR ls us d y t k/\YR ls us d y t k<=2251799813685248:=by
 obtain ⟨ok,_⟩:=Cj hf
 have hend:=ok.net.ends k hk
 have q1:=Hf hf (k:=(k:Int)) (t:=d.2.2.2.1+(t:Int)) ⟨by omega,by omega⟩
 have q2:=GD ok.net (link:=(k:Int)) (tick:=d.2.2.2.1+(t:Int)) (by omega) (by omega)
 have q3:=JD ok.net (link:=(k:Int)) (tick:=d.2.2.2.1+(t:Int)) (by omega) (by omega)
 have a:=hB (t+1) ht (ls.getD k dL).2.1.toNat (by omega)
 have b:=hB t (by omega) (ls.getD k dL).1.toNat (by omega)
 unfold YR
 have hl:lfM ls us (k:Nat) (d.2.2.2.1+(t:Int))=CT ls (k:Int) (d.2.2.2.1+(t:Int))-Bg us (k:Int) (d.2.2.2.1+(t:Int)) us.length:=rfl
 generalize lfM ls us (k:Nat) (d.2.2.2.1+(t:Int))=lf at *
 generalize Dk ls (k:Nat) (d.2.2.2.1+(t:Int))=pr at *
 generalize pt y (t+1) (ls.getD k dL).2.1.toNat=p at *
 generalize pt y t (ls.getD k dL).1.toNat=q at *
 refine ⟨by omega,by omega,by omega,by omega,Int.mul_nonneg (by omega) (by omega),?_⟩
 exact qj (Int.mul_le_mul (show min d.2.2.1 lf<=4194304 by omega) (show max 0 (p-q-pr)<=536870912 by omega) (by omega) (by decide)) (by decide)
theorem P1 {f:Nat->Int} {B:Int}:∀ {n:Nat},(∀i,i<n->0<=f i/\f i<=B)->0<=As f n/\As f n<=B*(n:Int)
 | 0,_=>⟨pj _,by simp[As]⟩
 | n+1,h=>by
  have ih:=P1 (f:=f) (B:=B) (n:=n) λi hi=>h i (by omega)
  have h1:=h n (by omega)
  have e:B*((n+1:Nat):Int)=B*(n:Int)+B:=by rw[show ((n+1:Nat):Int)=(n:Int)+1 by omega,pn,Int.mul_one]
  rw [As,e]
  omega
theorem kE {ls:List Lnk} {us:List Snd} {d:Dem} {y:List (List Int)} {n:Nat}:KS ls us d y (n+1)=KS ls us d y n-YR ls us d y (n / ls.length) (n % ls.length):=by
 unfold KS
 rw [As];omega
theorem L6 {hn:Int} {ls:List Lnk} {us:List Snd} {d:Dem} {y:List (List Int)} (hf:Cy hn ls us=0) (hB:shB hn y) (hb:0<=d.2.2.1/\d.2.2.1<=4194304) (hr:0<=d.2.2.2.1) (hD:Ap d<=32) (hyl:y.length=Ap d+1) (ha:0<=d.1/\d.1<hn) (hc:0<=d.2.1/\d.2.1<hn) {n:Nat} (hn':n<=Ap d*ls.length) :
  -4611686018427387904 <= KS ls us d y n/\KS ls us d y n<=2251799813685248:=by
 obtain ⟨ok,_⟩:=Cj hf
 have hl:=ok.net.len
 have h1:=P1 (f:=λi=>YR ls us d y (i / ls.length) (i % ls.length)) (B:=2251799813685248) (n:=n) λi hi=>by
  obtain ⟨h1,h2⟩:=TN.idx_lt (i:=i) (np hi hn')
  have := aE hf hB hb hr (t:=i / ls.length) (k:=i % ls.length) (by omega) h2
  exact ⟨this.2.2.2.2.1,this.2.2.2.2.2⟩
 have h2:=hB (Ap d) (by omega) d.2.1.toNat (by omega)
 have h3:=hB 0 (by omega) d.1.toNat (by omega)
 have hn2:n<=1920:=Nat.le_trans hn' (Nat.le_trans (Nat.mul_le_mul hD hl) (by decide))
 unfold KS
 generalize pt y (Ap d) d.2.1.toNat=p at *
 generalize pt y 0 d.1.toNat=q at *
 have m1:d.2.2.1*(p-q)<=2251799813685248:=by
  have := v6 (show p-q<=536870912 by omega) hb.1
  omega
 have m2 : -2251799813685248<=d.2.2.1*(p-q):=by
  have := v6 (show -536870912<=p-q by omega) hb.1
  omega
 generalize d.2.2.1*(p-q)=m at *
 omega
end Sim
