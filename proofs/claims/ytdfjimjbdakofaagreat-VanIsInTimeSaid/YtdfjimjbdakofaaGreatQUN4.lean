/- Lemmas. -/
import Derived.Test.YtdfjimjbdakofaaGreatQUH
import Derived.Test.YtdfjimjbdakofaaGreatQF6
import Derived.Test.YtdfjimjbdakofaaGreatQN8
set_option maxRecDepth 10000
set_option maxHeartbeats 4000000
set_option linter.all false
open Bool renaming and_eq_true->fy
open Classical renaming not_not->t9,byContradiction->pq
open Go.IntKind renaming i64->nm
open Go.Proofs.Tryz renaming f14->xh
open Int renaming one_mul->xc,zero_mul->xf,toNat_natCast->pe,tmod->vi,le_refl->pj
open List renaming cons.injEq->ix,getD_eq_getElem?_getD->oa,getElem?_eq_getElem->gl,mem_singleton->ku,getElem?_append_left->cq,mem_append->kq,length_append->cu,cons_append->kh,take_add_one->vo,take_length->r7,mem_cons->li,getElem?_append_right->ct,getElem_mem->oz,mem_cons_self->xi,mem_cons_of_mem->qk,mem_append_left->xj,mem_append_right->xk,Pairwise.imp->uu,mem_filter->xl
open Nat renaming le_refl->cg,reduceBEq->r8
open Option renaming some.injEq->bp
open Prod renaming ext->qu
open Sim.IObj renaming arr.injEq->q8
open Sim.Store renaming new->kp,set->kd
noncomputable section
namespace Sim
open Go Go.Proofs
attribute [local congr] Ah Ai Ag At Al Aj Aq
def Gg (ts:List Trp) (s:Nat):Nat->Int
 | 0=>0
 | k+1=>Gg ts s k+(if s.testBit k=true then 1 else 0)*(ts.getD k dT).2.2.2.2.2.2
theorem Ma {ts:List Trp} {s:Nat} (h:YP ts):∀k,k<=ts.length->0<=Gg ts s k/\Gg ts s k<=1000000*(k:Int)
 | 0,_=>by simp[Gg]
 | k+1,hk=>by
  have ih:=Ma (s:=s) h k (by omega)
  have := h.2 k (by omega)
  simp only[Gg]
  split
  .rw [xc];omega
  .rw [xf];omega
def okP (hn:Int) (ls:List Lnk) (us:List Snd) (ts:List Trp) (d:Dem) (c:Int) (s:Nat) (x:Prf):Prop :=
 if 0<x.2.length then NK (wHn hn ts) (wLs hn ls ts d s) (wUs ls us ts d s) d x.2=0/\P4 (wHn hn ts) (wLs hn ls ts d s) (wUs ls us ts d s) d x.2<d.2.2.1
 else HX (wHn hn ts) (wLs hn ls ts d s) (wUs ls us ts d s) d x.1=0/\c<=HY (wHn hn ts) (wLs hn ls ts d s) (wUs ls us ts d s) d x.1+Gg ts s ts.length
def Y2 (hn:Int) (ls:List Lnk) (us:List Snd) (ts:List Trp) (d:Dem) (l:List Snd) (o:List Int) (p:List Prf):Prop :=
 Fr hn ls us ts d l o=0/\p.length=2 ^ ts.length/\∀s,s<p.length->okP hn ls us ts d (Gc hn ls us ts d l o) s (p.getD s dP)
section
variable {hn:Int} {ls:List Lnk} {us:List Snd}
theorem GG {ts:List Trp} {d:Dem} {l:List Snd} {o:List Int} (h:Fr hn ls us ts d l o=0):SchOK hn ls us ts d l o:=by
 unfold Fr at h
 split at h
 .rename_i g;exact absurd h g
 .rename_i g;exact sch_zero.1 (t9.1 g)
theorem Afl {d:Dem} {y:List (List Int)} (h:HX hn ls us d y=0) : -4611686018427387904<=HY hn ls us d y/\HY hn ls us d y<=4611686018427387904:=by
 obtain ⟨h1,hA,hB,hC⟩:=YZ h
 obtain ⟨hfk,hb4⟩:=pck_zero.1 h1
 obtain ⟨hf,hdm,hD,hdu⟩:=BL hfk
 obtain ⟨⟨a0,a1⟩,⟨c0,c1⟩,hr⟩:=BR hdm
 obtain ⟨r0,r1,r2,r3,r4⟩:=hr
 unfold HY
 rw [if_neg (λg=>g h)]
 have hyl:y.length=Ap d+1:=by have:=hA.1;omega
 have := L6 hf hB ⟨by omega,hb4⟩ r2 hD hyl ⟨a0,a1⟩ ⟨c0,c1⟩ (n:=Ap d*ls.length) (cg _)
 omega
end
instance (hn:Int) (ls:List Lnk) (us:List Snd) (ts:List Trp) (d:Dem) (l:List Snd) (o:List Int) (p:List Prf):Decidable (Y2 hn ls us ts d l o p):=Classical.propDecidable _
def EE:Int×List Lnk×List Snd×List Trp×Dem×List Snd×List Int×List Prf->List PV:=λ(hn,ls,us,ts,d,l,o,p) => [.agg [I hn,AS ls,Ay us,CU ts,I d.1,I d.2.1,I d.2.2.1,I d.2.2.2.1,I d.2.2.2.2],.agg [Ay l,ints o],TL p]
def JR:Int×List Lnk×List Snd×List Trp×Dem×List Snd×List Int×List Prf->PV:=λ(hn,ls,us,ts,d,l,o,p)=>B (decide (Y2 hn ls us ts d l o p))
def e_vaccept:Nat×Ent:=(14,.v (An EE JR AZ))
theorem kM:∀i j,EE i=EE j->i=j:=by
 rintro ⟨_,_,_,_,_,_,_,_⟩ ⟨_,_,_,_,_,_,_,_⟩ h
 simp only[EE,ix,and_true,PV.lits.injEq,PV.int.injEq,PV.agg.injEq,true_and,B7,AG,AF,Cq,Wm]at h
 simp [Prod.ext_iff,h] <;> omega
theorem Nl (hn:Int) (ls:List Lnk) (us:List Snd) (ts:List Trp) (d:Dem) (l:List Snd) (o:List Int) (p:List Prf):An EE JR AZ [.agg [I hn,AS ls,Ay us,CU ts,I d.1,I d.2.1,I d.2.2.1,I d.2.2.2.1,I d.2.2.2.2],.agg [Ay l,ints o],TL p]=some (B (decide (Y2 hn ls us ts d l o p))):=AD kM (i:=(hn,ls,us,ts,d,l,o,p)) trivial
def kN:Prop:=∀(hn:Int) (ls:List Lnk) (us:List Snd) (ts:List Trp) (d:Dem) (l:List Snd) (o:List Int) (p:List Prf) ,VC Tryz.prog 14 (EE (hn,ls,us,ts,d,l,o,p)) (JR (hn,ls,us,ts,d,l,o,p))
theorem kO:kN:=by
 intro hn ls us ts d l o p
 dsimp only[EE,JR]
 refine Bd AQ (l := [e_vserves,e_vcost,e_wide,e_pstops,e_pbound]) ((Ad Nf (Ad N8 (Ad PR (Ad wT (Ad wP Au)))))) [] []  Tryz.func14 rfl (by decide +kernel) (N:=90) rfl (by simp) rfl (by kernel_rfl) λhs=>?_
 simp only[AK,PV.small,List.length_map,and_true,true_and]at hs
 obtain ⟨R,hR⟩:∃R,decide (Y2 hn ls us ts d l o p)=R:=⟨_,rfl⟩
 rw [hR]
 by_cases h1:Fr hn ls us ts d l o=0
 case neg =>
  rw [decide_eq_false (λg=>h1 g.1)]at hR
  subst hR
  simp only[↓bdD,bdP,seval,Ao,st0,e_vserves,Dn,e_vcost,e_wide,e_pstops,e_pbound,Ac,Aa,AC,xh,Be,B5,h1]
 have S:=GG h1
 have V:=S.voy
 have hv:=vck_iff.2 V
 have hn4:=V.few
 have hp:=Nd V
 have h16:2 ^ ts.length<=2 ^ 4:=Nat.pow_le_pow_right (by omega) hn4
 have hsh:=LS (k:=ts.length) (by omega)
 have hk0:¬(ts.length:Int)<0:=by omega
 have hk64:ts.length<=64:=by omega
 by_cases h2:p.length=2 ^ ts.length
 case neg =>
  rw [decide_eq_false (λg=>h2 g.2.1)]at hR
  subst hR
  have h2i:¬(p.length:Int)=((2 ^ ts.length:Nat):Int):=by omega
  simp only[↓bdD,bdP,seval,Ao,st0,e_vserves,Dn,e_vcost,e_wide,e_pstops,e_pbound,Ac,Aa,AC,xh,BF,Be,B5,FL,h1,hsh,hk0,hk64,h2i]
  done
 have h2i:((p.length:Int)=((2 ^ ts.length:Nat):Int))=True:=eq_true (by omega)
 have hok:(∀s,s<p.length->okP hn ls us ts d (Gc hn ls us ts d l o) s (p.getD s dP))->R=true:=λg=>by rw[<-hR];exact decide_eq_true ⟨h1,h2,g⟩
 have hno:∀s,s<p.length->¬okP hn ls us ts d (Gc hn ls us ts d l o) s (p.getD s dP)->R=false:=λs hs g=>by rw[<-hR];exact decide_eq_false λf=>g (f.2.2 s hs)
 have hc0:=P8 (hn:=hn) (ls:=ls) (us:=us) (ts:=ts) (d:=d) (l:=l) (o:=o)
 generalize hC:Gc hn ls us ts d l o=C at *
 simp only[↓bdD,bdP,seval,st0,e_vserves,Dn,e_vcost,Fq,e_wide,e_pstops,e_pbound,Ac,Aa,AC,xh,BF,Be,B5,FL,h1,hsh,hk0,hk64,h2i,hC]
 refine Aw [6,9,10,11,12,13,14,15,16,38,39,40,41,42,43,44,45,46,47,48,49,50,51,52,53,54,55,56,57,58,59,60,61,62,63,64,65,66,67,68,69,70,71,72,73,74,75,76,77,78,79,80,81,82,83,84,85,86,87,88,89] p.length (λs ρ st'=>ρ 38=I s/\∀i,i<s->okP hn ls us ts d C i (p.getD i dP)) (.refl _) ?_ ?_
 .simp only[↓bdD,bdP]
  exact λi hi=>absurd hi (by omega)
 rintro s ρ ⟨ob,M⟩ hs2 ⟨h38,hI⟩
 have m1:¬M=M+1/\¬M+1=M:=by omega
 by_cases hlt:s<p.length
 .have hwk:nm.wrap ((s:Int)+1)=((s+1:Nat):Int):=by rw[Af (by omega) (by omega)];omega
  have hyk:=Wl hlt
  have sw:=PP (hn:=hn) (ls:=ls) (us:=us) (ts:=ts) (d:=d) (s:=s)
  rw [if_pos ⟨hv,by omega⟩]at sw
  have hno:=hno s hlt
  have hI2:okP hn ls us ts d C s (p.getD s dP)->∀i,i<s+1->okP hn ls us ts d C i (p.getD i dP):=λg i hi=>by
   by_cases e:i=s
   .subst e;exact g
   .exact hI i (by omega)
  generalize p.getD s dP=x at *
  by_cases f1:0<x.2.length
  .have hI2:(NK (wHn hn ts) (wLs hn ls ts d s) (wUs ls us ts d s) d x.2=0/\P4 (wHn hn ts) (wLs hn ls ts d s) (wUs ls us ts d s) d x.2<d.2.2.1)->_:=λg=>hI2 (by unfold okP;rw[if_pos f1];exact g)
   have hno:¬(NK (wHn hn ts) (wLs hn ls ts d s) (wUs ls us ts d s) d x.2=0/\P4 (wHn hn ts) (wLs hn ls ts d s) (wUs ls us ts d s) d x.2<d.2.2.1)->_:=λg=>hno (λf=>g (by unfold okP at f;rw[if_pos f1]at f;exact f))
   have f1i:(0:Int)<(x.2.length:Int):=by omega
   generalize wHn hn ts=wh at *
   generalize wLs hn ls ts d s=wl at *
   generalize wUs ls us ts d s=wu at *
   by_cases f2:NK wh wl wu d x.2=0/\P4 wh wl wu d x.2<d.2.2.1
   .have hI3:=hI2 f2
    clear hI2 hno
    have f3:=decide_eq_true f2
    simp only[↓bdD,bdP,seval,kp,kd,Wd,Ac,Aa,AC,ty3,Be,AR,FL,BG,Lr,h38,hlt,hyk,sw,f1i,f3,hwk,m1,Av]
    exact hI3
   .have e:=hno f2
    subst e
    have f3:=decide_eq_false f2
    simp only[↓bdD,bdP,seval,Ao,kp,kd,Wd,Ac,Aa,AC,ty3,Be,AR,FL,BG,Lr,h38,hlt,hyk,sw,f1i,f3,m1,Av]
  have hI2:(HX (wHn hn ts) (wLs hn ls ts d s) (wUs ls us ts d s) d x.1=0/\C<=HY (wHn hn ts) (wLs hn ls ts d s) (wUs ls us ts d s) d x.1+Gg ts s ts.length)->_:=λg=>hI2 (by unfold okP;rw[if_neg f1];exact g)
  have hno:¬(HX (wHn hn ts) (wLs hn ls ts d s) (wUs ls us ts d s) d x.1=0/\C<=HY (wHn hn ts) (wLs hn ls ts d s) (wUs ls us ts d s) d x.1+Gg ts s ts.length)->_:=λg=>hno (λf=>g (by unfold okP at f;rw[if_neg f1]at f;exact f))
  have hrg:=Afl (hn:=wHn hn ts) (ls:=wLs hn ls ts d s) (us:=wUs ls us ts d s) (d:=d) (y:=x.1)
  have f1i:¬(0:Int)<(x.2.length:Int):=by omega
  generalize wHn hn ts=wh at *
  generalize wLs hn ls ts d s=wl at *
  generalize wUs ls us ts d s=wu at *
  simp only[↓bdD,bdP,seval,kp,kd,Ac,Aa,AC,ty3,BF,Be,AR,FL,BG,Lr,h38,hlt,hyk,sw,f1i,m1,Av]
  refine Aw [12,13,14,58,59,60,61,62,63,64,65,66,67,68,69,70,71,72] ts.length (λk ρ st'=>ρ 58=I k/\ρ 12=I (Gg ts s k)/\st'.obj M=some (.arr 0 2 [.agg [Hi x.1,ints x.2]])/\st'.obj (M+1)=some (.arr 0 8 [.agg [I wh,AS wl,Ay wu,I d.1,I d.2.1,I d.2.2.1,I d.2.2.2.1,I d.2.2.2.2]])/\M+2<=st'.next) (.refl _) ?_ ?_
  .simp only[↓bdD,bdP,r8,Gg,m1]
   done
  rintro k ρ2 ⟨ob2,M2⟩ hk ⟨h58,h12,p0,p1,hM2⟩
  dsimp only at p0 p1 hM2
  have m2:¬M2=M/\¬M=M2/\¬M2=M+1/\¬M+1=M2:=by omega
  by_cases hkt:k<ts.length
  .have hwk2:nm.wrap ((k:Int)+1)=((k+1:Nat):Int):=by rw[Af (by omega) (by omega)];omega
   have hkk0:¬(k:Int)<0:=by omega
   have hkk64:k<=64:=by omega
   have hkti:(k:Int)<(ts.length:Int):=by omega
   have hbit:=Z4 (a:=s) (i:=k) (by omega)
   have htk:=Ef hkt
   have b1:=Ma (s:=s) hp k (by omega)
   have b2:=hp.2 k hkt
   have eP:Gg ts s (k+1)=Gg ts s k+(if s.testBit k=true then 1 else 0)*(ts.getD k dT).2.2.2.2.2.2:=rfl
   rw [eP]
   generalize Gg ts s k=q at *
   generalize ts.getD k dT=y at *
   by_cases hb:s.testBit k=true
   .rw [if_pos hb]at hbit ⊢
    have w1:nm.wrap (1*y.2.2.2.2.2.2)=1*y.2.2.2.2.2.2:=Af (by omega) (by omega)
    have w2:nm.wrap (q+1*y.2.2.2.2.2.2)=q+1*y.2.2.2.2.2.2:=Af (by omega) (by omega)
    simp only[↓bdD,bdP,seval,kp,kd,ty3,BF,C7,h58,h12,hkt,hkti,htk,hbit,hkk0,hkk64,w1,w2,hwk2,m2,p0,p1,LR,Av]
    omega
   .rw [if_neg hb]at hbit ⊢
    have w1:nm.wrap (0*y.2.2.2.2.2.2)=0*y.2.2.2.2.2.2:=Af (by omega) (by omega)
    have w2:nm.wrap (q+0*y.2.2.2.2.2.2)=q+0*y.2.2.2.2.2.2:=Af (by omega) (by omega)
    simp only[↓bdD,bdP,seval,kp,kd,ty3,BF,C7,h58,h12,hkt,hkti,htk,hbit,hkk0,hkk64,w1,w2,hwk2,m2,p0,p1,LR,Av]
    omega
  .have e:k=ts.length:=by omega
   subst e
   have b1:=Ma (s:=s) hp ts.length (cg _)
   by_cases e1:HX wh wl wu d x.1=0
   case neg =>
    have e:=hno (λg=>e1 g.1)
    subst e
    simp only[↓bdD,bdP,seval,Ao,P3,Ac,Aa,DB,BG,BM,Lr,h58,hkt,p0,p1,e1]
    done
   have r1:=hrg e1
   have w3:nm.wrap (HY wh wl wu d x.1+Gg ts s ts.length)=HY wh wl wu d x.1+Gg ts s ts.length:=Af (by omega) (by omega)
   by_cases e2:HY wh wl wu d x.1+Gg ts s ts.length<C
   .have e:=hno (λg=>by omega)
    subst e
    simp only[↓bdD,bdP,seval,Ao,P3,Ac,Aa,DB,BG,BM,Lr,h58,h12,hkt,p0,p1,e1,w3,e2]
    done
   .have hI3:=hI2 ⟨e1,by omega⟩
    clear hI2 hno
    simp only[↓bdD,bdP,seval,P3,Ac,Aa,DB,BG,BM,Lr,h58,h12,h38,hkt,p0,p1,e1,w3,e2,hwk]
    refine ⟨?_,hI3⟩
    rw [AL (by decide +kernel)]
    simp only[↓bdD,bdP,r8]
 .have e:s=p.length:=by omega
  subst e
  have e:=hok hI
  subst e
  simp only[↓bdD,bdP,seval,Ao,h38,hlt]
theorem kP:AM Tryz.prog e_vaccept.1 e_vaccept.2:=Ax λ⟨hn,ls,us,ts,d,l,o,p⟩ h=>kO hn ls us ts d l o p
structure BkAt (A:List Arc) (out:List (List Nat)) (ob:Nat->Option IObj):Prop where
 o1 : ob 2=some (.arr 0 1 [.ref 9 (A.length / 2) 0 A.length])
 o2 : ob 3=some (.arr 0 1 (Ha 5 out))
 o3 : ob 4=some (.arr 0 1 [.ref 3 0 0 out.length])
 o6 : ob 9=some (.arr (A.length / 2) 4 (A.map E8))
 o7 : ∀u,u<out.length->ob (10+u)=some (.arr (out.getD u []).length 1 (Ch (out.getD u [])))
structure GB where
 A : List Arc
 out : List (List Nat)
 u : Nat
 v : Nat
 x : Int
theorem BkAt.same {A A':List Arc} {out out':List (List Nat)} {ob:Nat->Option IObj} (g:BkAt A out ob) (g':BkAt A' out' ob):A=A'/\out=out':=by
 have e4:=g.o6.symm.trans g'.o6
 simp only[bp,q8,Pf,true_and]at e4
 have e3:=g.o3.symm.trans g'.o3
 simp only[bp,q8,ix,PV.ref.injEq,true_and,and_true]at e3
 refine ⟨e4.2,List.ext_getElem e3 λu h1 h2=>?_⟩
 have q:=(g.o7 u h1).symm.trans (g'.o7 u h2)
 simp only[bp,q8,Pk,true_and]at q
 have q:=q.2
 rwa [oa,oa,gl h1,gl h2]at q
end Sim
namespace Sim
structure RSE (p:Nat->Arc) (m:Nat) (A:List Arc) (E:Nat->Int):Prop where
 len : A.length=2*m
 fr : ∀i,i<m->aF A (2*i)=(p i).1/\aT A (2*i)=(p i).2.1/\aF A (2*i+1)=(p i).2.1/\aT A (2*i+1)=(p i).1
 bk : ∀k,k<2*m->aP A k=((rv k:Nat):Int)
 nn : ∀k,k<2*m->0<=aL A k
 cap : ∀i,i<m->aL A (2*i)+aL A (2*i+1)=(p i).2.2.1
 val : ∀v,As (λi=>(if (p i).1=v then flA A i else 0)-(if (p i).2.1=v then flA A i else 0)) m=E v
def stE (s e:Nat) (x:Int) (v:Nat):Int:=(if s=v then x else 0)-(if e=v then x else 0)
section
variable {p:Nat->Arc} {m N s e:Nat} {A:List Arc} {E:Nat->Int}
theorem RSE.net (R:RSE p m A E) {f:Nat->Int} {v:Nat}:(fnA A N s e).net f v=As (λi=>(if (p i).1=v then f i else 0)-(if (p i).2.1=v then f i else 0)) m:=by
 unfold FN.net fnA
 dsimp only
 rw [R.len,show 2*m / 2=m by omega]
 exact Am λi hi=>by simp only[(R.fr i hi).1,(R.fr i hi).2.1]
theorem RSE.aug (R:RSE p m A E) {k:Nat} {y:Int} (hk:k<2*m) (h0:0<=y) (hy:y<=aL A k):RSE p m (Dx A y k) (λv=>E v+stE (aF A k) (aT A k) y v):=by
 have hl:=R.len
 have hF:∀j,aF (Dx A y k) j=aF A j:=λj=>Yr hl hk
 have hT:∀j,aT (Dx A y k) j=aT A j:=λj=>Ys hl hk
 refine ⟨by rw[G7];exact hl,λi hi=>?_,λj hj=>?_,λj hj=>?_,λi hi=>?_,λv=>?_⟩
 .rw [hF,hF,hT,hT];exact R.fr i hi
 .rw [sF hl hk];exact R.bk j hj
 .rw [MH hl hk]
  have := R.nn j hj
  by_cases c:j=k
  .subst c;rw[if_pos rfl];split <;> omega
  .rw [if_neg c];split <;> omega
 .rw [MH hl hk,MH hl hk,<-R.cap i hi]
  unfold rv
  by_cases e:k % 2=0
  .rw [if_pos e]
   by_cases c:k=2*i
   .subst c
    rw [if_pos rfl,if_neg (show ¬2*i=2*i+1 by omega),if_neg (show ¬2*i+1=2*i by omega),if_pos rfl];omega
   .rw [if_neg (show ¬2*i=k by omega),if_neg (show ¬2*i=k+1 by omega),if_neg (show ¬2*i+1=k by omega),if_neg (show ¬2*i+1=k+1 by omega)];omega
  .rw [if_neg e]
   by_cases c:k=2*i+1
   .subst c
    rw [if_neg (show ¬2*i=2*i+1 by omega),if_pos (show 2*i=2*i+1-1 by omega),if_pos rfl,if_neg (show ¬2*i+1=2*i+1-1 by omega)];omega
   .rw [if_neg (show ¬2*i=k by omega),if_neg (show ¬2*i=k-1 by omega),if_neg (show ¬2*i+1=k by omega),if_neg (show ¬2*i+1=k-1 by omega)];omega
 .have hI:IsP A (aF A k) (aT A k) [k]:=.cons k [] .nil
  have := Zv (N:=0) (t:=0) (p:=y) hI (λi hi=>by
   obtain ⟨a,b,c,d⟩:=R.fr i hi
   exact ⟨by rw[c,b],by rw[d,a]⟩) hl (λj hj=>by rw[ku]at hj;rw[hj];exact hk) v
  rw [R.net,R.net,R.val]at this
  exact this
theorem RSE.congr {E':Nat->Int} (R:RSE p m A E) (h:∀v,E v=E' v):RSE p m A E':=⟨R.len,R.fr,R.bk,R.nn,R.cap,λv=>by rw[R.val,h]⟩
theorem RSE.end (R:RSE p m A E) (h:S8 p N m) {k:Nat} (hk:k<2*m):aF A k<N/\aT A k<N:=by
 obtain ⟨i,hi,e | e⟩:=D3 hk
 .subst e;rw[(R.fr i hi).1,(R.fr i hi).2.1];exact⟨(h i hi).1,(h i hi).2.1⟩
 .subst e;rw[(R.fr i hi).2.2.1,(R.fr i hi).2.2.2];exact⟨(h i hi).2.1,(h i hi).1⟩
theorem RSE.le (R:RSE p m A E) {k:Nat} (hk:k<2*m) {b:Int} (hb:∀i,i<m->(p i).2.2.1<=b):aL A k<=b/\aL A k+aL A (rv k)<=b:=by
 obtain ⟨i,hi,e | e⟩:=D3 hk
 .have h1:=R.cap i hi
  have h2:=hb i hi
  have h3:=R.nn (2*i+1) (by omega)
  subst e
  have : rv (2*i)=2*i+1:=by unfold rv;rw[if_pos (by omega)]
  rw [this]
  omega
 .have h1:=R.cap i hi
  have h2:=hb i hi
  have h3:=R.nn (2*i) (by omega)
  subst e
  have : rv (2*i+1)=2*i:=by unfold rv;rw[if_neg (by omega)];omega
  rw [this]
  omega
theorem RSE.flow {x:Int} (R:RSE p m A (stE s e x)):(fnP p N m s e).Flow (flA A) x:=by
 refine ⟨λi hi=>R.nn (2*i+1) (by have:i<m:=hi;omega),λi hi=>?_,λv hv=>R.val v⟩
 have := R.cap i hi
 have := R.nn (2*i) (by have:i<m:=hi;omega)
 show aL A (2*i+1)<=(p i).2.2.1
 omega
end
structure BQ (A:List Arc) (m N s:Nat) (bl:List Int) (q:List Nat) (rk:Nat->Nat):Prop where
 len : bl.length=N
 src : q.getD 0 0=s/\s∈q
 nd : q.Nodup
 mem : ∀v∈q,v<N
 seen : ∀v,v<N->(0<=bl.getD v 0↔v∈q)
 by_ : ∀v∈q,v≠s->∃k:Nat,k<2*m/\bl.getD v 0=(k:Int)/\aT A k=v/\0<aL A k/\aF A k∈q/\rk (aF A k)<rk v
 rkb : ∀v∈q,rk v<q.length
section
variable {A:List Arc} {m N s:Nat} {bl:List Int} {q:List Nat} {rk:Nat->Nat}
theorem BQ.ini (hs:s<N) {x:Int} (hx:0<=x):BQ A m N s ((List.replicate N (-1:Int)).set s x) [s] (λ_=>0):=by
 refine ⟨by simp,⟨rfl,by simp⟩,by simp,λv hv=>by simp at hv;omega,λv hv=>?_,λv hv hvs=>by simp at hv;exact absurd hv hvs,λv hv=>by simp⟩
 rw [Di (by simpa using hs)]
 by_cases c:v=s
 .rw [if_pos c];simp[c,hx]
 .rw [if_neg c]
  simp [oa,hv,c]
theorem BQ.add (B:BQ A m N s bl q rk) {k:Nat} (hk:k<2*m) (hN:aT A k<N) (hF:aF A k∈q) (hl:0<aL A k) (hT:bl.getD (aT A k) 0<0):BQ A m N s (bl.set (aT A k) (k:Int)) (q ++ [aT A k]) (λw=>if w=aT A k then q.length else rk w):=by
 have hTq:aT A k ∉ q:=λg=>by have:=(B.seen _ hN).2 g;omega
 have hne:∀v∈q,v≠aT A k:=λv hv e=>hTq (e▸hv)
 refine ⟨by rw[List.length_set];exact B.len,⟨?_,by simp[B.src.2]⟩,?_,λv hv=>?_,λv hv=>?_,λv hv hvs=>?_,λv hv=>?_⟩
 .rw [<-B.src.1]
  have : 0<q.length:=List.length_pos_of_mem B.src.2
  rw [oa,cq this,oa]
 .rw [List.nodup_append]
  exact ⟨B.nd,by simp,λa ha b hb e=>by simp at hb;subst hb;exact hne a ha e⟩
 .rw [kq,ku]at hv
  rcases hv with hv | rfl
  .exact B.mem v hv
  .exact hN
 .rw [Di (by rw[B.len];exact hN),kq,ku]
  by_cases c:v=aT A k
  .rw [if_pos c];simp[c]
  .rw [if_neg c,B.seen v hv];simp[c]
 .rw [kq,ku]at hv
  rcases hv with hv | rfl
  .obtain ⟨j,h1,h2,h3,h4,h5,h6⟩:=B.by_ v hv hvs
   refine ⟨j,h1,?_,h3,h4,by simp[h5],?_⟩
   .rw [Di (by rw[B.len];exact hN),if_neg (hne v hv)];exact h2
   .rw [if_neg (hne v hv),if_neg (hne _ h5)];exact h6
  .refine ⟨k,hk,?_,rfl,hl,by simp[hF],?_⟩
   .rw [Di (by rw[B.len];exact hN),if_pos rfl]
   .rw [if_neg (hne _ hF),if_pos rfl];exact B.rkb _ hF
 .rw [kq,ku]at hv
  rw [cu,List.length_singleton]
  rcases hv with hv | rfl
  .rw [if_neg (hne v hv)]
   have := B.rkb v hv
   omega
  .rw [if_pos rfl];omega
theorem BQ.least (B:BQ A m N s bl q rk) {S:Nat->Prop} (hs:S s) (hc:∀k,k<2*m->0<aL A k->S (aF A k)->S (aT A k)):∀v∈q,S v:=by
 have : ∀n v,v∈q->rk v<=n->S v:=by
  intro n
  induction n with
  | zero =>
   intro v hv hr
   by_cases c:v=s
   .rw [c];exact hs
   .obtain ⟨k,h1,h2,h3,h4,h5,h6⟩:=B.by_ v hv c
    omega
  | succ n ih =>
   intro v hv hr
   by_cases c:v=s
   .rw [c];exact hs
   .obtain ⟨k,h1,h2,h3,h4,h5,h6⟩:=B.by_ v hv c
    rw [<-h3]
    exact hc k h1 h4 (ih _ h5 (by omega))
 exact λv hv=>this (rk v) v hv (cg _)
end
structure PW (A:List Arc) (s:Nat) (bl:List Int) (q:List Nat) (W:Nat->Prop) (at_:Nat) (least:Int):Prop where
 cur : W at_
 mem : ∀w,W w->w∈q
 nx : ∀w,W w->w=at_\/(w≠s/\least<=aL A (bl.getD w 0).toNat/\W (aF A (bl.getD w 0).toNat))
theorem PW.step {A:List Arc} {m N s:Nat} {bl:List Int} {q:List Nat} {rk:Nat->Nat} (B:BQ A m N s bl q rk) {W:Nat->Prop} {a:Nat} {l:Int} (P:PW A s bl q W a l) {k:Nat} (has:a≠s) (hk:bl.getD a 0=(k:Int)):PW A s bl q (λw=>W w\/w=aF A k) (aF A k) (min l (aL A k)):=by
 obtain ⟨k',h1,h2,h3,h4,h5,h6⟩:=B.by_ a (P.mem a P.cur) has
 have e:k'=k:=by omega
 subst e
 refine ⟨.inr rfl,λw hw=>?_,λw hw=>?_⟩
 .rcases hw with hw | rfl
  .exact P.mem w hw
  .exact h5
 .rcases hw with hw | rfl
  .rcases P.nx w hw with rfl | ⟨g1,g2,g3⟩
   .refine .inr ⟨has,?_,?_⟩
    .rw [hk,pe];omega
    .rw [hk,pe];exact .inr rfl
   .exact .inr ⟨g1,by omega,.inl g3⟩
  .exact .inl rfl
structure PA (p:Nat->Arc) (m s e:Nat) (A0:List Arc) (bl:List Int) (W:Nat->Prop) (rk:Nat->Nat) (x least:Int) (A:List Arc) (a:Nat):Prop where
 rs : RSE p m A (λv=>stE s e x v+stE a e least v)
 cur : W a
 lf : ∀w,W w->w≠s->rk w<=rk a->least<=aL A (bl.getD w 0).toNat
section
variable {p:Nat->Arc}
theorem PA.step {A0 A:List Arc} {m N s e:Nat} {bl:List Int} {q:List Nat} {rk:Nat->Nat} {W:Nat->Prop} {a k:Nat} {l x:Int} (B:BQ A0 m N s bl q rk) (R0:RSE p m A0 (stE s e x)) (P:PW A0 s bl q W s l) (h:PA p m s e A0 bl W rk x l A a) (has:a≠s) (hk:bl.getD a 0=(k:Int)) (hl:0<=l) :
  PA p m s e A0 bl W rk x l (Dx A l k) (aF A0 k)/\k<2*m/\l<=aL A k/\rk (aF A0 k)<rk a/\aF A0 k∈q:=by
 obtain ⟨k',h1,h2,h3,h4,h5,h6⟩:=B.by_ a (P.mem a h.cur) has
 have e1:k'=k:=by omega
 subst e1
 have hF:∀j,j<2*m->aF A j=aF A0 j/\aT A j=aT A0 j:=λj hj=>by
  obtain ⟨i,hi,e | e⟩:=D3 hj
  .subst e;rw[(h.rs.fr i hi).1,(h.rs.fr i hi).2.1,(R0.fr i hi).1,(R0.fr i hi).2.1];exact⟨rfl,rfl⟩
  .subst e;rw[(h.rs.fr i hi).2.2.1,(h.rs.fr i hi).2.2.2,(R0.fr i hi).2.2.1,(R0.fr i hi).2.2.2];exact⟨rfl,rfl⟩
 have hle:l<=aL A k':=by
  have := h.lf a h.cur has (cg _)
  rwa [hk,pe]at this
 have hWn:W (aF A0 k'):=by
  rcases P.nx a h.cur with e2 | ⟨_,_,g⟩
  .exact absurd e2 has
  .rwa [hk,pe]at g
 refine ⟨⟨(h.rs.aug h1 hl hle).congr λv=>?_,hWn,λw hw hws hr=>?_⟩,h1,hle,h6,h5⟩
 .rw [(hF k' h1).1,(hF k' h1).2,h3]
  unfold stE
  omega
 .have h7:=h.lf w hw hws (by omega)
  obtain ⟨j,g1,g2,g3,g4,g5,g6⟩:=B.by_ w (P.mem w hw) hws
  rw [g2,pe]at h7 ⊢
  rw [MH h.rs.len h1]
  have : j≠k':=λe2=>by
   subst e2
   rw [h3]at g3
   subst g3
   omega
  rw [if_neg this]
  split <;> omega
theorem PA.end_ {m s e:Nat} {A0 A:List Arc} {bl:List Int} {W:Nat->Prop} {rk:Nat->Nat} {x l:Int} (h:PA p m s e A0 bl W rk x l A s):RSE p m A (stE s e (x+l)):=h.rs.congr λv=>by unfold stE;split <;> split <;> omega
theorem PA.ini {m s e:Nat} {A0:List Arc} {bl:List Int} {q:List Nat} {W:Nat->Prop} {rk:Nat->Nat} {x l:Int} (R0:RSE p m A0 (stE s e x)) (P:PW A0 s bl q W s l) (he:W e):PA p m s e A0 bl W rk x l A0 e :=
 ⟨R0.congr λv=>by unfold stE;split <;> split <;> omega,he,λw hw hws _=>by
  rcases P.nx w hw with e2 | ⟨_,g,_⟩
  .exact absurd e2 hws
  .exact g⟩
end
structure Cls (G:FN) (f:Nat->Int) (x:Int) (S:Nat->Prop):Prop where
 flow : G.Flow f x
 s : S G.s
 t : ¬S G.t
 out : ∀i,i<G.m->S (G.fr i)->f i<G.cap i->S (G.to i)
 inn : ∀i,i<G.m->S (G.to i)->0<f i->S (G.fr i)
 least : ∀S':Nat->Prop,S' G.s->(∀i,i<G.m->S' (G.fr i)->f i<G.cap i->S' (G.to i))->(∀i,i<G.m->S' (G.to i)->0<f i->S' (G.fr i))->∀v,S v->S' v
theorem Cls.max {G:FN} (w:G.WF) {f:Nat->Int} {x:Int} {S:Nat->Prop} (h:Cls G f x S) {g:Nat->Int} {b:Int} (hg:G.Flow g b):b<=x:=by
 classical
 refine FN.cut w (g:=f) (S:=S) h.flow.val hg h.s h.t (λi hi h1 h2=>?_) (λi hi h1 h2=>?_)
 .exact pq λc=>h2 (h.out i hi h1 (by omega))
 .exact pq λc=>h1 (h.inn i hi h2 (by omega))
theorem Wn {f:Nat->Int}:∀ {n},(∀i,i<n->0<=f i)->As f n<=0->∀i,i<n->f i=0
 | 0,_,_=>λi hi=>absurd hi (by omega)
 | n+1,h,hs=>λi hi=>by
  rw [As]at hs
  have h1:=BD (f:=f) (n:=n) λi hi=>h i (by omega)
  have h2:=h n (by omega)
  by_cases e:i=n
  .subst e;omega
  .exact Wn (n:=n) (λi hi=>h i (by omega)) (by omega) i (by omega)
theorem Cls.full {G:FN} (w:G.WF) {f g:Nat->Int} {x:Int} {S:Nat->Prop} (h:Cls G f x S) (hg:G.Flow g x):∀i,i<G.m->(S (G.fr i)->¬S (G.to i)->g i=G.cap i)/\(¬S (G.fr i)->S (G.to i)->g i=0):=by
 classical
 have d1:=FN.dual w h.flow.val λv=>if S v then 1 else 0
 have d2:=FN.dual w hg.val λv=>if S v then 1 else 0
 have key:=Wn (f:=λi=>((if S (G.fr i)then 1 else 0)-(if S (G.to i)then 1 else 0))*f i-((if S (G.fr i)then 1 else 0)-(if S (G.to i)then 1 else 0))*g i) (n:=G.m) (λi hi=>?_) (by rw[Co,d1,d2];omega)
 .intro i hi
  have k:=key i hi
  refine ⟨λh1 h2=>?_,λh1 h2=>?_⟩
  .rw [if_pos h1,if_neg h2]at k
   have e:¬f i<G.cap i:=λc=>h2 (h.out i hi h1 c)
   have := h.flow.le i hi
   omega
  .rw [if_neg h1,if_pos h2]at k
   have e:¬0<f i:=λc=>h1 (h.inn i hi h2 c)
   have := h.flow.nn i hi
   omega
 .have a1:=h.flow.nn i hi
  have a2:=h.flow.le i hi
  have b1:=hg.nn i hi
  have b2:=hg.le i hi
  by_cases h1:S (G.fr i) <;> by_cases h2:S (G.to i)
  .rw [if_pos h1,if_pos h2];simp
  .rw [if_pos h1,if_neg h2]
   have e:¬f i<G.cap i:=λc=>h2 (h.out i hi h1 c)
   omega
  .rw [if_neg h1,if_pos h2]
   have e:¬0<f i:=λc=>h1 (h.inn i hi h2 c)
   omega
  .rw [if_neg h1,if_neg h2];simp
theorem Cls.sub {G:FN} (w:G.WF) {f g:Nat->Int} {x y:Int} {S T:Nat->Prop} (h:Cls G f x S) (h':Cls G g y T):∀v,S v->T v:=by
 have e1:=h.max w h'.flow
 have e2:=h'.max w h.flow
 have e:x=y:=by omega
 subst e
 have k:=h'.full w h.flow
 refine h.least T h'.s (λi hi h1 h2=>?_) (λi hi h1 h2=>?_)
 .exact pq λc=>by have:=(k i hi).1 h1 c;omega
 .exact pq λc=>by have:=(k i hi).2 c h1;omega
end Sim
namespace Sim
open Go Go.Proofs
def Ig (ls:List Lnk):List Snd->Int
 | []=>0
 | x::l=>Ig ls l+x.2.2*Dk ls x.1 x.2.1
theorem Qa {ls:List Lnk} {m:List Snd}:∀ {l:List Snd},Ig ls (l++m)=Ig ls l+Ig ls m
 | []=>by simp[Ig]
 | x::l=>by
  have := Qa (ls:=ls) (m:=m) (l:=l)
  simp only[kh,Ig,this]
  omega
theorem kQ {ls:List Lnk} {l m:List Snd} (h:l.Perm m):Ig ls l=Ig ls m:=by
 induction h with
 | nil=>rfl
 | cons x _ ih=>simp only[Ig,ih]
 | swap x y l=>simp only[Ig];omega
 | trans _ _ h1 h2=>exact h1.trans h2
theorem aR {ls:List Lnk} {l:List Snd}:∀k,k<=l.length->Dy ls l k=Ig ls (l.take k)
 | 0,_=>by simp[Dy,Ig]
 | k+1,hk=>by
  have ih:=aR (ls:=ls) (l:=l) k (by omega)
  have e:l.take (k+1)=l.take k ++ [l.getD k dS]:=by
   rw [vo,oa,gl (by omega)];rfl
  rw [e,Qa,<-ih]
  simp only[Dy,Ig]
  omega
section
variable {hn:Int} {ls:List Lnk}
theorem aS {l:List Snd} (ok:OKr hn ls l):BY hn ls l=Ig ls l:=by
 unfold BY
 rw [if_neg (λg=>g (right_zero.2 ok)),aR _ (cg _),r7]
theorem aU {hn:Int} {d:Dem} {s:Nat} {ts:List Trp}:∀k,∀x∈wLk hn d s ts k,x.2.2.2=λ_=>0
 | 0,x,h=>by simp[wLk]at h
 | k+1,x,h=>by
  simp only[wLk]at h
  rcases kq.1 h with h | h
  .exact aU k x h
  .simp only[li,List.not_mem_nil,or_false]at h
   rcases h with rfl | rfl <;> rfl
theorem xC {ts:List Trp} {d:Dem} {s:Nat} {k t:Int} (h0:0<=k) (h1:k<(ls.length:Int)):Dk (wLs hn ls ts d s) k t=Dk ls k t:=by
 unfold Dk wLs
 rw [oa,oa,cq (by omega)]
theorem xD {ts:List Trp} {d:Dem} {s:Nat} {k t:Int} (h1:(ls.length:Int)<=k):Dk (wLs hn ls ts d s) k t=0:=by
 unfold Dk wLs
 rw [oa,ct (by omega)]
 have key:∀a:Lnk,a.2.2.2=(λ_=>0)->∀h,Gl a h=0:=λa e h=>by
  unfold Gl
  split
  .rw [e]
  .rfl
 generalize hj:k.toNat-ls.length=j
 by_cases c:j<(wLk hn d s ts ts.length).length
 .rw [gl c]
  exact key _ (aU _ _ (oz _)) _
 .rw [List.getElem?_eq_none (by omega)]
  exact key _ rfl _
theorem RK {us:List Snd} {ts:List Trp} {d:Dem} {l:List Snd} {o:List Int} {s:Nat} (S:SchOK hn ls us ts d l o) (ok:OKr (wHn hn ts) (wLs hn ls ts d s) (schL hn ls us ts d l o)) :
  BY (wHn hn ts) (wLs hn ls ts d s) (schL hn ls us ts d l o)=BY hn ls l:=by
 rw [aS ok,aS S.right]
 have e:schL hn ls us ts d l o=KM (l++Cs ls.length ts o ts.length):=by unfold schL;rw[if_pos (sch_zero.2 S)]
 rw [e,kQ srtS_perm,Qa]
 have h1:∀m:List Snd,(∀x∈m,0<=x.1/\x.1<(ls.length:Int))->Ig (wLs hn ls ts d s) m=Ig ls m:=by
  intro m
  induction m with
  | nil=>intro _;rfl
  | cons x m ih =>
   intro h
   have hx:=h x xi
   simp only[Ig]
   rw [ih λy hy=>h y (qk _ hy),xC hx.1 hx.2]
 have h2:∀m:List Snd,(∀x∈m,(ls.length:Int)<=x.1)->Ig (wLs hn ls ts d s) m=0:=by
  intro m
  induction m with
  | nil=>intro _;rfl
  | cons x m ih =>
   intro h
   simp only[Ig]
   rw [ih λy hy=>h y (qk _ hy),xD (h x xi),Int.mul_zero];rfl
 rw [h1 l (λx hx=>LZ S.right hx),h2 _ (λx hx=>by
  obtain ⟨i,_,_,_,r⟩:=Hl _ hx
  omega), Int.add_zero]
theorem RL {ts:List Trp} {o:List Int} (n:Nat):∀k,k<=n->Gg ts (Bl o n) k=CB ts o k
 | 0,_=>rfl
 | k+1,hk=>by
  have ih:=RL (ts:=ts) (o:=o) n k (by omega)
  have hb:=Na (o:=o) (i:=k) n
  rw [decide_eq_true (show k<n by omega),Bool.true_and]at hb
  simp only[Gg,CB,ih]
  by_cases c:0<o.getD k 0
  .rw [if_pos c,if_pos (by rw[hb];exact decide_eq_true c),xc]
  .rw [if_neg c,if_neg (by rw[hb,decide_eq_false c];decide),xf,Int.add_zero]
theorem TP {us:List Snd} {ts:List Trp} {d:Dem} {l:List Snd} {o:List Int} (h:Fr hn ls us ts d l o=0) :
  TD (wHn hn ts) (wLs hn ls ts d (Bl o o.length)) (wUs ls us ts d (Bl o o.length)) (schL hn ls us ts d l o) d:=by
 have S:=GG h
 unfold Fr at h
 rw [if_neg (λg=>g (sch_zero.2 S))]at h
 split at h
 .cases h
 .rename_i h1
  have h1:=t9.1 h1
  have ok:=(serves_iff.1 h).ok
  refine ⟨h,λi hi=>?_⟩
  have g:=h1 i hi
  have hb:=(ok.bytes i hi).1
  unfold Ad6 D4 at g
  split at g
  .dsimp only at g;omega
  .split at g
   .dsimp only at g;omega
   .exact g
end
theorem Y3 {hn:Int} {d:Dem} {s:Nat} {ts:List Trp}:∀n k,k<n->(wLk hn d s ts n).getD (2*k) dL=PJ hn d s ts k/\(wLk hn d s ts n).getD (2*k+1) dL=PK hn d s ts k
 | 0,k,h=>absurd h (by omega)
 | n+1,k,h=>by
  simp only[wLk]
  have hl:=JL (hn:=hn) (d:=d) (s:=s) (ts:=ts) n
  by_cases e:k=n
  .subst e
   rw [oa,oa,ct (by omega),ct (by omega),hl,show 2*k-2*k=0 by omega,show 2*k+1-2*k=1 by omega]
   exact ⟨rfl,rfl⟩
  .have ih:=Y3 (hn:=hn) (d:=d) (s:=s) (ts:=ts) n k (by omega)
   rw [oa,oa]at ih ⊢
   rw [cq (by omega),cq (by omega)]
   exact ih
section
variable {hn:Int} {ls:List Lnk} {us:List Snd} {ts:List Trp} {d:Dem} {s:Nat}
theorem Ih {k:Nat} (h:k<ls.length):(wLs hn ls ts d s).getD k dL=ls.getD k dL:=by
 unfold wLs
 rw [oa,oa,cq h]
theorem Ii {k:Nat} (h:k<ts.length):(wLs hn ls ts d s).getD (ls.length+2*k) dL=PJ hn d s ts k:=by
 have :=(Y3 (hn:=hn) (d:=d) (s:=s) (ts:=ts) ts.length k h).1
 unfold wLs
 rw [oa]at this ⊢
 rw [ct (by omega),show ls.length+2*k-ls.length=2*k by omega]
 exact this
theorem Ij {k:Nat} (h:k<ts.length):(wLs hn ls ts d s).getD (ls.length+2*k+1) dL=PK hn d s ts k:=by
 have :=(Y3 (hn:=hn) (d:=d) (s:=s) (ts:=ts) ts.length k h).2
 unfold wLs
 rw [oa]at this ⊢
 rw [ct (by omega),show ls.length+2*k+1-ls.length=2*k+1 by omega]
 exact this
theorem Hn:(wLs hn ls ts d s).length=ls.length+2*ts.length:=by unfold wLs;rw[cu,JL]
section
variable {l:List Snd}
theorem CK {k:Nat} (h:k<l.length):l.getD k dS∈l:=by
 rw [oa,gl h];exact oz _
theorem Y5 (a:HR l) {i j:Nat} (hij:i<j) (hj:j<l.length):ltS (l.getD i dS) (l.getD j dS):=by
 unfold HR at a
 rw [List.pairwise_iff_getElem]at a
 have := a i j (by omega) hj hij
 rw [oa,oa,gl (by omega),gl hj]
 exact this
theorem Y6 (n:OKn hn ls) (hl:l.length<=2000) (h:∀x∈l,(0<=x.1/\x.1<(ls.length:Int))/\(0<=x.2.1/\x.2.1<1000000)/\(1<=x.2.2/\x.2.2<=1073741824)) (a:HR l):OKr hn ls l :=
 ⟨n, hl,λk hk=>(h _ (CK hk)).1,λk hk=>(h _ (CK hk)).2.1,λk hk=>(h _ (CK hk)).2.2,λk h0 hk=>by
  have := Y5 a (show k-1<k by omega) hk
  unfold ltS at this;omega⟩
theorem Fu (ok:OKr hn ls l) {x:Snd} (h:x∈l):(0<=x.1/\x.1<(ls.length:Int))/\(0<=x.2.1/\x.2.1<1000000)/\(1<=x.2.2/\x.2.2<=1073741824):=by
 obtain ⟨k,hk,rfl⟩:=Ga h
 exact ⟨ok.link k hk,ok.tick k hk,ok.bytes k hk⟩
end
theorem Mb (V:VoyOK hn ls us ts d):OKn hn ls:=(Cj (BL V.fck).1).1.net
theorem Wo (V:VoyOK hn ls us ts d):OKn (wHn hn ts) (wLs hn ls ts d s):=by
 have n:=Mb V
 have hsz:=V.size
 have split:∀k,k<(wLs hn ls ts d s).length->k<ls.length\/(∃j,j<ts.length/\(k=ls.length+2*j\/k=ls.length+2*j+1)):=λk hk=>by
  rw [Hn]at hk
  by_cases c:k<ls.length
  .exact .inl c
  .refine .inr ⟨(k-ls.length) / 2,by omega,by omega⟩
 refine ⟨?_,by rw[Hn];exact hsz.2.1,λk hk=>?_,λk h hk hh=>?_⟩
 .have := n.houses;unfold wHn;omega
 .rcases split k hk with c | ⟨j,hj,rfl | rfl⟩
  .rw [Ih c]
   have := n.ends k c
   unfold wHn;omega
  .rw [Ii hj]
   have := V.ends j hj
   show 0<=(ts.getD j dT).1/\(ts.getD j dT).1<wHn hn ts/\0<=hn+(j:Int)/\hn+(j:Int)<wHn hn ts/\(ts.getD j dT).1≠hn+(j:Int)
   unfold wHn;omega
  .rw [Ij hj]
   have := V.ends j hj
   show 0<=hn+(j:Int)/\hn+(j:Int)<wHn hn ts/\0<=(ts.getD j dT).2.1/\(ts.getD j dT).2.1<wHn hn ts/\hn+(j:Int)≠(ts.getD j dT).2.1
   unfold wHn;omega
 .rcases split k hk with c | ⟨j,hj,rfl | rfl⟩
  .rw [Ih c]
   exact n.hours k h c hh
  .rw [Ii hj]
   have := V.room j hj
   unfold E9 Gl PJ
   rw [dif_pos hh,dif_pos hh]
   dsimp only
   split <;> omega
  .rw [Ij hj]
   have := V.room j hj
   unfold E9 Gl PK
   rw [dif_pos hh,dif_pos hh]
   dsimp only
   split <;> omega
theorem Mc {a:Int} (h:vi a 24=0):∃c:Int,a=24*c:=⟨a.tdiv 24,by have:=Int.mul_tdiv_add_tmod a 24;omega⟩
def InX (L:Nat) (d:Dem) (s:Nat) (ts:List Trp) (k:Nat) (x:Snd):Prop:=onV d s ts k=true/\d.2.2.2.1<=x.2.1/\x.2.1<d.2.2.2.1+(Ap d:Int)/\x.2.2=(ts.getD k dT).2.2.2.2.2.1/\(x.1=((L+2*k:Nat):Int)/\x.2.1≠(ts.getD k dT).2.2.1/\vi (x.2.1-(ts.getD k dT).2.2.1) 24=0\/x.1=((L+2*k+1:Nat):Int)/\x.2.1≠(ts.getD k dT).2.2.2.2.1-1/\vi (x.2.1-((ts.getD k dT).2.2.2.2.1-1)) 24=0)
theorem aV {L:Nat} {x:Snd}:∀n,x∈wXt L d s ts n↔∃k,k<n/\InX L d s ts k x
 | 0=>⟨λh=>by simp[wXt]at h,λ⟨k,h,_⟩=>absurd h (by omega)⟩
 | n + 1=>by
  have ih:=aV (L:=L) (x:=x) n
  simp only[wXt]
  have hex:∀tick:Int,d.2.2.2.1<=x.2.1->x.2.1<d.2.2.2.1+(Ap d:Int)->x.2.1≠tick->vi (x.2.1-tick) 24=0->x∈Ck d x.1 tick x.2.2 (Ap d):=λtick h1 h2 h3 h4=>by
   have e:d.2.2.2.1+((x.2.1-d.2.2.2.1).toNat:Int)=x.2.1:=by omega
   have := RB (d:=d) (link:=x.1) (tick:=tick) (room:=x.2.2) (t:=(x.2.1-d.2.2.2.1).toNat) (by rw[e];exact⟨h3,h4⟩) (Ap d) (by omega)
   rw [e]at this
   exact this
  constructor
  .intro h
   split at h
   .rename_i c
    rcases kq.1 h with h | h
    .rcases kq.1 h with h | h
     .obtain ⟨k,hk,g⟩:=ih.1 h
      exact ⟨k,by omega,g⟩
     .obtain ⟨e1,e2,e3,e4,e5,e6⟩:=CQ _ h
      exact ⟨n,by omega,c,e2,e3,e6,.inl ⟨e1,e4,e5⟩⟩
    .obtain ⟨e1,e2,e3,e4,e5,e6⟩:=CQ _ h
     exact ⟨n,by omega,c,e2,e3,e6,.inr ⟨e1,e4,e5⟩⟩
   .obtain ⟨k,hk,g⟩:=ih.1 h
    exact ⟨k,by omega,g⟩
  .rintro ⟨k,hk,g⟩
   by_cases e:k=n
   .subst e
    obtain ⟨c,e2,e3,e6,g⟩:=g
    rw [if_pos c]
    rcases g with ⟨e1,e4,e5⟩ | ⟨e1,e4,e5⟩
    .refine xj _ (xk _ ?_)
     rw [<-e1,<-e6]
     exact hex _ e2 e3 e4 e5
    .refine xk _ ?_
     rw [<-e1,<-e6]
     exact hex _ e2 e3 e4 e5
   .have := ih.2 ⟨k,by omega,g⟩
    split
    .exact xj _ (xj _ this)
    .exact this
theorem Wp {link tick room:Int} (hD:Ap d<=32) (h0:d.2.2.2.1<=tick) (h1:tick<d.2.2.2.1+(Ap d:Int)):(Ck d link tick room (Ap d)).length<=1:=by
 apply pq
 intro hc
 have a:=Y5 (JK (d:=d) (link:=link) (tick:=tick) (room:=room) (Ap d)) (show 0<1 by omega) (by omega)
 have g0:=CQ _ (CK (l:=Ck d link tick room (Ap d)) (k:=0) (by omega))
 have g1:=CQ _ (CK (l:=Ck d link tick room (Ap d)) (k:=1) (by omega))
 obtain ⟨a1,a2,a3,a4,a5,a6⟩:=g0
 obtain ⟨b1,b2,b3,b4,b5,b6⟩:=g1
 obtain ⟨p,hp⟩:=Mc a5
 obtain ⟨q,hq⟩:=Mc b5
 unfold ltS at a
 omega
theorem TQ (V:VoyOK hn ls us ts d) {k:Nat} (hk:k<ts.length) (h:onV d s ts k=true):s.testBit k=true/\d.2.2.2.1<=(ts.getD k dT).2.2.1/\(ts.getD k dT).2.2.2.2.1<=d.2.2.2.1+(Ap d:Int):=by
 obtain ⟨_,hdm,hD,hdu⟩:=BL V.fck
 unfold onV usB at h
 simp only[fy,decide_eq_true_eq]at h
 exact ⟨h.1,h.2.1,by omega⟩
theorem aW (V:VoyOK hn ls us ts d) {L:Nat}:∀k,k<=ts.length->(wXt L d s ts k).length<=2*k
 | 0,_=>by simp[wXt]
 | k+1,hk=>by
  have ih:=aW V (L:=L) k (by omega)
  obtain ⟨_,hdm,hD,hdu⟩:=BL V.fck
  simp only[wXt]
  split
  .rename_i c
   have u:=TQ V (show k<ts.length by omega) c
   have tm:=V.times k (by omega)
   have h1:=Wp (d:=d) (link:=((L+2*k:Nat):Int)) (tick:=(ts.getD k dT).2.2.1) (room:=(ts.getD k dT).2.2.2.2.2.1) hD (by omega) (by omega)
   have h2:=Wp (d:=d) (link:=((L+2*k+1:Nat):Int)) (tick:=(ts.getD k dT).2.2.2.2.1-1) (room:=(ts.getD k dT).2.2.2.2.2.1) hD (by omega) (by omega)
   simp only[cu]
   omega
  .omega
theorem TR {k:Nat} (hk:k<ts.length) {t:Int}:CT (wLs hn ls ts d s) ((ls.length+2*k:Nat):Int) t=if onV d s ts k=true/\t.toNat % 24=(ts.getD k dT).2.2.1.toNat % 24 then (ts.getD k dT).2.2.2.2.2.1 else 0:=by
 have e:(((ls.length+2*k:Nat):Int)).toNat=ls.length+2*k:=pe _
 unfold CT
 rw [e,Ii hk]
 unfold E9 PJ
 rw [dif_pos (Nat.mod_lt _ (by omega))]
theorem TS {k:Nat} (hk:k<ts.length) {t:Int}:CT (wLs hn ls ts d s) ((ls.length+2*k+1:Nat):Int) t=if onV d s ts k=true/\t.toNat % 24=((ts.getD k dT).2.2.2.2.1-1).toNat % 24 then (ts.getD k dT).2.2.2.2.2.1 else 0:=by
 have e:(((ls.length+2*k+1:Nat):Int)).toNat=ls.length+2*k+1:=pe _
 unfold CT
 rw [e,Ij hk]
 unfold E9 PK
 rw [dif_pos (Nat.mod_lt _ (by omega))]
theorem aX {a t:Int} (h0:0<=a) (h1:a<(ls.length:Int)):CT (wLs hn ls ts d s) a t=CT ls a t:=by
 unfold CT
 rw [Ih (by omega)]
theorem wUs_mem {x:Snd}:x∈wUs ls us ts d s↔x∈us\/∃k,k<ts.length/\InX ls.length d s ts k x:=by
 unfold wUs
 rw [srtS_perm.mem_iff,kq,aV]
theorem Md (V:VoyOK hn ls us ts d):OKr (wHn hn ts) (wLs hn ls ts d s) (wUs ls us ts d s):=by
 obtain ⟨hf,hdm,hD,hdu⟩:=BL V.fck
 obtain ⟨oku,_⟩:=Cj hf
 obtain ⟨_,_,hr⟩:=BR hdm
 have hr2:=hr.2.2.1
 have hr3:=hr.2.2.2.2
 have few:=aW V (s:=s) (L:=ls.length) ts.length (cg _)
 have hn4:=V.few
 have hul:=V.size.2.2
 refine Y6 (Wo V) ?_ (λx hx=>?_) ?_
 .unfold wUs
  rw [srtS_perm.length_eq,cu]
  omega
 .rw [Hn]
  rcases wUs_mem.1 hx with h | ⟨k,hk,c,e2,e3,e6,g⟩
  .have := Fu oku h
   refine ⟨⟨this.1.1,by omega⟩,this.2⟩
  .have rm:=V.room k hk
   have u:=TQ V hk c
   have tm:=V.times k hk
   refine ⟨?_,by omega,by omega⟩
   rcases g with ⟨e1,_⟩ | ⟨e1,_⟩ <;> omega
 .unfold wUs
  exact LQ (RC oku)
theorem Wq (V:VoyOK hn ls us ts d):EB (wHn hn ts) (wLs hn ls ts d s) (wUs ls us ts d s) d=0:=by
 obtain ⟨hf,hdm,hD,hdu⟩:=BL V.fck
 obtain ⟨oku,hcap⟩:=Cj hf
 obtain ⟨⟨a0,a1⟩,⟨c0,c1⟩,hr⟩:=BR hdm
 have hr2:=hr.2.2.1
 refine fck_zero.2 ⟨To (Md V) λi hi=>?_,?_,by omega⟩
 .have hx:=CK hi
  generalize (wUs ls us ts d s).getD i dS=x at *
  rcases wUs_mem.1 hx with h | ⟨k,hk,c,e2,e3,e6,g⟩
  .obtain ⟨j,hj,rfl⟩:=Ga h
   have := oku.link j hj
   rw [aX this.1 this.2]
   exact hcap j hj
  .have u:=TQ V hk c
   have tm:=V.times k hk
   rcases g with ⟨e1,_,e5⟩ | ⟨e1,_,e5⟩
   .obtain ⟨p,hp⟩:=Mc e5
    rw [e1,TR hk,if_pos ⟨c,by omega⟩,e6]
    exact pj _
   .obtain ⟨p,hp⟩:=Mc e5
    rw [e1,TS hk,if_pos ⟨c,by omega⟩,e6]
    exact pj _
 .unfold Ed
  simp only[fy,decide_eq_true_eq,hOK]
  unfold wHn
  exact ⟨⟨⟨a0,by omega⟩,⟨c0,by omega⟩⟩,hr⟩
end
theorem Qb {a:Int}:∀ {l:List Snd},(∀x∈l,x.1≠a)->byt a l=0
 | [],_=>rfl
 | x::l,h=>by
  rw [byt,Qb λy hy=>h y (qk _ hy),if_neg (h x xi)];rfl
theorem Qc {a:Int} {l:List Snd} (h:byt a l≠0):∃y∈l,y.1=a:=by
 apply pq
 intro c
 exact h (Qb λx hx e=>c ⟨x,hx,e⟩)
theorem TT {a τ:Int}:∀ {l:List Snd},DC l->(∀x∈l,x.1=a->x.2.1=τ)->∀y∈l,y.1=a->byt a l=y.2.2
 | [],_,_,y,hy,_=>by simp at hy
 | x::l,hk,ht,y,hy,e=>by
  obtain ⟨h1,h2⟩:=List.pairwise_cons.1 hk
  rw [byt]
  rcases li.1 hy with rfl | hy
  .rw [Qb λz hz ez=>h1 z hz ⟨by rw[ht _ xi e,ht z (qk _ hz) ez],by rw[e,ez]⟩,if_pos e]
   omega
  .have hx:x.1≠a:=λex=>h1 y hy ⟨by rw[ht _ xi ex,ht y (qk _ hy) e],by rw[e,ex]⟩
   rw [TT h2 (λz hz=>ht z (qk _ hz)) y hy e,if_neg hx]
   omega
def stL (a t:Int):List Snd->Int
 | []=>0
 | x::l=>stL a t l+if x.1=a/\x.2.1=t then x.2.2 else 0
theorem TU {a t:Int} {m:List Snd}:∀ {l:List Snd},stL a t (l++m)=stL a t l+stL a t m
 | []=>by simp[stL]
 | x::l=>by
  have := TU (a:=a) (t:=t) (m:=m) (l:=l)
  simp only[kh,stL,this];omega
theorem xE {a t:Int} {l m:List Snd} (h:l.Perm m):stL a t l=stL a t m:=by
 induction h with
 | nil=>rfl
 | cons x _ ih=>simp only[stL,ih]
 | swap x y l=>simp only[stL];omega
 | trans _ _ h1 h2=>exact h1.trans h2
theorem Qd {a t:Int}:∀ {l:List Snd},(∀x∈l,¬(x.1=a/\x.2.1=t))->stL a t l=0
 | [],_=>rfl
 | x::l,h=>by rw[stL,Qd λy hy=>h y (qk _ hy),if_neg (h x xi)];rfl
theorem TV {a t:Int}:∀ {l:List Snd},(∀x∈l,0<=x.2.2)->0<=stL a t l
 | [],_=>pj _
 | x::l,h=>by
  have ih:=TV (a:=a) (t:=t) (l:=l) λy hy=>h y (qk _ hy)
  have := h x xi
  simp only[stL]
  split <;> omega
theorem aY:∀ {l:List Snd},(∀x∈l,0<=x.2.2)->∀y∈l,y.2.2<=stL y.1 y.2.1 l
 | [],_,y,hy=>by simp at hy
 | x::l,h,y,hy=>by
  have hn:=TV (a:=y.1) (t:=y.2.1) (l:=l) λy hy=>h y (qk _ hy)
  have hx:=h x xi
  simp only[stL]
  rcases li.1 hy with rfl | hy
  .rw [if_pos ⟨rfl,rfl⟩];omega
  .have := aY (l:=l) (λy hy=>h y (qk _ hy)) y hy
   split <;> omega
theorem Qe {l:List Snd} {k:Nat} (h:k<l.length):l.take (k+1)=l.take k ++ [l.getD k dS]:=by
 rw [vo,oa,gl h];rfl
theorem aZ {a t:Int} {l:List Snd}:∀k,k<=l.length->Bg l a t k=stL a t (l.take k)
 | 0,_=>by simp[Bg,stL]
 | k+1,hk=>by
  rw [Qe hk,TU,Bg,aZ k (by omega)]
  simp only[stL];omega
theorem Y7 {a t:Int} {l:List Snd}:Bg l a t l.length=stL a t l:=by rw[aZ _ (cg _),r7]
def hvL (ls:List Lnk) (a t:Int):List Snd->Int
 | []=>0
 | x::l=>hvL ls a t l+CI ls x a t
theorem bA {ls:List Lnk} {a t:Int} {m:List Snd}:∀ {l:List Snd},hvL ls a t (l++m)=hvL ls a t l+hvL ls a t m
 | []=>by simp[hvL]
 | x::l=>by
  have := bA (ls:=ls) (a:=a) (t:=t) (m:=m) (l:=l)
  simp only[kh,hvL,this];omega
theorem bB {ls:List Lnk} {a t:Int} {l:List Snd}:∀k,k<=l.length->EW ls l a t k=hvL ls a t (l.take k)
 | 0,_=>by simp[EW,hvL]
 | k+1,hk=>by
  rw [Qe hk,bA,EW,bB k (by omega)]
  simp only[hvL];omega
theorem Alf {ls:List Lnk} {a t:Int} {l:List Snd}:EW ls l a t l.length=hvL ls a t l:=by rw[bB _ (cg _),r7]
theorem Qf {l:List Snd} (h:DC l):l.Nodup:=uu (λ{x y} g e=>g ⟨by rw[e],by rw[e]⟩) h
theorem Afm {l:List Snd} (a:HR l) {r:Int} {D:Nat} (h:∀x∈l,(0<=x.1/\x.1<60)/\r<=x.2.1/\x.2.1<r+(D:Int)):l.length<=60*D:=by
 have key:∀k:Nat,k<l.length->60*r+(k:Int)<=60*(l.getD k dS).2.1+(l.getD k dS).1:=by
  intro k
  induction k with
  | zero =>
   intro hk
   have := h _ (CK hk)
   omega
  | succ k ih =>
   intro hk
   have h1:=ih (by omega)
   have h2:=Y5 a (show k<k+1 by omega) hk
   have h3:=h _ (CK hk)
   have h4:=h _ (CK (show k<l.length by omega))
   unfold ltS at h2
   omega
 by_cases e:l.length=0
 .omega
 .have h1:=key (l.length-1) (by omega)
  have h2:=h _ (CK (show l.length-1<l.length by omega))
  omega
theorem JS {L:Nat} {ts:List Trp} {o:List Int} {i:Nat} (h:0<o.getD i 0):∀k,i<k->(((L+2*i:Nat):Int),(ts.getD i dT).2.2.1,o.getD i 0)∈Cs L ts o k/\(((L+2*i+1:Nat):Int),(ts.getD i dT).2.2.2.2.1-1,o.getD i 0)∈Cs L ts o k
 | 0,hk=>absurd hk (by omega)
 | k+1,hk=>by
  simp only[Cs]
  by_cases e:i=k
  .subst e
   rw [if_pos h]
   exact ⟨xk _ xi,xk _ (qk _ xi)⟩
  .have ih:=JS (L:=L) (ts:=ts) h k (by omega)
   split
   .exact ⟨xj _ ih.1,xj _ ih.2⟩
   .exact ih
theorem xF {f:Nat->Int}:∀ {n:Nat},(∀i,i<n->0<=f i)->∀ {a c},a<n->c<n->a≠c->f a+f c<=Sm f n
 | 0,_,a,c,ha,_,_=>absurd ha (by omega)
 | n+1,h,a,c,ha,hc,hac=>by
  have hn:=h n (by omega)
  simp only[Sm]
  by_cases e1:a=n
  .have := Hd (f:=f) (n:=n) (k:=c) (λi hi=>h i (by omega)) (by omega)
   rw [e1];omega
  .by_cases e2:c=n
   .have := Hd (f:=f) (n:=n) (k:=a) (λi hi=>h i (by omega)) (by omega)
    rw [e2];omega
   .have := xF (f:=f) (n:=n) (λi hi=>h i (by omega)) (a:=a) (c:=c) (by omega) (by omega) hac
    omega
section
variable {hn:Int} {ls:List Lnk} {us:List Snd} {ts:List Trp} {d:Dem} {s:Nat}
theorem kR {s2:Nat} {x:Snd} (h:0<=x.1/\x.1<((ls.length+2*ts.length:Nat):Int)):(AB (wLs hn ls ts d s) x).1=(AB (wLs hn ls ts d s2) x).1/\(AB (wLs hn ls ts d s) x).2.1=(AB (wLs hn ls ts d s2) x).2.1:=by
 unfold AB
 by_cases c:x.1.toNat<ls.length
 .rw [Ih c,Ih c];exact⟨rfl,rfl⟩
 .obtain ⟨j,hj,e | e⟩:∃j,j<ts.length/\(x.1.toNat=ls.length+2*j\/x.1.toNat=ls.length+2*j+1):=⟨(x.1.toNat-ls.length) / 2,by omega,by omega⟩
  .rw [e,Ii hj,Ii hj];exact⟨rfl,rfl⟩
  .rw [e,Ij hj,Ij hj];exact⟨rfl,rfl⟩
theorem xG (V:VoyOK hn ls us ts d) {k:Nat} {t:Int}:∀ {l:List Snd},(∀x∈l,(0<=x.1/\x.1<((ls.length+2*ts.length:Nat):Int))/\x.2.1<t)->hvL (wLs hn ls ts d s) (hn+(k:Int)) t l=byt ((ls.length+2*k:Nat):Int) l-byt ((ls.length+2*k+1:Nat):Int) l
 | [],_=>rfl
 | x :: l,h=>by
  have ih:=xG V (k:=k) (t:=t) (l:=l) λy hy=>h y (qk _ hy)
  obtain ⟨⟨x0,x1⟩,x2⟩:=h x xi
  simp only[hvL,byt,ih]
  unfold CI
  rw [if_pos x2]
  unfold AB
  by_cases c:x.1.toNat<ls.length
  .rw [Ih c]
   have e:=(Mb V).ends _ c
   rw [if_neg (by omega),if_neg (by omega),if_neg (by omega),if_neg (by omega)]
   omega
  .obtain ⟨j,hj,e | e⟩:∃j,j<ts.length/\(x.1.toNat=ls.length+2*j\/x.1.toNat=ls.length+2*j+1):=⟨(x.1.toNat-ls.length) / 2,by omega,by omega⟩
   .have g:=V.ends j hj
    rw [e,Ii hj]
    rw [show (PJ hn d s ts j).2.1=hn+(j:Int) from rfl,show (PJ hn d s ts j).1=(ts.getD j dT).1 from rfl]
    by_cases q:j=k
    .subst q
     rw [if_pos rfl,if_neg (show ¬(ts.getD j dT).1=hn+(j:Int) by omega),if_pos (by omega),if_neg (by omega)]
     omega
    .rw [if_neg (by omega),if_neg (show ¬(ts.getD j dT).1=hn+(k:Int) by omega),if_neg (by omega),if_neg (by omega)]
     omega
   .have g:=V.ends j hj
    rw [e,Ij hj]
    rw [show (PK hn d s ts j).2.1=(ts.getD j dT).2.1 from rfl,show (PK hn d s ts j).1=hn+(j:Int) from rfl]
    by_cases q:j=k
    .subst q
     rw [if_neg (show ¬(ts.getD j dT).2.1=hn+(j:Int) by omega),if_pos rfl,if_neg (by omega),if_pos (by omega)]
     omega
    .rw [if_neg (show ¬(ts.getD j dT).2.1=hn+(k:Int) by omega),if_neg (by omega),if_neg (by omega),if_neg (by omega)]
     omega
theorem xH (V:VoyOK hn ls us ts d) {C:List Snd} (ok:OKr (wHn hn ts) (wLs hn ls ts d s) C) (hb:∀i,i<C.length->(C.getD i dS).2.2<=CT (wLs hn ls ts d s) (C.getD i dS).1 (C.getD i dS).2.1-Bg (wUs ls us ts d s) (C.getD i dS).1 (C.getD i dS).2.1 (wUs ls us ts d s).length)
  (ht : ∀i,i<C.length->d.2.2.2.1<=(C.getD i dS).2.1/\(C.getD i dS).2.1<d.2.2.2.2) {k:Nat} (hk:k<ts.length) {x:Snd} (hx:x∈C) :
  (x.1 =((ls.length+2*k:Nat):Int)->onV d s ts k=true/\x.2.1=(ts.getD k dT).2.2.1/\x.2.2<=(ts.getD k dT).2.2.2.2.2.1)/\(x.1=((ls.length+2*k+1:Nat):Int)->onV d s ts k=true/\x.2.1=(ts.getD k dT).2.2.2.2.1-1/\x.2.2<=(ts.getD k dT).2.2.2.2.2.1):=by
 obtain ⟨_,hdm,hD,hdu⟩:=BL V.fck
 obtain ⟨_,_,hr⟩:=BR hdm
 have hr2:=hr.2.2.1
 obtain ⟨i,hi,rfl⟩:=Ga hx
 have hb:=hb i hi
 have ht:=ht i hi
 have hbb:=ok.bytes i hi
 have hnn:∀y∈wUs ls us ts d s,0<=y.2.2:=λy hy=>by have:=(Fu (Md V (s:=s)) hy).2.2;omega
 have tm:=V.times k hk
 generalize C.getD i dS=x at *
 rw [Y7]at hb
 have h0:=TV (a:=x.1) (t:=x.2.1) hnn
 have fin:∀tick:Int,0<=tick->onV d s ts k=true->x.2.1.toNat % 24=tick.toNat % 24->x.2.2<=(ts.getD k dT).2.2.2.2.2.1-stL x.1 x.2.1 (wUs ls us ts d s)->(x.2.1≠tick->vi (x.2.1-tick) 24=0->InX ls.length d s ts k (x.1,x.2.1,(ts.getD k dT).2.2.2.2.2.1))->x.2.1=tick:=λtick t0 c e g hin=>by
  apply pq
  intro hne
  have hdv:vi (x.2.1-tick) 24=0:=Int.tmod_eq_zero_of_dvd (by omega)
  have := aY hnn _ (wUs_mem.2 (.inr ⟨k,hk,hin hne hdv⟩))
  dsimp only at this
  omega
 refine ⟨λe=>?_,λe=>?_⟩
 .have hb2:=hb
  rw [e,TR hk,<-e]at hb2
  split at hb2
  .rename_i c
   refine ⟨c.1,fin _ tm.1 c.1 c.2 hb2 λhne hdv=>⟨c.1,ht.1,by dsimp only;omega,rfl,.inl ⟨e,hne,hdv⟩⟩,by omega⟩
  .omega
 .have hb2:=hb
  rw [e,TS hk,<-e]at hb2
  split at hb2
  .rename_i c
   refine ⟨c.1,fin _ (by omega) c.1 c.2 hb2 λhne hdv=>⟨c.1,ht.1,by dsimp only;omega,rfl,.inr ⟨e,hne,hdv⟩⟩,by omega⟩
  .omega
end
section
variable {hn:Int} {ls:List Lnk} {us:List Snd} {ts:List Trp} {d:Dem} {s:Nat}
theorem xI {a:Int}:∀ {l:List Snd},(∀x∈l,1<=x.2.2)->0<=byt a l
 | [],_=>pj _
 | x::l,h=>by
  have ih:=xI (a:=a) (l:=l) λy hy=>h y (qk _ hy)
  have := h x xi
  simp only[byt]
  split <;> omega
structure WPlan (hn:Int) (ls:List Lnk) (us:List Snd) (ts:List Trp) (d:Dem) (s:Nat) (C:List Snd):Prop where
 voy : VoyOK hn ls us ts d
 sv : Serving (wHn hn ts) (wLs hn ls ts d s) C d
 bes : ∀i,i<C.length->(C.getD i dS).2.2<=CT (wLs hn ls ts d s) (C.getD i dS).1 (C.getD i dS).2.1-Bg (wUs ls us ts d s) (C.getD i dS).1 (C.getD i dS).2.1 (wUs ls us ts d s).length
 tk : ∀i,i<C.length->d.2.2.2.1<=(C.getD i dS).2.1/\(C.getD i dS).2.1<d.2.2.2.2
theorem kT (V:VoyOK hn ls us ts d) (h:Dc hn ls us ts d s=0):WPlan hn ls us ts d s (KX hn ls us ts d s):=by
 obtain ⟨_,_,ho⟩:=FZ h
 exact ⟨V,serves_iff.1 ho.serves,ho.besides,ho.ticks⟩
variable {C:List Snd}
theorem WPlan.link (W:WPlan hn ls us ts d s C) {x:Snd} (hx:x∈C):0<=x.1/\x.1<((ls.length+2*ts.length:Nat):Int):=by
 have :=(Fu W.sv.ok hx).1
 rw [Hn]at this
 exact this
theorem WPlan.keys (W:WPlan hn ls us ts d s C):DC C:=Hj (JJ W.sv.ok)
theorem WPlan.mid (W:WPlan hn ls us ts d s C) {k:Nat} (hk:k<ts.length):byt ((ls.length+2*k:Nat):Int) C=byt ((ls.length+2*k+1:Nat):Int) C:=by
 obtain ⟨hf,hdm,hD,hdu⟩:=BL W.voy.fck
 obtain ⟨⟨a0,a1⟩,⟨c0,c1⟩,hr⟩:=BR hdm
 have e:=xG W.voy (s:=s) (k:=k) (t:=d.2.2.2.2) (l:=C) λx hx=>by
  obtain ⟨i,hi,rfl⟩:=Ga hx
  exact ⟨W.link (CK hi),(W.tk i hi).2⟩
 have hs:=VS W.sv d.2.2.2.2
 rw [if_pos (by omega)]at hs
 have hw:wHn hn ts=hn+(ts.length:Int):=rfl
 have h2:=xF (f:=λa:Nat=>Ba (wLs hn ls ts d s) C d (a:Int) d.2.2.2.2) (n:=(wHn hn ts).toNat) (λi _=>D5 W.sv _ _) (a:=d.2.1.toNat) (c:=hn.toNat+k) (by omega) (by omega) (by omega)
 have late:=W.sv.late
 rw [show ((d.2.1.toNat:Nat):Int)=d.2.1 by omega,show ((hn.toNat+k:Nat):Int)=hn+(k:Int) by omega]at h2
 have h3:=D5 W.sv (hn+(k:Int)) d.2.2.2.2
 have h4:Ba (wLs hn ls ts d s) C d (hn+(k:Int)) d.2.2.2.2=hvL (wLs hn ls ts d s) (hn+(k:Int)) d.2.2.2.2 C:=by
  unfold Ba CO
  rw [if_neg (by omega),Alf];omega
 omega
theorem WPlan.one (W:WPlan hn ls us ts d s C) {k:Nat} (hk:k<ts.length) {x:Snd} (hx:x∈C):(x.1=((ls.length+2*k:Nat):Int)->onV d s ts k=true/\x.2.1=(ts.getD k dT).2.2.1/\x.2.2<=(ts.getD k dT).2.2.2.2.2.1/\byt ((ls.length+2*k:Nat):Int) C=x.2.2)/\(x.1=((ls.length+2*k+1:Nat):Int)->onV d s ts k=true/\x.2.1=(ts.getD k dT).2.2.2.2.1-1/\x.2.2<=(ts.getD k dT).2.2.2.2.2.1/\byt ((ls.length+2*k+1:Nat):Int) C=x.2.2):=by
 have t:=λ{y:Snd} (hy:y∈C)=>xH W.voy W.sv.ok W.bes W.tk hk hy
 refine ⟨λe=>?_,λe=>?_⟩
 .obtain ⟨h1,h2,h3⟩:=(t hx).1 e
  exact ⟨h1,h2,h3,TT W.keys (λy hy ey=>((t hy).1 ey).2.1) x hx e⟩
 .obtain ⟨h1,h2,h3⟩:=(t hx).2 e
  exact ⟨h1,h2,h3,TT W.keys (λy hy ey=>((t hy).2 ey).2.1) x hx e⟩
theorem WPlan.on (W:WPlan hn ls us ts d s C) {k:Nat} (hk:k<ts.length):(psO ls.length ts.length C).getD k 0=byt ((ls.length+2*k+1:Nat):Int) C/\0<=(psO ls.length ts.length C).getD k 0/\(psO ls.length ts.length C).getD k 0<=(ts.getD k dT).2.2.2.2.2.1/\(0<(psO ls.length ts.length C).getD k 0->onV d s ts k=true):=by
 rw [YQ hk]
 have rm:=W.voy.room k hk
 have nn:=xI (a:=((ls.length+2*k+1:Nat):Int)) (l:=C) λx hx=>(Fu W.sv.ok hx).2.2.1
 by_cases c:byt ((ls.length+2*k+1:Nat):Int) C=0
 .exact ⟨rfl,nn,by omega,λh=>by omega⟩
 .obtain ⟨y,hy,ey⟩:=Qc c
  obtain ⟨h1,h2,h3,h4⟩:=(W.one hk hy).2 ey
  exact ⟨rfl,nn,by omega,λ_=>h1⟩
theorem WPlan.perm (W:WPlan hn ls us ts d s C):C.Perm (psS ls.length C++Cs ls.length ts (psO ls.length ts.length C) ts.length):=by
 have hp:(psS ls.length C++C.filter λx => !decide (x.1<(ls.length:Int))).Perm C:=List.filter_append_perm _ _
 refine hp.symm.trans (List.Perm.append_left _ ?_)
 refine (List.perm_ext_iff_of_nodup ((Qf W.keys).filter _) (Qf (KO _))).2 λx=>?_
 rw [xl,Bool.not_eq_true',decide_eq_false_iff_not]
 constructor
 .rintro ⟨hx,hL⟩
  have hl:=W.link hx
  have hb:=(Fu W.sv.ok hx).2.2
  obtain ⟨j,hj,e | e⟩:∃j,j<ts.length/\(x.1=((ls.length+2*j:Nat):Int)\/x.1=((ls.length+2*j+1:Nat):Int)):=⟨(x.1.toNat-ls.length) / 2,by omega,by omega⟩
  .obtain ⟨h1,h2,h3,h4⟩:=(W.one hj hx).1 e
   have o:=(W.on hj).1
   have m:=W.mid hj
   have :=(JS (L:=ls.length) (ts:=ts) (o:=psO ls.length ts.length C) (i:=j) (by omega) ts.length hj).1
   rw [o,<-m,h4,<-h2,<-e]at this
   exact this
  .obtain ⟨h1,h2,h3,h4⟩:=(W.one hj hx).2 e
   have o:=(W.on hj).1
   have :=(JS (L:=ls.length) (ts:=ts) (o:=psO ls.length ts.length C) (i:=j) (by omega) ts.length hj).2
   rw [o,h4,<-h2,<-e]at this
   exact this
 .intro hx
  obtain ⟨i,hi,h0,h1,g⟩:=Hl _ hx
  have o:=(W.on hi).1
  have m:=W.mid hi
  rw [o]at h0 h1
  rcases g with ⟨e,et⟩ | ⟨e,et⟩
  .obtain ⟨y,hy,ey⟩:=Qc (a:=((ls.length+2*i:Nat):Int)) (l:=C) (by omega)
   obtain ⟨_,k2,_,k4⟩:=(W.one hi hy).1 ey
   have : y=x:=qu (by omega) (qu (by omega) (by omega))
   subst this
   exact ⟨hy,by omega⟩
  .obtain ⟨y,hy,ey⟩:=Qc (a:=((ls.length+2*i+1:Nat):Int)) (l:=C) (by omega)
   obtain ⟨_,k2,_,k4⟩:=(W.one hi hy).2 ey
   have : y=x:=qu (by omega) (qu (by omega) (by omega))
   subst this
   exact ⟨hy,by omega⟩
theorem WPlan.sch (W:WPlan hn ls us ts d s C):SchOK hn ls us ts d (psS ls.length C) (psO ls.length ts.length C):=by
 have V:=W.voy
 obtain ⟨hf,hdm,hD,hdu⟩:=BL V.fck
 have hsub:(psS ls.length C).Sublist C:=List.filter_sublist
 have hasc:HR (psS ls.length C):=(JJ W.sv.ok).sublist hsub
 have hmem:∀x∈psS ls.length C,x∈C/\x.1<(ls.length:Int):=λx hx=>by
  have := xl.1 hx
  exact ⟨this.1,of_decide_eq_true this.2⟩
 have hll:=V.size.2.1
 have hlen:(psS ls.length C).length<=60*Ap d:=Afm hasc λx hx=>by
  obtain ⟨h1,h2⟩:=hmem x hx
  have := W.link h1
  obtain ⟨i,hi,rfl⟩:=Ga h1
  have := W.tk i hi
  exact ⟨by omega,this.1,by omega⟩
 refine ⟨V,Y6 (Mb V) (by omega) (λx hx=>?_) hasc,by omega,HW,λk hk=>?_⟩
 .obtain ⟨h1,h2⟩:=hmem x hx
  have := Fu W.sv.ok h1
  exact ⟨⟨this.1.1,h2⟩,this.2⟩
 .obtain ⟨_,h1,h2,_⟩:=W.on hk
  exact ⟨h1,h2⟩
theorem WPlan.schL (W:WPlan hn ls us ts d s C):schL hn ls us ts d (psS ls.length C) (psO ls.length ts.length C)=C:=by
 unfold Sim.schL
 rw [if_pos (sch_zero.2 W.sch)]
 exact Aj3 (JJ W.sv.ok) W.perm.symm
theorem WPlan.bit (W:WPlan hn ls us ts d s C) {k:Nat} (hk:k<ts.length) (h:0<(psO ls.length ts.length C).getD k 0):onV d (Bl (psO ls.length ts.length C) (psO ls.length ts.length C).length) ts k=true:=by
 have h1:=(W.on hk).2.2.2 h
 have hb:=Na (o:=psO ls.length ts.length C) (i:=k) (psO ls.length ts.length C).length
 rw [decide_eq_true h,decide_eq_true (show k<(psO ls.length ts.length C).length by rw[HW];exact hk)]at hb
 unfold onV at h1 ⊢
 simp only[fy]at h1
 rw [hb,h1.2];rfl
theorem WPlan.thin (W:WPlan hn ls us ts d s C):WPlan hn ls us ts d (Bl (psO ls.length ts.length C) (psO ls.length ts.length C).length) C:=by
 have V:=W.voy
 have hbit:=λ{k:Nat} (hk:k<ts.length)=>W.bit hk
 generalize hs2:Bl (psO ls.length ts.length C) (psO ls.length ts.length C).length=s2 at *
 have bes:∀i,i<C.length->(C.getD i dS).2.2<=CT (wLs hn ls ts d s2) (C.getD i dS).1 (C.getD i dS).2.1-Bg (wUs ls us ts d s2) (C.getD i dS).1 (C.getD i dS).2.1 (wUs ls us ts d s2).length:=λi hi=>by
  have h0:=W.bes i hi
  have hx:=CK hi
  have tk:=W.tk i hi
  generalize C.getD i dS=x at *
  have hl:=W.link hx
  have hb:=(Fu W.sv.ok hx).2.2
  rw [Y7]at h0 ⊢
  by_cases c:x.1<(ls.length:Int)
  .rw [aX hl.1 c]at h0 ⊢
   have key:∀s',stL x.1 x.2.1 (wUs ls us ts d s')=stL x.1 x.2.1 us:=λs'=>by
    unfold wUs
    rw [xE srtS_perm,TU,Qd (l:=wXt ls.length d s' ts ts.length) λy hy g=>by have:=Ji _ hy;omega]
    omega
   rw [key]at h0 ⊢
   exact h0
  .have zero:∀ {k:Nat},k<ts.length->(x.1=((ls.length+2*k:Nat):Int)/\x.2.1=(ts.getD k dT).2.2.1\/x.1=((ls.length+2*k+1:Nat):Int)/\x.2.1=(ts.getD k dT).2.2.2.2.1-1)->stL x.1 x.2.1 (wUs ls us ts d s2)=0:=λ{k} hk g=>by
    refine Qd λy hy ey=>?_
    rcases wUs_mem.1 hy with h | ⟨j,hj,_,_,_,_,g2⟩
    .have := LZ (Cj (BL V.fck).1).1 h
     omega
    .have ejk:j=k:=by omega
     subst ejk
     omega
   obtain ⟨j,hj,e | e⟩:∃j,j<ts.length/\(x.1=((ls.length+2*j:Nat):Int)\/x.1=((ls.length+2*j+1:Nat):Int)):=⟨(x.1.toNat-ls.length) / 2,by omega,by omega⟩
   .obtain ⟨h1,h2,h3,h4⟩:=(W.one hj hx).1 e
    have o:=(W.on hj).1
    have m:=W.mid hj
    have hon:=hbit hj (by omega)
    rw [zero hj (.inl ⟨e,h2⟩),e,TR hj,if_pos ⟨hon,by rw[h2]⟩]
    omega
   .obtain ⟨h1,h2,h3,h4⟩:=(W.one hj hx).2 e
    have o:=(W.on hj).1
    have hon:=hbit hj (by omega)
    rw [zero hj (.inr ⟨e,h2⟩),e,TS hj,if_pos ⟨hon,by rw[h2]⟩]
    omega
 have ok2:OKr (wHn hn ts) (wLs hn ls ts d s2) C:=Y6 (Wo V) W.sv.ok.len (λx hx=>by
  have := Fu W.sv.ok hx
  have hl:=W.link hx
  rw [Hn]
  exact ⟨hl,this.2⟩) (JJ W.sv.ok)
 have ends2:∀x∈C,(AB (wLs hn ls ts d s2) x).1=(AB (wLs hn ls ts d s) x).1/\(AB (wLs hn ls ts d s2) x).2.1=(AB (wLs hn ls ts d s) x).2.1:=λx hx=>kR (W.link hx)
 have hv:∀a t,Ba (wLs hn ls ts d s2) C d a t=Ba (wLs hn ls ts d s) C d a t:=λa t=>by
  unfold Ba
  rw [DA,DA,Br λi hi=>by
   obtain ⟨e1,e2⟩:=ends2 _ (CK hi)
   show CI (wLs hn ls ts d s2) (C.getD i dS) a t=CI (wLs hn ls ts d s) (C.getD i dS) a t
   unfold CI
   rw [e1,e2]]
 have fr:∀i,i<C.length->frM (wLs hn ls ts d s2) C i=frM (wLs hn ls ts d s) C i:=λi hi=>(ends2 _ (CK hi)).1
 refine ⟨V,⟨ok2,W.sv.from_,W.sv.to_,W.sv.dem,To ok2 λi hi=>?_,λk hk=>?_,?_⟩,bes,W.tk⟩
 .have h1:=bes i hi
  have h2:=TV (a:=(C.getD i dS).1) (t:=(C.getD i dS).2.1) (l:=wUs ls us ts d s2) λy hy=>by have:=(Fu (Md V (s:=s2)) hy).2.2;omega
  rw [Y7]at h1
  omega
 .rw [fr k hk,hv]
  have := W.sv.fed k hk
  rw [JF]at this ⊢
  rw [Br λi hi=>by
   show (if (C.getD i dS).2.1=(C.getD k dS).2.1/\frM (wLs hn ls ts d s2) C i=frM (wLs hn ls ts d s) C k then (C.getD i dS).2.2 else 0)=(if (C.getD i dS).2.1=(C.getD k dS).2.1/\frM (wLs hn ls ts d s) C i=frM (wLs hn ls ts d s) C k then (C.getD i dS).2.2 else 0)
   rw [fr i hi]]
  exact this
 .rw [hv]
  exact W.sv.late
theorem kU (V:VoyOK hn ls us ts d) {x:Snd} (h1:0<=x.1/\x.1<((ls.length+2*ts.length:Nat):Int)) (h2:0<=x.2.1/\x.2.1<1000000):D4 (wHn hn ts) (wLs hn ls ts d s) (wUs ls us ts d s) x.1 x.2.1=(CT (wLs hn ls ts d s) x.1 x.2.1-Bg (wUs ls us ts d s) x.1 x.2.1 (wUs ls us ts d s).length,0):=by
 unfold D4
 rw [if_neg (λg=>g (right_zero.2 (Md V))),if_neg (by rw[Hn];omega)]
theorem WPlan.srv (W:WPlan hn ls us ts d s C):Fr hn ls us ts d (psS ls.length C) (psO ls.length ts.length C)=0:=by
 have W2:=W.thin
 have hB:∀i,i<C.length->(C.getD i dS).2.2<=(D4 (wHn hn ts) (wLs hn ls ts d (Bl (psO ls.length ts.length C) (psO ls.length ts.length C).length)) (wUs ls us ts d (Bl (psO ls.length ts.length C) (psO ls.length ts.length C).length)) (C.getD i dS).1 (C.getD i dS).2.1).1:=λi hi=>by
  rw [kU W.voy (W.link (CK hi)) (W.sv.ok.tick i hi)]
  exact W2.bes i hi
 unfold Fr Ad6
 rw [if_neg (λg=>g (sch_zero.2 W.sch)),W.schL,if_neg (λg=>g hB)]
 exact serves_iff.2 W2.sv
theorem bC {o:List Int} {s:Nat} (hp:YP ts) (h:∀k,k<ts.length->0<o.getD k 0->s.testBit k=true):∀k,k<=ts.length->CB ts o k<=Gg ts s k
 | 0,_=>pj _
 | k+1,hk=>by
  have ih:=bC hp h k (by omega)
  have hk2:=h k (by omega)
  have := hp.2 k (by omega)
  simp only[CB,Gg]
  by_cases c:0<o.getD k 0
  .rw [if_pos c,if_pos (hk2 c),xc];omega
  .rw [if_neg c]
   split
   .rw [xc];omega
   .rw [xf];omega
theorem WPlan.cost (W:WPlan hn ls us ts d s C):Gc hn ls us ts d (psS ls.length C) (psO ls.length ts.length C)<=BY (wHn hn ts) (wLs hn ls ts d s) C+Gg ts s ts.length:=by
 have S:=W.sch
 have e:=RK (s:=s) S (by rw[W.schL];exact W.sv.ok)
 rw [W.schL]at e
 unfold Gc
 rw [if_pos (sch_zero.2 S),S.loads,e]
 have := bC (o:=psO ls.length ts.length C) (s:=s) (Nd W.voy) (λk hk h=>by
  have :=(W.on hk).2.2.2 h
  unfold onV at this
  simp only[fy]at this
  exact this.1) ts.length (cg _)
 omega
end
section
variable {hn:Int} {ls:List Lnk} {us:List Snd} {ts:List Trp} {d:Dem}
def wCo (hn:Int) (ls:List Lnk) (us:List Snd) (ts:List Trp) (d:Dem) (s:Nat):Int:=BY (wHn hn ts) (wLs hn ls ts d s) (KX hn ls us ts d s)+Gg ts s ts.length
def lsT (hn:Int) (ls:List Lnk) (us:List Snd) (ts:List Trp) (d:Dem):Nat->Int
 | 0 => -1
 | s+1=>if Dc hn ls us ts d s=0/\(lsT hn ls us ts d s<0\/wCo hn ls us ts d s<lsT hn ls us ts d s)then wCo hn ls us ts d s else lsT hn ls us ts d s
theorem KZ {s:Nat} (h:Dc hn ls us ts d s=0):wCo hn ls us ts d s=BY (wHn hn ts) (wLs hn ls ts d s) (KX hn ls us ts d s)+Gg ts s ts.length:=by
 rfl
theorem Afn {hn:Int} {ls:List Lnk} {l:List Snd}:0<=BY hn ls l:=by
 unfold BY
 split
 .exact pj _
 .rename_i h
  exact (Jd (right_zero.1 (t9.1 h)) _ (cg _)).1
theorem xJ (V:VoyOK hn ls us ts d) {s:Nat} (h:Dc hn ls us ts d s=0):0<=wCo hn ls us ts d s:=by
 rw [KZ h]
 have := Afn (hn:=wHn hn ts) (ls:=wLs hn ls ts d s) (l:=KX hn ls us ts d s)
 have :=(Ma (s:=s) (Nd V) ts.length (cg _)).1
 omega
theorem Alg {l:List Snd} {o:List Int} (h:Fr hn ls us ts d l o=0):Bl o o.length<2 ^ ts.length/\Dc hn ls us ts d (Bl o o.length)=0/\wCo hn ls us ts d (Bl o o.length)<=Gc hn ls us ts d l o:=by
 have S:=GG h
 have hp:=TP h
 have hlt:=LU (o:=o) o.length
 obtain ⟨e0,hc⟩:=aK (Wq S.voy) hp
 have ec:=RK (s:=Bl o o.length) S (serves_iff.1 hp.1).ok
 have e1:Dc hn ls us ts d (Bl o o.length)=0:=e0
 refine ⟨by rw[<-S.loads];exact hlt,e1,?_⟩
 rw [KZ e1]
 have hs:=RL (ts:=ts) (o:=o) o.length o.length (cg _)
 rw [<-S.loads,hs]
 unfold Gc
 rw [if_pos (sch_zero.2 S),<-ec]
 unfold KX
 omega
theorem bE (V:VoyOK hn ls us ts d) {s:Nat} (h:Dc hn ls us ts d s=0):Fr hn ls us ts d (TH hn ls us ts d s) (P7 hn ls us ts d s)=0/\Ft hn ls us ts d s<=wCo hn ls us ts d s:=by
 have W:=kT V h
 refine ⟨W.srv,?_⟩
 rw [KZ h]
 exact W.cost
theorem Wr:∀n,((Cn hn ls us ts d n).1<0/\∀s,s<n->Dc hn ls us ts d s≠0)\/(∃s,s<n/\Dc hn ls us ts d s=0/\Cn hn ls us ts d n=(Ft hn ls us ts d s,TH hn ls us ts d s,P7 hn ls us ts d s)/\∀s',s'<n->Dc hn ls us ts d s'=0->Ft hn ls us ts d s<=Ft hn ls us ts d s')
 | 0=>.inl ⟨by simp[Cn],λs h=>absurd h (by omega)⟩
 | n + 1=>by
  have nn:0<=Ft hn ls us ts d n:=P8
  rcases Wr n with ⟨h1,h2⟩ | ⟨s,hs,h1,h2,h3⟩
  .by_cases c:Dc hn ls us ts d n=0
   .refine .inr ⟨n,by omega,c,?_,λs' hs' e=>?_⟩
    .simp only[Cn];rw[if_pos ⟨c,.inl h1⟩]
    .by_cases e2:s'=n
     .rw [e2];exact pj _
     .exact absurd e (h2 s' (by omega))
   .refine .inl ⟨?_,λs' hs'=>?_⟩
    .simp only[Cn];rw[if_neg (λg=>c g.1)];exact h1
    .by_cases e2:s'=n
     .rw [e2];exact c
     .exact h2 s' (by omega)
  .have hnn:0<=Ft hn ls us ts d s:=P8
   by_cases c:Dc hn ls us ts d n=0/\Ft hn ls us ts d n<Ft hn ls us ts d s
   .refine .inr ⟨n,by omega,c.1,?_,λs' hs' e=>?_⟩
    .simp only[Cn];rw[h2,if_pos ⟨c.1,.inr c.2⟩]
    .by_cases e2:s'=n
     .rw [e2];exact pj _
     .have := h3 s' (by omega) e;omega
   .refine .inr ⟨s,by omega,h1,?_,λs' hs' e=>?_⟩
    .simp only[Cn];rw[h2,if_neg (λg=>by
      rcases g.2 with g2 | g2
      .have g2:Ft hn ls us ts d s<0:=g2
       omega
      .exact c ⟨g.1,g2⟩)]
    .by_cases e2:s'=n
     .subst e2
      have : ¬Ft hn ls us ts d s'<Ft hn ls us ts d s:=λg=>c ⟨e,g⟩
      omega
     .exact h3 s' (by omega) e
theorem TW (V:VoyOK hn ls us ts d):∀n,(lsT hn ls us ts d n<0/\∀s,s<n->Dc hn ls us ts d s≠0)\/(∃s,s<n/\Dc hn ls us ts d s=0/\lsT hn ls us ts d n=wCo hn ls us ts d s/\∀s',s'<n->Dc hn ls us ts d s'=0->wCo hn ls us ts d s<=wCo hn ls us ts d s')
 | 0=>.inl ⟨by simp[lsT],λs h=>absurd h (by omega)⟩
 | n + 1=>by
  rcases TW V n with ⟨h1,h2⟩ | ⟨s,hs,h1,h2,h3⟩
  .by_cases c:Dc hn ls us ts d n=0
   .refine .inr ⟨n,by omega,c,?_,λs' hs' e=>?_⟩
    .simp only[lsT];rw[if_pos ⟨c,.inl h1⟩]
    .by_cases e2:s'=n
     .rw [e2];exact pj _
     .exact absurd e (h2 s' (by omega))
   .refine .inl ⟨?_,λs' hs'=>?_⟩
    .simp only[lsT];rw[if_neg (λg=>c g.1)];exact h1
    .by_cases e2:s'=n
     .rw [e2];exact c
     .exact h2 s' (by omega)
  .have hnn:=xJ V h1
   by_cases c:Dc hn ls us ts d n=0/\wCo hn ls us ts d n<wCo hn ls us ts d s
   .refine .inr ⟨n,by omega,c.1,?_,λs' hs' e=>?_⟩
    .simp only[lsT];rw[h2,if_pos ⟨c.1,.inr c.2⟩]
    .by_cases e2:s'=n
     .rw [e2];exact pj _
     .have := h3 s' (by omega) e;omega
   .refine .inr ⟨s,by omega,h1,?_,λs' hs' e=>?_⟩
    .simp only[lsT];rw[h2,if_neg (λg=>by
      rcases g.2 with g2 | g2
      .omega
      .exact c ⟨g.1,g2⟩)]
    .by_cases e2:s'=n
     .subst e2
      have : ¬wCo hn ls us ts d s'<wCo hn ls us ts d s:=λg=>c ⟨e,g⟩
      omega
     .exact h3 s' (by omega) e
theorem Ws (V:VoyOK hn ls us ts d):(TJ hn ls us ts d=21/\lsT hn ls us ts d (2 ^ ts.length)<0/\Ib hn ls us ts d = []/\Ic hn ls us ts d = [])\/(TJ hn ls us ts d=0/\0<=lsT hn ls us ts d (2 ^ ts.length)/\Fr hn ls us ts d (Ib hn ls us ts d) (Ic hn ls us ts d)=0/\Gc hn ls us ts d (Ib hn ls us ts d) (Ic hn ls us ts d)=lsT hn ls us ts d (2 ^ ts.length)):=by
 have hv:=vck_iff.2 V
 unfold TJ Ib Ic J6
 have hv2:¬El hn ls us ts d≠0:=λg=>g hv
 rw [if_neg hv2,if_neg hv2,if_neg hv2]
 rcases Wr (hn:=hn) (ls:=ls) (us:=us) (ts:=ts) (d:=d) (2 ^ ts.length)with ⟨h1,h2⟩ | ⟨s,hs,h1,h2,h3⟩
 .rcases TW V (2 ^ ts.length)with ⟨g1,g2⟩ | ⟨s,hs,g1,_,_⟩
  .rw [if_pos h1,TI _ h1]
   exact .inl ⟨rfl,g1,rfl,rfl⟩
  .exact absurd g1 (h2 s hs)
 .rcases TW V (2 ^ ts.length)with ⟨g1,g2⟩ | ⟨s2,hs2,g1,g2,g3⟩
  .exact absurd h1 (g2 s hs)
  .have nn:0<=Ft hn ls us ts d s:=P8
   rw [h2,if_neg (by show ¬Ft hn ls us ts d s<0;omega),g2]
   obtain ⟨p1,p2⟩:=bE V h1
   obtain ⟨q1,q2⟩:=bE V g1
   obtain ⟨r1,r2,r3⟩:=Alg p1
   have k1:=h3 s2 hs2 g1
   have k2:=g3 _ r1 r2
   refine .inr ⟨rfl,xJ V g1,p1,?_⟩
   show Ft hn ls us ts d s=wCo hn ls us ts d s2
   have r3:wCo hn ls us ts d (Bl (P7 hn ls us ts d s) (P7 hn ls us ts d s).length)<=Ft hn ls us ts d s:=r3
   omega
end
end Sim
