/- Lemmas. -/
import Derived.Test.YtdfjimjbdakofaaGreatQUB4
import Derived.Test.YtdfjimjbdakofaaGreatQF6
set_option maxRecDepth 10000
set_option maxHeartbeats 4000000
set_option linter.all false
open BitVec renaming ofInt->ap
open Bool renaming false_and->tq
open Classical renaming propDecidable->qo,not_not->t9
open Go.IntKind renaming i64->nm
open Go.Proofs.Tryz renaming prog->pk,f40->ve,f17->vg,f52->vh,f25->vl
open Int renaming natCast_pow->u9,tmod->vi
open List renaming cons.injEq->ix,length_map->ow,append_assoc->co,map_append->qp,take->sy,take_of_length_le->sa,length_append->cu,getD_eq_getElem?_getD->oa,getElem?_eq_getElem->gl,mem_append->kq,mem_singleton->ku,Pairwise.nil->l6,pairwise_append->lu,pairwise_singleton->vj,length_cons->pg,length_nil->rh,set_cons_succ->vk,cons_append->kh,mem_cons->li,not_mem_nil->ua,getElem?_map->bw,getElem?_range->vm,ext_getElem?->vn,getElem?_eq_none->ia,take_add_one->vo,filter_append->ro,take_length->r7
open Nat renaming or_lt_two_pow->u7,and_one_is_mod->va,pow_le_pow_right->vd,reduceBEq->r8,le_refl->cg,le_trans->mm,mul_le_mul->uf
open Option renaming map_some->dz
open Prod renaming ext_iff->tn,ext->qu
open Sim.PV renaming lits.injEq->s6,int.injEq->qt,agg.injEq->qr,small->s8,int->mt,vptr.injEq->s7
open Sim.Store renaming new->kp,set->kd
noncomputable section
namespace Sim
open Go Go.Proofs
attribute [local congr] Ah Ai Ag At Al Aj Aq
def vC (a b:Int):Int:=nm.wrap (ap 64 a &&& ap 64 b).toNat
theorem LR {a b:Int}:Cw .and .i64 a b=some (vC a b):=nrfl rfl
theorem JH {a:Nat} (h:a<9223372036854775808):(ap 64 (a:Int)).toNat=a:=by
 rw [BitVec.toNat_ofInt]
 have : ((a:Int) % ((2 ^ 64:Nat):Int))=a:=Int.emod_eq_of_lt (by omega) (by simp only[Nat.reducePow];omega)
 rw [this];simp
theorem vD {a b:Nat} (ha:a<9223372036854775808) (hb:b<9223372036854775808):vC a b=((a &&& b:Nat):Int):=by
 unfold vC
 rw [BitVec.toNat_and,JH ha,JH hb]
 have := @Nat.and_le_left a b
 exact Af (by omega) (by omega)
theorem Ady {a b:Nat} (ha:a<9223372036854775808) (hb:b<9223372036854775808):orI a b=((a ||| b:Nat):Int):=by
 unfold orI
 rw [BitVec.toNat_or,JH ha,JH hb]
 have : a ||| b<2 ^ 63:=u7 ha hb
 exact Af (by omega) (by omega)
theorem vE {a j:Nat}:(a:Int).fdiv (2 ^ j)=((a / 2 ^ j:Nat):Int):=by
 rw [Int.fdiv_eq_ediv_of_nonneg _ (Int.le_of_lt (Int.pow_pos (by decide)))]
 rw [Int.natCast_ediv,u9];rfl
theorem Adz {a j:Nat}:a / 2 ^ j &&& 1=1↔a.testBit j=true:=by
 rw [Nat.testBit,Nat.shiftRight_eq_div_pow,Nat.and_comm]
 generalize a / 2 ^ j=x
 have : 1 &&& x=x % 2:=by rw[Nat.and_comm,va]
 rw [this]
 have := Nat.mod_two_eq_zero_or_one x
 rcases this with h | h <;> simp[h]
theorem Z4 {a i:Nat} (ha:a<9223372036854775808):vC ((a:Int).fdiv (2 ^ i)) 1=if a.testBit i=true then 1 else 0:=by
 have h0:vC ((a:Int).fdiv (2 ^ i)) 1=((a / 2 ^ i &&& 1:Nat):Int):=by
  rw [vE];exact vD (b:=1) (Nat.lt_of_le_of_lt (Nat.div_le_self _ _) ha) (by omega)
 have h1:a / 2 ^ i &&& 1=(a / 2 ^ i) % 2:=va _
 have h2:=Adz (a:=a) (j:=i)
 rw [h0]
 by_cases c:a.testBit i=true
 .rw [if_pos c,h2.2 c];rfl
 .rw [if_neg c]
  have h3:¬a / 2 ^ i &&& 1=1:=λg=>c (h2.1 g)
  omega
theorem LS {k:Nat} (h:k<=62):nm.wrap (1*2 ^ k)=((2 ^ k:Nat):Int):=by
 have h1:2 ^ k<=2 ^ 62:=vd (by omega) h
 rw [Int.one_mul]
 have e2:(2:Int) ^ k=((2 ^ k:Nat):Int):=by rw[u9];rfl
 rw [e2]
 generalize 2 ^ k=q at *
 exact Af (by omega) (by omega)
def Bl (o:List Int):Nat->Nat
 | 0=>0
 | k+1=>if 0<o.getD k 0 then Bl o k ||| 2 ^ k else Bl o k
def CB (ts:List Trp) (o:List Int):Nat->Int
 | 0=>0
 | k+1=>if 0<o.getD k 0 then CB ts o k+(ts.getD k dT).2.2.2.2.2.2 else CB ts o k
theorem LU {o:List Int}:∀k,Bl o k<2 ^ k
 | 0=>by simp[Bl]
 | k+1=>by
  have ih:=LU (o:=o) k
  have h1:2 ^ k<2 ^ (k+1):=Nat.pow_lt_pow_right (by omega) (by omega)
  simp only[Bl]
  split
  .exact u7 (by omega) h1
  .omega
theorem Na {o:List Int} {i:Nat}:∀k,(Bl o k).testBit i=(decide (i<k)&&decide (0<o.getD i 0))
 | 0=>by simp[Bl]
 | k+1=>by
  have ih:=Na (o:=o) (i:=i) k
  simp only[Bl]
  by_cases c:0<o.getD k 0
  .rw [if_pos c,Nat.testBit_or,ih,Nat.testBit_two_pow]
   by_cases e:i=k
   .subst e;rw[decide_eq_true c];simp
   .have e':¬k=i:=λg=>e g.symm
    have : (i<k+1)=(i<k):=by apply propext;omega
    simp [e',this]
  .rw [if_neg c,ih]
   by_cases e:i=k
   .subst e;rw[decide_eq_false c];simp
   .have : (i<k+1)=(i<k):=by apply propext;omega
    simp [this]
def YP (ts:List Trp):Prop:=ts.length<=4/\∀k,k<ts.length->0<=(ts.getD k dT).2.2.2.2.2.2/\(ts.getD k dT).2.2.2.2.2.2<=1000000
theorem JI {ts:List Trp} {o:List Int} (h:YP ts):∀k,k<=ts.length->0<=CB ts o k/\CB ts o k<=1000000*(k:Int)
 | 0,_=>by simp[CB]
 | k+1,hk=>by
  have ih:=JI (o:=o) h k (by omega)
  have := h.2 k (by omega)
  simp only[CB]
  split <;> omega
def F5:Int×List Lnk×List Snd×List Trp×Dem×List Snd×List Int->List PV:=λ(hn,ls,us,ts,d,l,o) => [.agg [I hn,AS ls,Ay us,CU ts,I d.1,I d.2.1,I d.2.2.1,I d.2.2.2.1,I d.2.2.2.2],.agg [Ay l,ints o]]
def LV:Int×List Lnk×List Snd×List Trp×Dem×List Snd×List Int->PV:=λ(hn,ls,us,ts,d,l,o)=>.tuple [I (Bl o o.length:Nat),I (CB ts o o.length)]
def V5:Int×List Lnk×List Snd×List Trp×Dem×List Snd×List Int->Prop:=λ(hn,ls,us,ts,d,l,o)=>YP ts/\o.length=ts.length
def e_loaded:Nat×Ent:=(26,.v (An F5 LV V5))
theorem vF:∀i j,F5 i=F5 j->i=j:=by
 rintro ⟨_,_,_,_,_,_,_⟩ ⟨_,_,_,_,_,_,_⟩ h
 simp only[F5,ix,and_true,s6,qt,qr,true_and,B7,AG,AF,Cq]at h
 simp [tn,h] <;> omega
theorem V6 (hn:Int) (ls:List Lnk) (us:List Snd) (ts:List Trp) (d:Dem) (l:List Snd) (o:List Int):An F5 LV V5 [.agg [I hn,AS ls,Ay us,CU ts,I d.1,I d.2.1,I d.2.2.1,I d.2.2.2.1,I d.2.2.2.2],.agg [Ay l,ints o]]=@ite (Option (PV)) (YP ts/\o.length=ts.length) (qo _) (some (.tuple [I (Bl o o.length:Nat),I (CB ts o o.length)])) none:=Bs vF (hn,ls,us,ts,d,l,o)
def vG:Prop:=∀(hn:Int) (ls:List Lnk) (us:List Snd) (ts:List Trp) (d:Dem) (l:List Snd) (o:List Int) (h:YP ts/\o.length=ts.length) ,VC pk 26 (F5 (hn,ls,us,ts,d,l,o)) (LV (hn,ls,us,ts,d,l,o))
theorem vH:vG:=by
 rintro hn ls us ts d l o ⟨hp,hol⟩
 dsimp only[F5,LV]
 refine Bd AQ (l := []) (Au) [] []  Tryz.func26 rfl (by decide +kernel) (N:=33) rfl (by simp) rfl (by kernel_rfl) λhs=>?_
 simp only[AK,s8,ow,and_true,true_and]at hs
 obtain ⟨R1,hR1⟩:∃R1,Bl o o.length=R1:=⟨_,rfl⟩
 obtain ⟨R2,hR2⟩:∃R2,CB ts o o.length=R2:=⟨_,rfl⟩
 rw [hR1,hR2]
 have hn4:=hp.1
 simp only[↓bdD,bdP,seval,st0,Tryz.f26,AR,B5]
 refine Aw [4,5,6,7,11,12,13,14,15,16,17,18,19,20,21,22,23,24,25,26,27,28,29,30] o.length (λk ρ st'=>ρ 11=I k/\ρ 4=I (Bl o k:Nat)/\ρ 5=I (CB ts o k)) (.refl _) ?_ ?_
 .simp only[↓bdD,bdP,r8,Bl,CB]
 rintro k ρ ⟨ob,M⟩ hk ⟨h11,h4,h5⟩
 by_cases hlt:k<o.length
 .have hwk:nm.wrap ((k:Int)+1)=((k+1:Nat):Int):=by rw[Af (by omega) (by omega)];omega
  have hok:nth (o.map (mt .i64)) k=I (o.getD k 0):=BW 0 hlt
  have hlt2:k<ts.length:=by omega
  have htk:=Ef hlt2
  have hki:(k:Int)<(ts.length:Int):=by omega
  have b1:=LU (o:=o) k
  have b2:=JI (o:=o) hp k (by omega)
  have b3:=hp.2 k hlt2
  have b4:2 ^ k<=2 ^ 4:=vd (by omega) (by omega)
  by_cases c:0<o.getD k 0
  .have e1:Bl o (k+1)=Bl o k ||| 2 ^ k:=by simp only[Bl];rw[if_pos c]
   have e2:CB ts o (k+1)=CB ts o k+(ts.getD k dT).2.2.2.2.2.2:=by simp only[CB];rw[if_pos c]
   have hsh:=LS (k:=k) (by omega)
   have hk0:¬(k:Int)<0:=by omega
   have hk64:k<=64:=by omega
   have hor:=Ady (a:=Bl o k) (b:=2 ^ k) (by omega) (by omega)
   have wc:nm.wrap (CB ts o k+(ts.getD k dT).2.2.2.2.2.2)=CB ts o k+(ts.getD k dT).2.2.2.2.2.2:=Af (by omega) (by omega)
   rw [e1,e2]
   generalize Bl o k=s at *
   generalize CB ts o k=t at *
   generalize o.getD k 0=x at *
   generalize ts.getD k dT=y at *
   simp only[↓bdD,bdP,seval,ty3,BF,Be,AR,C7,h11,h4,h5,hlt,hki,hok,htk,c,hsh,hor,wc,hwk,hk0,hk64]
  .have e1:Bl o (k+1)=Bl o k:=by simp only[Bl];rw[if_neg c]
   have e2:CB ts o (k+1)=CB ts o k:=by simp only[CB];rw[if_neg c]
   rw [e1,e2]
   generalize Bl o k=s at *
   generalize CB ts o k=t at *
   generalize o.getD k 0=x at *
   simp only[↓bdD,bdP,seval,ty3,AR,h11,h4,h5,hlt,hok,c,hwk]
 .have e:k=o.length:=by omega
  subst e
  rw [hR1]at h4
  rw [hR2]at h5
  simp only[↓bdD,bdP,seval,Ao,h11,h4,h5,hlt]
theorem V7:AM pk e_loaded.1 e_loaded.2:=Ax λ⟨hn,ls,us,ts,d,l,o⟩ h=>vH hn ls us ts d l o h
def trE (hn:Int) (t:Trp):Int :=
 if ¬(hOK hn t.1=true/\hOK hn t.2.1=true/\t.1≠t.2.1)then 1
 else if t.2.2.1<0\/1000000<t.2.2.2.2.1\/t.2.2.2.2.1<t.2.2.2.1\/t.2.2.2.1<t.2.2.1+2\/t.2.2.2.2.2.1<1\/1073741824<t.2.2.2.2.2.1\/t.2.2.2.2.2.2<0\/1000000<t.2.2.2.2.2.2 then 3
 else 0
def J5 (hn:Int) (ts:List Trp):Nat->Int
 | 0=>0
 | k+1=>if J5 hn ts k≠0 then J5 hn ts k else trE hn (ts.getD k dT)
def El (hn:Int) (ls:List Lnk) (us:List Snd) (ts:List Trp) (d:Dem):Int :=
 if 4<ts.length then 2
 else if EB hn ls us d≠0 then EB hn ls us d
 else if J5 hn ts ts.length≠0 then J5 hn ts ts.length
 else if 12<hn+(ts.length:Int)\/60<ls.length+2*ts.length\/1992<us.length then 2
 else 0
theorem RA {hn:Int} {ts:List Trp} {k:Nat}:∀n,k<n->J5 hn ts k=0->trE hn (ts.getD k dT)≠0->J5 hn ts n=trE hn (ts.getD k dT)
 | 0,h,_,_=>absurd h (by omega)
 | n+1,h,h0,h1=>by
  by_cases e:k=n
  .subst e
   simp only[J5,h0,ne_eq,not_true_eq_false,if_false]
  .have ih:=RA n (by omega) h0 h1
   simp only[J5]
   rw [ih,if_pos h1]
def F6:Int×List Lnk×List Snd×List Trp×Dem×Int->List PV:=λ(hn,ls,us,ts,d,h) => [I h,.vptr [I hn,AS ls,Ay us,CU ts,I d.1,I d.2.1,I d.2.2.1,I d.2.2.2.1,I d.2.2.2.2] 0]
def LW:Int×List Lnk×List Snd×List Trp×Dem×Int->PV:=λ(hn,ls,us,ts,d,h)=>B (hOK hn h)
def e_vhouse:Nat×Ent:=(40,.v (An F6 LW AZ))
theorem vI:∀i j,F6 i=F6 j->i=j:=by
 rintro ⟨_,_,_,_,_,_⟩ ⟨_,_,_,_,_,_⟩ h
 simp only[F6,ix,and_true,s6,qt,s7,true_and,AG,AF,Cq]at h
 simp [tn,h] <;> omega
theorem CP (hn:Int) (ls:List Lnk) (us:List Snd) (ts:List Trp) (d:Dem) (h:Int):An F6 LW AZ [I h,.vptr [I hn,AS ls,Ay us,CU ts,I d.1,I d.2.1,I d.2.2.1,I d.2.2.2.1,I d.2.2.2.2] 0]=some (B (hOK hn h)):=AD vI (i:=(hn,ls,us,ts,d,h)) trivial
def vJ:Prop:=∀(hn:Int) (ls:List Lnk) (us:List Snd) (ts:List Trp) (d:Dem) (h:Int) ,VC pk 40 (F6 (hn,ls,us,ts,d,h)) (LW (hn,ls,us,ts,d,h))
theorem vK:vJ:=by
 intro hn ls us ts d h
 dsimp only[F6,LW]
 refine Bd AQ (l := []) (Au) [] []  Tryz.func40 rfl (by decide +kernel) (N:=13) rfl (by simp) rfl (by kernel_rfl) λhs=>?_
 simp only[AK,s8,ow,and_true,true_and]at hs
 unfold hOK
 by_cases h1:0<=h
 .by_cases h2:h<hn
  .simp only[↓bdD,bdP,seval,Ao,st0,ve,ty3,AJ,Be,h1,h2]
  .simp only[↓bdD,bdP,seval,Ao,st0,ve,ty3,AJ,Be,h1,h2]
 .simp only[↓bdD,bdP,seval,Ao,st0,ve,h1]
theorem vL:AM pk e_vhouse.1 e_vhouse.2:=Ax λ⟨hn,ls,us,ts,d,h⟩ h=>vK hn ls us ts d h
def F7:Int×List Lnk×List Snd×List Trp×Dem->List PV:=λ(hn,ls,us,ts,d) => [.agg [I hn,AS ls,Ay us,CU ts,I d.1,I d.2.1,I d.2.2.1,I d.2.2.2.1,I d.2.2.2.2]]
def LX:Int×List Lnk×List Snd×List Trp×Dem->PV:=λ(hn,ls,us,ts,d)=>I (El hn ls us ts d)
def e_vcheck:Nat×Ent:=(17,.v (An F7 LX AZ))
theorem vM:∀i j,F7 i=F7 j->i=j:=by
 rintro ⟨_,_,_,_,_⟩ ⟨_,_,_,_,_⟩ h
 simp only[F7,ix,and_true,s6,qt,qr,true_and,AG,AF,Cq]at h
 simp [tn,h] <;> omega
theorem EX (hn:Int) (ls:List Lnk) (us:List Snd) (ts:List Trp) (d:Dem):An F7 LX AZ [.agg [I hn,AS ls,Ay us,CU ts,I d.1,I d.2.1,I d.2.2.1,I d.2.2.2.1,I d.2.2.2.2]]=some (I (El hn ls us ts d)):=AD vM (i:=(hn,ls,us,ts,d)) trivial
def vO:Prop:=∀(hn:Int) (ls:List Lnk) (us:List Snd) (ts:List Trp) (d:Dem) ,VC pk 17 (F7 (hn,ls,us,ts,d)) (LX (hn,ls,us,ts,d))
theorem vP:vO:=by
 intro hn ls us ts d
 dsimp only[F7,LX]
 refine Bd AQ (l := [e_fcheck,e_vhouse]) ((Ad Pv (Ad vL Au))) [] []  Tryz.func17 rfl (by decide +kernel) (N:=121) rfl (by simp) rfl (by kernel_rfl) λhs=>?_
 simp only[AK,s8,ow,and_true,true_and]at hs
 have hs1:=hs.1
 have hs2:=hs.2.1
 generalize hR:El hn ls us ts d=R
 unfold El at hR
 by_cases h1:4<ts.length
 .have h1i:(4:Int)<(ts.length:Int):=by omega
  rw [if_pos h1]at hR
  subst hR
  simp only[↓bdD,bdP,seval,Ao,st0,e_fcheck,e_vhouse,vg,BF,Be,h1i]
 have h1i:¬(4:Int)<(ts.length:Int):=by omega
 rw [if_neg h1]at hR
 have sp:=Hh (hn:=hn) (ls:=ls) (us:=us) (d:=d)
 dsimp only[D7,AS,Ay]at sp
 by_cases h2:EB hn ls us d=0
 case neg =>
  rw [if_pos h2]at hR
  subst hR
  simp only[↓bdD,bdP,seval,Ao,st0,e_fcheck,e_vhouse,Ac,Aa,vg,AJ,AO,BF,AY,Be,h1i,h2,sp]
 rw [if_neg (λg=>g h2)]at hR
 obtain ⟨hf,_⟩:=BL h2
 have hok:=(Cj hf).1.net
 obtain ⟨q1,q2⟩:=hok.houses
 have q3:=hok.len
 have wn:nm.wrap (hn+(ts.length:Int))=hn+(ts.length:Int):=Af (by omega) (by omega)
 have w2:nm.wrap (2*(ts.length:Int))=2*(ts.length:Int):=Af (by omega) (by omega)
 have w3:nm.wrap ((ls.length:Int)+2*(ts.length:Int))=(ls.length:Int)+2*(ts.length:Int):=Af (by omega) (by omega)
 simp only[↓bdD,bdP,seval,st0,e_fcheck,e_vhouse,Ac,Aa,vg,AJ,AO,BF,AY,Be,h1i,h2,sp]
 refine Aw [2,7,27,28,29,30,31,32,33,34,35,36,37,38,39,40,41,42,43,44,45,46,47,48,49,50,51,52,53,54,55,56,57,58,59,60,61,62,63,64,65,66,67,68,69,70,71,72,73,74,75,76,77,78,79,80,81,82,83,84,85,86,87,88,89,90,91,92,93,94,95,96,97,98] ts.length (λk ρ st'=>ρ 27=I k/\J5 hn ts k=0) (.refl _) ?_ ?_
 .simp only[↓bdD,bdP,J5]
 rintro k ρ ⟨ob,M⟩ hk ⟨h27,hI⟩
 by_cases hlt:k<ts.length
 .have hwk:nm.wrap ((k:Int)+1)=((k+1:Nat):Int):=by rw[Af (by omega) (by omega)];omega
  have hyk:=Ef hlt
  have hbad:trE hn (ts.getD k dT)≠0->R=trE hn (ts.getD k dT):=λg=>by
   have e:=RA ts.length hlt hI g
   rw [e,if_pos g]at hR
   exact hR.symm
  have hgo:trE hn (ts.getD k dT)=0->J5 hn ts (k+1)=0:=λg=>by
   simp only[J5,hI,ne_eq,not_true_eq_false,if_false];exact g
  generalize ts.getD k dT=x at *
  obtain ⟨x1,x2,x3,x4,x5,x6,x7⟩:=x
  dsimp only at *
  have bad1:¬(hOK hn x1=true/\hOK hn x2=true/\x1≠x2)->R=1:=λg=>by
   have e:trE hn (x1,x2,x3,x4,x5,x6,x7)=1:=by unfold trE;rw[if_pos g]
   rw [e]at hbad;exact hbad (by decide)
  by_cases a1:hOK hn x1=true
  case neg =>
   rw [bad1 (λg=>a1 g.1)]
   simp only[↓bdD,bdP,seval,Ao,kp,kd,CP,Ac,Aa,AC,ty3,BF,C7,h27,hlt,hyk,a1]
  by_cases a2:hOK hn x2=true
  case neg =>
   rw [bad1 (λg=>a2 g.2.1)]
   simp only[↓bdD,bdP,seval,Ao,kp,kd,CP,Ac,Aa,AC,ty3,BF,C7,h27,hlt,hyk,a1,a2]
  by_cases a3:x1=x2
  .rw [bad1 (λg=>g.2.2 a3)]
   have a3:=eq_true a3
   simp only[↓bdD,bdP,seval,Ao,kp,kd,CP,Ac,Aa,AC,ty3,BF,C7,h27,hlt,hyk,a1,a2,a3]
  have ok1:hOK hn x1=true/\hOK hn x2=true/\x1≠x2:=⟨a1,a2,a3⟩
  have bad3:(x3<0\/1000000<x5\/x5<x4\/x4<x3+2\/x6<1\/1073741824<x6\/x7<0\/1000000<x7)->R=3:=λg=>by
   have e:trE hn (x1,x2,x3,x4,x5,x6,x7)=3:=by unfold trE;rw[if_neg (λf=>f ok1),if_pos g]
   rw [e]at hbad;exact hbad (by decide)
  by_cases b1:x3<0
  .rw [bad3 (by omega)]
   simp only[↓bdD,bdP,seval,Ao,kp,kd,CP,Ac,Aa,AC,ty3,BF,C7,h27,hlt,hyk,a1,a2,a3,b1]
  by_cases b2:1000000<x5
  .rw [bad3 (by omega)]
   simp only[↓bdD,bdP,seval,Ao,kp,kd,CP,Ac,Aa,AC,ty3,BF,C7,h27,hlt,hyk,a1,a2,a3,b1,b2]
  by_cases b3:x5<x4
  .rw [bad3 (by omega)]
   simp only[↓bdD,bdP,seval,Ao,kp,kd,CP,Ac,Aa,AC,ty3,BF,C7,h27,hlt,hyk,a1,a2,a3,b1,b2,b3]
  by_cases b4:x4<2
  .rw [bad3 (by omega)]
   simp only[↓bdD,bdP,seval,Ao,kp,kd,CP,Ac,Aa,AC,ty3,BF,C7,h27,hlt,hyk,a1,a2,a3,b1,b2,b3,b4]
  have w4:nm.wrap (x4-2)=x4-2:=Af (by omega) (by omega)
  by_cases b5:x4-2<x3
  .rw [bad3 (by omega)]
   simp only[↓bdD,bdP,seval,Ao,kp,kd,CP,Ac,Aa,AC,ty3,BF,C7,h27,hlt,hyk,a1,a2,a3,b1,b2,b3,b4,w4,b5]
  by_cases b6:x6<1
  .rw [bad3 (by omega)]
   simp only[↓bdD,bdP,seval,Ao,kp,kd,CP,Ac,Aa,AC,ty3,BF,C7,h27,hlt,hyk,a1,a2,a3,b1,b2,b3,b4,w4,b5,b6]
  by_cases b7:1073741824<x6
  .rw [bad3 (by omega)]
   simp only[↓bdD,bdP,seval,Ao,kp,kd,CP,Ac,Aa,AC,ty3,BF,C7,h27,hlt,hyk,a1,a2,a3,b1,b2,b3,b4,w4,b5,b6,b7]
  by_cases b8:x7<0
  .rw [bad3 (by omega)]
   simp only[↓bdD,bdP,seval,Ao,kp,kd,CP,Ac,Aa,AC,ty3,BF,C7,h27,hlt,hyk,a1,a2,a3,b1,b2,b3,b4,w4,b5,b6,b7,b8]
  by_cases b9:1000000<x7
  .rw [bad3 (by omega)]
   simp only[↓bdD,bdP,seval,Ao,kp,kd,CP,Ac,Aa,AC,ty3,BF,C7,h27,hlt,hyk,a1,a2,a3,b1,b2,b3,b4,w4,b5,b6,b7,b8,b9]
  have ok:=hgo (by unfold trE;rw[if_neg (λf=>f ok1),if_neg (by dsimp only;omega)])
  clear hgo hbad bad1 bad3
  simp only[↓bdD,bdP,seval,kp,kd,CP,Ac,Aa,AC,ty3,BF,C7,h27,hlt,hyk,a1,a2,a3,b1,b2,b3,b4,w4,b5,b6,b7,b8,b9,hwk]
  exact ok
 .have e:k=ts.length:=by omega
  subst e
  rw [if_neg (λg=>g hI)]at hR
  by_cases c1:12<hn+(ts.length:Int)
  .rw [if_pos (.inl c1)]at hR
   subst hR
   simp only[↓bdD,bdP,seval,Ao,ty3,AJ,Be,h27,hlt,wn,c1]
  by_cases c2:60<ls.length+2*ts.length
  .rw [if_pos (.inr (.inl c2))]at hR
   subst hR
   have c2i:60<(ls.length:Int)+2*(ts.length:Int):=by omega
   simp only[↓bdD,bdP,seval,Ao,ty3,BP,AJ,Be,h27,hlt,wn,c1,w2,w3,c2i]
  have c2i:¬60<(ls.length:Int)+2*(ts.length:Int):=by omega
  by_cases c3:1992<us.length
  .rw [if_pos (.inr (.inr c3))]at hR
   subst hR
   have c3i:1992<(us.length:Int):=by omega
   simp only[↓bdD,bdP,seval,Ao,ty3,BP,AJ,AO,Be,h27,hlt,wn,c1,w2,w3,c2i,c3i]
  have c3i:¬1992<(us.length:Int):=by omega
  rw [if_neg (by omega)]at hR
  subst hR
  simp only[↓bdD,bdP,seval,Ao,ty3,BP,AJ,AO,Be,h27,hlt,wn,c1,w2,w3,c2i,c3i]
theorem PI:AM pk e_vcheck.1 e_vcheck.2:=Ax λ⟨hn,ls,us,ts,d⟩ h=>vP hn ls us ts d
def usB (t:Trp) (d:Dem):Bool:=decide (d.2.2.2.1<=t.2.2.1)&&decide (t.2.2.2.2.1<=d.2.2.2.2)
def F8:Trp×Dem->List PV:=λ(t,d) => [.agg [I t.1,I t.2.1,I t.2.2.1,I t.2.2.2.1,I t.2.2.2.2.1,I t.2.2.2.2.2.1,I t.2.2.2.2.2.2],D7 d]
def LY:Trp×Dem->PV:=λ(t,d)=>B (usB t d)
def e_usable:Nat×Ent:=(52,.v (An F8 LY AZ))
theorem vQ:∀i j,F8 i=F8 j->i=j:=by
 rintro ⟨_,_⟩ ⟨_,_⟩ h
 simp only[F8,ix,and_true,qt,qr,true_and]at h
 simp [tn,h] <;> omega
theorem V8 (t:Trp) (d:Dem):An F8 LY AZ [.agg [I t.1,I t.2.1,I t.2.2.1,I t.2.2.2.1,I t.2.2.2.2.1,I t.2.2.2.2.2.1,I t.2.2.2.2.2.2],D7 d]=some (B (usB t d)):=AD vQ (i:=(t,d)) trivial
def vR:Prop:=∀(t:Trp) (d:Dem) ,VC pk 52 (F8 (t,d)) (LY (t,d))
theorem vS:vR:=by
 intro t d
 dsimp only[F8,LY]
 refine Bd AQ (l := []) (Au) [] []  Tryz.func52 rfl (by decide +kernel) (N:=17) rfl (by simp) rfl (by kernel_rfl) λhs=>?_
 simp only[AK,s8,and_true]at hs
 unfold usB
 by_cases h1:d.2.2.2.1<=t.2.2.1
 .by_cases h2:t.2.2.2.2.1<=d.2.2.2.2
  .simp only[↓bdD,bdP,seval,Ao,st0,vh,ty3,AY,C7,h1,h2]
  .simp only[↓bdD,bdP,seval,Ao,st0,vh,ty3,AY,C7,h1,h2]
 .simp only[↓bdD,bdP,seval,Ao,st0,vh,ty3,AY,C7,h1]
  exact (tq _).symm
theorem vT:AM pk e_usable.1 e_usable.2:=Ax λ⟨t,d⟩ h=>vS t d
def Ck (d:Dem) (link tick room:Int):Nat->List Snd
 | 0 => []
 | j+1=>if d.2.2.2.1+(j:Int)≠tick/\vi (d.2.2.2.1+(j:Int)-tick) 24=0 then Ck d link tick room j ++ [(link,d.2.2.2.1+(j:Int),room)]else Ck d link tick room j
theorem Hk {d:Dem} {link tick room:Int}:∀j,(Ck d link tick room j).length<=j
 | 0=>by simp[Ck]
 | j+1=>by
  have := Hk (d:=d) (link:=link) (tick:=tick) (room:=room) j
  simp only[Ck]
  split
  .simp; omega
  .omega
abbrev Tp (hn:Int) (ls:List Lnk) (us:List Snd) (ts:List Trp) (d:Dem):List PV := [I hn,AS ls,Ay us,CU ts,I d.1,I d.2.1,I d.2.2.1,I d.2.2.2.1,I d.2.2.2.2]
structure OW where
 hn : Int
 ls : List Lnk
 us : List Snd
 ts : List Trp
 d : Dem
 link : Int
 tick : Int
 room : Int
 l : List Snd
 g : Nat
def OW.new (x:OW):List Snd:=Ck x.d x.link x.tick x.room (Ap x.d)
def Nb (x:OW):List PV := [I x.link,I x.tick,I x.room,.vptr (Tp x.hn x.ls x.us x.ts x.d) 0,.ptr 6 0 0 0]
def Nc (x:OW) (st:Store):Prop:=st.obj 6=some (.arr 0 1 [.ref 5 x.g 0 x.l.length])/\st.obj 5=some (.arr x.g 3 (x.l.map Ca))/\(0<=x.d.2.2.2.1/\x.d.2.2.2.1<=x.d.2.2.2.2/\x.d.2.2.2.2<=1000000)/\(0<=x.tick/\x.tick<=1000000)/\x.l.length<=1000000
def Jh (x:OW) (st:Store):PV×Store:=(.tuple [],⟨Ab (Ab st.obj 5 (some (.arr (x.g+x.new.length) 3 ((x.l++x.new).map Ca)))) 6 (some (.arr 0 1 [.ref 5 (x.g+x.new.length) 0 (x.l++x.new).length])),st.next⟩)
def e_only:Nat×Ent:=(51,.x (A9 Nb Nc Jh))
theorem Aj8 (a b:OW) (st:Store) (h:Nb a=Nb b) (hx:Nc a st) (hy:Nc b st):Jh a st=Jh b st:=by
 obtain ⟨hn,ls,us,ts,d,link,tick,room,l,g⟩:=a
 obtain ⟨hn',ls',us',ts',d',link',tick',room',l',g'⟩:=b
 simp only[Nb,ix,and_true,qt,true_and,s7,s6]at h
 obtain ⟨e1,e2,e3,_,_,_,_,f1,f2,f3,f4,f5⟩:=h
 have h1:=hx.1.symm.trans hy.1
 have h2:=hx.2.1.symm.trans hy.2.1
 simp only[Option.some.injEq,IObj.arr.injEq,ix,PV.ref.injEq,true_and,and_true,AG]at h1 h2
 have hd:d=d':=qu f1 (qu f2 (qu f3 (qu f4 f5)))
 subst e1 e2 e3 hd
 obtain ⟨a1,a2⟩:=h2
 subst a1 a2
 rfl
theorem vU {hn:Int} {ls:List Lnk} {us:List Snd} {ts:List Trp} {d:Dem} {link tick room:Int} (l:List Snd) (g:Nat) {st:Store} (h:Nc ⟨hn,ls,us,ts,d,link,tick,room,l,g⟩ st) :
  A9 Nb Nc Jh [I link,I tick,I room,.vptr (Tp hn ls us ts d) 0,.ptr 6 0 0 0] st=some (Jh ⟨hn,ls,us,ts,d,link,tick,room,l,g⟩ st) :=
 Bc Aj8 (i:=⟨hn,ls,us,ts,d,link,tick,room,l,g⟩) h
theorem Aj9:AM pk e_only.1 e_only.2:=Cf λx st hx=>by
 obtain ⟨hn,ls,us,ts,d,link,tick,room,l,g⟩:=x
 obtain ⟨ob,M⟩:=st
 unfold Nc at hx
 dsimp only at hx
 obtain ⟨h6,h5,⟨r0,r1,r2⟩,⟨t0,t1⟩,hl⟩:=hx
 simp only[Nb,Jh,OW.new]
 have hdu:d.2.2.2.2=d.2.2.2.1+((Ap d:Nat):Int):=by unfold Ap;omega
 have hD:Ap d<=1000000:=by unfold Ap;omega
 generalize Ap d=D at *
 refine BT AQ (l := []) (Au) [] [] 0 Tryz.func51 rfl (by decide +kernel) (N:=36) rfl (by simp) rfl (by kernel_rfl) ?_
 simp only[↓bdD,bdP,seval,Tryz.f51,ty3,AY,Be]
 refine Aw [8,12,13,14,15,16,17,18,19,20,21,22,23,24,25,26,27,28,29,30,31,32,33,34,35] D (λj ρ st'=>ρ 8=I (d.2.2.2.1+(j:Int))/\st'.obj 6=some (.arr 0 1 [.ref 5 (g+(Ck d link tick room j).length) 0 (l++Ck d link tick room j).length])/\st'.obj 5=some (.arr (g+(Ck d link tick room j).length) 3 ((l++Ck d link tick room j).map Ca))/\(∀i,¬i=5->¬i=6->st'.obj i=ob i)/\st'.next=M) (.refl _) ?_ ?_
 .simp only[↓bdD,bdP,Ck,h5,h6]
  omega
 rintro j ρ ⟨ob2,M2⟩ hj ⟨h8,o6,o5,oe,hM⟩
 dsimp only at o6 o5 oe hM
 subst hM
 by_cases hlt:j<D
 .have hjd:d.2.2.2.1+(j:Int)<d.2.2.2.2:=by omega
  have wj:nm.wrap (d.2.2.2.1+(j:Int)+1)=d.2.2.2.1+((j+1:Nat):Int):=by rw[Af (by omega) (by omega)];omega
  have wt:nm.wrap (d.2.2.2.1+(j:Int)-tick)=d.2.2.2.1+(j:Int)-tick:=Af (by omega) (by omega)
  have hol:=Hk (d:=d) (link:=link) (tick:=tick) (room:=room) j
  have hst:Ck d link tick room (j+1)=if d.2.2.2.1+(j:Int)≠tick/\vi (d.2.2.2.1+(j:Int)-tick) 24=0 then Ck d link tick room j ++ [(link,d.2.2.2.1+(j:Int),room)]else Ck d link tick room j:=rfl
  rw [hst]
  generalize Ck d link tick room j=O at *
  by_cases c1:d.2.2.2.1+(j:Int)=tick
  .rw [if_neg (λg=>g.1 c1)]
   have c1t:=eq_true c1
   simp only[↓bdD,bdP,seval,ty3,AY,Be,h8,hjd,c1t,wj,o6,o5,hlt]
   exact oe
  by_cases c2:vi (d.2.2.2.1+(j:Int)-tick) 24=0
  .rw [if_pos ⟨c1,c2⟩]
   have e1:(l++(O ++ [(link,d.2.2.2.1+(j:Int),room)])).map Ca=(l++O).map Ca ++ [.agg [I link,I (d.2.2.2.1+(j:Int)),I room]]:=by rw[<-co,qp];rfl
   have e2:(l++(O ++ [(link,d.2.2.2.1+(j:Int),room)])).length=(l++O).length+1:=by simp;omega
   have e3:(O ++ [(link,d.2.2.2.1+(j:Int),room)]).length=O.length+1:=by simp
   rw [e1,e2,e3]
   have hP:(l++O).length<=2147483646:=by simp;omega
   generalize l++O=P at *
   have htk:sy P.length (P.map Ca)=P.map Ca:=sa (by rw[ow];exact cg _)
   have nl:¬P.length+1<=P.length:=by omega
   have jl:P.length<=2147483647:=by omega
   simp +contextual (maxSteps:=4000000) only[↓bdD,bdP,seval,kd,ty3,AY,Be,Ct,Lt,h8,hjd,c1,c2,wt,wj,o6,o5,hlt,htk,nl,jl]
   exact ⟨by rw[Nat.add_assoc],by omega,oe⟩
  .rw [if_neg (λg=>c2 g.2)]
   simp only[↓bdD,bdP,seval,ty3,AY,Be,h8,hjd,c1,c2,wt,wj,o6,o5,hlt]
   exact oe
 .have e:j=D:=by omega
  subst e
  have hjd:¬d.2.2.2.1+(j:Int)<d.2.2.2.2:=by omega
  simp only[↓bdD,bdP,seval,Ao,ty3,AY,Be,h8,hjd]
  refine ⟨_,rfl,Left.same rfl (λi o hi=>?_) (cg _)⟩
  rw [<-hi]
  simp only[Ab]
  by_cases e6:i=6
  .subst e6
   rw [o6,if_pos rfl,cu]
  .rw [if_neg e6]
   by_cases e5:i=5
   .subst e5
    rw [o5,if_pos rfl]
   .rw [if_neg e5]
    exact oe i e5 e6
end Sim
namespace Sim
open Go Go.Proofs
theorem Aka {l:List Snd} (h:∀k,0<k->k<l.length->ltS (l.getD (k-1) dS) (l.getD k dS)):HR l:=by
 unfold HR
 rw [List.pairwise_iff_getElem]
 have key:∀n i,i+n+1<l.length->ltS (l.getD i dS) (l.getD (i+n+1) dS):=by
  intro n
  induction n with
  | zero=>intro i hi;exact h (i+1) (by omega) (by omega)
  | succ n ih =>
   intro i hi
   have h1:=ih i (by omega)
   have h2:=h (i+(n+1)+1) (by omega) hi
   rw [show i+(n+1)+1-1=i+n+1 by omega]at h2
   exact Ry h1 h2
 intro i j hi hj hij
 have := key (j-i-1) i (by omega)
 rw [show i+(j-i-1)+1=j by omega,oa,oa,gl hi,gl hj]at this
 exact this
theorem JJ {hn:Int} {ls:List Lnk} {l:List Snd} (ok:OKr hn ls l):HR l:=Aka λk h0 h1=>by
 have := ok.asc k h0 h1
 unfold ltS;omega
theorem Ga {l:List Snd} {x:Snd} (h:x∈l):∃k,k<l.length/\l.getD k dS=x:=by
 obtain ⟨k,hk,e⟩:=List.getElem_of_mem h
 exact ⟨k,hk,by rw[oa,gl hk];exact e⟩
section
variable {hn:Int} {ls:List Lnk}
theorem LZ {l:List Snd} (ok:OKr hn ls l) {x:Snd} (h:x∈l):0<=x.1/\x.1<(ls.length:Int):=by
 obtain ⟨k,hk,rfl⟩:=Ga h
 exact ok.link k hk
theorem CQ {d:Dem} {link tick room:Int} {x:Snd}:∀j,x∈Ck d link tick room j->x.1=link/\d.2.2.2.1<=x.2.1/\x.2.1<d.2.2.2.1+(j:Int)/\x.2.1≠tick/\vi (x.2.1-tick) 24=0/\x.2.2=room
 | 0,h=>by simp[Ck]at h
 | j+1,h=>by
  have ih:=CQ (d:=d) (link:=link) (tick:=tick) (room:=room) (x:=x) j
  simp only[Ck]at h
  split at h
  .rename_i c
   rcases kq.1 h with h | h
   .have := ih h;refine⟨this.1,this.2.1,by omega,this.2.2.2⟩
   .simp only[ku]at h
    subst h
    exact ⟨rfl,by dsimp only;omega,by dsimp only;omega,c.1,c.2,rfl⟩
  .have := ih h;refine⟨this.1,this.2.1,by omega,this.2.2.2⟩
theorem RB {d:Dem} {link tick room:Int} {t:Nat} (h:d.2.2.2.1+(t:Int)≠tick/\vi (d.2.2.2.1+(t:Int)-tick) 24=0):∀j,t<j->(link,d.2.2.2.1+(t:Int),room)∈Ck d link tick room j
 | 0,hj=>absurd hj (by omega)
 | j+1,hj=>by
  simp only[Ck]
  by_cases e:t=j
  .subst e
   rw [if_pos h]
   exact List.mem_append_right _ (ku.2 rfl)
  .have := RB (link:=link) (room:=room) h j (by omega)
   split
   .exact List.mem_append_left _ this
   .exact this
theorem JK {d:Dem} {link tick room:Int}:∀j,HR (Ck d link tick room j)
 | 0=>l6
 | j+1=>by
  have ih:=JK (d:=d) (link:=link) (tick:=tick) (room:=room) j
  simp only[Ck]
  split
  .refine lu.2 ⟨ih,vj _ _,λa ha b hb=>?_⟩
   simp only[ku]at hb
   subst hb
   have := CQ j ha
   exact .inl this.2.2.1
  .exact ih
def onV (d:Dem) (s:Nat) (ts:List Trp) (k:Nat):Bool:=s.testBit k&&usB (ts.getD k dT) d
def wXt (L:Nat) (d:Dem) (s:Nat) (ts:List Trp):Nat->List Snd
 | 0 => []
 | k+1=>if onV d s ts k=true then wXt L d s ts k++Ck d ((L+2*k:Nat):Int) (ts.getD k dT).2.2.1 (ts.getD k dT).2.2.2.2.2.1 (Ap d)++Ck d ((L+2*k+1:Nat):Int) ((ts.getD k dT).2.2.2.2.1-1) (ts.getD k dT).2.2.2.2.2.1 (Ap d)else wXt L d s ts k
def PJ (hn:Int) (d:Dem) (s:Nat) (ts:List Trp) (k:Nat):Lnk:=((ts.getD k dT).1,hn+(k:Int),(λi=>if onV d s ts k=true/\i.1=(ts.getD k dT).2.2.1.toNat % 24 then (ts.getD k dT).2.2.2.2.2.1 else 0),λ_=>0)
def PK (hn:Int) (d:Dem) (s:Nat) (ts:List Trp) (k:Nat):Lnk:=(hn+(k:Int),(ts.getD k dT).2.1,(λi=>if onV d s ts k=true/\i.1=((ts.getD k dT).2.2.2.2.1-1).toNat % 24 then (ts.getD k dT).2.2.2.2.2.1 else 0),λ_=>0)
def wLk (hn:Int) (d:Dem) (s:Nat) (ts:List Trp):Nat->List Lnk
 | 0 => []
 | k+1=>wLk hn d s ts k ++ [PJ hn d s ts k,PK hn d s ts k]
theorem JL {hn:Int} {d:Dem} {s:Nat} {ts:List Trp}:∀k,(wLk hn d s ts k).length=2*k
 | 0=>rfl
 | k+1=>by have:=JL (hn:=hn) (d:=d) (s:=s) (ts:=ts) k;simp only[wLk,cu,this,pg,rh];omega
def wHn (hn:Int) (ts:List Trp):Int:=hn+(ts.length:Int)
def wLs (hn:Int) (ls:List Lnk) (ts:List Trp) (d:Dem) (s:Nat):List Lnk:=ls++wLk hn d s ts ts.length
def wUs (ls:List Lnk) (us:List Snd) (ts:List Trp) (d:Dem) (s:Nat):List Snd:=KM (us++wXt ls.length d s ts ts.length)
theorem Tq {L:Nat} {d:Dem} {s:Nat} {ts:List Trp}:∀k,(wXt L d s ts k).length<=2*k*Ap d
 | 0=>by simp[wXt]
 | k+1=>by
  have ih:=Tq (L:=L) (d:=d) (s:=s) (ts:=ts) k
  have h1:=Hk (d:=d) (link:=((L+2*k:Nat):Int)) (tick:=(ts.getD k dT).2.2.1) (room:=(ts.getD k dT).2.2.2.2.2.1) (Ap d)
  have h2:=Hk (d:=d) (link:=((L+2*k+1:Nat):Int)) (tick:=(ts.getD k dT).2.2.2.2.1-1) (room:=(ts.getD k dT).2.2.2.2.2.1) (Ap d)
  have e:2*(k+1)*Ap d=2*k*Ap d+Ap d+Ap d:=by rw[show 2*(k+1)=2*k+1+1 by omega,Nat.add_mul,Nat.add_mul,Nat.one_mul]
  simp only[wXt]
  split
  .simp only[cu];omega
  .omega
theorem Ji {L:Nat} {d:Dem} {s:Nat} {ts:List Trp} {x:Snd}:∀k,x∈wXt L d s ts k->(L:Int)<=x.1/\x.1<((L+2*k:Nat):Int)
 | 0,h=>by simp[wXt]at h
 | k+1,h=>by
  have ih:=Ji (L:=L) (d:=d) (s:=s) (ts:=ts) (x:=x) k
  simp only[wXt]at h
  split at h
  .rcases kq.1 h with h | h
   .rcases kq.1 h with h | h
    .have := ih h;omega
    .have :=(CQ _ h).1;omega
   .have :=(CQ _ h).1;omega
  .have := ih h;omega
theorem V9 {L:Nat} {d:Dem} {s:Nat} {ts:List Trp}:∀k,DC (wXt L d s ts k)
 | 0=>l6
 | k+1=>by
  have ih:=V9 (L:=L) (d:=d) (s:=s) (ts:=ts) k
  simp only[wXt]
  split
  .refine lu.2 ⟨lu.2 ⟨ih,Hj (JK _),λa ha b hb=>?_⟩,Hj (JK _),λa ha b hb=>?_⟩
   .have h1:=Ji k ha
    have h2:=(CQ _ hb).1
    omega
   .have h2:=(CQ _ hb).1
    rcases kq.1 ha with ha | ha
    .have h1:=Ji k ha;omega
    .have h1:=(CQ _ ha).1;omega
  .exact ih
theorem RC {us:List Snd} {ts:List Trp} {d:Dem} {s k:Nat} (ok:OKr hn ls us):DC (us++wXt ls.length d s ts k):=by
 refine lu.2 ⟨Hj (JJ ok),V9 k,λa ha b hb=>?_⟩
 have h1:=LZ ok ha
 have h2:=Ji k hb
 omega
end
structure VoyOK (hn:Int) (ls:List Lnk) (us:List Snd) (ts:List Trp) (d:Dem):Prop where
 few : ts.length<=4
 fck : EB hn ls us d=0
 ends : ∀k,k<ts.length->(0<=(ts.getD k dT).1/\(ts.getD k dT).1<hn)/\(0<=(ts.getD k dT).2.1/\(ts.getD k dT).2.1<hn)/\(ts.getD k dT).1≠(ts.getD k dT).2.1
 times : ∀k,k<ts.length->0<=(ts.getD k dT).2.2.1/\(ts.getD k dT).2.2.2.2.1<=1000000/\(ts.getD k dT).2.2.2.1<=(ts.getD k dT).2.2.2.2.1/\(ts.getD k dT).2.2.1+2<=(ts.getD k dT).2.2.2.1
 room : ∀k,k<ts.length->1<=(ts.getD k dT).2.2.2.2.2.1/\(ts.getD k dT).2.2.2.2.2.1<=1073741824
 price : ∀k,k<ts.length->0<=(ts.getD k dT).2.2.2.2.2.2/\(ts.getD k dT).2.2.2.2.2.2<=1000000
 size : hn+(ts.length:Int)<=12/\ls.length+2*ts.length<=60/\us.length<=1992
theorem trsE_zero {hn:Int} {ts:List Trp}:∀ {n},J5 hn ts n=0↔∀k,k<n->trE hn (ts.getD k dT)=0
 | 0=>⟨λ_ k h=>absurd h (by omega),λ_=>rfl⟩
 | n+1=>by
  have ih:=@trsE_zero hn ts n
  simp only[J5]
  by_cases h:J5 hn ts n=0
  .rw [if_neg (λg=>g h)]
   refine ⟨λg k hk=>?_,λg=>g n (by omega)⟩
   by_cases e:k=n
   .subst e;exact g
   .exact ih.1 h k (by omega)
  .rw [if_pos h]
   exact ⟨λg=>absurd g h,λg=>absurd (ih.2 λk hk=>g k (by omega)) h⟩
theorem vck_iff {hn:Int} {ls:List Lnk} {us:List Snd} {ts:List Trp} {d:Dem}:El hn ls us ts d=0↔VoyOK hn ls us ts d:=by
 unfold El
 constructor
 .intro h
  split at h
  .cases h
  .rename_i h1
   split at h
   .rename_i h2;exact absurd h h2
   .rename_i h2
    split at h
    .rename_i h3;exact absurd h h3
    .rename_i h3
     split at h
     .cases h
     .rename_i h4
      have h3:=trsE_zero.1 (t9.1 h3)
      have key:∀k,k<ts.length->(hOK hn (ts.getD k dT).1=true/\hOK hn (ts.getD k dT).2.1=true/\(ts.getD k dT).1≠(ts.getD k dT).2.1)/\¬((ts.getD k dT).2.2.1<0\/1000000<(ts.getD k dT).2.2.2.2.1\/(ts.getD k dT).2.2.2.2.1<(ts.getD k dT).2.2.2.1\/(ts.getD k dT).2.2.2.1<(ts.getD k dT).2.2.1+2\/(ts.getD k dT).2.2.2.2.2.1<1\/1073741824<(ts.getD k dT).2.2.2.2.2.1\/(ts.getD k dT).2.2.2.2.2.2<0\/1000000<(ts.getD k dT).2.2.2.2.2.2):=λk hk=>by
       have := h3 k hk
       unfold trE at this
       split at this
       .cases this
       .rename_i g1
        split at this
        .cases this
        .rename_i g2
         exact ⟨t9.1 g1,g2⟩
      refine ⟨by omega,t9.1 h2,λk hk=>?_,λk hk=>?_,λk hk=>?_,λk hk=>?_,by omega⟩
      .have :=(key k hk).1
       simp only[hOK,decide_eq_true_eq]at this
       exact this
      .have :=(key k hk).2;omega
      .have :=(key k hk).2;omega
      .have :=(key k hk).2;omega
 .intro h
  have ht:J5 hn ts ts.length=0:=trsE_zero.2 λk hk=>by
   have h1:=h.ends k hk
   have h2:=h.times k hk
   have h3:=h.room k hk
   have h4:=h.price k hk
   unfold trE hOK
   rw [if_neg (λg=>g (by simp only[decide_eq_true_eq];exact h1)),if_neg (by omega)]
  rw [if_neg (by have:=h.few;omega),if_neg (λg=>g h.fck),if_neg (λg=>g ht),if_neg (by have:=h.size;omega)]
end Sim
namespace Sim
open Go Go.Proofs
attribute [local congr] Ah Ai Ag At Al Aj Aq
def Anl (o:Option IObj) (st:Store) (k z:Nat) (e:PV):Option (PV×Store) :=
 match o with
 | some (.arr g _ _)=>some (.ptr (k-1) (g+1) 0 0,st.set (k-1) (.arr (g+1) z [e]))
 | _=>none
theorem PN {st:Store} {k z:Nat} {e:PV}:st.reP k z e=Anl (st.obj (k-1)) st k z e:=nrfl rfl
theorem PO {st:Store} {k z g z0:Nat} {e:PV} {es:List PV}:Anl (some (.arr g z0 es)) st k z e=some (.ptr (k-1) (g+1) 0 0,st.set (k-1) (.arr (g+1) z [e])):=nrfl rfl
theorem vV {f:Fin 24->Int} {h:Nat} {v:Int}:(List.ofFn f).set h v=List.ofFn (λi=>if i.1=h then v else f i):=by
 apply List.ext_getElem
 .simp
 .intro i h1 h2
  rw [List.getElem_set]
  simp only[List.getElem_ofFn]
  by_cases e:h=i
  .subst e;simp
  .rw [if_neg e,if_neg (λg=>e g.symm)]
theorem Anm (a b:Int) : [mt .i64 a,mt .i64 b,mt .i64 0,mt .i64 0,mt .i64 0,mt .i64 0,mt .i64 0,mt .i64 0,mt .i64 0,mt .i64 0,mt .i64 0,mt .i64 0,mt .i64 0,mt .i64 0,mt .i64 0,mt .i64 0,mt .i64 0,mt .i64 0,mt .i64 0,mt .i64 0,mt .i64 0,mt .i64 0,mt .i64 0,mt .i64 0,mt .i64 0,mt .i64 0,mt .i64 0,mt .i64 0,mt .i64 0,mt .i64 0,mt .i64 0,mt .i64 0,mt .i64 0,mt .i64 0,mt .i64 0,mt .i64 0,mt .i64 0,mt .i64 0,mt .i64 0,mt .i64 0,mt .i64 0,mt .i64 0,mt .i64 0,mt .i64 0,mt .i64 0,mt .i64 0,mt .i64 0,mt .i64 0,mt .i64 0,mt .i64 0]=lkC (a,b,λ_=>0,λ_=>0):=rfl
theorem Z5 {l:Lnk} {hr:Nat} {v:Int} (h:hr<24):sy (2+hr) (lkC l) ++ [.int .i64 v]++List.drop (2+hr+1) (lkC l)=lkC (l.1,l.2.1,(λi=>if i.1=hr then v else l.2.2.1 i),l.2.2.2):=by
 have e:sy (2+hr) (lkC l) ++ [I v]++List.drop (2+hr+1) (lkC l)=(lkC l).set (2+hr) (I v):=by
  rw [List.set_eq_take_append_cons_drop,if_pos (by rw[BK];omega),co];rfl
 rw [e]
 unfold lkC
 rw [Nat.add_comm 2 hr,vk,vk]
 congr 2
 rw [List.set_append_left _ _ (by simp;omega)]
 congr 1
 rw [<-List.map_set,vV]
def KN:Int×List Lnk×List Snd×List Trp×Dem×Nat->List PV:=λ(hn,ls,us,ts,d,s) => [.agg [I hn,AS ls,Ay us,CU ts,I d.1,I d.2.1,I d.2.2.1,I d.2.2.2.1,I d.2.2.2.2],I s]
def Tr:Int×List Lnk×List Snd×List Trp×Dem×Nat->PV:=λ(hn,ls,us,ts,d,s)=>.agg [I (wHn hn ts),AS (wLs hn ls ts d s),Ay (wUs ls us ts d s),I d.1,I d.2.1,I d.2.2.1,I d.2.2.2.1,I d.2.2.2.2]
def vW:Int×List Lnk×List Snd×List Trp×Dem×Nat->Prop:=λ(hn,ls,us,ts,d,s)=>El hn ls us ts d=0/\s<9223372036854775808
def e_wide:Nat×Ent:=(28,.v (An KN Tr vW))
theorem Akb:∀i j,KN i=KN j->i=j:=by
 rintro ⟨_,_,_,_,_,_⟩ ⟨_,_,_,_,_,_⟩ h
 simp only[KN,ix,and_true,s6,qt,qr,true_and,AG,AF,Cq]at h
 simp [tn,h] <;> omega
theorem PP (hn:Int) (ls:List Lnk) (us:List Snd) (ts:List Trp) (d:Dem) (s:Nat):An KN Tr vW [.agg [I hn,AS ls,Ay us,CU ts,I d.1,I d.2.1,I d.2.2.1,I d.2.2.2.1,I d.2.2.2.2],I s]=@ite (Option (PV)) (El hn ls us ts d=0/\s<9223372036854775808) (qo _) (some (.agg [I (wHn hn ts),AS (wLs hn ls ts d s),Ay (wUs ls us ts d s),I d.1,I d.2.1,I d.2.2.1,I d.2.2.2.1,I d.2.2.2.2])) none:=Bs Akb (hn,ls,us,ts,d,s)
def Akc:Prop:=∀(hn:Int) (ls:List Lnk) (us:List Snd) (ts:List Trp) (d:Dem) (s:Nat) (h:El hn ls us ts d=0/\s<9223372036854775808) ,VC pk 28 (KN (hn,ls,us,ts,d,s)) (Tr (hn,ls,us,ts,d,s))
theorem Akd:Akc:=by
 rintro hn ls us ts d s ⟨hv,hsb⟩
 dsimp only[KN,Tr]
 refine OX [1] AQ (l := [e_cloneL,e_cloneS,e_usable,e_only,e_order]) ((Ad vB (Ad V1 (Ad vT (Ad Aj9 (Ad Z3 Au)))))) [4,5,6,9,10,11] [12,13,14,15,16,17,19,20,21,24,25,100010,200011,41,42,43,47,48,49,600039,200039,600040,200040,600052,200052,600053,200053,900010,900011,600066,600067,600069,600070,600073,600074,600075,600076,200066,200067,200069,200070,200073,200074,200075,200076,900078,100078,900080,200080,114] 2 1 Tryz.func28 rfl (by decide +kernel) (N:=117) rfl (by simp) rfl (by kernel_rfl) λhs=>?_
 simp only[AK,s8,ow,and_true,true_and]at hs
 have V:=vck_iff.1 hv
 obtain ⟨hf,hdm,hD,hdu⟩:=BL V.fck
 obtain ⟨oku,_⟩:=Cj hf
 obtain ⟨hh1,hh2⟩:=oku.net.houses
 have hll:=oku.net.len
 have hul:=oku.len
 have hn4:=V.few
 have hsz:=V.size
 have k1:ls.length<=2147483648:=by omega
 have k2:us.length<=2147483648:=by omega
 have wn:nm.wrap (hn+(ts.length:Int))=hn+(ts.length:Int):=Af (by omega) (by omega)
 refine Pq (X:=?X) (N:=?N) (Q:=?Q) (c:=?c) (ks:=?ks) (λρ st=>∃cH cL,ρ 1=I s/\ρ 2=.vptr (Tp hn ls us ts d) 0/\ρ 4=.ptr 2 0 0 0/\ρ 5=.ptr cH 0 0 0/\ρ 6=.ptr 6 0 0 0/\ρ 7=.func (.func 51) [] [.vptr (Tp hn ls us ts d) 0,.ptr 6 0 0 0]/\ρ 32=CU ts/\ρ 33=I ts.length/\ρ 34=I 0/\(cH=3/\cL=4\/cH=4/\cL=3)/\st.obj cH=some (.arr 0 8 [.agg [I (wHn hn ts),.ref cL 0 0 ls.length,.nils,I d.1,I d.2.1,I d.2.2.1,I d.2.2.2.1,I d.2.2.2.2]])/\st.obj cL=some (.arr 0 50 (ls.map FS))/\st.obj 6=some (.arr 0 1 [.ref 5 0 0 us.length])/\st.obj 5=some (.arr 0 3 (us.map Ca))/\st.obj 2=some (.arr 0 8 [.agg [I 0,.nils,.nils,I 0,I 0,I 0,I 0,I 0]])/\(∃g z es,st.obj 0=some (.arr g z es))/\(∃g z es,st.obj 1=some (.arr g z es))/\st.next=7) ?h1 ?h2
 case h1 =>
  intro tail
  simp only[↓bdD,bdP,seval,kp,e_cloneL,e_cloneS,e_usable,e_only,e_order,Tryz.f28,BG,↓AP,↓Ar]
  refine Ym 15 10 (by rfl) (by kernel_rfl) ?_ ?_
  .simp only[↓bdD,bdP,seval,kp,kd,V4,PG,Ac,Aa,ty3,BP,AJ,AO,BF,AY,Be,BG,Lt,↓AP,↓AI,↓Ar,wn,k1,k2]
   refine tail _ _ ?_
   refine ⟨4,3,?_⟩
   simp only[↓bdD,bdP,seval,wHn]
   exact ⟨⟨_,_,_,rfl,rfl,rfl⟩,⟨_,_,_,rfl,rfl,rfl⟩⟩
  .simp only[atO,Qq,pg,rh,Nat.reduceAdd,show List.range 17 = [0,1,2,3,4,5,6,7,8,9,10,11,12,13,14,15,16] from rfl,List.flatMap_cons,List.flatMap_nil,Nat.reduceEqDiff,if_false,if_true,kh,List.nil_append,List.append_nil,List.filterMap_cons,List.filterMap_nil,List.getElem?_toArray,List.getElem?_cons_succ,List.getElem?_cons_zero,Nat.reduceLT]
   simp only[↓bdD,bdP,seval,kp,kd,V4,PG,Ac,Aa,ty3,BP,AJ,AO,BF,AY,Be,BG,Lt,↓AP,↓AI,↓Ar,wn,k1,k2]
   refine tail _ _ ?_
   refine ⟨3,4,?_⟩
   simp only[↓bdD,bdP,seval,wHn]
   exact ⟨⟨_,_,_,rfl,rfl,rfl⟩,⟨_,_,_,rfl,rfl,rfl⟩⟩
 case h2 =>
  rintro ρ0 ⟨ob0,M0⟩ ⟨cH,cL,t1,t2,t4,t5,t6,t7,t32,t33,t34,hc,oH,oL,o6,o5,o2,o0,o1,hM0⟩
  dsimp only at oH oL o6 o5 o2 o0 o1 hM0
  subst hM0
  have c1:¬cH=cL:=by omega
  have c2:¬cL=cH:=by omega
  have c3:¬cH=0/\¬cH=1/\¬cH=2/\¬cH=5/\¬cH=6/\¬0=cH/\¬1=cH/\¬2=cH/\¬5=cH/\¬6=cH:=by omega
  have c4:¬cL=0/\¬cL=1/\¬cL=2/\¬cL=5/\¬cL=6/\¬0=cL/\¬1=cL/\¬2=cL/\¬5=cL/\¬6=cL:=by omega
  refine Aw [8,9,10,11,34,35,36,37,38,39,40,41,42,43,44,45,46,47,48,49,50,51,52,53,54,55,56,57,58,59,60,61,62,63,64,65,66,67,68,69,70,71,72,73,74,75,76,77,78,79,80,81,82,83,84,85,86,87,88,89,90,91,92,93,94,95,96,97,98,99,100,101,102,103,104,105,106,107,108,109,110,111,112] ts.length (λk ρ st'=>ρ 34=I k/\(∃g,st'.obj cH=some (.arr 0 8 [.agg [I (wHn hn ts),.ref cL g 0 (ls.length+2*k),.nils,I d.1,I d.2.1,I d.2.2.1,I d.2.2.2.1,I d.2.2.2.2]])/\st'.obj cL=some (.arr g 50 ((ls++wLk hn d s ts k).map FS)))/\(∃g,st'.obj 6=some (.arr 0 1 [.ref 5 g 0 (us++wXt ls.length d s ts k).length])/\st'.obj 5=some (.arr g 3 ((us++wXt ls.length d s ts k).map Ca)))/\st'.obj 2=some (.arr 0 8 [.agg [I 0,.nils,.nils,I 0,I 0,I 0,I 0,I 0]])/\(∃g z es,st'.obj 0=some (.arr g z es))/\(∃g z es,st'.obj 1=some (.arr g z es))/\7<=st'.next) (.refl _) ?_ ?_
  .simp only[↓bdD,bdP,Nat.reduceMul,t34,oH,oL,o6,o5,o2,wLk,wXt]
   exact ⟨⟨0,rfl,rfl⟩,⟨0,rfl,rfl⟩,o0,o1⟩
  rintro k ρ ⟨ob,M⟩ hk ⟨h34,⟨g,pH,pL⟩,⟨g',p6,p5⟩,p2,⟨g0,z0,e0,p0⟩,⟨g1,z1,e1,p1⟩,hM⟩
  dsimp only at pH pL p6 p5 p2 p0 p1 hM
  clear oH oL o6 o5 o2 o0 o1
  have m1:¬M=0/\¬M=1/\¬M=2/\¬M=5/\¬M=6/\¬0=M/\¬1=M/\¬2=M/\¬5=M/\¬6=M/\¬M=cH/\¬cH=M/\¬M=cL/\¬cL=M:=by omega
  have mp:¬M<2:=by omega
  by_cases hlt:k<ts.length
  .have hwk:nm.wrap ((k:Int)+1)=((k+1:Nat):Int):=by rw[Af (by omega) (by omega)];omega
   have hyk:=Ef hlt
   have x1:=V.ends k hlt
   have x2:=V.times k hlt
   have x3:=V.room k hlt
   have whk:nm.wrap (hn+(k:Int))=hn+(k:Int):=Af (by omega) (by omega)
   have hbit:=Z4 (a:=s) (i:=k) hsb
   have hk0:¬(k:Int)<0:=by omega
   have hk64:k<=64:=by omega
   have eLk:wLk hn d s ts (k+1)=wLk hn d s ts k ++ [PJ hn d s ts k,PK hn d s ts k]:=rfl
   have eXt:wXt ls.length d s ts (k+1)=if onV d s ts k=true then wXt ls.length d s ts k++Ck d ((ls.length+2*k:Nat):Int) (ts.getD k dT).2.2.1 (ts.getD k dT).2.2.2.2.2.1 (Ap d)++Ck d ((ls.length+2*k+1:Nat):Int) ((ts.getD k dT).2.2.2.2.1-1) (ts.getD k dT).2.2.2.2.2.1 (Ap d)else wXt ls.length d s ts k:=rfl
   have lk1:=JL (hn:=hn) (d:=d) (s:=s) (ts:=ts) k
   have lx1:=Tq (L:=ls.length) (d:=d) (s:=s) (ts:=ts) k
   have hlx:(wXt ls.length d s ts k).length<=1000:=mm lx1 (mm (uf (show 2*k<=8 by omega) (show Ap d<=32 by omega)) (by decide))
   rw [eLk,eXt]
   unfold PJ PK onV
   generalize wLk hn d s ts k=K at *
   have hP:(ls++K).length=ls.length+2*k:=by rw[cu,lk1]
   have eK:∀a b,ls++(K ++ [a,b])=(ls++K) ++ [a,b]:=λa b=>(co _ _ _).symm
   generalize ls++K=P at *
   have htP:sy (ls.length+2*k) (P.map FS)=P.map FS:=sa (by rw[ow,hP];exact cg _)
   have nlP:¬ls.length+2*k+2<=ls.length+2*k:=by omega
   have jlP:ls.length+2*k<=2147483646:=by omega
   have e2k:ls.length+2*(k+1)=ls.length+2*k+2:=by omega
   generalize wXt ls.length d s ts k=X at *
   generalize ts.getD k dT=x at *
   have z1:=Anm x.1 (hn+(k:Int))
   have z2:=Anm (hn+(k:Int)) x.2.1
   have n1:1-1=0:=rfl
   have n2:2-1=1:=rfl
   by_cases hb:s.testBit k=true
   case neg =>
    rw [if_neg hb]at hbit
    simp only[↓bdD,bdP,seval,kp,kd,BK,C8,ty3,BP,AJ,BF,Be,C7,BG,CS,↓A6,↓AP,↓AI,↓Ar,↓AH,h34,t1,t2,t5,t32,t33,c1,c2,c3,c4,pH,pL,p6,p5,p2,p0,p1,m1,mp,hlt,hyk,whk,hbit,hk0,hk64,hwk,hb,tq,n1,n2,PN,PO,HC,LR,Av,hP,eK,htP,nlP,jlP,e2k,z1,z2]
    exact ⟨⟨_,rfl,rfl,by rw[qp];rfl⟩,⟨_,rfl,rfl⟩,⟨_,_,_,rfl,rfl,rfl⟩,⟨_,_,_,rfl,rfl,rfl⟩,by omega⟩
   rw [if_pos hb]at hbit
   by_cases hu:usB x d=true
   case neg =>
    simp only[↓bdD,bdP,seval,kp,kd,V8,BK,C8,ty3,BP,AJ,BF,AY,Be,C7,BG,CS,↓A6,↓AP,↓AI,↓Ar,↓AH,h34,t1,t2,t5,t32,t33,c1,c2,c3,c4,pH,pL,p6,p5,p2,p0,p1,m1,mp,hlt,hyk,whk,hbit,hk0,hk64,hwk,hb,tq,n1,n2,PN,PO,HC,LR,Av,hP,eK,htP,nlP,jlP,e2k,z1,z2,hu,Bool.and_false]
    exact ⟨⟨_,rfl,rfl,by rw[qp];rfl⟩,⟨_,rfl,rfl⟩,⟨_,_,_,rfl,rfl,rfl⟩,⟨_,_,_,rfl,rfl,rfl⟩,by omega⟩
   have hu2:d.2.2.2.1<=x.2.2.1/\x.2.2.2.2.1<=d.2.2.2.2:=by
    unfold usB at hu
    simp only[Bool.and_eq_true,decide_eq_true_eq]at hu
    exact hu
   obtain ⟨_,_,hr⟩:=BR hdm
   have hr2:=hr.2.2.1
   have hr3:=hr.2.2.2.2
   have hr4:=hr.2.2.2.1
   have wl1:nm.wrap (x.2.2.2.2.1-1)=x.2.2.2.2.1-1:=Af (by omega) (by omega)
   have h24:=MV (t:=x.2.2.1) (by omega)
   have h24':=MV (t:=x.2.2.2.2.1-1) (by omega)
   have hh:x.2.2.1.toNat % 24<24:=Nat.mod_lt _ (by omega)
   have hh':(x.2.2.2.2.1-1).toNat % 24<24:=Nat.mod_lt _ (by omega)
   have wL:nm.wrap (((ls.length+2*k:Nat):Int)+1)=((ls.length+2*k+1:Nat):Int):=by rw[Af (by omega) (by omega)];omega
   have q1:=Z5 (l:=(x.1,hn+(k:Int),(λ_=>0),λ_=>0)) (v:=x.2.2.2.2.2.1) hh
   have q2:=Z5 (l:=(hn+(k:Int),x.2.1,(λ_=>0),λ_=>0)) (v:=x.2.2.2.2.2.1) hh'
   dsimp only at q1 q2
   obtain ⟨hA,ehA⟩:∃a,x.2.2.1.toNat % 24=a:=⟨_,rfl⟩
   obtain ⟨hB,ehB⟩:∃a,(x.2.2.2.2.1-1).toNat % 24=a:=⟨_,rfl⟩
   rw [ehA]at h24 hh q1 ⊢
   rw [ehB]at h24' hh' q2 ⊢
   have i1:((hA:Nat):Int)<24:=by omega
   have i2:((hB:Nat):Int)<24:=by omega
   have i3:2+hA<=49:=by omega
   have i4:2+hB<=49:=by omega
   have sp1:∀st:Store,st.obj 6=some (.arr 0 1 [.ref 5 g' 0 (us++X).length])->st.obj 5=some (.arr g' 3 ((us++X).map Ca))->_:=λst a b=>vU (hn:=hn) (ls:=ls) (us:=us) (ts:=ts) (d:=d) (link:=((ls.length+2*k:Nat):Int)) (tick:=x.2.2.1) (room:=x.2.2.2.2.2.1) (us++X) g' (st:=st) ⟨a,b,⟨hr2,hr4,hr3⟩,by dsimp only;omega,by dsimp only;rw[cu];omega⟩
   have l1:=Hk (d:=d) (link:=((ls.length+2*k:Nat):Int)) (tick:=x.2.2.1) (room:=x.2.2.2.2.2.1) (Ap d)
   simp only[Jh,OW.new]at sp1
   generalize hO1:Ck d ((ls.length+2*k:Nat):Int) x.2.2.1 x.2.2.2.2.2.1 (Ap d)=O1 at *
   have sp2:∀st:Store,st.obj 6=some (.arr 0 1 [.ref 5 (g'+O1.length) 0 (us++X++O1).length])->st.obj 5=some (.arr (g'+O1.length) 3 ((us++X++O1).map Ca))->_:=λst a b=>vU (hn:=hn) (ls:=ls) (us:=us) (ts:=ts) (d:=d) (link:=((ls.length+2*k+1:Nat):Int)) (tick:=x.2.2.2.2.1-1) (room:=x.2.2.2.2.2.1) (us++X++O1) (g'+O1.length) (st:=st) ⟨a,b,⟨hr2,hr4,hr3⟩,by dsimp only;omega,by dsimp only;rw[cu,cu];omega⟩
   simp only[Jh,OW.new]at sp2
   generalize hO2:Ck d ((ls.length+2*k+1:Nat):Int) (x.2.2.2.2.1-1) x.2.2.2.2.2.1 (Ap d)=O2 at *
   have eX:us++(X++O1++O2)=us++X++O1++O2:=by simp only[co]
   rw [if_pos (by rw[hb,hu];rfl),eX]
   have eU:(us++X).length=us.length+X.length:=cu
   simp only[↓bdD,bdP,seval,kp,kd,V8,Ac,Aa,AC,BK,C8,Nat.mul_one,ty3,BP,AJ,BF,AY,Be,C7,BG,OY,CS,↓A6,↓AP,↓AI,↓Ar,↓AH,h34,t1,t2,t5,t7,t32,t33,c1,c2,c3,c4,pH,pL,p6,p5,p2,p0,p1,m1,mp,hlt,hyk,whk,hbit,hk0,hk64,hwk,hb,tq,n1,n2,PN,PO,HC,LR,Av,hP,eK,htP,nlP,jlP,e2k,z1,z2,hu,wl1,h24,h24',wL,i1,i2,i3,i4,sp1,sp2,q1,q2]
   exact ⟨⟨_,rfl,rfl,by rw[qp];rfl⟩,⟨_,rfl,rfl⟩,⟨_,_,_,rfl,rfl,rfl⟩,⟨_,_,_,rfl,rfl,rfl⟩,by omega⟩
  .have e:k=ts.length:=by omega
   subst e
   have so:=Z2 (l:=us++wXt ls.length d s ts ts.length)
   have lx1:=Tq (L:=ls.length) (d:=d) (s:=s) (ts:=ts) ts.length
   have hlx:(wXt ls.length d s ts ts.length).length<=1000:=mm lx1 (mm (uf (show 2*ts.length<=8 by omega) (show Ap d<=32 by omega)) (by decide))
   rw [if_pos ⟨by rw[cu];omega,RC oku⟩]at so
   have eU:wUs ls us ts d s=KM (us++wXt ls.length d s ts ts.length):=rfl
   have eL:wLs hn ls ts d s=ls++wLk hn d s ts ts.length:=rfl
   have hLl:(ls++wLk hn d s ts ts.length).length=ls.length+2*ts.length:=by rw[cu,JL]
   rw [<-eU]at so
   rw [<-eL]at hLl pL
   generalize wUs ls us ts d s=U at *
   generalize wLs hn ls ts d s=L at *
   generalize us++wXt ls.length d s ts ts.length=X at *
   have htP:sy (ls.length+2*ts.length) (L.map FS)=L.map FS:=sa (by rw[ow,hLl];exact cg _)
   have htX:sy X.length (X.map Ca)=X.map Ca:=sa (by rw[ow];exact cg _)
   simp only[↓bdD,bdP,seval,Ao,kd,Ac,AO,BG,Lt,↓AP,↓Ci,↓Ev,↓Ar,↓AH,h34,t4,t5,t6,t33,c3,pH,p6,p5,p2,hlt,so,htX]
   refine DRx.sound ?_
   simp only[↓bdD,bdP,↓reduceIte,Ac,Aa,c2,c4,pL,htP,hLl]
   done
theorem PR:AM pk e_wide.1 e_wide.2:=Ax λ⟨hn,ls,us,ts,d,s⟩ h=>Akd hn ls us ts d s h
def okO (ts:List Trp) (o:List Int):Prop:=∀k,k<ts.length->0<=o.getD k 0/\o.getD k 0<=(ts.getD k dT).2.2.2.2.2.1
instance (ts:List Trp) (o:List Int):Decidable (okO ts o):=by unfold okO;infer_instance
def Cs (L:Nat) (ts:List Trp) (o:List Int):Nat->List Snd
 | 0 => []
 | k+1=>if 0<o.getD k 0 then Cs L ts o k ++ [(((L+2*k:Nat):Int),(ts.getD k dT).2.2.1,o.getD k 0),(((L+2*k+1:Nat):Int),(ts.getD k dT).2.2.2.2.1-1,o.getD k 0)]else Cs L ts o k
def Jj (hn:Int) (ls:List Lnk) (us:List Snd) (ts:List Trp) (d:Dem) (l:List Snd) (o:List Int):Int :=
 if El hn ls us ts d≠0 then El hn ls us ts d else if Bf hn ls l≠0\/1992<l.length\/o.length≠ts.length then 1 else if ¬okO ts o then 1 else 0
def schL (hn:Int) (ls:List Lnk) (us:List Snd) (ts:List Trp) (d:Dem) (l:List Snd) (o:List Int):List Snd :=
 if Jj hn ls us ts d l o=0 then KM (l++Cs ls.length ts o ts.length)else []
theorem JM {L:Nat} {ts:List Trp} {o:List Int}:∀k,(Cs L ts o k).length<=2*k
 | 0=>by simp[Cs]
 | k+1=>by
  have := JM (L:=L) (ts:=ts) (o:=o) k
  simp only[Cs]
  split
  .simp; omega
  .omega
theorem Hl {L:Nat} {ts:List Trp} {o:List Int} {x:Snd}:∀k,x∈Cs L ts o k->∃i,i<k/\0<o.getD i 0/\x.2.2=o.getD i 0/\(x.1=((L+2*i:Nat):Int)/\x.2.1=(ts.getD i dT).2.2.1\/x.1=((L+2*i+1:Nat):Int)/\x.2.1=(ts.getD i dT).2.2.2.2.1-1)
 | 0,h=>by simp[Cs]at h
 | k+1,h=>by
  have ih:=Hl (L:=L) (ts:=ts) (o:=o) (x:=x) k
  simp only[Cs]at h
  split at h
  .rename_i c
   rcases kq.1 h with h | h
   .obtain ⟨i,hi,r⟩:=ih h;exact⟨i,by omega,r⟩
   .simp only[li,ua,or_false]at h
    rcases h with rfl | rfl
    .exact ⟨k,by omega,c,rfl,.inl ⟨rfl,rfl⟩⟩
    .exact ⟨k,by omega,c,rfl,.inr ⟨rfl,rfl⟩⟩
  .obtain ⟨i,hi,r⟩:=ih h;exact⟨i,by omega,r⟩
theorem KO {L:Nat} {ts:List Trp} {o:List Int}:∀k,DC (Cs L ts o k)
 | 0=>l6
 | k+1=>by
  have ih:=KO (L:=L) (ts:=ts) (o:=o) k
  simp only[Cs]
  split
  .refine lu.2 ⟨ih,?_,λa ha b hb=>?_⟩
   .rw [List.pairwise_cons]
    refine ⟨λb hb=>?_,vj _ _⟩
    simp only[ku]at hb
    subst hb
    dsimp only;omega
   .obtain ⟨i,hi,_,_,r⟩:=Hl k ha
    simp only[li,ua,or_false]at hb
    rcases hb with rfl | rfl <;> dsimp only <;> omega
  .exact ih
theorem vX {hn:Int} {ls:List Lnk} {ts:List Trp} {l:List Snd} {o:List Int} {k:Nat} (ok:OKr hn ls l):DC (l++Cs ls.length ts o k):=by
 refine lu.2 ⟨Hj (JJ ok),KO k,λa ha b hb=>?_⟩
 have h1:=LZ ok ha
 obtain ⟨i,hi,_,_,r⟩:=Hl k hb
 omega
def HU:Int×List Lnk×List Snd×List Trp×Dem×List Snd×List Int->List PV:=λ(hn,ls,us,ts,d,l,o) => [.agg [I hn,AS ls,Ay us,CU ts,I d.1,I d.2.1,I d.2.2.1,I d.2.2.2.1,I d.2.2.2.2],.agg [Ay l,ints o]]
def N6:Int×List Lnk×List Snd×List Trp×Dem×List Snd×List Int->PV:=λ(hn,ls,us,ts,d,l,o)=>.tuple [Ay (schL hn ls us ts d l o),I (Jj hn ls us ts d l o)]
def e_sched:Nat×Ent:=(25,.v (An HU N6 AZ))
theorem Ad0:∀i j,HU i=HU j->i=j:=by
 rintro ⟨_,_,_,_,_,_,_⟩ ⟨_,_,_,_,_,_,_⟩ h
 simp only[HU,ix,and_true,s6,qt,qr,true_and,B7,AG,AF,Cq]at h
 simp [tn,h] <;> omega
theorem Ts (hn:Int) (ls:List Lnk) (us:List Snd) (ts:List Trp) (d:Dem) (l:List Snd) (o:List Int):An HU N6 AZ [.agg [I hn,AS ls,Ay us,CU ts,I d.1,I d.2.1,I d.2.2.1,I d.2.2.2.1,I d.2.2.2.2],.agg [Ay l,ints o]]=some (.tuple [Ay (schL hn ls us ts d l o),I (Jj hn ls us ts d l o)]):=AD Ad0 (i:=(hn,ls,us,ts,d,l,o)) trivial
def Ad1:Prop:=∀(hn:Int) (ls:List Lnk) (us:List Snd) (ts:List Trp) (d:Dem) (l:List Snd) (o:List Int) ,VC pk 25 (HU (hn,ls,us,ts,d,l,o)) (N6 (hn,ls,us,ts,d,l,o))
theorem Ad2:Ad1:=by
 intro hn ls us ts d l o
 dsimp only[HU,N6]
 refine Bd AQ (l := [e_vcheck,e_right,e_cloneS,e_order]) ((Ad PI (Ad JC (Ad V1 (Ad Z3 Au))))) [] [102]  Tryz.func25 rfl (by decide +kernel) (N:=103) rfl (by simp) rfl (by kernel_rfl) λhs=>?_
 simp only[AK,s8,ow,and_true,true_and]at hs
 obtain ⟨E,hE⟩:∃E,Jj hn ls us ts d l o=E:=⟨_,rfl⟩
 obtain ⟨R,hR⟩:∃R,schL hn ls us ts d l o=R:=⟨_,rfl⟩
 rw [hE,hR]
 unfold schL at hR
 rw [hE]at hR
 unfold Jj at hE
 by_cases h1:El hn ls us ts d=0
 case neg =>
  rw [if_pos h1]at hE
  have h2:R = []:=by rw[<-hR,if_neg (by rw[<-hE];exact h1)]
  subst hE h2
  simp only[↓bdD,bdP,seval,Ao,st0,e_vcheck,EX,e_right,e_cloneS,e_order,Ac,Aa,AC,vl,Be,h1]
 rw [if_neg (λg=>g h1)]at hE
 have V:=vck_iff.1 h1
 by_cases h2:Bf hn ls l=0
 case neg =>
  rw [if_pos (.inl h2)]at hE
  have h3:R = []:=by rw[<-hR,if_neg (by omega)]
  subst hE h3
  simp only[↓bdD,bdP,seval,Ao,st0,e_vcheck,EX,e_right,BA,e_cloneS,e_order,Ac,Aa,AC,vl,AJ,AO,Be,B5,h1,h2]
 have ok:=right_zero.1 h2
 by_cases h3:1992<l.length
 .rw [if_pos (.inr (.inl h3))]at hE
  have h4:R = []:=by rw[<-hR,if_neg (by omega)]
  subst hE h4
  have h3i:(1992:Int)<(l.length:Int):=by omega
  simp only[↓bdD,bdP,seval,Ao,st0,e_vcheck,EX,e_right,BA,e_cloneS,e_order,Ac,Aa,AC,vl,AJ,AO,Be,B5,h1,h2,h3i]
 have h3i:¬(1992:Int)<(l.length:Int):=by omega
 by_cases h4:o.length=ts.length
 case neg =>
  rw [if_pos (.inr (.inr h4))]at hE
  have h5:R = []:=by rw[<-hR,if_neg (by omega)]
  subst hE h5
  have h4i:¬(o.length:Int)=(ts.length:Int):=by omega
  simp only[↓bdD,bdP,seval,Ao,st0,e_vcheck,EX,e_right,BA,e_cloneS,e_order,Ac,Aa,AC,vl,AJ,AO,BF,Be,AR,B5,h1,h2,h3i,h4i]
 have h4i:((o.length:Int)=(ts.length:Int))=True:=eq_true (by omega)
 have h4t:=eq_true h4
 rw [if_neg (λg=>by rcases g with g | g | g;exact g h2;exact h3 g;exact g h4)]at hE
 have hn4:=V.few
 have hll:=V.size.2.1
 have k1:l.length<=2147483648:=by omega
 refine Pq (X:=?X) (N:=?N) (Q:=?Q) (c:=?c) (ks:=?ks) (λρ st=>ρ 2=.vptr (Tp hn ls us ts d) 0/\ρ 3=.vptr [Ay l,ints o] 0/\ρ 7=.ref 0 0 0 l.length/\ρ 41=CU ts/\ρ 42=I ts.length/\ρ 43=I 0/\st.obj 0=some (.arr 0 3 (l.map Ca))/\st.next=1) ?h1 ?h2
 case h1 =>
  intro tail
  simp only[↓bdD,bdP,seval,st0,kp,e_vcheck,EX,e_right,BA,e_cloneS,PG,e_order,Ac,Aa,AC,vl,AJ,AO,BF,Be,AR,B5,h1,h2,h3i,h4,k1]
  refine tail _ _ ?_
  simp only[↓bdD,bdP,r8]
 rintro ρ0 ⟨ob0,M0⟩ ⟨t2,t3,t7,t41,t42,t43,o0,hM0⟩
 dsimp only at o0 hM0
 subst hM0
 refine Aw [4,5,7,8,9,10,43,44,45,46,47,48,49,50,51,52,53,54,55,56,57,58,59,60,61,62,63,64,65,66,67,68,69,70,71,72,73,74,75,76,77,78,79,80,81,82,83,84,85,86,87,88,89,90,91,92,93,94,95,96,97,98,99,100] ts.length (λk ρ st'=>ρ 43=I k/\(∃g,ρ 7=.ref 0 g 0 (l++Cs ls.length ts o k).length/\st'.obj 0=some (.arr g 3 ((l++Cs ls.length ts o k).map Ca)))/\1<=st'.next/\(∀i,i<k->0<=o.getD i 0/\o.getD i 0<=(ts.getD i dT).2.2.2.2.2.1)) (.refl _) ?_ ?_
 .simp only[↓bdD,bdP,t43,t7,o0,Cs]
  exact ⟨⟨0,rfl,rfl⟩,λi hi=>absurd hi (by omega)⟩
 rintro k ρ ⟨ob,M⟩ hk ⟨h43,⟨g,h7,p0⟩,hM,hI⟩
 dsimp only at p0 hM
 have m1:¬M=0/\¬0=M:=by omega
 by_cases hlt:k<ts.length
 .have hwk:nm.wrap ((k:Int)+1)=((k+1:Nat):Int):=by rw[Af (by omega) (by omega)];omega
  have hyk:=Ef hlt
  have hlo:k<o.length:=by omega
  have hok:nth (o.map (mt .i64)) k=I (o.getD k 0):=BW 0 hlo
  have hki:(k:Int)<(o.length:Int):=by omega
  have x2:=V.times k hlt
  have eT:Cs ls.length ts o (k+1)=if 0<o.getD k 0 then Cs ls.length ts o k ++ [(((ls.length+2*k:Nat):Int),(ts.getD k dT).2.2.1,o.getD k 0),(((ls.length+2*k+1:Nat):Int),(ts.getD k dT).2.2.2.2.1-1,o.getD k 0)]else Cs ls.length ts o k:=rfl
  have lT:=JM (L:=ls.length) (ts:=ts) (o:=o) k
  have bad:¬(0<=o.getD k 0/\o.getD k 0<=(ts.getD k dT).2.2.2.2.2.1)->E=1/\R = []:=λg=>by
   rw [if_pos (λf=>g (f k hlt))]at hE
   exact ⟨hE.symm,by rw[<-hR,if_neg (by omega)]⟩
  have hI2:0<=o.getD k 0/\o.getD k 0<=(ts.getD k dT).2.2.2.2.2.1->∀i,i<k+1->0<=o.getD i 0/\o.getD i 0<=(ts.getD i dT).2.2.2.2.2.1:=λg i hi=>by
   by_cases e:i=k
   .subst e;exact g
   .exact hI i (by omega)
  rw [eT]
  generalize ts.getD k dT=x at *
  generalize Cs ls.length ts o k=T at *
  generalize o.getD k 0=z at *
  have w2:nm.wrap (2*(k:Int))=2*(k:Int):=Af (by omega) (by omega)
  have w3:nm.wrap ((ls.length:Int)+2*(k:Int))=((ls.length+2*k:Nat):Int):=by rw[Af (by omega) (by omega)];omega
  have w4:nm.wrap (((ls.length+2*k:Nat):Int)+1)=((ls.length+2*k+1:Nat):Int):=by rw[Af (by omega) (by omega)];omega
  have w5:nm.wrap (x.2.2.2.2.1-1)=x.2.2.2.2.1-1:=Af (by omega) (by omega)
  have hPl:(l++T).length<=2147483640:=by rw[cu];omega
  have eA:∀a b,l++(T ++ [a,b])=(l++T) ++ [a,b]:=λa b=>(co _ _ _).symm
  generalize hP:l++T=P at *
  have htP:sy P.length (P.map Ca)=P.map Ca:=sa (by rw[ow];exact cg _)
  have nlP:¬P.length+2<=P.length:=by omega
  have jlP:P.length<=2147483646:=by omega
  by_cases b1:z<0
  .obtain ⟨e1,e2⟩:=bad (by omega)
   subst e1 e2
   simp only[↓bdD,bdP,seval,Ao,kp,kd,ty3,BF,AR,B5,C7,h43,t3,t41,t42,m1,hlt,hyk,hok,hki,b1]
  by_cases b2:x.2.2.2.2.2.1<z
  .obtain ⟨e1,e2⟩:=bad (by omega)
   subst e1 e2
   simp only[↓bdD,bdP,seval,Ao,kp,kd,ty3,BF,AR,B5,C7,h43,t3,t41,t42,m1,hlt,hyk,hok,hki,b1,b2]
  have hI3:=hI2 (by omega)
  clear hI2 bad
  by_cases b3:0<z
  .rw [if_pos b3]
   simp only[↓bdD,bdP,seval,kp,kd,ty3,BP,AJ,BF,Be,AR,B5,C7,Ct,Lt,h43,t2,t3,t41,t42,h7,p0,m1,hlt,hyk,hok,hki,b1,b2,b3,hwk,w2,w3,w4,w5,eA,htP,nlP,jlP,Av]
   exact ⟨⟨_,rfl,rfl,by rw[qp];rfl⟩,hI3⟩
  .rw [if_neg b3]
   simp only[↓bdD,bdP,seval,kp,kd,ty3,BF,AR,B5,C7,h43,t3,t41,t42,h7,p0,m1,hlt,hyk,hok,hki,b1,b2,b3,hwk]
   exact ⟨⟨_,by rw[<-hP,cu],rfl,by rw[hP]⟩,hI3⟩
 .have e:k=ts.length:=by omega
  subst e
  rw [if_neg (λg=>g hI)]at hE
  subst hE
  rw [if_pos rfl]at hR
  have so:=Z2 (l:=l++Cs ls.length ts o ts.length)
  have lT:=JM (L:=ls.length) (ts:=ts) (o:=o) ts.length
  rw [if_pos ⟨by rw[cu];omega,vX ok⟩,hR]at so
  generalize l++Cs ls.length ts o ts.length=P at *
  have htP:sy P.length (P.map Ca)=P.map Ca:=sa (by rw[ow];exact cg _)
  simp only[↓bdD,bdP,seval,Ao,Ac,Lt,h43,t42,h7,p0,hlt,so,htP]
theorem Tt:AM pk e_sched.1 e_sched.2:=Ax λ⟨hn,ls,us,ts,d,l,o⟩ h=>Ad2 hn ls us ts d l o
structure SchOK (hn:Int) (ls:List Lnk) (us:List Snd) (ts:List Trp) (d:Dem) (l:List Snd) (o:List Int):Prop where
 voy : VoyOK hn ls us ts d
 right : OKr hn ls l
 len : l.length<=1992
 loads : o.length=ts.length
 room : okO ts o
section
variable {hn:Int} {ls:List Lnk} {us:List Snd} {ts:List Trp} {d:Dem}
theorem sch_zero {l:List Snd} {o:List Int}:Jj hn ls us ts d l o=0↔SchOK hn ls us ts d l o:=by
 unfold Jj
 constructor
 .intro h
  split at h
  .rename_i h1;exact absurd h h1
  .rename_i h1
   split at h
   .cases h
   .rename_i h2
    split at h
    .cases h
    .rename_i h3
     exact ⟨vck_iff.1 (t9.1 h1),right_zero.1 (Classical.byContradiction λg=>h2 (.inl g)),by omega,by omega,t9.1 h3⟩
 .intro h
  rw [if_neg (λg=>g (vck_iff.2 h.voy)),if_neg (λg=>by
   rcases g with g | g | g
   .exact g (right_zero.2 h.right)
   .have := h.len;omega
   .exact g h.loads),if_neg (λg=>g h.room)]
theorem Nd (V:VoyOK hn ls us ts d):YP ts:=⟨V.few,V.price⟩
end
def Gc (hn:Int) (ls:List Lnk) (us:List Snd) (ts:List Trp) (d:Dem) (l:List Snd) (o:List Int):Int:=if Jj hn ls us ts d l o=0 then BY hn ls l+CB ts o o.length else 0
def HV:Int×List Lnk×List Snd×List Trp×Dem×List Snd×List Int->List PV:=λ(hn,ls,us,ts,d,l,o) => [.agg [I hn,AS ls,Ay us,CU ts,I d.1,I d.2.1,I d.2.2.1,I d.2.2.2.1,I d.2.2.2.2],.agg [Ay l,ints o]]
def N7:Int×List Lnk×List Snd×List Trp×Dem×List Snd×List Int->PV:=λ(hn,ls,us,ts,d,l,o)=>.tuple [I (Gc hn ls us ts d l o),I (Jj hn ls us ts d l o)]
def e_vcost:Nat×Ent:=(10,.v (An HV N7 AZ))
theorem Ad3:∀i j,HV i=HV j->i=j:=by
 rintro ⟨_,_,_,_,_,_,_⟩ ⟨_,_,_,_,_,_,_⟩ h
 simp only[HV,ix,and_true,s6,qt,qr,true_and,B7,AG,AF,Cq]at h
 simp [tn,h] <;> omega
theorem Fq (hn:Int) (ls:List Lnk) (us:List Snd) (ts:List Trp) (d:Dem) (l:List Snd) (o:List Int):An HV N7 AZ [.agg [I hn,AS ls,Ay us,CU ts,I d.1,I d.2.1,I d.2.2.1,I d.2.2.2.1,I d.2.2.2.2],.agg [Ay l,ints o]]=some (.tuple [I (Gc hn ls us ts d l o),I (Jj hn ls us ts d l o)]):=AD Ad3 (i:=(hn,ls,us,ts,d,l,o)) trivial
def Ad4:Prop:=∀(hn:Int) (ls:List Lnk) (us:List Snd) (ts:List Trp) (d:Dem) (l:List Snd) (o:List Int) ,VC pk 10 (HV (hn,ls,us,ts,d,l,o)) (N7 (hn,ls,us,ts,d,l,o))
theorem Ad5:Ad4:=by
 intro hn ls us ts d l o
 dsimp only[HV,N7]
 refine Bd AQ (l := [e_sched,e_loaded,e_cost]) ((Ad Tt (Ad V7 (Ad Ajf Au)))) [] []  Tryz.func10 rfl (by decide +kernel) (N:=38) rfl (by simp) rfl (by kernel_rfl) λhs=>?_
 simp only[AK,s8,ow,and_true,true_and]at hs
 unfold Gc
 have sp:=Ts (hn:=hn) (ls:=ls) (us:=us) (ts:=ts) (d:=d) (l:=l) (o:=o)
 by_cases h1:Jj hn ls us ts d l o=0
 case neg =>
  rw [if_neg h1]
  simp only[↓bdD,bdP,seval,Ao,st0,e_sched,e_loaded,e_cost,Ac,Aa,AC,Tryz.f10,Be,B5,h1,sp]
 rw [if_pos h1]
 have S:=sch_zero.1 h1
 have hp:=Nd S.voy
 have hol:=S.loads
 have hc:BY hn ls l=Dy ls l l.length:=by unfold BY;rw[if_neg (λg=>g (right_zero.2 S.right))]
 have b1:=Jd S.right l.length (cg _)
 have b2:=JI (o:=o) hp o.length (by omega)
 have hl:=S.len
 have h4:=hp.1
 have w:nm.wrap (BY hn ls l+CB ts o o.length)=BY hn ls l+CB ts o o.length:=by rw[hc];exact Af (by omega) (by omega)
 have sl:=V6 (hn:=hn) (ls:=ls) (us:=us) (ts:=ts) (d:=d) (l:=l) (o:=o)
 rw [if_pos ⟨hp,hol⟩]at sl
 simp only[↓bdD,bdP,seval,Ao,st0,e_sched,e_loaded,e_cost,Ajc,Ac,Aa,AC,Tryz.f10,AJ,AO,Be,B5,h1,sp,sl,w]
theorem N8:AM pk e_vcost.1 e_vcost.2:=Ax λ⟨hn,ls,us,ts,d,l,o⟩ h=>Ad5 hn ls us ts d l o
def Ad6 (hn:Int) (ls:List Lnk) (us:List Snd) (ts:List Trp) (d:Dem) (o:List Int) (x:Snd):Int:=(D4 (wHn hn ts) (wLs hn ls ts d (Bl o o.length)) (wUs ls us ts d (Bl o o.length)) x.1 x.2.1).1
def Fr (hn:Int) (ls:List Lnk) (us:List Snd) (ts:List Trp) (d:Dem) (l:List Snd) (o:List Int):Int :=
 if Jj hn ls us ts d l o≠0 then Jj hn ls us ts d l o
 else if ¬ ∀i,i<(schL hn ls us ts d l o).length->((schL hn ls us ts d l o).getD i dS).2.2<=Ad6 hn ls us ts d o ((schL hn ls us ts d l o).getD i dS)then 13
 else Cz (wHn hn ts) (wLs hn ls ts d (Bl o o.length)) (schL hn ls us ts d l o) d
def EC:Int×List Lnk×List Snd×List Trp×Dem×List Snd×List Int->List PV:=λ(hn,ls,us,ts,d,l,o) => [.agg [I hn,AS ls,Ay us,CU ts,I d.1,I d.2.1,I d.2.2.1,I d.2.2.2.1,I d.2.2.2.2],.agg [Ay l,ints o]]
def JN:Int×List Lnk×List Snd×List Trp×Dem×List Snd×List Int->PV:=λ(hn,ls,us,ts,d,l,o)=>I (Fr hn ls us ts d l o)
def e_vserves:Nat×Ent:=(11,.v (An EC JN AZ))
theorem jW:∀i j,EC i=EC j->i=j:=by
 rintro ⟨_,_,_,_,_,_,_⟩ ⟨_,_,_,_,_,_,_⟩ h
 simp only[EC,ix,and_true,s6,qt,qr,true_and,B7,AG,AF,Cq]at h
 simp [tn,h] <;> omega
theorem Dn (hn:Int) (ls:List Lnk) (us:List Snd) (ts:List Trp) (d:Dem) (l:List Snd) (o:List Int):An EC JN AZ [.agg [I hn,AS ls,Ay us,CU ts,I d.1,I d.2.1,I d.2.2.1,I d.2.2.2.1,I d.2.2.2.2],.agg [Ay l,ints o]]=some (I (Fr hn ls us ts d l o)):=AD jW (i:=(hn,ls,us,ts,d,l,o)) trivial
def jX:Prop:=∀(hn:Int) (ls:List Lnk) (us:List Snd) (ts:List Trp) (d:Dem) (l:List Snd) (o:List Int) ,VC pk 11 (EC (hn,ls,us,ts,d,l,o)) (JN (hn,ls,us,ts,d,l,o))
theorem jZ:jX:=by
 intro hn ls us ts d l o
 dsimp only[EC,JN]
 refine Bd AQ (l := [e_sched,e_loaded,e_wide,e_left,e_serves]) ((Ad Tt (Ad V7 (Ad PR (Ad Ajj (Ad tX Au)))))) [] []  Tryz.func11 rfl (by decide +kernel) (N:=61) rfl (by simp) rfl (by kernel_rfl) λhs=>?_
 simp only[AK,s8,ow,and_true,true_and]at hs
 obtain ⟨R,hR⟩:∃R,Fr hn ls us ts d l o=R:=⟨_,rfl⟩
 rw [hR]
 unfold Fr at hR
 have sp:=Ts (hn:=hn) (ls:=ls) (us:=us) (ts:=ts) (d:=d) (l:=l) (o:=o)
 by_cases h1:Jj hn ls us ts d l o=0
 case neg =>
  rw [if_pos h1]at hR
  subst hR
  simp only[↓bdD,bdP,seval,Ao,st0,e_sched,e_loaded,e_wide,e_left,e_serves,Ac,Aa,AC,Tryz.f11,Be,B5,h1,sp]
 rw [if_neg (λg=>g h1)]at hR
 have S:=sch_zero.1 h1
 have hv:=vck_iff.2 S.voy
 have hp:=Nd S.voy
 have hol:=S.loads
 have h4:=hp.1
 have sl:=V6 (hn:=hn) (ls:=ls) (us:=us) (ts:=ts) (d:=d) (l:=l) (o:=o)
 rw [if_pos ⟨hp,hol⟩]at sl
 have b1:=LU (o:=o) o.length
 have b2:2 ^ o.length<=2 ^ 4:=vd (by omega) (by omega)
 have sw:=PP (hn:=hn) (ls:=ls) (us:=us) (ts:=ts) (d:=d) (s:=Bl o o.length)
 rw [if_pos ⟨hv,by omega⟩]at sw
 unfold Ad6 at hR
 have hll:(schL hn ls us ts d l o).length<=4000:=by
  unfold schL
  rw [if_pos h1,srtS_perm.length_eq,cu]
  have := JM (L:=ls.length) (ts:=ts) (o:=o) ts.length
  have := S.len
  omega
 generalize Bl o o.length=s at *
 generalize CB ts o o.length=cc at *
 generalize schL hn ls us ts d l o=L at *
 generalize wHn hn ts=wh at *
 generalize wLs hn ls ts d s=wl at *
 generalize wUs ls us ts d s=wu at *
 simp only[↓bdD,bdP,seval,st0,kp,kd,e_sched,e_loaded,e_wide,e_left,e_serves,Ac,Aa,AC,Tryz.f11,ty3,AO,Be,B5,BG,h1,sp,sl,sw]
 refine Aw [4,11,12,13,34,35,36,37,38,39,40,41,42,43,44,45,46,47,48,49,50,51,52,53,54] L.length (λk ρ st'=>ρ 34=I k/\st'.obj 0=some (.arr 0 8 [.agg [I wh,AS wl,Ay wu,I d.1,I d.2.1,I d.2.2.1,I d.2.2.2.1,I d.2.2.2.2]])/\1<=st'.next/\∀i,i<k->(L.getD i dS).2.2<=(D4 wh wl wu (L.getD i dS).1 (L.getD i dS).2.1).1) (.refl _) ?_ ?_
 .simp only[↓bdD,bdP]
  exact λi hi=>absurd hi (by omega)
 rintro k ρ ⟨ob,M⟩ hk ⟨h34,p0,hM,hI⟩
 dsimp only at p0 hM
 have m1:¬M=0/\¬0=M:=by omega
 by_cases hlt:k<L.length
 .have hwk:nm.wrap ((k:Int)+1)=((k+1:Nat):Int):=by rw[Af (by omega) (by omega)];omega
  have hyk:=A7 hlt
  by_cases c:(L.getD k dS).2.2<=(D4 wh wl wu (L.getD k dS).1 (L.getD k dS).2.1).1
  .have ci:¬(D4 wh wl wu (L.getD k dS).1 (L.getD k dS).2.1).1<(L.getD k dS).2.2:=by omega
   have hI2:∀i,i<k+1->(L.getD i dS).2.2<=(D4 wh wl wu (L.getD i dS).1 (L.getD i dS).2.1).1:=λi hi=>by
    by_cases e:i=k
    .subst e;exact c
    .exact hI i (by omega)
   generalize L.getD k dS=x at *
   simp only[↓bdD,bdP,seval,kp,kd,tK,Ac,Aa,ty3,AJ,AO,Ct,BG,h34,p0,m1,hlt,hyk,hwk,ci,Av]
   exact hI2
  .rw [if_pos (λg=>c (g k hlt))]at hR
   subst hR
   have ci:(D4 wh wl wu (L.getD k dS).1 (L.getD k dS).2.1).1<(L.getD k dS).2.2:=by omega
   generalize L.getD k dS=x at *
   simp only[↓bdD,bdP,seval,Ao,kp,kd,tK,Ac,Aa,ty3,AJ,AO,Ct,BG,h34,p0,m1,hlt,hyk,ci,Av]
 .have e:k=L.length:=by omega
  subst e
  rw [if_neg (λg=>g hI)]at hR
  subst hR
  simp only[↓bdD,bdP,seval,Ao,tU,Ac,Aa,AJ,AO,AY,Be,BG,h34,p0,hlt]
theorem Nf:AM pk e_vserves.1 e_vserves.2:=Ax λ⟨hn,ls,us,ts,d,l,o⟩ h=>jZ hn ls us ts d l o
def psS (L:Nat) (l:List Snd):List Snd:=l.filter λx=>decide (x.1<(L:Int))
def byt (a:Int):List Snd->Int
 | []=>0
 | x::l=>byt a l+if x.1=a then x.2.2 else 0
theorem Gd {a:Int} {m:List Snd}:∀ {l:List Snd},byt a (l++m)=byt a l+byt a m
 | []=>by simp[byt]
 | x::l=>by
  have := Gd (a:=a) (m:=m) (l:=l)
  simp only[kh,byt,this];omega
def psO (L n:Nat) (l:List Snd):List Int:=(List.range n).map λk=>byt ((L+2*k+1:Nat):Int) l
theorem HW {L n:Nat} {l:List Snd}:(psO L n l).length=n:=by simp[psO]
theorem Ad7 {L n:Nat}:psO L n []=List.replicate n 0:=by
 refine List.eq_replicate_iff.2 ⟨HW,λb hb=>?_⟩
 unfold psO at hb
 obtain ⟨k,_,rfl⟩:=List.mem_map.1 hb
 rfl
theorem YQ {L n k:Nat} {l:List Snd} (h:k<n):(psO L n l).getD k 0=byt ((L+2*k+1:Nat):Int) l:=by
 unfold psO
 rw [oa,bw,vm h];rfl
theorem Ad8 {L n j:Nat} {l:List Snd} {x:Snd} (hj:j<n) (hx:x.1=((L+2*j+1:Nat):Int)):(psO L n l).set j ((psO L n l).getD j 0+x.2.2)=psO L n (l ++ [x]):=by
 rw [YQ hj]
 refine vn λi=>?_
 rw [List.getElem?_set,HW]
 unfold psO
 rw [bw,bw]
 by_cases hi:i<n
 .rw [vm hi]
  by_cases e:j=i
  .subst e
   rw [if_pos rfl,if_pos hi]
   simp only[dz,Gd,byt,hx,if_true]
   congr 1;omega
  .rw [if_neg e]
   have : ¬x.1=((L+2*i+1:Nat):Int):=by omega
   simp only[dz,Gd,byt,this,if_false]
   congr 1;omega
 .rw [if_neg (by omega),ia (by simp;omega)];rfl
theorem Wa {L n:Nat} {l:List Snd} {x:Snd} (hx:∀j,j<n->x.1≠((L+2*j+1:Nat):Int)):psO L n (l ++ [x])=psO L n l:=by
 refine vn λi=>?_
 unfold psO
 rw [bw,bw]
 by_cases hi:i<n
 .rw [vm hi]
  simp only[dz,Gd,byt,hx i hi,if_false]
  congr 1;omega
 .rw [ia (by simp;omega)];rfl
theorem Z6 {a:Int} {l:List Snd} (h:∀k,k<l.length->1<=(l.getD k dS).2.2/\(l.getD k dS).2.2<=1073741824):∀k,k<=l.length->0<=byt a (l.take k)/\byt a (l.take k)<=1073741824*(k:Int)
 | 0,_=>by simp[byt]
 | k+1,hk=>by
  have ih:=Z6 (a:=a) h k (by omega)
  have h1:=h k (by omega)
  have e:l.take (k+1)=l.take k ++ [l.getD k dS]:=by
   rw [vo,oa,gl (by omega)];rfl
  rw [e,Gd]
  simp only[byt]
  split <;> omega
def Ad9 (L n:Nat) (l:List Snd):Prop:=smB l/\∀k,k<l.length->0<=(l.getD k dS).1/\(l.getD k dS).1<((L+2*n:Nat):Int)
def ED:Int×List Lnk×List Snd×List Trp×Dem×List Snd->List PV:=λ(hn,ls,us,ts,d,l) => [.agg [I hn,AS ls,Ay us,CU ts,I d.1,I d.2.1,I d.2.2.1,I d.2.2.2.1,I d.2.2.2.2],Ay l]
def JO:Int×List Lnk×List Snd×List Trp×Dem×List Snd->PV:=λ(hn,ls,us,ts,d,l)=>.agg [Ay (psS ls.length l),ints (psO ls.length ts.length l)]
def RD:Int×List Lnk×List Snd×List Trp×Dem×List Snd->Prop:=λ(hn,ls,us,ts,d,l)=>ls.length<=60/\ts.length<=4/\Ad9 ls.length ts.length l
def e_passage:Nat×Ent:=(41,.v (An ED JO RD))
theorem kA:∀i j,ED i=ED j->i=j:=by
 rintro ⟨_,_,_,_,_,_⟩ ⟨_,_,_,_,_,_⟩ h
 simp only[ED,ix,and_true,s6,qt,qr,true_and,AG,AF,Cq]at h
 simp [tn,h] <;> omega
theorem RF (hn:Int) (ls:List Lnk) (us:List Snd) (ts:List Trp) (d:Dem) (l:List Snd):An ED JO RD [.agg [I hn,AS ls,Ay us,CU ts,I d.1,I d.2.1,I d.2.2.1,I d.2.2.2.1,I d.2.2.2.2],Ay l]=@ite (Option (PV)) (ls.length<=60/\ts.length<=4/\Ad9 ls.length ts.length l) (qo _) (some (.agg [Ay (psS ls.length l),ints (psO ls.length ts.length l)])) none:=Bs kA (hn,ls,us,ts,d,l)
def kB:Prop:=∀(hn:Int) (ls:List Lnk) (us:List Snd) (ts:List Trp) (d:Dem) (l:List Snd) (h:ls.length<=60/\ts.length<=4/\Ad9 ls.length ts.length l) ,VC pk 41 (ED (hn,ls,us,ts,d,l)) (JO (hn,ls,us,ts,d,l))
theorem kC:kB:=by
 rintro hn ls us ts d l ⟨hL,hn4,hsm,hlk⟩
 dsimp only[ED,JO]
 refine Bd AQ (l := []) (Au) [4,5,12] []  Tryz.func41 rfl (by decide +kernel) (N:=52) rfl (by simp) rfl (by kernel_rfl) λhs=>?_
 simp only[AK,s8,ow,and_true,true_and]at hs
 obtain ⟨R1,hR1⟩:∃R1,psS ls.length l=R1:=⟨_,rfl⟩
 obtain ⟨R2,hR2⟩:∃R2,psO ls.length ts.length l=R2:=⟨_,rfl⟩
 rw [hR1,hR2]
 have hll:=hsm.1
 have hni:(ts.length:Int)<=4294967296:=by omega
 simp only[↓bdD,bdP,seval,st0,kp,kd,Tryz.f41,ty3,AO,BF,Be,AR,B5,hni]
 refine Aw [7,8,16,17,18,19,20,21,22,23,24,25,26,27,28,29,30,31,32,33,34,35,36,37,38,39,40,41,42,43,44,45,46,47,48,49,50] l.length (λk ρ st'=>ρ 16=I k/\(∃g,st'.obj 2=some (.arr 0 2 [.agg [.ref 3 g 0 (psS ls.length (l.take k)).length,.ref 1 0 0 ts.length]])/\st'.obj 3=some (.arr g 3 ((psS ls.length (l.take k)).map Ca)))/\st'.obj 1=some (.arr 0 1 ((psO ls.length ts.length (l.take k)).map (.int .i64)))/\st'.obj 0=some (.arr 0 2 [.agg [.nils,.nils]])/\4<=st'.next) (.cell _ 2 0 2 3 [.agg [.nils,.ref 1 0 0 ts.length]] 0 0 ?_ ?_ ?_) ?_ ?_
 .simp only[↓bdD,bdP]
 .rfl
 .decide
 .simp only[↓bdD,bdP,seval,kp,kd,psS,List.filter_nil]
  exact ⟨⟨0,rfl,rfl⟩,by rw[Ad7,List.map_replicate]⟩
 rintro k ρ ⟨ob,M⟩ hk ⟨h16,⟨g,o2,o3⟩,o1,o0,hM⟩
 dsimp only at o2 o3 o1 o0 hM
 have m0:¬M=0:=by omega
 have m1:¬M=1:=by omega
 have m2:¬M=2:=by omega
 have m3:¬M=3:=by omega
 have n0:¬0=M:=by omega
 have n1:¬1=M:=by omega
 have n2:¬2=M:=by omega
 have n3:¬3=M:=by omega
 by_cases hlt:k<l.length
 .have hwk:nm.wrap ((k:Int)+1)=((k+1:Nat):Int):=by rw[Af (by omega) (by omega)];omega
  have hyk:=A7 hlt
  have hb:=hsm.2 k hlt
  have hx:=hlk k hlt
  have hby:=λa=>Z6 (a:=a) hsm.2 k (by omega)
  have htk:l.take (k+1)=l.take k ++ [l.getD k dS]:=by
   rw [vo,oa,gl hlt];rfl
  rw [htk]
  have hpl:(psS ls.length (l.take k)).length<=k:=by
   have := List.length_filter_le (λx:Snd=>decide (x.1<(ls.length:Int))) (l.take k)
   rw [List.length_take]at this
   unfold psS;omega
  generalize l.take k=P at *
  generalize l.getD k dS=x at *
  have wx:nm.wrap (x.1-(ls.length:Int))=x.1-(ls.length:Int):=Af (by omega) (by omega)
  by_cases c:x.1-(ls.length:Int)<0
  .have e1:psS ls.length (P ++ [x])=psS ls.length P ++ [x]:=by
    unfold psS
    rw [ro]
    congr 1
    rw [List.filter_cons_of_pos (by simp;omega)];rfl
   rw [e1,Wa (λj _=>by omega)]
   have hSl:((psS ls.length P).map Ca).length=(psS ls.length P).length:=by rw[ow]
   obtain ⟨S,hS⟩:∃S,psS ls.length P=S:=⟨_,rfl⟩
   rw [hS]at hpl o2 o3 ⊢
   have hts:sy S.length (S.map Ca)=S.map Ca:=sa (by rw[ow];exact cg _)
   have nl:¬S.length+1<=S.length:=by omega
   have jl:S.length<=2147483647:=by omega
   simp only[↓bdD,bdP,seval,kp,kd,ty3,BP,AJ,AO,Be,B5,Ct,h16,hlt,hyk,o2,o3,o1,o0,m0,n0,n1,n2,n3,wx,c,hwk,hts,nl,jl,Av]
   exact ⟨⟨_,rfl,rfl,by rw[qp];rfl⟩,by omega⟩
  .have hps:psS ls.length (P ++ [x])=psS ls.length P:=by
    unfold psS
    rw [ro,List.filter_cons_of_neg (by simp;omega)];simp
   rw [hps]
   obtain ⟨j,hj⟩:∃j:Nat,(j:Int)=x.1-(ls.length:Int):=⟨(x.1-(ls.length:Int)).toNat,by omega⟩
   rw [<-hj]at c
   have wx:=wx.trans hj.symm
   have hmod:vi (j:Int) 2=((j % 2:Nat):Int):=by rw[Int.tmod_eq_emod_of_nonneg (by omega)];rfl
   have hdiv:Int.tdiv (j:Int) 2=((j / 2:Nat):Int):=by rw[Int.tdiv_eq_ediv_of_nonneg (by omega)];rfl
   by_cases c2:j % 2=1
   .have hj2:j / 2<ts.length:=by omega
    have hj2i:((j / 2:Nat):Int)<(ts.length:Int):=by omega
    have e1:=Ad8 (L:=ls.length) (n:=ts.length) (l:=P) hj2 (show x.1=_ by omega)
    have e2:=YQ (L:=ls.length) (l:=P) hj2
    have hv:=hby ((ls.length+2*(j / 2)+1:Nat):Int)
    have c2i:((j % 2:Nat):Int)=1:=by omega
    rw [<-e1]
    have hnt:nth ((psO ls.length ts.length P).map (mt .i64)) (j / 2)=I ((psO ls.length ts.length P).getD (j / 2) 0):=BW 0 (by rw[HW];exact hj2)
    rw [<-e2]at hv
    have hol:(psO ls.length ts.length P).length=ts.length:=HW
    generalize psO ls.length ts.length P=Q at *
    generalize hz:Q.getD (j / 2) 0=z at *
    have wz:nm.wrap (z+x.2.2)=z+x.2.2:=Af (by omega) (by omega)
    have wjj:nm.wrap ((j / 2:Nat):Int)=((j / 2:Nat):Int):=Af (by omega) (by omega)
    generalize j / 2=jj at *
    generalize j % 2=jm at *
    simp only[↓bdD,bdP,seval,kp,kd,ty3,BP,AJ,AO,Be,AR,B5,Ct,h16,hlt,hyk,o2,o3,o1,o0,m0,n0,n1,n2,n3,wx,c,hwk,hmod,hdiv,c2,hj2,hj2i,hnt,hol,wz,wjj,Av]
    exact ⟨⟨_,rfl,rfl⟩,by omega⟩
   .rw [Wa (λi _=>by omega)]
    have c2i:¬((j % 2:Nat):Int)=1:=by omega
    generalize j % 2=jm at *
    simp only[↓bdD,bdP,seval,kp,kd,ty3,BP,AJ,AO,Be,Ct,h16,hlt,hyk,o2,o3,o1,o0,m0,n0,n1,n2,n3,wx,c,hwk,hmod,c2i,Av]
    exact ⟨⟨_,rfl,rfl⟩,by omega⟩
 .have e:k=l.length:=by omega
  subst e
  rw [r7,hR1]at o2 o3
  rw [r7,hR2]at o1
  have hr2:R2.length=ts.length:=by rw[<-hR2];exact HW
  simp only[↓bdD,bdP,seval,Ao,kd,Ac,B5,h16,hlt,o2,o3,o1,o0]
  exact ⟨by omega,sa (by rw[ow];omega)⟩
theorem RG:AM pk e_passage.1 e_passage.2:=Ax λ⟨hn,ls,us,ts,d,l⟩ h=>kC hn ls us ts d l h
end Sim
