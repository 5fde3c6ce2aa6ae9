/- Lemmas. -/
import Derived.Test.YtdfjimjbdakofaaGreatQXC
import Derived.Test.YtdfjimjbdakofaaGreatQUP
set_option maxRecDepth 10000
set_option maxHeartbeats 4000000
set_option linter.all false
open Bool renaming false_and->tq,true_and->ns,and_false->xb
open Classical renaming not_not->t9,propDecidable->qo,byContradiction->pq
open Go.IntKind renaming i64->nm,u64->wg
open Go.Proofs.Tryz renaming prog->pk,f33->v7,f57->wb,f32->wd,f6->ww,f12->w9
open Int renaming add_zero->th,le_refl->pj,le_trans->qj
open List renaming getD_eq_getElem?_getD->oa,cons.injEq->ix,length_map->ow,replicate->ba,length_append->cu,length_replicate->ft,take->sy,drop->ub,drop_replicate->wi,map_set->rx,range->br,ext_getElem->ru,getElem_set->wo,getElem_map->wq,getElem_range->ws,sum_cons->wv,map_cons->nj,mem_cons_of_mem->qk
open Nat renaming le_refl->cg,reduceBEq->r8,le_trans->mm
open Prod renaming ext_iff->tn
open Sim.PV renaming lits.injEq->s6,int.injEq->qt,agg.injEq->qr,small->s8,int->mt
open Sim.Stays renaming const->v8
open Sim.Store renaming new->kp,set->kd
open Sim.TN renaming idx_lt->v9
noncomputable section
namespace Sim
open Go Go.Proofs
attribute [local congr] Ah Ai Ag At Al Aj Aq
theorem Aej {hn:Int} {d:Dem} {y:List (List Int)} (h:shA hn d y) {t:Nat} (ht:t<y.length):((y.getD t []).length:Int)=hn :=
 h.2 _ (by rw[oa,List.getElem?_eq_getElem ht];exact List.getElem_mem _)
def Ge:Int×List Lnk×List Snd×Dem×List (List Int)->List PV:=λ(hn,ls,us,d,y) => [.agg [I hn,AS ls,Ay us,I d.1,I d.2.1,I d.2.2.1,I d.2.2.2.1,I d.2.2.2.2],Hi y]
def L7:Int×List Lnk×List Snd×Dem×List (List Int)->PV:=λ(hn,ls,us,d,y)=>.tuple [I (HY hn ls us d y),I (HX hn ls us d y)]
def e_pbound:Nat×Ent:=(33,.v (An Ge L7 AZ))
theorem wK:∀i j,Ge i=Ge j->i=j:=by
 rintro ⟨_,_,_,_,_⟩ ⟨_,_,_,_,_⟩ h
 simp only[Ge,ix,and_true,s6,qt,qr,true_and,AG,AF,LP]at h
 simp [tn,h] <;> omega
theorem P3 (hn:Int) (ls:List Lnk) (us:List Snd) (d:Dem) (y:List (List Int)):An Ge L7 AZ [.agg [I hn,AS ls,Ay us,I d.1,I d.2.1,I d.2.2.1,I d.2.2.2.1,I d.2.2.2.2],Hi y]=some (.tuple [I (HY hn ls us d y),I (HX hn ls us d y)]):=AD wK (i:=(hn,ls,us,d,y)) trivial
def wM:Prop:=∀(hn:Int) (ls:List Lnk) (us:List Snd) (d:Dem) (y:List (List Int)) ,VC pk 33 (Ge (hn,ls,us,d,y)) (L7 (hn,ls,us,d,y))
theorem wO:wM:=by
 intro hn ls us d y
 dsimp only[Ge,L7]
 refine X2 AQ (l := [e_pcheck,e_cntR,e_mnR,e_mxR,e_runs]) ((Ad LO (Ad Akp (Ad Anq (Ad Anu (Ad YK Au)))))) [] [] 0 1 Tryz.func33 rfl (by decide +kernel) (N:=144) rfl (by simp) rfl (by kernel_rfl) λhs=>?_
 simp only[AK,s8,ow,and_true,true_and]at hs
 generalize hR1:HY hn ls us d y=R1
 generalize hR2:HX hn ls us d y=R2
 unfold HY at hR1
 rw [hR2]at hR1
 unfold HX at hR2
 by_cases h1:Ek hn ls us d=0
 case neg =>
  rw [if_pos h1]at hR2
  have e1:R1=0:=by rw[<-hR1,if_pos (by rw[<-hR2];exact h1)]
  have h2:¬R2=0:=by rw[<-hR2];exact h1
  simp only[↓bdD,bdP,seval,Ao,e_pcheck,CA,e_cntR,e_mnR,e_mxR,e_runs,Ac,Aa,v7,BG,h2,hR2,e1]
 rw [if_neg (λg=>g h1)]at hR2
 obtain ⟨hfk,hb4⟩:=pck_zero.1 h1
 obtain ⟨hf,hdm,hD,hdu⟩:=BL hfk
 obtain ⟨⟨a0,a1⟩,⟨c0,c1⟩,hr⟩:=BR hdm
 obtain ⟨ok,_⟩:=Cj hf
 have hlen:=ok.net.len
 obtain ⟨r0,r1,r2,r3,r4⟩:=hr
 have w1:nm.wrap (d.2.2.2.2-d.2.2.2.1)=(Ap d:Int):=by rw[Af (by omega) (by omega)];omega
 have w2:nm.wrap ((Ap d:Int)+1)=((Ap d+1:Nat):Int):=by rw[Af (by omega) (by omega)];omega
 unfold shE at hR2
 by_cases hA:shA hn d y
 case neg =>
  rw [if_pos hA]at hR2
  subst hR2
  have e1:R1=0:=by rw[<-hR1,if_pos (by decide)]
  by_cases hA1:(y.length:Int)=((Ap d+1:Nat):Int)
  .have hA2:0<=L3 hn y:=fnd_iff.2 λg=>hA ⟨by rw[hA1];omega,g⟩
   simp only[↓bdD,bdP,seval,Ao,kp,kd,e_pcheck,CA,e_cntR,wB,e_mnR,e_mxR,e_runs,Ac,Aa,DB,v7,ty3,AY,BG,BM,Zp,h1,w1,w2,hA1,hA2,e1]
  .simp only[↓bdD,bdP,seval,Ao,kp,kd,e_pcheck,CA,e_cntR,e_mnR,e_mxR,e_runs,Ac,Aa,v7,ty3,AY,BG,BM,h1,w1,w2,hA1,e1]
 have hA1:(y.length:Int)=((Ap d+1:Nat):Int):=by rw[hA.1];omega
 have hA2:¬0<=L3 hn y:=λg=>fnd_iff.1 g hA.2
 rw [if_neg (λg=>g hA)]at hR2
 have hyl:y.length=Ap d+1:=by omega
 have hsm:=λt=>jR (k:=t) hs.2.2
 have hrow:=λ{t:Nat} (ht:t<y.length)=>Aej hA ht
 have htn:(hn.toNat:Int)=hn:=by omega
 simp only[↓bdD,bdP,seval,kp,kd,e_pcheck,CA,e_cntR,wB,e_mnR,e_mxR,e_runs,Ac,Aa,DB,v7,ty3,AY,BG,BM,Zp,h1,w1,w2,hA1,hA2]
 refine Aw [4,5,9,39,40,41,42,43,44,45,46,47,48,49,50,51] y.length (λk ρ st'=>ρ 39=I k/\(∀t,t<k->∀j,j<hn.toNat->0<=pt y t j/\pt y t j<=536870912)/\(st'.obj 0=some (.arr 0 5 [.agg [I d.1,I d.2.1,I d.2.2.1,I d.2.2.2.1,I d.2.2.2.2]])/\st'.next=1/\WF st')) (.refl _) ?_ ?_
 .simp only[↓bdD,bdP]
  refine ⟨λt ht=>absurd ht (by omega),λi o hi=>?_⟩
  simp only[Ab]at hi
  dsimp only
  by_cases e:i=0
  .omega
  .simp [e]at hi
 rintro k ρ ⟨O,M⟩ hk ⟨h39,hI,o0,hM,hwf⟩
 dsimp only at o0 hM
 subst hM
 by_cases hlt:k<y.length
 .have hwk:nm.wrap ((k:Int)+1)=((k+1:Nat):Int):=by rw[Af (by omega) (by omega)];omega
  have hki:(k:Int)<((Ap d+1:Nat):Int):=by omega
  have hl:=hrow hlt
  have hpt:∀j,(y.getD k []).getD j 0=pt y k j:=λj=>rfl
  generalize hyk:y.getD k []=l at *
  have hne:l ≠ []:=λe=>by rw[e]at hl;simp at hl;omega
  have hln:l.length=hn.toNat:=by omega
  have hmn:=wE (l:=l) (b:=0) (cg _) (by omega)
  have hmx:=wF (l:=l) (b:=536870912) (cg _) (by omega)
  by_cases m1:mnT l l.length<0
  .have hB:¬shB hn y:=λg=>by
    have := hmn.2 λj hj=>by rw[hpt];exact (g k hlt j (by omega)).1
    omega
   rw [if_pos hB]at hR2
   subst hR2
   have e1:R1=0:=by rw[<-hR1,if_pos (by decide)]
   simp only[↓bdD,bdP,seval,Ao,wC,Db,AR,BM,h39,hlt,hki,hA1,hyk,hne,m1,e1]
  .by_cases m2:536870912<mxT l l.length
   .have hB:¬shB hn y:=λg=>by
     have := hmx.2 λj hj=>by rw[hpt];exact (g k hlt j (by omega)).2
     omega
    rw [if_pos hB]at hR2
    subst hR2
    have e1:R1=0:=by rw[<-hR1,if_pos (by decide)]
    simp only[↓bdD,bdP,seval,Ao,wC,Agy,Db,AR,BM,h39,hlt,hki,hA1,hyk,hne,m1,m2,e1]
   .simp only[↓bdD,bdP,seval,wC,Agy,Db,AR,BM,h39,hlt,hki,hwk,hA1,hyk,hne,m1,m2]
    refine ⟨λt ht j hj=>?_,o0,hwf⟩
    by_cases e:t=k
    .subst e
     have h1:=hmn.1 (by omega) j (by omega)
     have h2:=hmx.1 (by omega) j (by omega)
     rw [hpt]at h1 h2
     exact ⟨h1,h2⟩
    .exact hI t (by omega) j hj
 .have e:k=y.length:=by omega
  subst e
  have hB:shB hn y:=hI
  rw [if_neg (λg=>g hB)]at hR2
  simp only[↓bdD,bdP,seval,h39,hA1]
  refine Aw [4,5,10,11,12,52,53,54,55,56,57,58,59,60,61,62,63,64,65,66,67,68,69,70,71,72,73,74,75,76,77,78] (y.length-1) (λt ρ st'=>ρ 10=I ((t+1:Nat):Int)/\(∀s,s<t->∀j,j<hn.toNat->pt y (s+1) j<=pt y s j)/\(st'.obj 0=some (.arr 0 5 [.agg [I d.1,I d.2.1,I d.2.2.1,I d.2.2.2.1,I d.2.2.2.2]])/\st'.next=1/\WF st')) (.refl _) ?_ ?_
  .simp only[↓bdD,bdP]
   exact ⟨λt ht=>absurd ht (by omega),o0,hwf⟩
  rintro t ρ2 ⟨O2,M2⟩ ht ⟨h10,hI2,o02,hM2,hwf2⟩
  dsimp only at o02 hM2
  subst hM2
  by_cases hltt:t<y.length-1
  .have ht1:t+1<y.length:=by omega
   have ht0:t<y.length:=by omega
   have ht1i:((t+1:Nat):Int)<((Ap d+1:Nat):Int):=by omega
   have ht0i:(t:Int)<((Ap d+1:Nat):Int):=by omega
   have wt1:nm.wrap (((t+1:Nat):Int)+1)=((t+1+1:Nat):Int):=by rw[Af (by omega) (by omega)];omega
   have wt0:nm.wrap (((t+1:Nat):Int)-1)=(t:Int):=by rw[Af (by omega) (by omega)];omega
   have hl1:=hrow ht1
   have hl0:=hrow ht0
   have hs0:=hsm t
   have hp1:∀j,(y.getD (t+1) []).getD j 0=pt y (t+1) j:=λj=>rfl
   have hp0:∀j,(y.getD t []).getD j 0=pt y t j:=λj=>rfl
   generalize hy1:y.getD (t+1) []=l1 at *
   generalize hy0:y.getD t []=l0 at *
   simp only[↓bdD,bdP,seval,Db,AR,BM,h10,hA1,ht1,ht1i,hy1]
   refine Aw [4,5,11,12,63,64,65,66,67,68,69,70,71,72,73,74,75,76,77,78] l1.length (λj ρ st'=>ρ 63=I j/\(∀i,i<j->pt y (t+1) i<=pt y t i)/\(st'.obj 0=some (.arr 0 5 [.agg [I d.1,I d.2.1,I d.2.2.1,I d.2.2.2.1,I d.2.2.2.2]])/\st'.next=1/\WF st')) (.refl _) ?_ ?_
   .simp only[↓bdD,bdP]
    exact ⟨λt ht=>absurd ht (by omega),o02,hwf2⟩
   rintro j ρ3 ⟨O3,M3⟩ hj ⟨h63,hI3,o03,hM3,hwf3⟩
   dsimp only at o03 hM3
   subst hM3
   by_cases hltj:j<l1.length
   .have hltj0:j<l0.length:=by omega
    have wj:nm.wrap ((j:Int)+1)=((j+1:Nat):Int):=by rw[Af (by omega) (by omega)];omega
    by_cases c:pt y t j<pt y (t+1) j
    .have hC:¬shC hn y:=λg=>by have:=g t hltt j (by omega);omega
     rw [if_pos hC]at hR2
     subst hR2
     have e1:R1=0:=by rw[<-hR1,if_pos (by decide)]
     simp only[↓bdD,bdP,seval,Ao,Db,ty3,AR,BM,h63,h10,hltj,hltj0,ht0,ht0i,hA1,wt0,hy0,hp1,hp0,c,e1]
    .simp only[↓bdD,bdP,seval,Db,ty3,AR,BM,h63,h10,hltj,hltj0,ht0,ht0i,hA1,wt0,wj,hy0,hp1,hp0,c]
     refine ⟨λi hi=>?_,o03,hwf3⟩
     by_cases e:i=j
     .subst e;omega
     .exact hI3 i (by omega)
   .have e:j=l1.length:=by omega
    subst e
    simp only[↓bdD,bdP,seval,h63,h10,wt1]
    refine ⟨hltt,?_,λs hs j hj=>?_,o03,hwf3⟩
    .rw [AL (by decide +kernel)]
     simp only[↓bdD,bdP,r8]
    .by_cases e:s=t
     .subst e;exact hI3 j (by omega)
     .exact hI2 s (by omega) j hj
  .have e:t=y.length-1:=by omega
   subst e
   have hC:shC hn y:=hI2
   rw [if_neg (λg=>g hC)]at hR2
   subst hR2
   rw [if_neg (λg=>g rfl)]at hR1
   have e2:y.length-1=Ap d:=by omega
   have e3:y.length-1+1=Ap d+1:=by omega
   rw [e3]at h10
   have hDl:Ap d<y.length:=by omega
   have h0l:0<y.length:=by omega
   have hDi:(Ap d:Int)<((Ap d+1:Nat):Int):=by omega
   have h0i:(0:Int)<((Ap d+1:Nat):Int):=by omega
   obtain ⟨fa,hfa⟩:∃u,d.1.toNat=u:=⟨_,rfl⟩
   obtain ⟨fc,hfc⟩:∃u,d.2.1.toNat=u:=⟨_,rfl⟩
   have hf1:d.1=(fa:Int):=by omega
   have hf2:d.2.1=(fc:Int):=by omega
   have hlD:=hrow hDl
   have hl0:=hrow h0l
   have hpD:∀j,(y.getD (Ap d) []).getD j 0=pt y (Ap d) j:=λj=>rfl
   have hp0:∀j,(y.getD 0 []).getD j 0=pt y 0 j:=λj=>rfl
   have bD:=hB (Ap d) hDl fc (by omega)
   have b0:=hB 0 h0l fa (by omega)
   have hfa1:fa<(y.getD 0 []).length:=by omega
   have hfc1:fc<(y.getD (Ap d) []).length:=by omega
   have hfai:d.1<((y.getD 0 []).length:Int):=by omega
   have hfci:d.2.1<((y.getD (Ap d) []).length:Int):=by omega
   have w3:nm.wrap (pt y (Ap d) fc-pt y 0 fa)=pt y (Ap d) fc-pt y 0 fa:=Af (by omega) (by omega)
   have hbI0:KS ls us d y 0=d.2.2.1*(pt y (Ap d) fc-pt y 0 fa):=by unfold KS;rw[hfa,hfc,As,Int.sub_zero]
   have hb1:=L6 hf hB ⟨by omega,hb4⟩ r2 hD hyl ⟨a0,a1⟩ ⟨c0,c1⟩ (n:=0) (Nat.zero_le _)
   rw [hbI0]at hb1
   have w4:nm.wrap (d.2.2.1*(pt y (Ap d) fc-pt y 0 fa))=KS ls us d y 0:=by rw[hbI0,Af (by omega) (by omega)]
   obtain ⟨O4,hO4⟩:∃O4:Nat->Option IObj,Ab O2 1 (some (.arr 0 1 [I (KS ls us d y 0)]))=O4:=⟨_,rfl⟩
   have hw4:WF ⟨O4,2⟩:=λi o hi=>by
    dsimp only at hi ⊢
    rw [<-hO4]at hi
    simp only[Ab]at hi
    split at hi
    .omega
    .have := hwf2 i o hi
     dsimp only at this
     omega
   have sp:=Tj ⟨hn,ls,us,d⟩ (st:=⟨O4,2⟩) hf
   simp only[DM]at sp
   simp only[↓bdD,bdP,seval,kp,kd,Ac,Aa,Db,ty3,AY,AR,BG,BM,h10,hA1,w1,w3,w4,hfa,hfc,a0,c0,hfai,hfci,hDl,h0l,hDi,h0i,hfa1,hfc1,hpD,hp0,o02,Av,hO4,sp]
   have b0:rnO O4 2 us 0=some (.arr 0 5 [.agg [I d.1,I d.2.1,I d.2.2.1,I d.2.2.2.1,I d.2.2.2.2]]):=by simp[rnO,<-hO4,Ab,o02]
   have b1:rnO O4 2 us 1=some (.arr 0 1 [I (KS ls us d y 0)]):=by simp[rnO,<-hO4,Ab]
   have b2:rnO O4 2 us 2=some (.map 0 (.ints 2) (us.map tkE)):=by simp[rnO]
   have b3:rnO O4 2 us 3=some (.arr 0 1 [.mref 2 0]):=by simp[rnO]
   generalize rnO O4 2 us=O5 at *
   have hyr:=YL (hn:=hn) (M:=2) (D:=Ap d) hf hdu r2 r4
   refine HF (ys:=LK ls us d.2.2.2.1 (Ap d)) (f:=85) (first := []) (captured := [frP hn ls us d,.ptr 3 0 0 0]) rfl rfl (A8 rfl) ?_ hyr rfl ?_ (by kernel_rfl) (by kernel_rfl)
    (λi st'=>(st'.obj 0=some (.arr 0 5 [.agg [I d.1,I d.2.1,I d.2.2.1,I d.2.2.2.1,I d.2.2.2.2]])/\0<st'.next)/\(st'.obj 1=some (.arr 0 1 [I (KS ls us d y i)])/\1<st'.next)/\(st'.obj 2=some (.map 0 (.ints 2) (us.map tkE))/\2<st'.next)/\(st'.obj 3=some (.arr 0 1 [.mref 2 0])/\3<st'.next)) (λe st'=>False) ?_ ?_ ?_ ?_ ?_ ?_ ?_ ?_
   .simp only[↓bdD,bdP]
   .exact PZ
   .exact λi=>.and (.obj λ_=>by simp) (.and (.obj λ_=>by simp) (.and (.obj λ_=>by simp) (.obj λ_=>by simp)))
   .exact λe=>v8
   .exact ⟨⟨b0,by simp⟩,⟨b1,by simp⟩,⟨b2,by simp⟩,⟨b3,by simp⟩⟩
   .exact λi st' h=>⟨h.2.2.1.1,h.2.2.2.1⟩
   .rintro i v ⟨O6,M6⟩ id lr hv hid hlp ⟨⟨g0,_⟩,⟨g1,_⟩,⟨g2,_⟩,⟨g3,hM6⟩⟩
    obtain ⟨hi,rfl⟩:=TC hv
    dsimp only at hid hlp g0 g1 g2 g3 hM6
    obtain ⟨htD,hkL⟩:=v9 (i:=i) hi
    have hsc:=kE (ls:=ls) (us:=us) (d:=d) (y:=y) (n:=i)
    have hb2:=L6 hf hB ⟨by omega,hb4⟩ r2 hD hyl ⟨a0,a1⟩ ⟨c0,c1⟩ (n:=i) (Nat.le_of_lt hi)
    have hb3:=L6 hf hB ⟨by omega,hb4⟩ r2 hD hyl ⟨a0,a1⟩ ⟨c0,c1⟩ (n:=i+1) hi
    generalize i / ls.length=t at *
    generalize i % ls.length=k at *
    have ht1:t+1<y.length:=by omega
    have ht0:t<y.length:=by omega
    have ht1i:((t+1:Nat):Int)<((Ap d+1:Nat):Int):=by omega
    have ht0i:(t:Int)<((Ap d+1:Nat):Int):=by omega
    obtain ⟨e1,e2',e3',e4,e5,e6⟩:=aE hf hB (y:=y) ⟨by omega,hb4⟩ r2 ht1 hkL
    have hend:=ok.net.ends k hkL
    have hl1:=hrow ht1
    have hl0':=hrow ht0
    have hp1:∀j,(y.getD (t+1) []).getD j 0=pt y (t+1) j:=λj=>rfl
    have hp0':∀j,(y.getD t []).getD j 0=pt y t j:=λj=>rfl
    have q1:=hB (t+1) ht1 (ls.getD k dL).2.1.toNat (by omega)
    have q0:=hB t ht0 (ls.getD k dL).1.toNat (by omega)
    have w5:nm.wrap (d.2.2.2.1+(t:Int)-d.2.2.2.1)=(t:Int):=by rw[Af (by omega) (by omega)];omega
    have w6:nm.wrap ((t:Int)+1)=((t+1:Nat):Int):=by rw[Af (by omega) (by omega)];omega
    have hk1:=YT (ls:=ls) (us:=us) (r:=d.2.2.2.1) (k:=k) (t:=t)
    have hk2:=YU (ls:=ls) (us:=us) (r:=d.2.2.2.1) (k:=k) (t:=t)
    have hk3:=YV (ls:=ls) (us:=us) (r:=d.2.2.2.1) (k:=k) (t:=t)
    have hk4:=TB (ls:=ls) (us:=us) (r:=d.2.2.2.1) (k:=k) (t:=t)
    have hk5:=aD (ls:=ls) (us:=us) (r:=d.2.2.2.1) (k:=k) (t:=t)
    unfold YR at hsc e5 e6
    generalize ls.getD k dL=lk at *
    generalize lfM ls us (k:Nat) (d.2.2.2.1+(t:Int))=lf at *
    generalize Dk ls (k:Nat) (d.2.2.2.1+(t:Int))=pr at *
    have hto:lk.2.1<((y.getD (t+1) []).length:Int):=by omega
    have hfr:lk.1<((y.getD t []).length:Int):=by omega
    have hto0:0<=lk.2.1:=by omega
    have hfr0:0<=lk.1:=by omega
    have hton:lk.2.1.toNat<(y.getD (t+1) []).length:=by omega
    have hfrn:lk.1.toNat<(y.getD t []).length:=by omega
    have n0:¬id=0:=λe=>by rw[e,g0]at hlp;cases hlp
    have n1:¬id=1:=λe=>by rw[e,g1]at hlp;cases hlp
    have n2:¬id=2:=λe=>by rw[e,g2]at hlp;cases hlp
    have n3:¬id=3:=λe=>by rw[e,g3]at hlp;cases hlp
    have m0:¬0=id:=λe=>n0 e.symm
    have m1:¬1=id:=λe=>n1 e.symm
    have m2:¬2=id:=λe=>n2 e.symm
    have m3:¬3=id:=λe=>n3 e.symm
    have o1:¬M6=id:=by omega
    have o2:¬id=M6:=by omega
    have o3:¬0=M6:=by omega
    have o4:¬1=M6:=by omega
    have o5:¬2=M6:=by omega
    have o6:¬3=M6:=by omega
    have o7:¬M6=0:=by omega
    have o8:¬M6=1:=by omega
    simp only[↓bdD,bdP,seval,kp,kd,Db,ty3,AY,AR,BM,CS,En,Fe,hlp,g0,g1,n1,m0,m1,o1,o2,o3,o4,o7,GL,CM,w5,w6,hk1,hk2,hk3,hk4,hk5,CC,hA1,ht1,ht0,ht1i,ht0i,hto,hfr,hto0,hfr0,hton,hfrn,hp1,hp0',Av]
    generalize pt y (t+1) lk.2.1.toNat=p at *
    generalize pt y t lk.1.toNat=q at *
    have v1:nm.wrap (nm.wrap (p-q)-pr)=p-q-pr:=by rw[Af (n:=p-q) (by omega) (by omega),Af (by omega) (by omega)]
    have v2:(if lf<d.2.2.1 then lf else d.2.2.1)=min d.2.2.1 lf:=by split <;> omega
    have v3:(if 0<p-q-pr then p-q-pr else 0)=max 0 (p-q-pr):=by split <;> omega
    intro rb
    rw [v1,v2,v3]
    generalize min d.2.2.1 lf*max 0 (p-q-pr)=z at *
    refine ⟨by omega,by omega,⟨?_,by omega⟩,⟨?_,by omega⟩,?_,by omega⟩
    .rw [Af (n:=z) (by omega) (by omega),Af (by omega) (by omega),hsc]
    .simp only[Ab]
     rw [if_neg m2,if_neg o5,g2]
    .simp only[Ab]
     rw [if_neg m3,if_neg o6,g3]
   .rintro ⟨O6,M6⟩ ⟨_,⟨g1,_⟩,_⟩
    dsimp only at g1
    rw [PY,hR1]at g1
    simp only[↓bdD,bdP,seval,Ao,ty3,g1]
   .exact λj st' h=>h.elim
   .exact λst' h=>h.elim
theorem wP:AM pk e_pbound.1 e_pbound.2:=Ax λ⟨hn,ls,us,d,y⟩ h=>wO hn ls us d y
def TD (hn:Int) (ls:List Lnk) (us l:List Snd) (d:Dem):Prop:=Cz hn ls l d=0/\∀i,i<l.length->(l.getD i dS).2.2<=lfM ls us (l.getD i dS).1 (l.getD i dS).2.1
instance {hn:Int} {ls:List Lnk} {us l:List Snd} {d:Dem}:Decidable (TD hn ls us l d):=inferInstanceAs (Decidable (_/\_))
def kF (hn:Int) (ls:List Lnk) (us:List Snd) (d:Dem) (l:List Snd) (y:List (List Int)):Prop:=HX hn ls us d y=0/\TD hn ls us l d/\BY hn ls l<=HY hn ls us d y
instance {hn:Int} {ls:List Lnk} {us:List Snd} {d:Dem} {l:List Snd} {y:List (List Int)}:Decidable (kF hn ls us d l y):=inferInstanceAs (Decidable (_/\_))
theorem Aek {hn:Int} {ls:List Lnk} {us:List Snd} {d:Dem} {y:List (List Int)} (h:HX hn ls us d y=0):Ek hn ls us d=0/\shE hn d y=0:=by
 unfold HX at h
 split at h
 .contradiction
 .rename_i c;exact⟨t9.1 c,h⟩
abbrev tkA (ts:List Int) (x:Int):Int:=ts.getD x.toNat 0
def Aku (hn:Int) (d:Dem) (ts:List Int):Prop:=(ts.length:Int)=hn/\tkA ts d.1<=d.2.2.2.1/\d.2.2.2.2<tkA ts d.2.1
instance {hn:Int} {d:Dem} {ts:List Int}:Decidable (Aku hn d ts):=inferInstanceAs (Decidable (_/\_))
def NK (hn:Int) (ls:List Lnk) (us:List Snd) (d:Dem) (ts:List Int):Int:=if Ek hn ls us d≠0 then Ek hn ls us d else if ¬Aku hn d ts then 1 else 0
def brI (ls:List Lnk) (us:List Snd) (d:Dem) (ts:List Int) (t k:Nat):Int :=
 if tkA ts (ls.getD k dL).1<=d.2.2.2.1+(t:Int)/\d.2.2.2.1+((t+1:Nat):Int)<tkA ts (ls.getD k dL).2.1 then lfM ls us (k:Nat) (d.2.2.2.1+(t:Int))else 0
def Ng (ls:List Lnk) (us:List Snd) (d:Dem) (ts:List Int) (n:Nat):Int:=As (λi=>brI ls us d ts (i / ls.length) (i % ls.length)) n
def P4 (hn:Int) (ls:List Lnk) (us:List Snd) (d:Dem) (ts:List Int):Int:=if NK hn ls us d ts≠0 then 0 else Ng ls us d ts (Ap d*ls.length)
section
variable {hn:Int} {ls:List Lnk} {us:List Snd}
theorem Akv (hf:Cy hn ls us=0) {k:Nat} {t:Int} (hk:k<ls.length):0<=lfM ls us (k:Nat) t/\lfM ls us (k:Nat) t<=1073741824:=by
 obtain ⟨ok,_⟩:=Cj hf
 have q1:=Hf hf (k:=(k:Int)) (t:=t) ⟨by omega,by omega⟩
 have q2:=GD ok.net (link:=(k:Int)) (tick:=t) (by omega) (by omega)
 unfold lfM
 omega
theorem Ael {d:Dem} {ts:List Int} (hf:Cy hn ls us=0) {t k:Nat} (hk:k<ls.length):0<=brI ls us d ts t k/\brI ls us d ts t k<=1073741824:=by
 have := Akv hf (t:=d.2.2.2.1+(t:Int)) hk
 unfold brI
 split <;> omega
theorem Wc {d:Dem} {ts:List Int} (hf:Cy hn ls us=0) (hD:Ap d<=32) {n:Nat} (hn':n<=Ap d*ls.length):0<=Ng ls us d ts n/\Ng ls us d ts n<=2061584302080:=by
 obtain ⟨ok,_⟩:=Cj hf
 have hl:=ok.net.len
 have h1:=P1 (f:=λi=>brI ls us d ts (i / ls.length) (i % ls.length)) (B:=1073741824) (n:=n) λi hi=>by
  obtain ⟨h1,h2⟩:=v9 (i:=i) (Nat.lt_of_lt_of_le hi hn')
  exact Ael hf h2
 have hn2:n<=1920:=mm hn' (mm (Nat.mul_le_mul hD hl) (by decide))
 unfold Ng
 omega
end
theorem kG {ls:List Lnk} {us:List Snd} {d:Dem} {ts:List Int} {n:Nat}:Ng ls us d ts (n+1)=Ng ls us d ts n+brI ls us d ts (n / ls.length) (n % ls.length):=by
 unfold Ng
 rw [As]
def KT:Int×List Lnk×List Snd×Dem×List Int->List PV:=λ(hn,ls,us,d,ts) => [.agg [I hn,AS ls,Ay us,I d.1,I d.2.1,I d.2.2.1,I d.2.2.2.1,I d.2.2.2.2],ints ts]
def TE:Int×List Lnk×List Snd×Dem×List Int->PV:=λ(hn,ls,us,d,ts)=>.tuple [I (P4 hn ls us d ts),I (NK hn ls us d ts)]
def e_pbar:Nat×Ent:=(57,.v (An KT TE AZ))
theorem Akw:∀i j,KT i=KT j->i=j:=by
 rintro ⟨_,_,_,_,_⟩ ⟨_,_,_,_,_⟩ h
 simp only[KT,ix,and_true,s6,qt,qr,true_and,B7,AG,AF]at h
 simp [tn,h] <;> omega
theorem Akx (hn:Int) (ls:List Lnk) (us:List Snd) (d:Dem) (ts:List Int):An KT TE AZ [.agg [I hn,AS ls,Ay us,I d.1,I d.2.1,I d.2.2.1,I d.2.2.2.1,I d.2.2.2.2],ints ts]=some (.tuple [I (P4 hn ls us d ts),I (NK hn ls us d ts)]):=AD Akw (i:=(hn,ls,us,d,ts)) trivial
def Aky:Prop:=∀(hn:Int) (ls:List Lnk) (us:List Snd) (d:Dem) (ts:List Int) ,VC pk 57 (KT (hn,ls,us,d,ts)) (TE (hn,ls,us,d,ts))
theorem Akz:Aky:=by
 intro hn ls us d ts
 dsimp only[KT,TE]
 refine X2 AQ (l := [e_pcheck,e_runs]) ((Ad LO (Ad YK Au))) [] [] 0 1 Tryz.func57 rfl (by decide +kernel) (N:=75) rfl (by simp) rfl (by kernel_rfl) λhs=>?_
 simp only[AK,s8,ow,and_true,true_and]at hs
 generalize hR1:P4 hn ls us d ts=R1
 generalize hR2:NK hn ls us d ts=R2
 unfold P4 at hR1
 rw [hR2]at hR1
 unfold NK at hR2
 by_cases h1:Ek hn ls us d=0
 case neg =>
  rw [if_pos h1]at hR2
  have e1:R1=0:=by rw[<-hR1,if_pos (by rw[<-hR2];exact h1)]
  have h2:¬R2=0:=by rw[<-hR2];exact h1
  simp only[↓bdD,bdP,seval,Ao,e_pcheck,CA,e_runs,Ac,Aa,wb,BG,h2,hR2,e1]
 rw [if_neg (λg=>g h1)]at hR2
 obtain ⟨hfk,hb4⟩:=pck_zero.1 h1
 obtain ⟨hf,hdm,hD,hdu⟩:=BL hfk
 obtain ⟨⟨a0,a1⟩,⟨c0,c1⟩,hr⟩:=BR hdm
 obtain ⟨ok,_⟩:=Cj hf
 have hlen:=ok.net.len
 obtain ⟨r0,r1,r2,r3,r4⟩:=hr
 by_cases hA1:(ts.length:Int)=hn
 case neg =>
  rw [if_pos (λg=>hA1 g.1)]at hR2
  subst hR2
  have e1:R1=0:=by rw[<-hR1,if_pos (by decide)]
  simp only[↓bdD,bdP,seval,Ao,e_pcheck,CA,e_runs,Ac,Aa,wb,ty3,AJ,AR,BG,h1,hA1,e1]
 have hai:d.1<(ts.length:Int):=by omega
 have hci:d.2.1<(ts.length:Int):=by omega
 have han:d.1.toNat<ts.length:=by omega
 have hcn:d.2.1.toNat<ts.length:=by omega
 have hpA:ts.getD d.1.toNat 0=tkA ts d.1:=rfl
 have hpC:ts.getD d.2.1.toNat 0=tkA ts d.2.1:=rfl
 by_cases hA2:d.2.2.2.1<tkA ts d.1
 .rw [if_pos (λg=>by have:=g.2.1;omega)]at hR2
  subst hR2
  have e1:R1=0:=by rw[<-hR1,if_pos (by decide)]
  simp only[↓bdD,bdP,seval,Ao,e_pcheck,CA,e_runs,Ac,Aa,wb,ty3,AJ,AY,AR,BG,h1,hA1,han,a0,a1,hpA,hA2,e1]
 by_cases hA3:tkA ts d.2.1<=d.2.2.2.2
 .rw [if_pos (λg=>by have:=g.2.2;omega)]at hR2
  subst hR2
  have e1:R1=0:=by rw[<-hR1,if_pos (by decide)]
  simp only[↓bdD,bdP,seval,Ao,e_pcheck,CA,e_runs,Ac,Aa,wb,ty3,AJ,AY,AR,BG,h1,hA1,han,hcn,a0,a1,c0,c1,hpA,hpC,hA2,hA3,e1]
 have hP:Aku hn d ts:=⟨hA1,by omega,by omega⟩
 rw [if_neg (λg=>g hP)]at hR2
 subst hR2
 rw [if_neg (λg=>g rfl)]at hR1
 have hz:(0:Int)=Ng ls us d ts 0:=rfl
 obtain ⟨O4,hO4⟩:∃O4:Nat->Option IObj,Ab (λi=>if i<0 then some (IObj.arr 0 1 [])else none) 0 (some (.arr 0 1 [I 0]))=O4:=⟨_,rfl⟩
 have hw4:WF ⟨O4,1⟩:=λi o hi=>by
  dsimp only at hi ⊢
  rw [<-hO4]at hi
  simp only[Ab]at hi
  split at hi
  .omega
  .simp at hi
 have o40:O4 0=some (.arr 0 1 [I 0]):=by rw[<-hO4];simp[Ab]
 have o41:Ab O4 0 (some (.arr 0 1 [I 0]))=O4:=JA o40
 have sp:=Tj ⟨hn,ls,us,d⟩ (st:=⟨O4,1⟩) hf
 simp only[DM]at sp
 simp only[↓bdD,bdP,seval,kp,kd,e_pcheck,CA,e_runs,Ac,Aa,wb,ty3,AJ,AY,AR,BG,h1,hA1,han,hcn,a0,a1,c0,c1,hpA,hpC,hA2,hA3,hO4,o40,o41,sp]
 have b1:rnO O4 1 us 0=some (.arr 0 1 [I (Ng ls us d ts 0)]):=by simp[rnO,<-hO4,Ab,Ng,As]
 have b2:rnO O4 1 us 1=some (.map 0 (.ints 2) (us.map tkE)):=by simp[rnO]
 have b3:rnO O4 1 us 2=some (.arr 0 1 [.mref 1 0]):=by simp[rnO]
 generalize rnO O4 1 us=O5 at *
 have hyr:=YL (hn:=hn) (M:=1) (D:=Ap d) hf hdu r2 r4
 refine HF (ys:=LK ls us d.2.2.2.1 (Ap d)) (f:=85) (first := []) (captured := [frP hn ls us d,.ptr 2 0 0 0]) rfl rfl (A8 rfl) ?_ hyr rfl ?_ (by kernel_rfl) (by kernel_rfl)
  (λi st'=>(st'.obj 0=some (.arr 0 1 [I (Ng ls us d ts i)])/\0<st'.next)/\(st'.obj 1=some (.map 0 (.ints 2) (us.map tkE))/\1<st'.next)/\(st'.obj 2=some (.arr 0 1 [.mref 1 0])/\2<st'.next)) (λe st'=>False) ?_ ?_ ?_ ?_ ?_ ?_ ?_ ?_
 .simp only[↓bdD,bdP]
 .exact PZ
 .exact λi=>.and (.obj λ_=>by simp) (.and (.obj λ_=>by simp) (.obj λ_=>by simp))
 .exact λe=>v8
 .exact ⟨⟨b1,by simp⟩,⟨b2,by simp⟩,⟨b3,by simp⟩⟩
 .exact λi st' h=>⟨h.2.1.1,h.2.2.1⟩
 .rintro i v ⟨O6,M6⟩ id lr hv hid hlp ⟨⟨g1,_⟩,⟨g2,_⟩,⟨g3,hM6⟩⟩
  obtain ⟨hi,rfl⟩:=TC hv
  dsimp only at hid hlp g1 g2 g3 hM6
  obtain ⟨htD,hkL⟩:=v9 (i:=i) hi
  have hsc:=kG (ls:=ls) (us:=us) (d:=d) (ts:=ts) (n:=i)
  have hb2:=Wc (ts:=ts) hf hD (n:=i) (Nat.le_of_lt hi)
  have hb3:=Wc (ts:=ts) hf hD (n:=i+1) hi
  generalize i / ls.length=t at *
  generalize i % ls.length=k at *
  have hend:=ok.net.ends k hkL
  have w6:nm.wrap (d.2.2.2.1+(t:Int)+1)=d.2.2.2.1+((t+1:Nat):Int):=by rw[Af (by omega) (by omega)];omega
  have hk1:=YT (ls:=ls) (us:=us) (r:=d.2.2.2.1) (k:=k) (t:=t)
  have hk2:=YU (ls:=ls) (us:=us) (r:=d.2.2.2.1) (k:=k) (t:=t)
  have hk3:=YV (ls:=ls) (us:=us) (r:=d.2.2.2.1) (k:=k) (t:=t)
  have hk4:=TB (ls:=ls) (us:=us) (r:=d.2.2.2.1) (k:=k) (t:=t)
  unfold brI at hsc
  generalize ls.getD k dL=lk at *
  generalize lfM ls us (k:Nat) (d.2.2.2.1+(t:Int))=lf at *
  have hto:lk.2.1<(ts.length:Int):=by omega
  have hfr:lk.1<(ts.length:Int):=by omega
  have hto':lk.2.1<hn:=by omega
  have hfr':lk.1<hn:=by omega
  have hto0:0<=lk.2.1:=by omega
  have hfr0:0<=lk.1:=by omega
  have hton:lk.2.1.toNat<ts.length:=by omega
  have hfrn:lk.1.toNat<ts.length:=by omega
  have hpF:ts.getD lk.1.toNat 0=tkA ts lk.1:=rfl
  have hpT:ts.getD lk.2.1.toNat 0=tkA ts lk.2.1:=rfl
  have n1:¬id=0:=λe=>by rw[e,g1]at hlp;cases hlp
  have n2:¬id=1:=λe=>by rw[e,g2]at hlp;cases hlp
  have n3:¬id=2:=λe=>by rw[e,g3]at hlp;cases hlp
  have m1:¬0=id:=λe=>n1 e.symm
  have m2:¬1=id:=λe=>n2 e.symm
  have m3:¬2=id:=λe=>n3 e.symm
  have o1:¬M6=id:=by omega
  have o2:¬id=M6:=by omega
  have o4:¬0=M6:=by omega
  have o5:¬1=M6:=by omega
  have o6:¬2=M6:=by omega
  have o8:¬M6=0:=by omega
  by_cases x1:tkA ts lk.1<=d.2.2.2.1+(t:Int)
  .by_cases x2:d.2.2.2.1+((t+1:Nat):Int)<tkA ts lk.2.1
   .rw [if_pos ⟨x1,x2⟩]at hsc
    have w7:nm.wrap (Ng ls us d ts i+lf)=Ng ls us d ts (i+1):=by rw[hsc,Af (by omega) (by omega)]
    simp only[↓bdD,bdP,seval,kp,kd,ty3,AR,CS,En,Fe,hlp,g1,n1,m1,o1,o2,o4,o8,GL,CM,w6,w7,hk1,hk2,hk3,hk4,CC,hA1,hto',hfr',hto0,hfr0,hton,hfrn,hpF,hpT,x1,x2,Av]
    intro rb
    refine ⟨by omega,by omega,⟨?_,by omega⟩,?_,by omega⟩ <;> simp only[Ab]
    .rw [if_neg m2,if_neg o5,g2]
    .rw [if_neg m3,if_neg o6,g3]
   .rw [if_neg (λg=>x2 g.2),th]at hsc
    simp only[↓bdD,bdP,seval,kp,kd,ty3,AR,CS,En,Fe,hlp,g1,m1,o1,o2,o4,o8,GL,CM,w6,hk1,hk2,hk3,CC,hA1,hto',hfr',hto0,hfr0,hton,hfrn,hpF,hpT,x1,x2,hsc,Av]
    intro rb
    refine ⟨by omega,by omega,⟨?_,by omega⟩,?_,by omega⟩ <;> simp only[Ab]
    .rw [if_neg m2,if_neg o5,g2]
    .rw [if_neg m3,if_neg o6,g3]
  .rw [if_neg (λg=>x1 g.1),th]at hsc
   simp only[↓bdD,bdP,seval,kp,kd,ty3,AR,CS,En,Fe,hlp,g1,m1,o1,o2,o4,o8,GL,CM,hk1,hk2,CC,hA1,hfr',hfr0,hfrn,hpF,x1,hsc,Av]
   intro rb
   refine ⟨by omega,by omega,⟨?_,by omega⟩,?_,by omega⟩ <;> simp only[Ab]
   .rw [if_neg m2,if_neg o5,g2]
   .rw [if_neg m3,if_neg o6,g3]
 .rintro ⟨O6,M6⟩ ⟨⟨g1,_⟩,_⟩
  dsimp only at g1
  rw [PY,hR1]at g1
  simp only[↓bdD,bdP,seval,Ao,ty3,g1]
 .exact λj st' h=>h.elim
 .exact λst' h=>h.elim
theorem Ak0:AM pk e_pbar.1 e_pbar.2:=Ax λ⟨hn,ls,us,d,ts⟩ h=>Akz hn ls us d ts
def Gf:Int×List Lnk×List Snd×Dem×List Int->List PV:=λ(hn,ls,us,d,ts) => [.agg [I hn,AS ls,Ay us,I d.1,I d.2.1,I d.2.2.1,I d.2.2.2.1,I d.2.2.2.2],ints ts]
def L8:Int×List Lnk×List Snd×Dem×List Int->PV:=λ(hn,ls,us,d,ts)=>B (decide (NK hn ls us d ts=0/\P4 hn ls us d ts<d.2.2.1))
def e_pstops:Nat×Ent:=(32,.v (An Gf L8 AZ))
theorem wQ:∀i j,Gf i=Gf j->i=j:=by
 rintro ⟨_,_,_,_,_⟩ ⟨_,_,_,_,_⟩ h
 simp only[Gf,ix,and_true,s6,qt,qr,true_and,B7,AG,AF]at h
 simp [tn,h] <;> omega
theorem Wd (hn:Int) (ls:List Lnk) (us:List Snd) (d:Dem) (ts:List Int):An Gf L8 AZ [.agg [I hn,AS ls,Ay us,I d.1,I d.2.1,I d.2.2.1,I d.2.2.2.1,I d.2.2.2.2],ints ts]=some (B (decide (NK hn ls us d ts=0/\P4 hn ls us d ts<d.2.2.1))):=AD wQ (i:=(hn,ls,us,d,ts)) trivial
def wR:Prop:=∀(hn:Int) (ls:List Lnk) (us:List Snd) (d:Dem) (ts:List Int) ,VC pk 32 (Gf (hn,ls,us,d,ts)) (L8 (hn,ls,us,d,ts))
theorem wS:wR:=by
 intro hn ls us d ts
 dsimp only[Gf,L8]
 refine Bd AQ (l := [e_pbar]) ((Ad Ak0 Au)) [] []  Tryz.func32 rfl (by decide +kernel) (N:=22) rfl (by simp) rfl (by kernel_rfl) λhs=>?_
 simp only[AK,s8,ow,and_true,true_and]at hs
 have sp:=Akx (hn:=hn) (ls:=ls) (us:=us) (d:=d) (ts:=ts)
 dsimp only[AS,Ay,ints]at sp
 generalize NK hn ls us d ts=e at *
 generalize P4 hn ls us d ts=x at *
 by_cases h:e=0
 .by_cases c:x<d.2.2.1
  .rw [decide_eq_true ⟨h,c⟩]
   simp only[↓bdD,bdP,seval,Ao,st0,e_pbar,Ac,Aa,wd,ty3,AY,AR,BG,sp,h,c]
  .rw [decide_eq_false (λg=>c g.2)]
   simp only[↓bdD,bdP,seval,Ao,st0,e_pbar,Ac,Aa,wd,ty3,AY,AR,BG,sp,h,c]
 .rw [decide_eq_false (λg=>h g.1)]
  simp only[↓bdD,bdP,seval,Ao,st0,e_pbar,Ac,Aa,wd,AR,BG,sp,h]
theorem wT:AM pk e_pstops.1 e_pstops.2:=Ax λ⟨hn,ls,us,d,ts⟩ h=>wS hn ls us d ts
theorem kH:∀n:Nat,n<1001->Cw .and .u64 (n:Int) 4294967295=some (n:Int):=by decide +kernel
theorem kJ:∀n:Nat,n<1001->(n:Int).fdiv 4294967296=0:=by decide +kernel
theorem Anv {n:Nat} (h:n<1001):wg.wrap (n:Int)=n:=by rw[IntKind.wrap_u64];omega
def HZ:Nat->List PV:=λn => [.int .u64 1,.int .u64 n]
def N9:Nat->PV:=λn=>.tuple [.int .u64 0,.int .u64 n]
def aG:Nat->Prop:=λn=>n<1001
def e_mul64:Nat×Ent:=(99,.v (An HZ N9 aG))
theorem Aem:∀i j,HZ i=HZ j->i=j:=by
 rintro n₁ n₂ h
 simp only[HZ,ix,and_true,qt,true_and]at h
 first | exact h | omega | (simp[tn,h];done)
theorem Aen (n:Nat):An HZ N9 aG [.int .u64 1,.int .u64 n]=@ite (Option (PV)) (n<1001) (qo _) (some (.tuple [.int .u64 0,.int .u64 n])) none:=Bs Aem n
def Aeo:Prop:=∀(n:Nat) (h:n<1001) ,VC pk 99 (HZ n) (N9 n)
theorem Aep:Aeo:=by
 intro n hn
 dsimp only[HZ,N9]
 refine Bd AQ (l := []) (Au) [] []  Tryz.func99 rfl (by decide +kernel) (N:=51) rfl (by simp) rfl (by kernel_rfl) λhs=>?_
 simp only[AK,s8,and_true]at hs
 have a1:Cw .and .u64 1 4294967295=some 1:=by decide +kernel
 have a0:Cw .and .u64 0 4294967295=some 0:=by decide +kernel
 have an:=kH n hn
 have s1:(1:Int).fdiv 4294967296=0:=by decide +kernel
 have s0:(0:Int).fdiv 4294967296=0:=by decide +kernel
 have sn:=kJ n hn
 have wn:=Anv hn
 have w0:wg.wrap 0=0:=by decide +kernel
 simp only[↓bdD,bdP,seval,Ao,st0,Tryz.f99,a1,a0,an,s1,s0,sn,wn,w0,Int.one_mul,Int.zero_mul,th]
theorem Aeq:AM pk e_mul64.1 e_mul64.2:=Ax λn h=>Aep n h
def KU:Nat->List PV:=λn => [.int .u64 1,.int .u64 n]
def TF:Nat->PV:=λn=>.tuple [.int .u64 0,.int .u64 n]
def wU:Nat->Prop:=λn=>n<1001
def e_mulU:Nat×Ent:=(86,.v (An KU TF wU))
theorem Ak1:∀i j,KU i=KU j->i=j:=by
 rintro n₁ n₂ h
 simp only[KU,ix,and_true,qt,true_and]at h
 first | exact h | omega | (simp[tn,h];done)
theorem Ak2 (n:Nat):An KU TF wU [.int .u64 1,.int .u64 n]=@ite (Option (PV)) (n<1001) (qo _) (some (.tuple [.int .u64 0,.int .u64 n])) none:=Bs Ak1 n
def Ak3:Prop:=∀(n:Nat) (h:n<1001) ,VC pk 86 (KU n) (TF n)
theorem Ak4:Ak3:=by
 intro n hn
 dsimp only[KU,TF]
 refine Bd AQ (l := [e_mul64]) ((Ad Aeq Au)) [] []  Tryz.func86 rfl (by decide +kernel) (N:=30) rfl (by simp) rfl (by kernel_rfl) λhs=>?_
 simp only[AK,s8,and_true]at hs
 simp only[↓bdD,bdP,seval,Ao,st0,e_mul64,Aen,Tryz.f86,Amv,hn]
theorem Ak5:AM pk e_mulU.1 e_mulU.2:=Ax λn h=>Ak4 n h
def KV (n j:Nat) (v:Int):List PV:=ba j (I v)++ba (n-j) (I 0)
theorem wV {n j:Nat} {v:Int} (h:j<=n):(KV n j v).length=n:=by unfold KV;rw[cu,ft,ft];omega
theorem Nh {n j:Nat} {v:Int}:sy j (KV n j v)=ba j (I v):=by unfold KV;exact List.take_left' (ft ..)
theorem kK {n j q:Nat} {v:Int} (h:j+q<=n) (hq:q<=j):sy j (KV n j v)++sy q (ba j (I v))++ub (j+q) (KV n j v)=KV n (j+q) v:=by
 have e:ub (j+q) (KV n j v)=ba (n-(j+q)) (I 0):=by
  unfold KV
  rw [List.drop_append,ft,List.drop_of_length_le (by rw[ft];omega),List.nil_append,show j+q-j=q by omega,wi,show n-j-q=n-(j+q) by omega]
 rw [Nh,e,List.take_replicate,show min q j=q by omega]
 unfold KV
 rw [List.replicate_append_replicate]
def Ni:Int×Nat->List PV:=λ(v,n) => [ints [v],I n]
def YW:Int×Nat->List PV:=λ(v,n)=>ba n (I v)
def YX:Int×Nat->Prop:=λ(v,n)=>n<1001
def e_rept:Nat×Ent:=(63,.a (1) (An Ni YW YX))
theorem Ak6:∀i j,Ni i=Ni j->i=j:=by
 rintro ⟨_,_⟩ ⟨_,_⟩ h
 simp only[Ni,ix,and_true,s6,qt,true_and,B7]at h
 simp [tn,h] <;> omega
theorem wX (v:Int) (n:Nat):An Ni YW YX [ints [v],I n]=@ite (Option (List PV)) (n<1001) (qo _) (some (ba n (I v))) none:=Bs Ak6 (v,n)
def Ak7:Prop:=∀(v:Int) (n:Nat) (h:n<1001) ,VCA pk 63 [ints [v],I n] (1) (ba n (I v))
theorem Ak8:Ak7:=by
 intro v n hn
 refine NO AQ (l := [e_mulU]) ((Ad Ak5 Au)) [] [] 0 0 Tryz.func63 rfl (by decide +kernel) (N:=48) rfl (by simp) rfl (by kernel_rfl) ?_ ?_
 .intro e he
  rw [List.eq_of_mem_replicate he];rfl
 have hnu:wg.wrap (n:Int)=n:=Anv hn
 have h1u:wg.wrap 1=1:=by decide +kernel
 have hni:nm.wrap (n:Int)=n:=by rw[Af (by omega) (by omega)]
 have g1:¬(n:Int)<0:=by omega
 have g2:¬(9223372036854775807:Int)<n:=by omega
 have g3:(n:Int)<=4294967296:=by omega
 simp only[↓bdD,bdP,seval,kp,kd,e_mulU,Ak2,Tryz.f63,ty3,AR,Amu,hnu,h1u,hni,g1,g2,g3,hn,Av]
 obtain ⟨j0,hj0⟩:∃j,(if 1<=n then 1 else n)=j:=⟨_,rfl⟩
 have hj1:j0<=n/\(0<n->0<j0):=by rw[<-hj0];split <;> omega
 have hl0:sy j0 [I v]++ub j0 (ba n (I 0))=KV n j0 v:=by
  unfold KV
  rw [wi]
  congr 1
  rw [<-hj0]
  split
  .rfl
  .rw [show n=0 by omega];rfl
 refine Et [8,34,35,36,37,38,39,40,41,42,43,44,45,46] (n-j0) (λm ρ st'=>∃j,j<=n/\(0<n->0<j)/\m=n-j/\ρ 8=I (j:Nat)/\st'.obj 0=some (.arr 0 1 (KV n j v))/\st'.next=1) (.refl _) ?_ ?_
 .refine ⟨j0,hj1.1,hj1.2,rfl,?_,?_,rfl⟩
  .simp only[↓bdD,bdP,hj0]
  .simp only[↓bdD,bdP,hj0,hl0]
 rintro m ρ ⟨O,M⟩ ⟨j,h1,h2,rfl,h8,o0,hM⟩
 dsimp only at o0 hM
 subst hM
 have hrl:=wV h1 (v:=v)
 by_cases hjn:j<n
 .have hji:(j:Int)<n:=by omega
  simp only[↓bdD,bdP,seval,kd,AR,h8,o0,hji,hrl,h1,Nat.sub_zero,Nh]
  obtain ⟨q,hq⟩:∃q,(if j<=n-j then j else n-j)=q:=⟨_,rfl⟩
  have hq1:j+q<=n/\q<=j/\0<q:=by rw[<-hq];split <;> omega
  rw [hq]
  repeat (refine And.intro (by omega) ?_)
  refine ⟨n-(j+q),by omega,j+q,hq1.1,λ_=>by omega,rfl,?_,?_⟩
  .rw [Af (by omega) (by omega)];omega
  .rw [<-kK hq1.1 hq1.2.1,Nh]
 .have e:j=n:=by omega
  subst e
  have e1:KV j j v=ba j (I v):=by unfold KV;rw[Nat.sub_self];simp
  rw [e1]at o0
  simp only[↓bdD,bdP,seval,Ao,AR,h8,o0]
  exact ⟨0,0,rfl,o0⟩
theorem Ak9:AM pk e_rept.1 e_rept.2:=HA λ⟨v,n⟩ h=>Ak8 v n h
end Sim
namespace Sim
open Go Go.Proofs
namespace TN
theorem wf_stk {T:TN} {D:Nat} (ok:T.OK D) {a c:Nat} (ha:a<T.h) (hc:c<T.h) {f:Nat->Int} {b:Int} (hf:(T.G D a c).Flow f b) {t x:Nat} (ht:t<D) (hx:x<T.h):T.wf f x t=T.stk a b (T.gf f) t x-T.outF (T.gf f) x t:=by
 have val:∀t x,t<=D->x<T.h->(if t<D then T.wf f x t+T.outF (T.gf f) x t else 0)-(if 0<t/\t-1<D then T.wf f x (t-1)+T.inF (T.gf f) x (t-1)else 0)=(if t=0/\a=x then b else 0)-(if D=t/\c=x then b else 0):=λt x ht hx=>by
  rw [<-YA ok hx,hf.val _ (node_lt ht hx)]
  show (if a=t*T.h+x then b else 0)-(if D*T.h+c=t*T.h+x then b else 0)=_
  have n2:=GC (t:=t) (t':=D) hx hc
  simp only[src_eq ha hx,n2]
 have key:∀t x,t<D->x<T.h->T.wf f x t+T.outF (T.gf f) x t=T.stk a b (T.gf f) t x:=by
  intro t x ht hx
  induction t with
  | zero =>
   have := val 0 x (by omega) hx
   rw [if_pos ht,if_neg (λg=>absurd g.1 (by omega)),if_neg (show ¬(D=0/\c=x) from λg=>by omega)]at this
   simp only[true_and]at this
   rw [stk];omega
  | succ t ih =>
   have ih:=ih (by omega)
   have := val (t+1) x (by omega) hx
   rw [if_pos ht,if_pos ⟨by omega,by omega⟩,if_neg (λg=>by omega),if_neg (λg=>by omega),Nat.add_sub_cancel]at this
   rw [stk];omega
 have := key t x ht hx
 omega
end TN
theorem wY {hn:Int} {ls:List Lnk} {us:List Snd} {d:Dem} {bytes:Int} (hf:Cy hn ls us=0) (hd:Ed hn d=true) (hb:0<=bytes) (e:d.1≠d.2.1):∃φ,((AN hn ls us d).G (Ap d) d.1.toNat d.2.1.toNat).Pot (flA (B9 hn ls us d bytes).1) φ:=by
 obtain ⟨⟨a0,a1⟩,⟨c0,c1⟩,hr⟩:=BR hd
 have ok:=Ee (r:=d.2.2.2.1) (D:=Ap d) hf
 have ha:d.1.toNat<(AN hn ls us d).h:=by show d.1.toNat<hn.toNat;omega
 have hc:d.2.1.toNat<(AN hn ls us d).h:=by show d.2.1.toNat<hn.toNat;omega
 have hpo:=TN.p_ok ok
 have hP:B9 hn ls us d bytes=D0 (gA (AN hn ls us d).p (A2 hn ls d)) (gO (AN hn ls us d).p (AV hn d) (A2 hn ls d)) (ba (AV hn d) 0) (AV hn d) d.1.toNat (Ap d*hn.toNat+d.2.1.toNat) bytes:=by unfold B9;rw[if_neg e]
 have hs:d.1.toNat<AV hn d:=by
  have := TN.node_lt (T:=AN hn ls us d) (D:=Ap d) (t:=0) (by omega) ha
  rw [Nat.zero_mul,Nat.zero_add]at this
  exact this
 have ht:Ap d*hn.toNat+d.2.1.toNat<AV hn d:=TN.node_lt (T:=AN hn ls us d) (cg _) hc
 have hst:d.1.toNat≠Ap d*hn.toNat+d.2.1.toNat:=λg=>by
  have :=(TN.src_eq (T:=AN hn ls us d) (t:=Ap d) ha hc).1 g
  omega
 obtain ⟨g1,g2,g3⟩:=tF (p:=(AN hn ls us d).p) (n:=A2 hn ls d) (N:=AV hn d) hpo hs ht hst hb
 rw [<-hP]at g2
 exact g2
def soM (hn:Int) (ls:List Lnk) (us l:List Snd) (d:Dem) (t x:Nat):Int:=(AN hn ls us d).stk d.1.toNat d.2.2.1 (gS l d.2.2.2.1) t x-(AN hn ls us d).outF (gS l d.2.2.2.1) x t
structure PrvH (hn:Int) (ls:List Lnk) (us l:List Snd) (d:Dem) (lam:Nat->Nat->Int):Prop where
 plan : (AN hn ls us d).Plan (Ap d) d.1.toNat d.2.1.toNat d.2.2.1 (gS l d.2.2.2.1)
 ok : (AN hn ls us d).Lam (Ap d) (gS l d.2.2.2.1) (soM hn ls us l d) lam
 nn : ∀t x,0<=lam t x
 l0 : lam 0 d.1.toNat=0
 le : ∀t x,t<=Ap d->x<hn.toNat->lam t x<=1000000*((AV hn d:Nat):Int)
theorem Nj {hn:Int} {ls:List Lnk} {us:List Snd} {d:Dem} (h:DN hn ls us d=0) (hb4:d.2.2.1<=4194304):∃lam,PrvH hn ls us (Da hn ls us d) d lam:=by
 obtain ⟨hck,e2,ho⟩:=FZ h
 obtain ⟨hf,hd,hD,hdu⟩:=BL hck
 obtain ⟨⟨a0,a1⟩,⟨c0,c1⟩,hr⟩:=BR hd
 have hr0:=hr.1
 have hr1:=hr.2.1
 have ok:=Ee (hn:=hn) (ls:=ls) (us:=us) (r:=d.2.2.2.1) (D:=Ap d) hf
 have ha:d.1.toNat<(AN hn ls us d).h:=by show d.1.toNat<hn.toNat;omega
 have hc:d.2.1.toNat<(AN hn ls us d).h:=by show d.2.1.toNat<hn.toNat;omega
 have P:=Hg (bytes:=d.2.2.1) hf hd (by omega)
 have p:=P.plan
 rw [e2]at p
 have hg:∀k t,k<(AN hn ls us d).L->t<Ap d->IB hn ls us d d.2.2.1 k t=gS (Da hn ls us d) d.2.2.2.1 k t:=λk t hk ht=>(ho.sent k t hk ht).symm
 have p2:=p.congr hg
 by_cases e:d.1=d.2.1
 .have hz:∀k t,k<(AN hn ls us d).L->t<Ap d->IB hn ls us d d.2.2.1 k t=0:=λk t hk ht=>by
   have hP:B9 hn ls us d d.2.2.1=(gA (AN hn ls us d).p (A2 hn ls d),d.2.2.1):=by unfold B9;rw[if_pos e]
   unfold IB
   rw [hP]
   exact NH (TN.pair_lt ht (by show _<(AN hn ls us d).h+(AN hn ls us d).L;omega))
  refine ⟨λ_ _=>0,p2,⟨λk hk=>(ok.e k hk).1,λk hk=>(ok.e k hk).2,λt k ht hk _=>?_,λt k ht hk g=>?_,λ_ _ _ _=>pj _,λ_ _ _ _ _=>pj _⟩,λ_ _=>pj _,rfl,λ_ _ _ _=>by omega⟩
  .have : 0<=(AN hn ls us d).pr k t:=(ok.pr k t hk ht).1
   omega
  .rw [<-hg k t hk ht,hz k t hk ht]at g
   omega
 .have hfl:=P.flow e
  rw [e2]at hfl
  have hgf:(AN hn ls us d).gf (flA (B9 hn ls us d d.2.2.1).1)=IB hn ls us d d.2.2.1:=rfl
  obtain ⟨lam,l1,l2,l3,l4⟩:=TN.lam_ex (T:=AN hn ls us d) (D:=Ap d) (a:=d.1.toNat) (c:=d.2.1.toNat) (b:=d.2.2.1) (g:=gS (Da hn ls us d) d.2.2.2.1) ok ha p2 (f:=flA (B9 hn ls us d d.2.2.1).1)
   (λt x ht hx=>by
    rw [TN.wf_stk ok ha hc hfl ht hx,hgf]
    have e1:(AN hn ls us d).stk d.1.toNat d.2.2.1 (IB hn ls us d d.2.2.1) t x=(AN hn ls us d).stk d.1.toNat d.2.2.1 (gS (Da hn ls us d) d.2.2.2.1) t x:=TN.stk_congr λk t' hk ht'=>hg k t' hk (by omega)
    have e2:(AN hn ls us d).outF (IB hn ls us d d.2.2.1) x t=(AN hn ls us d).outF (gS (Da hn ls us d) d.2.2.2.1) x t:=TN.outF_congr λk hk=>hg k t hk ht
    rw [e1,e2])
   (λt k ht hk=>by rw[hgf];exact hg k t hk ht)
   (by omega)
   (wY hf hd (by omega) e)
  exact ⟨lam,p2,l1,l2,l3,l4⟩
end Sim
namespace Sim
open Go Go.Proofs
attribute [local congr] Ah Ai Ag At Al Aj Aq
structure RX where
 row : Nat
 g : Nat
 i : Nat
 C : Nat
 by_ : Int
 vals : List Int
 ch : Bool
def H4 (x:RX):List PV := [.ptr x.row x.g x.i 0,I x.by_,.ptr x.C 0 0 0]
def JP (x:RX) (st:Store):Prop:=st.obj x.row=some (.arr x.g 1 (x.vals.map (mt .i64)))/\x.i<x.vals.length/\st.obj x.C=some (.arr 0 1 [.bool x.ch])/\x.row≠x.C
def Fs (x:RX) (st:Store):PV×Store :=
 if x.by_<x.vals.getD x.i 0 then (.tuple [],⟨Ab (Ab st.obj x.row (some (.arr x.g 1 ((x.vals.set x.i x.by_).map (mt .i64))))) x.C (some (.arr 0 1 [.bool true])),st.next⟩)else (.tuple [],st)
def e_relax:Nat×Ent:=(65,.x (A9 H4 JP Fs))
theorem Aer:AM pk e_relax.1 e_relax.2:=Cf λx st hx=>by
 obtain ⟨row,g,i,C,b,vals,ch⟩:=x
 obtain ⟨ob,M⟩:=st
 obtain ⟨h1,h2,h3,h4⟩:=hx
 dsimp only at h1 h2 h3 h4
 simp only[H4]
 have h4':¬row=C:=h4
 have h5:¬C=row:=λe=>h4 e.symm
 have hset:(vals.set i b).map (mt .i64)=(vals.map (mt .i64)).set i (I b):=rx
 have hlm:(vals.map (mt .i64)).length=vals.length:=ow _
 refine BT AQ (l := []) (Au) [] [] 0 Tryz.func65 rfl (by decide +kernel) (N:=13) rfl (by simp) rfl (by kernel_rfl) ?_
 by_cases c:b<vals.getD i 0
 .simp only[Fs,if_pos c,hset]
  simp only[↓bdD,bdP,seval,Ao,kd,Tryz.f65,ty3,ty4,h1,h2,h3,h5,c,hlm]
  exact ⟨_,rfl,Left.refl⟩
 .simp only[Fs,if_neg c]
  simp only[↓bdD,bdP,seval,Ao,Tryz.f65,ty3,h1,h2,c]
  exact ⟨_,rfl,Left.refl⟩
theorem Aes (a b:RX) (st:Store) (h:H4 a=H4 b) (hx:JP a st) (hy:JP b st):Fs a st=Fs b st:=by
 obtain ⟨a1,a2,a3,a4,a5,a6,a7⟩:=a
 obtain ⟨b1,b2,b3,b4,b5,b6,b7⟩:=b
 simp only[H4,ix,PV.ptr.injEq,qt,true_and,and_true]at h
 obtain ⟨⟨rfl,rfl,rfl⟩,rfl,rfl⟩:=h
 obtain ⟨x1,x2,x3,x4⟩:=hx
 obtain ⟨y1,y2,y3,y4⟩:=hy
 dsimp only at x1 x3 y1 y3
 rw [x1]at y1
 simp only[Option.some.injEq,IObj.arr.injEq,true_and]at y1
 rw [B7]at y1
 subst y1
 rfl
theorem aH (x:RX) {st:Store} (h:JP x st):A9 H4 JP Fs [.ptr x.row x.g x.i 0,I x.by_,.ptr x.C 0 0 0] st=some (Fs x st):=Bc Aes (i:=x) h
def Cb (h:Nat) (f:Nat->Int):List Int:=(br h).map f
theorem DD {h:Nat} {f:Nat->Int}:(Cb h f).length=h:=by simp[Cb]
section
variable {h x:Nat} {f:Nat->Int}
theorem H5 (hx:x<h):(Cb h f).getD x 0=f x:=by simp[Cb,hx]
theorem Hm {v:Int} (hx:x<h):(Cb h f).set x v=Cb h λz=>if z=x then v else f z:=by
 refine ru (by simp[Cb]) λi h1 h2=>?_
 rw [wo]
 simp only[Cb,wq,ws]
 by_cases e:x=i
 .rw [if_pos e,if_pos e.symm]
 .rw [if_neg e,if_neg (λg=>e g.symm)]
theorem L9 {v:Int} (hx:x<h):((Cb h f).map (mt .i64)).set x (Bi (nth ((Cb h f).map (mt .i64)) x) 0 [I v])=(Cb h λz=>if z=x then v else f z).map (mt .i64):=by
 have e:nth ((Cb h f).map (mt .i64)) x=I (f x):=by
  simp [nth,Cb,hx]
 rw [e,show Bi (I (f x)) 0 [I v]=I v from rfl,<-Hm hx,rx]
theorem JQ (hx:x<h):nth ((Cb h f).map (mt .i64)) x=I (f x):=by
 simp [nth,Cb,hx]
end
theorem P5 {h:Nat} {f g:Nat->Int} (e:∀x,x<h->f x=g x):Cb h f=Cb h g:=by
 unfold Cb
 exact List.map_congr_left λx hx=>e x (List.mem_range.1 hx)
def rwK (f:Nat->Nat) (D h k:Nat):List PV:=(br (D+1)).map λt=>if t<k then .ref (f t) 0 0 h else .nils
section
variable {f:Nat->Nat}
theorem H6 {D h k:Nat}:(rwK f D h k).length=D+1:=by simp[rwK]
theorem Eg {D h k t:Nat} (ht:t<=D) (hk:t<k):nth (rwK f D h k) t=.ref (f t) 0 0 h:=by
 simp [rwK,nth,show t<D+1 by omega,hk]
theorem Aet {D h k m:Nat} (hk:k<=D):(rwK f D h k).set k (.ref m 0 0 h)=rwK (λt=>if t=k then m else f t) D h (k+1):=by
 refine ru (by simp[rwK]) λi h1 h2=>?_
 rw [wo]
 simp only[rwK,wq,ws]
 by_cases e:k=i
 .subst e;rw[if_pos rfl,if_pos (by omega),if_pos rfl]
 .rw [if_neg e]
  by_cases c:i<k
  .rw [if_pos c,if_pos (by omega),if_neg (λg=>e g.symm)]
  .rw [if_neg c,if_neg (by omega)]
theorem Aeu {D h k:Nat} (hk:k<=D):nth (rwK f D h k) k=.nils:=by
 simp [rwK,nth,show k<D+1 by omega]
theorem We {D h k m:Nat} (hk:k<=D):Bi (nth (rwK f D h k) k) 0 [PV.ref m 0 0 h]=PV.ref m 0 0 h:=by rw[Aeu hk];rfl
theorem Ag0 {D h:Nat}:rwK f D h 0=ba (D+1) .nils:=by
 refine ru (by simp[rwK]) λi h1 h2=>by simp[rwK]
end
structure PvK (D h M0 B k:Nat) (sI yI:Nat->Nat) (l:List Snd) (d:Dem) (so Y:Nat->Nat->Int) (O:Nat->Option IObj) (nx:Nat):Prop where
 cS : O 0=some (.arr 1 1 (rwK sI D h k))
 c0 : O 1=some (.arr 0 1 [.ref M0 0 0 (D+1)])
 c1 : O 2=some (.arr 0 5 [.agg [I d.1,I d.2.1,I d.2.2.1,I d.2.2.2.1,I d.2.2.2.2]])
 c2 : O 3=some (.map 0 (.ints 2) (l.map tkE))
 c3 : O 4=some (.arr 0 1 [.mref 3 0])
 cY : O M0=some (.arr 0 1 (rwK yI D h k))
 rS : ∀t,t<k->O (sI t)=some (.arr 0 1 ((Cb h (so t)).map (mt .i64)))
 rY : ∀t,t<k->O (yI t)=some (.arr 0 1 ((Cb h (Y t)).map (mt .i64)))
 M5 : 5<=M0
 iS : ∀t,t<k->M0<sI t/\sI t<B
 iY : ∀t,t<k->M0<yI t/\yI t<B
 dj : ∀t s,t<k->s<k->sI t≠yI s
 jS : ∀t s,t<k->s<k->sI t=sI s->t=s
 jY : ∀t s,t<k->s<k->yI t=yI s->t=s
 MB : M0<B
 nx : B<=nx
section
variable {D h M0 B k:Nat} {sI yI:Nat->Nat} {l:List Snd} {d:Dem}
theorem PvK.of {so Y:Nat->Nat->Int} {O O':Nat->Option IObj} {nx nx':Nat} (p:PvK D h M0 B k sI yI l d so Y O nx) (hO:∀i,i<B->O' i=O i) (hn:B<=nx'):PvK D h M0 B k sI yI l d so Y O' nx':=by
 obtain ⟨a1,a2,a3,a4,a5,a6,a7,a8,a9,b1,b2,b3,b4,b5,b6,b7⟩:=p
 exact ⟨by rw[hO _ (by omega)];exact a1,by rw[hO _ (by omega)];exact a2,by rw[hO _ (by omega)];exact a3,by rw[hO _ (by omega)];exact a4,by rw[hO _ (by omega)];exact a5,by rw[hO _ (by omega)];exact a6,
  λt ht=>by rw[hO _ (b1 t ht).2];exact a7 t ht,λt ht=>by rw[hO _ (b2 t ht).2];exact a8 t ht,a9,b1,b2,b3,b4,b5,b6,hn⟩
theorem PvK.later {so Y:Nat->Nat->Int} {st st':Store} (p:PvK D h M0 B k sI yI l d so Y st.obj st.next) (hL:Later st st'):PvK D h M0 B k sI yI l d so Y st'.obj st'.next:=by
 obtain ⟨a1,a2,a3,a4,a5,a6,a7,a8,a9,b1,b2,b3,b4,b5,b6,b7⟩:=p
 exact ⟨hL.2 _ _ (by omega) a1 (by simp),hL.2 _ _ (by omega) a2 (by simp),hL.2 _ _ (by omega) a3 (by simp),hL.2 _ _ (by omega) a4 (by simp),hL.2 _ _ (by omega) a5 (by simp),hL.2 _ _ (by omega) a6 (by simp),
  λt ht=>hL.2 _ _ (by have:=(b1 t ht).2;omega) (a7 t ht) (by simp),λt ht=>hL.2 _ _ (by have:=(b2 t ht).2;omega) (a8 t ht) (by simp),a9,b1,b2,b3,b4,b5,b6,mm b7 hL.1⟩
theorem PvK.so' {so Y:Nat->Nat->Int} {O:Nat->Option IObj} {nx:Nat} (p:PvK D h M0 B k sI yI l d so Y O nx) {t:Nat} (ht:t<k) (f:Nat->Int) :
  PvK D h M0 B k sI yI l d (λs=>if s=t then f else so s) Y (Ab O (sI t) (some (.arr 0 1 ((Cb h f).map (mt .i64))))) nx:=by
 obtain ⟨a1,a2,a3,a4,a5,a6,a7,a8,a9,b1,b2,b3,b4,b5,b6,b7⟩:=p
 have g:=b1 t ht
 refine ⟨?_,?_,?_,?_,?_,?_,λs hs=>?_,λs hs=>?_,a9,b1,b2,b3,b4,b5,b6,b7⟩ <;> simp only[Ab]
 .rw [if_neg (by omega)];exact a1
 .rw [if_neg (by omega)];exact a2
 .rw [if_neg (by omega)];exact a3
 .rw [if_neg (by omega)];exact a4
 .rw [if_neg (by omega)];exact a5
 .rw [if_neg (by omega)];exact a6
 .by_cases e:s=t
  .subst e;rw[if_pos rfl,if_pos rfl]
  .rw [if_neg (λg=>e (b4 s t hs ht g)),if_neg e];exact a7 s hs
 .rw [if_neg (λg=>b3 t s ht hs g.symm)];exact a8 s hs
theorem PvK.y' {so Y:Nat->Nat->Int} {O:Nat->Option IObj} {nx:Nat} (p:PvK D h M0 B k sI yI l d so Y O nx) {t:Nat} (ht:t<k) (f:Nat->Int) :
  PvK D h M0 B k sI yI l d so (λs=>if s=t then f else Y s) (Ab O (yI t) (some (.arr 0 1 ((Cb h f).map (mt .i64))))) nx:=by
 obtain ⟨a1,a2,a3,a4,a5,a6,a7,a8,a9,b1,b2,b3,b4,b5,b6,b7⟩:=p
 have g:=b2 t ht
 refine ⟨?_,?_,?_,?_,?_,?_,λs hs=>?_,λs hs=>?_,a9,b1,b2,b3,b4,b5,b6,b7⟩ <;> simp only[Ab]
 .rw [if_neg (by omega)];exact a1
 .rw [if_neg (by omega)];exact a2
 .rw [if_neg (by omega)];exact a3
 .rw [if_neg (by omega)];exact a4
 .rw [if_neg (by omega)];exact a5
 .rw [if_neg (by omega)];exact a6
 .rw [if_neg (λg=>b3 s t hs ht g)];exact a7 s hs
 .by_cases e:s=t
  .subst e;rw[if_pos rfl,if_pos rfl]
  .rw [if_neg (λg=>e (b5 s t hs ht g)),if_neg e];exact a8 s hs
theorem PvK.eqY {so Y Y':Nat->Nat->Int} {O:Nat->Option IObj} {nx:Nat} (p:PvK D h M0 B k sI yI l d so Y O nx) (e:∀t x,t<k->x<h->Y t x=Y' t x):PvK D h M0 B k sI yI l d so Y' O nx:=by
 obtain ⟨a1,a2,a3,a4,a5,a6,a7,a8,a9,b1,b2,b3,b4,b5,b6,b7⟩:=p
 exact ⟨a1,a2,a3,a4,a5,a6,a7,λt ht=>by rw[a8 t ht,P5 (λx hx=>e t x ht hx)],a9,b1,b2,b3,b4,b5,b6,b7⟩
theorem PvK.eqS {so so' Y:Nat->Nat->Int} {O:Nat->Option IObj} {nx:Nat} (p:PvK D h M0 B k sI yI l d so Y O nx) (e:∀t x,t<k->x<h->so t x=so' t x):PvK D h M0 B k sI yI l d so' Y O nx:=by
 obtain ⟨a1,a2,a3,a4,a5,a6,a7,a8,a9,b1,b2,b3,b4,b5,b6,b7⟩:=p
 exact ⟨a1,a2,a3,a4,a5,a6,λt ht=>by rw[a7 t ht,P5 (λx hx=>e t x ht hx)],a8,a9,b1,b2,b3,b4,b5,b6,b7⟩
end
theorem PvK.rl {D h M0 B k:Nat} {sI yI:Nat->Nat} {l:List Snd} {d:Dem} {so Y:Nat->Nat->Int} {O:Nat->Option IObj} {nx:Nat} (p:PvK D h M0 B k sI yI l d so Y O nx) {C:Nat} {ch:Bool} (hC:O C=some (.arr 0 1 [.bool ch])) (hCB:B<=C) {t x:Nat} (ht:t<k) (hx:x<h) (v:Int) :
  ∃ O',A9 H4 JP Fs [.ptr (yI t) 0 x 0,I v,.ptr C 0 0 0] ⟨O,nx⟩=some (.tuple [],⟨O',nx⟩)/\PvK D h M0 B k sI yI l d so (YS.rl ⟨Y,ch⟩ t x v).y O' nx/\O' C=some (.arr 0 1 [.bool (YS.rl ⟨Y,ch⟩ t x v).ch])/\∀i,i≠C->(∀s,s<k->i≠yI s)->O' i=O i:=by
 have hyB:=(p.iY t ht).2
 have hne:yI t≠C:=by omega
 have key:=aH ⟨yI t,0,x,C,v,Cb h (Y t),ch⟩ (st:=⟨O,nx⟩) ⟨p.rY t ht,by dsimp only;rw[DD];exact hx,hC,hne⟩
 dsimp only at key
 rw [key]
 unfold Fs
 dsimp only
 rw [H5 hx]
 by_cases c:v<Y t x
 .rw [if_pos c,Hm hx]
  have e:YS.rl ⟨Y,ch⟩ t x v=⟨λt' x'=>if t'=t/\x'=x then v else Y t' x',true⟩:=by unfold YS.rl;exact if_pos c
  rw [e]
  refine ⟨_,rfl,?_,by simp[Ab],λi hiC hi=>by simp only[Ab];rw[if_neg hiC,if_neg (hi t ht)]⟩
  have q:=(p.y' ht λz=>if z=x then v else Y t z).eqY (Y':=λt' x'=>if t'=t/\x'=x then v else Y t' x') λs z hs hz=>by
   by_cases e:s=t
   .subst e;rw[if_pos rfl];simp
   .rw [if_neg e,if_neg (λg=>e g.1)]
  exact q.of (λi hi=>by simp only[Ab];rw[if_neg (by omega)]) q.nx
 .rw [if_neg c]
  have e:YS.rl ⟨Y,ch⟩ t x v=⟨Y,ch⟩:=by unfold YS.rl;exact if_neg c
  rw [e]
  exact ⟨O,rfl,p,hC,λ_ _ _=>rfl⟩
theorem WF.upd {O:Nat->Option IObj} {nx nx' i:Nat} (h:WF ⟨O,nx⟩) (hi:i<nx') (hn:nx<=nx') {x:Option IObj}:WF ⟨Ab O i x,nx'⟩:=λj o hj=>by
 dsimp only at hj ⊢
 simp only[Ab]at hj
 split at hj
 .omega
 .have := h j o hj
  dsimp only at this
  omega
structure PvM (d:Dem) (es:List (PV×PV)) (S:Store):Prop where
 b0 : S.obj 0=some (.arr 0 1 [])
 b1 : S.obj 1=some (.arr 0 1 [.nils])
 b2 : S.obj 2=some (.arr 0 5 [.agg [I d.1,I d.2.1,I d.2.2.1,I d.2.2.2.1,I d.2.2.2.2]])
 b3 : S.obj 3=some (.map 0 (.ints 2) es)
 b4 : S.obj 4=some (.arr 0 1 [.mref 3 0])
 nx : 5<=S.next
 wf : WF S
theorem PvM.step {d:Dem} {es es':List (PV×PV)} {O:Nat->Option IObj} {nx:Nat} (h:PvM d es ⟨O,nx⟩) {x:Option IObj}:PvM d es' ⟨Ab (Ab O nx x) 3 (some (.map 0 (.ints 2) es')),nx+1⟩:=by
 obtain ⟨h0,h1,h2,h3,h4,h5,h6⟩:=h
 dsimp only at *
 refine ⟨?_,?_,?_,?_,?_,by dsimp only;omega,WF.upd (nx:=nx+1) (i:=3) (WF.upd (nx:=nx) (nx':=nx+1) (i:=nx) h6 (by omega) (by omega)) (by omega) (by omega)⟩ <;> simp only[Ab]
 .rw [if_neg (by omega),if_neg (by omega)];exact h0
 .rw [if_neg (by omega),if_neg (by omega)];exact h1
 .rw [if_neg (by omega),if_neg (by omega)];exact h2
 .rw [if_pos trivial]
 .rw [if_neg (by omega),if_neg (by omega)];exact h4
theorem H7 {h:Nat} {v:Int}:(Cb h λ_=>v).map (mt .i64)=ba h (I v):=by
 unfold Cb
 rw [List.map_map]
 refine ru (by simp) λi h1 h2=>by simp
theorem PvK.add {D h M0 k:Nat} {sI yI:Nat->Nat} {l:List Snd} {d:Dem} {so Y:Nat->Nat->Int} {O O':Nat->Option IObj} {nx:Nat} (p:PvK D h M0 nx k sI yI l d so Y O nx) (hk:k<=D) {a b:Nat} (hab:a≠b) (ha:nx<=a/\a<nx+2) (hb:nx<=b/\b<nx+2)
  (h0 : O' 0=some (.arr 1 1 ((rwK sI D h k).set k (.ref a 0 0 h)))) (hM:O' M0=some (.arr 0 1 ((rwK yI D h k).set k (.ref b 0 0 h)))) (hra:O' a=some (.arr 0 1 ((Cb h (so k)).map (mt .i64)))) (hrb:O' b=some (.arr 0 1 ((Cb h (Y k)).map (mt .i64))))
  (hr : ∀i,i<nx->i≠0->i≠M0->O' i=O i):PvK D h M0 (nx+2) (k+1) (λt=>if t=k then a else sI t) (λt=>if t=k then b else yI t) l d so Y O' (nx+2):=by
 obtain ⟨a1,a2,a3,a4,a5,a6,a7,a8,a9,b1,b2,b3,b4,b5,b6,b7⟩:=p
 rw [Aet hk]at h0 hM
 refine ⟨h0,?_,?_,?_,?_,hM,λt ht=>?_,λt ht=>?_,a9,λt ht=>?_,λt ht=>?_,λt s ht hs=>?_,λt s ht hs=>?_,λt s ht hs=>?_,by omega,cg _⟩
 .rw [hr _ (by omega) (by omega) (by omega)];exact a2
 .rw [hr _ (by omega) (by omega) (by omega)];exact a3
 .rw [hr _ (by omega) (by omega) (by omega)];exact a4
 .rw [hr _ (by omega) (by omega) (by omega)];exact a5
 .by_cases e:t=k
  .rw [if_pos e,e];exact hra
  .rw [if_neg e]
   have := b1 t (by omega)
   rw [hr _ this.2 (by omega) (by omega)];exact a7 t (by omega)
 .by_cases e:t=k
  .rw [if_pos e,e];exact hrb
  .rw [if_neg e]
   have := b2 t (by omega)
   rw [hr _ this.2 (by omega) (by omega)];exact a8 t (by omega)
 .by_cases e:t=k
  .rw [if_pos e];omega
  .rw [if_neg e];have:=b1 t (by omega);omega
 .by_cases e:t=k
  .rw [if_pos e];omega
  .rw [if_neg e];have:=b2 t (by omega);omega
 .by_cases e:t=k
  .rw [if_pos e]
   by_cases e2:s=k
   .rw [if_pos e2];exact hab
   .rw [if_neg e2];have:=b2 s (by omega);omega
  .rw [if_neg e]
   by_cases e2:s=k
   .rw [if_pos e2];have:=b1 t (by omega);omega
   .rw [if_neg e2];exact b3 t s (by omega) (by omega)
 .by_cases e:t=k
  .rw [if_pos e]
   by_cases e2:s=k
   .intro _;rw[e,e2]
   .rw [if_neg e2];have:=b1 s (by omega);intro g;omega
  .rw [if_neg e]
   by_cases e2:s=k
   .rw [if_pos e2];have:=b1 t (by omega);intro g;omega
   .rw [if_neg e2];exact b4 t s (by omega) (by omega)
 .by_cases e:t=k
  .rw [if_pos e]
   by_cases e2:s=k
   .intro _;rw[e,e2]
   .rw [if_neg e2];have:=b2 s (by omega);intro g;omega
  .rw [if_neg e]
   by_cases e2:s=k
   .rw [if_pos e2];have:=b2 t (by omega);intro g;omega
   .rw [if_neg e2];exact b5 t s (by omega) (by omega)
theorem wZ {l m:List Int} (p:l.Perm m):l.sum=m.sum:=by
 induction p with
 | nil=>rfl
 | cons x _ ih=>rw[wv,wv,ih]
 | swap x y l=>rw[wv,wv,wv,wv];omega
 | trans _ _ h1 h2=>rw[h1,h2]
theorem Wf {f:Nat->Int}:∀ {n:Nat} {seen:List Nat},seen.Nodup->(∀i∈seen,i<n)->seen.length=n->(seen.map f).sum=As f n
 | 0,seen,_,_,h3=>by
  rw [List.eq_nil_of_length_eq_zero h3];rfl
 | n+1,seen,h1,h2,h3=>by
  have hn:n∈seen:=pq λc=>by
   have := Dm n seen h1 λi hi=>by
    have := h2 i hi
    have : i≠n:=λe=>c (e▸hi)
    omega
   omega
  obtain ⟨p,q,rfl⟩:=List.append_of_mem hn
  have hp:(p++n::q).Perm (n::(p++q)):=List.perm_middle
  have hnd:=hp.nodup_iff.1 h1
  rw [List.nodup_cons]at hnd
  rw [wZ (hp.map f),nj,wv,As,Wf (n:=n) hnd.2 (λi hi=>by
   have := h2 i (hp.mem_iff.2 (qk _ hi))
   have : i≠n:=λe=>hnd.1 (e▸hi)
   omega) (by simp at h3 ⊢;omega)]
  omega
def kL (ls:List Lnk) (l:List Snd) (t x:Int) (i:Nat):Int:=if (l.getD i dS).2.1=t/\(AB ls (l.getD i dS)).1=x then (l.getD i dS).2.2 else 0
def soS (ls:List Lnk) (l:List Snd) (d:Dem) (seen:List Nat) (t x:Nat):Int:=Ba ls l d (x:Int) (d.2.2.2.1+(t:Int))-(seen.map (kL ls l (d.2.2.2.1+(t:Int)) (x:Int))).sum
theorem Aev {hn:Int} {ls:List Lnk} {us l:List Snd} {d:Dem} (ok:OKr hn ls l) (hd:0<=d.1) (h0:∀i,i<l.length->d.2.2.2.1<=(l.getD i dS).2.1) {seen:List Nat} (h1:seen.Nodup) (h2:∀i∈seen,i<l.length) (h3:seen.length=l.length) (t x:Nat):soS ls l d seen t x=soM hn ls us l d t x:=by
 unfold soS soM
 rw [Wf h1 h2 h3,LM ok hd h0 x t,Z0 ok x t,Pw]
 rfl
theorem Aew {ls:List Lnk} {l:List Snd} {d:Dem} {seen:List Nat} {i t x:Nat}:soS ls l d (seen ++ [i]) t x=soS ls l d seen t x-kL ls l (d.2.2.2.1+(t:Int)) (x:Int) i:=by
 unfold soS
 rw [List.map_append,List.sum_append]
 simp
 omega
theorem aJ {f:Nat->Int} {B:Int}:∀ {seen:List Nat},(∀i∈seen,0<=f i/\f i<=B)->0<=(seen.map f).sum/\(seen.map f).sum<=B*(seen.length:Int)
 | [],_=>by simp
 | i::l,h=>by
  have ih:=aJ (f:=f) (B:=B) (seen:=l) λj hj=>h j (qk _ hj)
  have h1:=h i (List.mem_cons_self ..)
  have e:B*((l.length+1:Nat):Int)=B*(l.length:Int)+B:=by rw[show ((l.length+1:Nat):Int)=(l.length:Int)+1 by omega,Int.mul_add,Int.mul_one]
  rw [nj,wv,List.length_cons,e]
  omega
theorem Aex {hn:Int} {ls:List Lnk} {l:List Snd} {d:Dem} (ok:OKr hn ls l) (hb:YF d) {seen:List Nat} (h1:seen.Nodup) (h2:∀i∈seen,i<l.length) (t x:Nat) : -8796093022208<=soS ls l d seen t x/\soS ls l d seen t x<=8796093022208:=by
 have hl:=ok.len
 have a:=VO hb (x:Int) (d.2.2.2.1+(t:Int))
 have b:=VN ok (x:Int) (d.2.2.2.1+(t:Int)) l.length (cg _)
 have c:=aJ (f:=kL ls l (d.2.2.2.1+(t:Int)) (x:Int)) (B:=1073741824) (seen:=seen) λi hi=>by
  have := ok.bytes i (h2 i hi)
  unfold kL
  split <;> omega
 have e:=Dm l.length seen h1 h2
 unfold soS Ba
 omega
theorem PvK.lp {D h M0 B k:Nat} {sI yI:Nat->Nat} {l:List Snd} {d:Dem} {so Y:Nat->Nat->Int} {O:Nat->Option IObj} {nx:Nat} (p:PvK D h M0 B k sI yI l d so Y O nx) {id:Nat} {r:Loop} (hid:O id=some (.lp r)) (x:Option IObj):PvK D h M0 B k sI yI l d so Y (Ab O id x) nx:=by
 have key:∀ {j o},O j=some o->(∀r,o≠.lp r)->Ab O id x j=some o:=λ{j o} hj hr=>by
  simp only[Ab]
  rw [if_neg (λe=>by rw[e,hid]at hj;cases hj;exact hr r rfl),hj]
 obtain ⟨a1,a2,a3,a4,a5,a6,a7,a8,a9,b1,b2,b3,b4,b5,b6,b7⟩:=p
 exact ⟨key a1 (by simp),key a2 (by simp),key a3 (by simp),key a4 (by simp),key a5 (by simp),key a6 (by simp),λt ht=>key (a7 t ht) (by simp),λt ht=>key (a8 t ht) (by simp),a9,b1,b2,b3,b4,b5,b6,b7⟩
theorem YY {ls:List Lnk} {us:List Snd} {r:Int} {k t:Nat}:sy 2 (II ls us r k t) = [I (k:Nat),I (r+(t:Int))]:=rfl
def IJ (hn:Int) (ls:List Lnk) (us:List Snd) (d:Dem):Nat->Nat->Int:=(AN hn ls us d).prvY (Ap d) d.1.toNat d.2.1.toNat 536870912 268435456 (gS (Da hn ls us d) d.2.2.2.1) (soM hn ls us (Da hn ls us d) d)
def Dq (hn:Int) (ls:List Lnk) (us:List Snd) (d:Dem):List (List Int):=(br (Ap d+1)).map λt=>Cb hn.toNat λx=>min (IJ hn ls us d t x) (IJ hn ls us d (Ap d) d.2.1.toNat)
def KW (hn:Int) (ls:List Lnk) (us:List Snd) (d:Dem):Int:=if Ek hn ls us d≠0 then Ek hn ls us d else DN hn ls us d
end Sim
namespace Sim
open Go Go.Proofs
section
variable {hn:Int} {ls:List Lnk} {us l l2:List Snd} {d:Dem} {y:List (List Int)}
theorem YZ (h:HX hn ls us d y=0):Ek hn ls us d=0/\shA hn d y/\shB hn y/\shC hn y:=by
 obtain ⟨h1,h2⟩:=Aek h
 unfold shE at h2
 split at h2
 .cases h2
 .rename_i c1
  split at h2
  .cases h2
  .rename_i c2
   split at h2
   .cases h2
   .rename_i c3
    exact ⟨h1,t9.1 c1,t9.1 c2,t9.1 c3⟩
theorem Ala:KS ls us d y (Ap d*ls.length)=(AN hn ls us d).bnd (Ap d) d.1.toNat d.2.1.toNat d.2.2.1 (pt y):=by
 unfold KS TN.bnd
 rw [Hc]
 congr 1
 refine Am λt ht=>Am λk hk=>?_
 have hk:k<ls.length:=hk
 obtain ⟨e1,e2⟩:=TN.row_idx (t:=t) hk
 rw [e1,e2]
 rfl
theorem Ag1 (h:HX hn ls us d y=0):HY hn ls us d y=(AN hn ls us d).bnd (Ap d) d.1.toNat d.2.1.toNat d.2.2.1 (pt y):=by
 unfold HY
 rw [if_neg (λg=>g h),Ala (hn:=hn)]
theorem Wg (hc:EB hn ls us d=0) (h:TD hn ls us l d):(AN hn ls us d).Plan (Ap d) d.1.toNat d.2.1.toNat d.2.2.1 (gS l d.2.2.2.1):=by
 obtain ⟨hf,hd,hD,hdu⟩:=BL hc
 have sv:=serves_iff.1 h.1
 exact Tn (D:=Ap d) sv hf h.2 (by rw[<-hdu];exact sv.late)
theorem Wh (h:TD hn ls us l d):(AN hn ls us d).cst (Ap d) (gS l d.2.2.2.1)<=BY hn ls l:=by
 have sv:=serves_iff.1 h.1
 have h2:=Aj0 (r:=d.2.2.2.1) (us:=us) sv.ok (D:=Ap d)
 have h3:BY hn ls l=Dy ls l l.length:=by unfold BY;rw[if_neg (λg=>g (right_zero.2 sv.ok))]
 rw [h3]
 exact h2
theorem Wi (hf:Cy hn ls us=0):(∀k,k<(AN hn ls us d).L->(AN hn ls us d).fr k<(AN hn ls us d).h)/\∀k,k<(AN hn ls us d).L->(AN hn ls us d).to k<(AN hn ls us d).h:=by
 have ok:=Ee (us:=us) (r:=d.2.2.2.1) (D:=Ap d) hf
 exact ⟨λk hk=>(ok.e k hk).1,λk hk=>(ok.e k hk).2⟩
theorem Wj (h:HX hn ls us d y=0) (hp:TD hn ls us l d):HY hn ls us d y<=BY hn ls l:=by
 obtain ⟨h1,hA,hB,hC⟩:=YZ h
 obtain ⟨hfk,_⟩:=pck_zero.1 h1
 obtain ⟨hf,hd,hD,hdu⟩:=BL hfk
 obtain ⟨⟨a0,a1⟩,⟨c0,c1⟩,hr⟩:=BR hd
 obtain ⟨hfr,hto⟩:=Wi (d:=d) hf
 rw [Ag1 h]
 refine qj (TN.bnd_le (Wg hfk hp) hfr hto (show d.1.toNat<hn.toNat by omega) (show d.2.1.toNat<hn.toNat by omega) λt x ht hx=>?_) (Wh hp)
 have := hA.1
 exact hC t (by omega) x hx
theorem TG (h:DN hn ls us d=0):TD hn ls us (Da hn ls us d) d:=by
 obtain ⟨_,_,ho⟩:=FZ h
 exact ⟨ho.serves,ho.besides⟩
theorem aK (hc:EB hn ls us d=0) (hp:TD hn ls us l d):DN hn ls us d=0/\BY hn ls (Da hn ls us d)<=BY hn ls l:=by
 obtain ⟨hf,hd,hD,hdu⟩:=BL hc
 obtain ⟨_,_,hr⟩:=BR hd
 have hr0:=hr.1
 have hr1:=hr.2.1
 have p:=Wg hc hp
 have h0:DN hn ls us d=0:=by
  apply pq
  intro hne
  exact (YN hc hne).2 _ p
 obtain ⟨_,e2,ho⟩:=FZ h0
 have P:=Hg (bytes:=d.2.2.1) hf hd (by omega)
 have h1:=P.best hf hd hr1 p 1 (pj _) (by rw[e2];omega)
 rw [Int.one_mul]at h1
 refine ⟨h0,?_⟩
 rw [ho.cost]
 exact qj h1 (Wh hp)
theorem Nk (h:kF hn ls us d l y):(TD hn ls us l2 d->BY hn ls l<=BY hn ls l2)/\DN hn ls us d=0/\BY hn ls (Da hn ls us d)=BY hn ls l:=by
 obtain ⟨h1,h2,h3⟩:=h
 have hfk:=(pck_zero.1 (YZ h1).1).1
 obtain ⟨e,g1⟩:=aK hfk h2
 have g2:=Wj h1 (TG e)
 exact ⟨λhp=>qj h3 (Wj h1 hp),e,by omega⟩
theorem P6:(Dq hn ls us d).length=Ap d+1:=by unfold Dq;rw[ow,List.length_range]
theorem Aey {t:Nat} (ht:t<Ap d+1):(Dq hn ls us d).getD t []=Cb hn.toNat λx=>min (IJ hn ls us d t x) (IJ hn ls us d (Ap d) d.2.1.toNat):=by
 unfold Dq
 rw [oa,List.getElem?_map,List.getElem?_range ht]
 rfl
theorem H8 {t x:Nat} (ht:t<Ap d+1) (hx:x<hn.toNat):pt (Dq hn ls us d) t x=min (IJ hn ls us d t x) (IJ hn ls us d (Ap d) d.2.1.toNat):=by
 unfold pt
 rw [Aey ht,H5 hx]
theorem Aez (h:DN hn ls us d=0) (hb4:d.2.2.1<=4194304) (hN:AV hn d<=268):(AN hn ls us d).Fix (Ap d) d.1.toNat d.2.1.toNat d.2.2.1 (gS (Da hn ls us d) d.2.2.2.1) (IJ hn ls us d) 536870912/\(∀t x,t<=Ap d->x<hn.toNat->0<=IJ hn ls us d t x):=by
 obtain ⟨hck,e2,ho⟩:=FZ h
 obtain ⟨hf,hd,hD,hdu⟩:=BL hck
 obtain ⟨⟨a0,a1⟩,⟨c0,c1⟩,hr⟩:=BR hd
 obtain ⟨lam,PH⟩:=Nj h hb4
 have ok:=Ee (us:=us) (r:=d.2.2.2.1) (D:=Ap d) hf
 have hle:=PH.le
 have hch:d.2.1.toNat<hn.toNat:=by omega
 obtain ⟨_,hFix,hnn⟩:=TN.prv_ok (T:=AN hn ls us d) (D:=Ap d) (a:=d.1.toNat) (c:=d.2.1.toNat) (b:=d.2.2.1) (mx:=536870912) (far:=268435456) PH.ok PH.nn (by rw[PH.l0];exact pj _) (by have:=hle (Ap d) d.2.1.toNat (cg _) hch;omega) (λt x ht hx=>by have:=hle t x ht hx;omega) (by decide) (by decide) (λk t hk ht=>(ok.pr k t hk ht).1) (λt x ht hx=>rfl) hch
 exact ⟨hFix,hnn⟩
theorem Ae0 (h1:Ek hn ls us d=0) (h:DN hn ls us d=0) (hN:AV hn d<=268):HX hn ls us d (Dq hn ls us d)=0/\HY hn ls us d (Dq hn ls us d)=BY hn ls (Da hn ls us d)/\kF hn ls us d (Da hn ls us d) (Dq hn ls us d):=by
 obtain ⟨hfk,hb4⟩:=pck_zero.1 h1
 obtain ⟨hck,e2,ho⟩:=FZ h
 obtain ⟨hf,hd,hD,hdu⟩:=BL hck
 obtain ⟨⟨a0,a1⟩,⟨c0,c1⟩,hr⟩:=BR hd
 obtain ⟨oku,_⟩:=Cj hf
 have hhn:=oku.net.houses
 have hr0:=hr.1
 have hr2:=hr.2.2.1
 have hr4:=hr.2.2.2.1
 obtain ⟨hfr,hto⟩:=Wi (d:=d) hf
 obtain ⟨F,nn⟩:=Aez h hb4 hN
 obtain ⟨lam,PH⟩:=Nj h hb4
 have hch:d.2.1.toNat<hn.toNat:=by omega
 have hA:shA hn d (Dq hn ls us d):=by
  refine ⟨by rw[P6];omega,λr hrm=>?_⟩
  unfold Dq at hrm
  obtain ⟨t,_,rfl⟩:=List.mem_map.1 hrm
  rw [DD];omega
 have hB:shB hn (Dq hn ls us d):=λt ht x hx=>by
  rw [P6]at ht
  rw [H8 ht hx]
  have n1:=nn t x (by omega) hx
  have n2:=nn (Ap d) d.2.1.toNat (cg _) hch
  have n3:=F.le t x (by omega) hx
  omega
 have hC:shC hn (Dq hn ls us d):=λt ht x hx=>by
  rw [P6]at ht
  rw [H8 (by omega) hx,H8 (by omega) hx]
  have := F.mono t x (by omega) hx
  omega
 have hE:HX hn ls us d (Dq hn ls us d)=0:=by
  unfold HX shE
  rw [if_neg (λg=>g h1),if_neg (λg=>g hA),if_neg (λg=>g hB),if_neg (λg=>g hC)]
 have tight:=F.tight PH.plan hfr hto
 have heq:=TN.bnd_eq PH.plan hfr hto (show d.1.toNat<hn.toNat by omega) hch (show 0<=d.2.2.1 by omega) tight
 have hb:(AN hn ls us d).bnd (Ap d) d.1.toNat d.2.1.toNat d.2.2.1 (pt (Dq hn ls us d))=(AN hn ls us d).bnd (Ap d) d.1.toNat d.2.1.toNat d.2.2.1 λt x=>min (IJ hn ls us d t x) (IJ hn ls us d (Ap d) d.2.1.toNat):=by
  unfold TN.bnd
  rw [H8 (by omega) hch,H8 (by omega) (show d.1.toNat<hn.toNat by omega)]
  congr 1
  refine Am λt ht=>Am λk hk=>?_
  unfold TN.exc
  rw [H8 (by omega) (hto k hk),H8 (by omega) (hfr k hk)]
 have hM:HY hn ls us d (Dq hn ls us d)=BY hn ls (Da hn ls us d):=by
  rw [Ag1 hE,hb,heq,ho.cost]
  exact TN.cst_congr λk t hk ht=>ho.sent k t hk ht
 exact ⟨hE,hM,hE,TG h,by rw[hM];exact pj _⟩
end
end Sim
namespace Sim
open Go Go.Proofs
attribute [local congr] Ah Ai Ag At Al Aj Aq
def H9:Int×Int×List Lnk×List Snd×Dem->List PV:=λ(s,hn,ls,us,d) => [I s,.agg [I hn,AS ls,Ay us,I d.1,I d.2.1,I d.2.2.1,I d.2.2.2.1,I d.2.2.2.2]]
def Oa:Int×Int×List Lnk×List Snd×Dem->PV:=λ(s,hn,ls,us,d)=>.tuple [Ay (Da hn ls us d),B (decide (DN hn ls us d=0))]
def e_find1:Nat×Ent:=(19,.v (An H9 Oa AZ))
theorem Ae1:∀i j,H9 i=H9 j->i=j:=by
 rintro ⟨_,_,_,_,_⟩ ⟨_,_,_,_,_⟩ h
 simp only[H9,ix,and_true,s6,qt,qr,true_and,AG,AF]at h
 simp [tn,h] <;> omega
theorem Ob (s:Int) (hn:Int) (ls:List Lnk) (us:List Snd) (d:Dem):An H9 Oa AZ [I s,.agg [I hn,AS ls,Ay us,I d.1,I d.2.1,I d.2.2.1,I d.2.2.2.1,I d.2.2.2.2]]=some (.tuple [Ay (Da hn ls us d),B (decide (DN hn ls us d=0))]):=AD Ae1 (i:=(s,hn,ls,us,d)) trivial
def Ae2:Prop:=∀(s:Int) (hn:Int) (ls:List Lnk) (us:List Snd) (d:Dem) ,VC pk 19 (H9 (s,hn,ls,us,d)) (Oa (s,hn,ls,us,d))
theorem Ae3:Ae2:=by
 intro s hn ls us d
 dsimp only[H9,Oa]
 refine Bd AQ (l := [e_cheap]) ((Ad ZZ Au)) [] []  Tryz.func19 rfl (by decide +kernel) (N:=21) rfl (by simp) rfl (by kernel_rfl) λhs=>?_
 simp only[AK,s8,ow,and_true,true_and]at hs
 have sc:=Tk (hn:=hn) (ls:=ls) (us:=us) (d:=d)
 dsimp only[D7]at sc
 by_cases h:DN hn ls us d=0
 .simp only[↓bdD,bdP,seval,Ao,st0,e_cheap,Ac,Aa,Tryz.f19,AJ,AO,AY,BG,sc,h]
 .simp only[↓bdD,bdP,seval,Ao,st0,e_cheap,Ac,Aa,Tryz.f19,AJ,AO,AY,BG,sc,h]
theorem Ae4:AM pk e_find1.1 e_find1.2:=Ax λ⟨s,hn,ls,us,d⟩ h=>Ae3 s hn ls us d
def Dc (hn:Int) (ls:List Lnk) (us:List Snd) (ts:List Trp) (d:Dem) (s:Nat):Int:=DN (wHn hn ts) (wLs hn ls ts d s) (wUs ls us ts d s) d
def KX (hn:Int) (ls:List Lnk) (us:List Snd) (ts:List Trp) (d:Dem) (s:Nat):List Snd:=Da (wHn hn ts) (wLs hn ls ts d s) (wUs ls us ts d s) d
def TH (hn:Int) (ls:List Lnk) (us:List Snd) (ts:List Trp) (d:Dem) (s:Nat):List Snd:=psS ls.length (KX hn ls us ts d s)
def P7 (hn:Int) (ls:List Lnk) (us:List Snd) (ts:List Trp) (d:Dem) (s:Nat):List Int:=psO ls.length ts.length (KX hn ls us ts d s)
def Ft (hn:Int) (ls:List Lnk) (us:List Snd) (ts:List Trp) (d:Dem) (s:Nat):Int:=Gc hn ls us ts d (TH hn ls us ts d s) (P7 hn ls us ts d s)
def Cn (hn:Int) (ls:List Lnk) (us:List Snd) (ts:List Trp) (d:Dem):Nat->Int×List Snd×List Int
 | 0=>(-1,[],[])
 | s+1=>if Dc hn ls us ts d s=0/\((Cn hn ls us ts d s).1<0\/Ft hn ls us ts d s<(Cn hn ls us ts d s).1)then (Ft hn ls us ts d s,TH hn ls us ts d s,P7 hn ls us ts d s)else Cn hn ls us ts d s
section
variable {hn:Int} {ls:List Lnk}
theorem Ae5 {ts:List Trp} {d:Dem} {s:Nat}:(wLs hn ls ts d s).length=ls.length+2*ts.length:=by unfold wLs;rw[cu,JL]
theorem aM {us:List Snd} {ts:List Trp} {d:Dem} {s:Nat} (h:Dc hn ls us ts d s=0):Ad9 ls.length ts.length (KX hn ls us ts d s):=by
 have ok:=(serves_iff.1 (TG h).1).ok
 refine ⟨ok.smB,λk hk=>?_⟩
 have := ok.link k hk
 rw [Ae5]at this
 exact this
theorem P8 {us:List Snd} {ts:List Trp} {d:Dem} {l:List Snd} {o:List Int}:0<=Gc hn ls us ts d l o:=by
 unfold Gc
 split
 .rename_i h
  have S:=sch_zero.1 h
  have hc:BY hn ls l=Dy ls l l.length:=by unfold BY;rw[if_neg (λg=>g (right_zero.2 S.right))]
  have b1:=Jd S.right l.length (cg _)
  have b2:=JI (o:=o) (Nd S.voy) o.length (by have:=S.loads;omega)
  omega
 .exact pj _
end
theorem TI {hn:Int} {ls:List Lnk} {us:List Snd} {ts:List Trp} {d:Dem}:∀k,(Cn hn ls us ts d k).1<0->Cn hn ls us ts d k=(-1,[],[])
 | 0,_=>rfl
 | k+1,h=>by
  simp only[Cn]at h ⊢
  by_cases c:Dc hn ls us ts d k=0/\((Cn hn ls us ts d k).1<0\/Ft hn ls us ts d k<(Cn hn ls us ts d k).1)
  .rw [if_pos c]at h
   have := P8 (hn:=hn) (ls:=ls) (us:=us) (ts:=ts) (d:=d) (l:=TH hn ls us ts d k) (o:=P7 hn ls us ts d k)
   exact absurd h (by show ¬Gc _ _ _ _ _ _ _<0;omega)
  .rw [if_neg c]at h ⊢
   exact TI k h
def Ia:Int×List Lnk×List Snd×List Trp×Dem->List PV:=λ(hn,ls,us,ts,d) => [.agg [I hn,AS ls,Ay us,CU ts,I d.1,I d.2.1,I d.2.2.1,I d.2.2.2.1,I d.2.2.2.2],.func (.func 19) [] []]
def Oc:Int×List Lnk×List Snd×List Trp×Dem->PV:=λ(hn,ls,us,ts,d)=>.tuple [.agg [Ay (Cn hn ls us ts d (2 ^ ts.length)).2.1,ints (Cn hn ls us ts d (2 ^ ts.length)).2.2],I (if (Cn hn ls us ts d (2 ^ ts.length)).1<0 then 21 else 0)]
def aN:Int×List Lnk×List Snd×List Trp×Dem->Prop:=λ(hn,ls,us,ts,d)=>El hn ls us ts d=0
def e_best1:Nat×Ent:=(18,.v (An Ia Oc aN))
theorem Ae6:∀i j,Ia i=Ia j->i=j:=by
 rintro ⟨_,_,_,_,_⟩ ⟨_,_,_,_,_⟩ h
 simp only[Ia,ix,and_true,s6,qt,qr,true_and,AG,AF,Cq]at h
 simp [tn,h] <;> omega
theorem Ae7 (hn:Int) (ls:List Lnk) (us:List Snd) (ts:List Trp) (d:Dem):An Ia Oc aN [.agg [I hn,AS ls,Ay us,CU ts,I d.1,I d.2.1,I d.2.2.1,I d.2.2.2.1,I d.2.2.2.2],.func (.func 19) [] []]=@ite (Option (PV)) (El hn ls us ts d=0) (qo _) (some (.tuple [.agg [Ay (Cn hn ls us ts d (2 ^ ts.length)).2.1,ints (Cn hn ls us ts d (2 ^ ts.length)).2.2],I (if (Cn hn ls us ts d (2 ^ ts.length)).1<0 then 21 else 0)])) none:=Bs Ae6 (hn,ls,us,ts,d)
def Ae8:Prop:=∀(hn:Int) (ls:List Lnk) (us:List Snd) (ts:List Trp) (d:Dem) (h:El hn ls us ts d=0) ,VC pk 18 (Ia (hn,ls,us,ts,d)) (Oc (hn,ls,us,ts,d))
theorem Ae9:Ae8:=by
 intro hn ls us ts d hv
 dsimp only[Ia,Oc]
 refine Bd AQ (l := [e_wide,e_find1,e_passage,e_vcost]) ((Ad PR (Ad Ae4 (Ad RG (Ad N8 Au))))) [4,6] []  Tryz.func18 rfl (by decide +kernel) (N:=55) rfl (by simp) rfl (by kernel_rfl) λhs=>?_
 simp only[AK,s8,ow,and_true,true_and]at hs
 have V:=vck_iff.1 hv
 have hn4:=V.few
 have hll:=V.size.2.1
 have h16:2 ^ ts.length<=2 ^ 4:=Nat.pow_le_pow_right (by omega) hn4
 have hsh:=LS (k:=ts.length) (by omega)
 have hk0:¬(ts.length:Int)<0:=by omega
 have hk64:ts.length<=64:=by omega
 obtain ⟨N,hN⟩:∃N,2 ^ ts.length=N:=⟨_,rfl⟩
 rw [hN]at hsh h16 ⊢
 obtain ⟨R,hR⟩:∃R,Cn hn ls us ts d N=R:=⟨_,rfl⟩
 rw [hR]
 have hneg:=TI (hn:=hn) (ls:=ls) (us:=us) (ts:=ts) (d:=d) N
 rw [hR]at hneg
 simp only[↓bdD,bdP,seval,st0,kp,e_wide,e_find1,e_passage,e_vcost,Tryz.f18,BF,Be,B5,hk0,hk64,hsh]
 refine Aw [7,8,9,10,11,12,13,18,19,20,21,22,23,24,25,26,27,28,29,30,31,32,33,34,35,36,37,38,39,40,41,42,43,44,45,46,47,48,49,50] N (λs ρ st'=>ρ 18=I s/\ρ 7=I (Cn hn ls us ts d s).1/\(∃c1 c2,st'.obj 1=some (.arr 0 2 [.agg [c1,c2]])/\(c1=Ay (Cn hn ls us ts d s).2.1/\c2=ints (Cn hn ls us ts d s).2.2\/(Cn hn ls us ts d s).1<0))/\st'.obj 0=some (.arr 0 2 [.agg [.nils,.nils]])/\2<=st'.next) (.refl _) ?_ ?_
 .simp only[↓bdD,bdP,seval,Cn]
  exact ⟨_,_,rfl,rfl⟩
 rintro s ρ ⟨ob,M⟩ hs2 ⟨h18,h7,⟨c1,c2,p1,hc⟩,p0,hM⟩
 dsimp only at p1 p0 hM
 have m1:¬M=0/\¬0=M/\¬M=1/\¬1=M:=by omega
 by_cases hlt:s<N
 .have hwk:nm.wrap ((s:Int)+1)=((s+1:Nat):Int):=by rw[Af (by omega) (by omega)];omega
  have hli:(s:Int)<(N:Int):=by omega
  have sw:=PP (hn:=hn) (ls:=ls) (us:=us) (ts:=ts) (d:=d) (s:=s)
  rw [if_pos ⟨hv,by omega⟩]at sw
  have eB:Cn hn ls us ts d (s+1)=if Dc hn ls us ts d s=0/\((Cn hn ls us ts d s).1<0\/Ft hn ls us ts d s<(Cn hn ls us ts d s).1)then (Ft hn ls us ts d s,TH hn ls us ts d s,P7 hn ls us ts d s)else Cn hn ls us ts d s:=rfl
  generalize Cn hn ls us ts d (s+1)=B2 at *
  generalize Cn hn ls us ts d s=B at *
  by_cases h:Dc hn ls us ts d s=0
  case neg =>
   rw [if_neg (λg=>h g.1)]at eB
   subst eB
   unfold Dc at h
   generalize wHn hn ts=wh at *
   generalize wLs hn ls ts d s=wl at *
   generalize wUs ls us ts d s=wu at *
   simp only[↓bdD,bdP,seval,Ob,Ac,Aa,AC,ty3,Be,BG,h18,h7,p1,p0,hlt,hli,hwk,sw,h]
   exact ⟨⟨_,_,⟨rfl,rfl⟩,hc⟩,hM⟩
  have hpb:=aM h
  have sp:=RF (hn:=hn) (ls:=ls) (us:=us) (ts:=ts) (d:=d) (l:=KX hn ls us ts d s)
  rw [if_pos ⟨by omega,hn4,hpb⟩]at sp
  unfold Ft TH P7 at eB
  unfold KX at sp eB
  have h0:=h
  unfold Dc at h
  generalize wHn hn ts=wh at *
  generalize wLs hn ls ts d s=wl at *
  generalize wUs ls us ts d s=wu at *
  generalize hC:Da wh wl wu d=C at *
  generalize hS:psS ls.length C=S at *
  generalize hO:psO ls.length ts.length C=O at *
  by_cases a1:B.1<0
  .rw [if_pos ⟨h0,.inl a1⟩]at eB
   subst eB
   simp only[↓bdD,bdP,seval,kp,kd,Ob,Fq,Ac,Aa,AC,ty3,AO,Be,B5,BG,h18,h7,p1,p0,m1,hlt,hli,hwk,sw,h,sp,hC,a1,Av]
   exact ⟨⟨_,_,⟨rfl,rfl⟩,.inl ⟨rfl,rfl⟩⟩,by omega⟩
  by_cases a2:Gc hn ls us ts d S O<B.1
  .rw [if_pos ⟨h0,.inr a2⟩]at eB
   subst eB
   simp only[↓bdD,bdP,seval,kp,kd,Ob,Fq,Ac,Aa,AC,ty3,AO,Be,B5,BG,h18,h7,p1,p0,m1,hlt,hli,hwk,sw,h,sp,hC,a1,a2,Av]
   exact ⟨⟨_,_,⟨rfl,rfl⟩,.inl ⟨rfl,rfl⟩⟩,by omega⟩
  .rw [if_neg (λg=>by rcases g.2 with g | g;exact a1 g;exact a2 g)]at eB
   subst eB
   simp only[↓bdD,bdP,seval,kp,kd,Ob,Fq,Ac,Aa,AC,ty3,AO,Be,B5,BG,h18,h7,p1,p0,m1,hlt,hli,hwk,sw,h,sp,hC,a1,a2,Av]
   rcases hc with hc | hc
   .exact ⟨⟨_,_,⟨rfl,rfl⟩,hc⟩,by omega⟩
   .exact absurd hc a1
 .have e:s=N:=by omega
  subst e
  rw [hR]at h7 hc
  have hli:¬(s:Int)<(s:Int):=by omega
  by_cases a1:R.1<0
  .have e:=hneg a1
   subst e
   simp only[↓bdD,bdP,seval,Ao,kd,B5,h18,h7,p0,hli,a1]
   done
  .rcases hc with ⟨rfl,rfl⟩ | hc
   .rw [if_neg a1]
    simp only[↓bdD,bdP,seval,Ao,kd,Ac,B5,h18,h7,p1,p0,hli,a1]
    done
   .exact absurd hc a1
theorem Afa:AM pk e_best1.1 e_best1.2:=Ax λ⟨hn,ls,us,ts,d⟩ h=>Ae9 hn ls us ts d h
def J6 (hn:Int) (ls:List Lnk) (us:List Snd) (ts:List Trp) (d:Dem):Int×List Snd×List Int:=Cn hn ls us ts d (2 ^ ts.length)
def TJ (hn:Int) (ls:List Lnk) (us:List Snd) (ts:List Trp) (d:Dem):Int:=if El hn ls us ts d≠0 then El hn ls us ts d else if (J6 hn ls us ts d).1<0 then 21 else 0
def Ib (hn:Int) (ls:List Lnk) (us:List Snd) (ts:List Trp) (d:Dem):List Snd:=if El hn ls us ts d≠0 then []else (J6 hn ls us ts d).2.1
def Ic (hn:Int) (ls:List Lnk) (us:List Snd) (ts:List Trp) (d:Dem):List Int:=if El hn ls us ts d≠0 then []else (J6 hn ls us ts d).2.2
def Ie:Int×List Lnk×List Snd×List Trp×Dem->List PV:=λ(hn,ls,us,ts,d) => [.agg [I hn,AS ls,Ay us,CU ts,I d.1,I d.2.1,I d.2.2.1,I d.2.2.2.1,I d.2.2.2.2]]
def Od:Int×List Lnk×List Snd×List Trp×Dem->PV:=λ(hn,ls,us,ts,d)=>.tuple [.agg [Ay (Ib hn ls us ts d),ints (Ic hn ls us ts d)],I (TJ hn ls us ts d)]
def e_vplan:Nat×Ent:=(8,.v (An Ie Od AZ))
theorem Afb:∀i j,Ie i=Ie j->i=j:=by
 rintro ⟨_,_,_,_,_⟩ ⟨_,_,_,_,_⟩ h
 simp only[Ie,ix,and_true,s6,qt,qr,true_and,AG,AF,Cq]at h
 simp [tn,h] <;> omega
theorem aQ (hn:Int) (ls:List Lnk) (us:List Snd) (ts:List Trp) (d:Dem):An Ie Od AZ [.agg [I hn,AS ls,Ay us,CU ts,I d.1,I d.2.1,I d.2.2.1,I d.2.2.2.1,I d.2.2.2.2]]=some (.tuple [.agg [Ay (Ib hn ls us ts d),ints (Ic hn ls us ts d)],I (TJ hn ls us ts d)]):=AD Afb (i:=(hn,ls,us,ts,d)) trivial
def Afc:Prop:=∀(hn:Int) (ls:List Lnk) (us:List Snd) (ts:List Trp) (d:Dem) ,VC pk 8 (Ie (hn,ls,us,ts,d)) (Od (hn,ls,us,ts,d))
theorem Afd:Afc:=by
 intro hn ls us ts d
 dsimp only[Ie,Od]
 refine Bd AQ (l := [e_vcheck,e_best1]) ((Ad PI (Ad Afa Au))) [2] []  Tryz.func8 rfl (by decide +kernel) (N:=15) rfl (by simp) rfl (by kernel_rfl) λhs=>?_
 simp only[AK,s8,ow,and_true,true_and]at hs
 unfold Ib Ic TJ J6
 by_cases h:El hn ls us ts d=0
 case neg =>
  rw [if_pos h,if_pos h,if_pos h]
  simp only[↓bdD,bdP,seval,Ao,st0,kp,kd,e_vcheck,EX,e_best1,Ac,Aa,AC,Tryz.f8,Be,B5,h]
 rw [if_neg (λg=>g h),if_neg (λg=>g h),if_neg (λg=>g h)]
 have sb:=Ae7 (hn:=hn) (ls:=ls) (us:=us) (ts:=ts) (d:=d)
 rw [if_pos h]at sb
 generalize Cn hn ls us ts d (2 ^ ts.length)=B at *
 generalize (if B.1<0 then (21:Int)else 0)=e at *
 simp only[↓bdD,bdP,seval,Ao,st0,kp,kd,e_vcheck,EX,e_best1,Ac,Aa,AC,Tryz.f8,Be,B5,Ams,h,sb]
theorem Afe:AM pk e_vplan.1 e_vplan.2:=Ax λ⟨hn,ls,us,ts,d⟩ h=>Afd hn ls us ts d
end Sim
namespace Sim
open Go Go.Proofs
abbrev Prf:=List (List Int)×List Int
abbrev dP:Prf:=([],[])
abbrev Wk (p:Prf):PV:=.agg [Hi p.1,ints p.2]
abbrev TL (l:List Prf):PV:=.lits 2 (l.map Wk)
theorem Wl {l:List Prf} {k:Nat} (h:k<l.length):nth (l.map Wk) k=.agg [Hi (l.getD k dP).1,ints (l.getD k dP).2]:=BW dP h
theorem xA {l:List Prf}:AU (l.map Wk)=true:=Gx λx=>by simp only[HB,CX,Ln,DB,G1,Eu,Bool.and_self]
theorem Wm {l m:List Prf}:(l.map Wk=m.map Wk)=(l=m):=Gy λx y h=>by
 simp only[qr,ix,true_and,and_true,s6,ints,LP,B7]at h
 exact Prod.ext h.1 h.2
def Aff (ls:List Lnk) (us:List Snd) (ts:List Trp) (d:Dem):Bool :=
 decide (ls.length<=12)&&(decide (us.length<=30)&&(decide (ts.length<=6)&&(decide (0<=d.2.2.2.1)&&(decide (d.2.2.2.1<=1000000)&&(decide (d.2.2.2.2<=d.2.2.2.1+12)&&decide (d.2.2.1<=200))))))
def TM (p:Prf):Bool:=decide (p.1.length<=20)&&(decide (p.2.length<=20)&&decide (∀i,i<p.1.length->(p.1.getD i []).length<=20))
def xB (l:List Snd) (o arr:List Int) (p:List Prf):Bool :=
 decide (l.length<=60)&&(decide (o.length<=8)&&(decide (arr.length<=8)&&(decide (p.length<=20)&&decide (∀k,k<p.length->TM (p.getD k dP)=true))))
end Sim
namespace Sim
open Go Go.Proofs
attribute [local congr] Ah Ai Ag At Al Aj Aq
def KY:Int×List Lnk×List Snd×List Trp×Dem->List PV:=λ(hn,ls,us,ts,d) => [.agg [I hn,AS ls,Ay us,CU ts,I d.1,I d.2.1,I d.2.2.1,I d.2.2.2.1,I d.2.2.2.2]]
def TO:Int×List Lnk×List Snd×List Trp×Dem->PV:=λ(hn,ls,us,ts,d)=>B (Aff ls us ts d)
def e_vfew:Nat×Ent:=(6,.v (An KY TO AZ))
theorem Alb:∀i j,KY i=KY j->i=j:=by
 rintro ⟨_,_,_,_,_⟩ ⟨_,_,_,_,_⟩ h
 simp only[KY,ix,and_true,s6,qt,qr,true_and,AG,AF,Cq]at h
 simp [tn,h] <;> omega
theorem P9 (hn:Int) (ls:List Lnk) (us:List Snd) (ts:List Trp) (d:Dem):An KY TO AZ [.agg [I hn,AS ls,Ay us,CU ts,I d.1,I d.2.1,I d.2.2.1,I d.2.2.2.1,I d.2.2.2.2]]=some (B (Aff ls us ts d)):=AD Alb (i:=(hn,ls,us,ts,d)) trivial
def Alc:Prop:=∀(hn:Int) (ls:List Lnk) (us:List Snd) (ts:List Trp) (d:Dem) ,VC pk 6 (KY (hn,ls,us,ts,d)) (TO (hn,ls,us,ts,d))
theorem Ald:Alc:=by
 intro hn ls us ts d
 dsimp only[KY,TO]
 refine Bd AQ (l := []) (Au) [] []  Tryz.func6 rfl (by decide +kernel) (N:=46) rfl (by simp) rfl (by kernel_rfl) λhs=>?_
 simp only[AK,s8,ow,and_true,true_and]at hs
 unfold Aff
 by_cases h1:ls.length<=12
 case neg =>
  have h1i:¬(ls.length:Int)<=12:=by omega
  simp only[↓bdD,bdP,seval,Ao,st0,kp,kd,ww,BP,AJ,AY,Be,h1,h1i]
  exact (tq _).symm
 have h1i:(ls.length:Int)<=12:=by omega
 by_cases h2:us.length<=30
 case neg =>
  have h2i:¬(us.length:Int)<=30:=by omega
  simp only[↓bdD,bdP,seval,Ao,st0,kp,kd,ww,BP,AJ,AO,AY,Be,h1,h1i,h2,h2i]
  exact (tq _).symm
 have h2i:(us.length:Int)<=30:=by omega
 by_cases h3:ts.length<=6
 case neg =>
  have h3i:¬(ts.length:Int)<=6:=by omega
  simp only[↓bdD,bdP,seval,Ao,st0,kp,kd,ww,BP,AJ,AO,BF,AY,Be,h1,h1i,h2,h2i,h3,h3i]
  exact (tq _).symm
 have h3i:(ts.length:Int)<=6:=by omega
 by_cases h4:0<=d.2.2.2.1
 case neg =>
  simp only[↓bdD,bdP,seval,Ao,st0,kp,kd,ww,ty3,BP,AJ,AO,BF,AY,Be,h1,h1i,h2,h2i,h3,h3i,h4]
  exact (tq _).symm
 by_cases h5:d.2.2.2.1<=1000000
 case neg =>
  simp only[↓bdD,bdP,seval,Ao,st0,kp,kd,ww,ty3,BP,AJ,AO,BF,AY,Be,h1,h1i,h2,h2i,h3,h3i,h4,h5]
  exact (tq _).symm
 have w:nm.wrap (d.2.2.2.1+12)=d.2.2.2.1+12:=Af (by omega) (by omega)
 by_cases h6:d.2.2.2.2<=d.2.2.2.1+12
 case neg =>
  simp only[↓bdD,bdP,seval,Ao,st0,kp,kd,ww,ty3,BP,AJ,AO,BF,AY,Be,h1,h1i,h2,h2i,h3,h3i,h4,h5,w,h6]
  exact (tq _).symm
 simp only[↓bdD,bdP,seval,Ao,st0,kp,kd,ww,ty3,BP,AJ,AO,BF,AY,Be,h1,h1i,h2,h2i,h3,h3i,h4,h5,w,h6]
 done
theorem Ale:AM pk e_vfew.1 e_vfew.2:=Ax λ⟨hn,ls,us,ts,d⟩ h=>Ald hn ls us ts d
def If:List Snd×List Int×List Int×List Prf->List PV:=λ(l,o,arr,p) => [.agg [Ay l,ints o],ints arr,TL p]
def Oe:List Snd×List Int×List Int×List Prf->PV:=λ(l,o,arr,p)=>B (xB l o arr p)
def e_short:Nat×Ent:=(12,.v (An If Oe AZ))
theorem Afg:∀i j,If i=If j->i=j:=by
 rintro ⟨_,_,_,_⟩ ⟨_,_,_,_⟩ h
 simp only[If,ix,and_true,s6,qr,true_and,B7,AG,Wm]at h
 simp [h] <;> omega
theorem Afh (l:List Snd) (o:List Int) (arr:List Int) (p:List Prf):An If Oe AZ [.agg [Ay l,ints o],ints arr,TL p]=some (B (xB l o arr p)):=AD Afg (i:=(l,o,arr,p)) trivial
def Afi:Prop:=∀(l:List Snd) (o:List Int) (arr:List Int) (p:List Prf) ,VC pk 12 (If (l,o,arr,p)) (Oe (l,o,arr,p))
theorem Afj:Afi:=by
 intro l o arr p
 dsimp only[If,Oe]
 refine Bd AQ (l := []) (Au) [] []  Tryz.func12 rfl (by decide +kernel) (N:=71) rfl (by simp) rfl (by kernel_rfl) λhs=>?_
 simp only[AK,s8,ow,and_true]at hs
 obtain ⟨R,hR⟩:∃R,xB l o arr p=R:=⟨_,rfl⟩
 rw [hR]
 unfold xB at hR
 by_cases h1:l.length<=60
 case neg =>
  rw [decide_eq_false h1,tq]at hR
  subst hR
  have h1i:(60:Int)<(l.length:Int):=by omega
  simp only[↓bdD,bdP,seval,Ao,st0,w9,AO,B5,h1i]
 have h1i:¬(60:Int)<(l.length:Int):=by omega
 rw [decide_eq_true h1,ns]at hR
 by_cases h2:o.length<=8
 case neg =>
  rw [decide_eq_false h2,tq]at hR
  subst hR
  have h2i:(8:Int)<(o.length:Int):=by omega
  simp only[↓bdD,bdP,seval,Ao,st0,w9,AO,AR,B5,h1i,h2i]
 have h2i:¬(8:Int)<(o.length:Int):=by omega
 rw [decide_eq_true h2,ns]at hR
 by_cases h3:arr.length<=8
 case neg =>
  rw [decide_eq_false h3,tq]at hR
  subst hR
  have h3i:(8:Int)<(arr.length:Int):=by omega
  simp only[↓bdD,bdP,seval,Ao,st0,w9,AO,AR,B5,h1i,h2i,h3i]
 have h3i:¬(8:Int)<(arr.length:Int):=by omega
 rw [decide_eq_true h3,ns]at hR
 by_cases h4:p.length<=20
 case neg =>
  rw [decide_eq_false h4,tq]at hR
  subst hR
  have h4i:(20:Int)<(p.length:Int):=by omega
  simp only[↓bdD,bdP,seval,Ao,st0,w9,AO,AR,B5,FL,h1i,h2i,h3i,h4i]
 have h4i:¬(20:Int)<(p.length:Int):=by omega
 rw [decide_eq_true h4,ns]at hR
 simp only[↓bdD,bdP,seval,st0,w9,AO,AR,B5,FL,h1i,h2i,h3i,h4i]
 refine Aw [6,7,8,29,30,31,32,33,34,35,36,37,38,39,40,41,42,43,44,45,46,47,48,49,50,51,52,53,54,55,56,57,58,59,60,61,62,63,64,65,66,67,68,69,70] p.length (λk ρ st'=>ρ 7=I k/\∀i,i<k->TM (p.getD i dP)=true) (.refl _) ?_ ?_
 .simp only[↓bdD,bdP]
  exact λi hi=>absurd hi (by omega)
 rintro k ρ ⟨ob,M⟩ hk ⟨h7,hI⟩
 by_cases hlt:k<p.length
 .have hwk:nm.wrap ((k:Int)+1)=((k+1:Nat):Int):=by rw[Af (by omega) (by omega)];omega
  have hli:(k:Int)<(p.length:Int):=by omega
  have hyk:=Wl hlt
  have bad:TM (p.getD k dP)≠true->R=false:=λg=>by
   rw [decide_eq_false (λf=>g (f k hlt))]at hR
   exact hR.symm
  have hI2:TM (p.getD k dP)=true->∀i,i<k+1->TM (p.getD i dP)=true:=λg i hi=>by
   by_cases e:i=k
   .subst e;exact g
   .exact hI i (by omega)
  generalize p.getD k dP=x at *
  by_cases b1:x.1.length<=20
  case neg =>
   have e:=bad (by unfold TM;rw[decide_eq_false b1,tq];decide)
   subst e
   have b1i:(20:Int)<(x.1.length:Int):=by omega
   simp only[↓bdD,bdP,seval,Ao,FL,BM,Lr,h7,hlt,hli,hyk,b1i]
  have b1i:¬(20:Int)<(x.1.length:Int):=by omega
  by_cases b2:x.2.length<=20
  case neg =>
   have e:=bad (by unfold TM;rw[decide_eq_false b2,tq,xb];decide)
   subst e
   have b2i:(20:Int)<(x.2.length:Int):=by omega
   simp only[↓bdD,bdP,seval,Ao,AR,FL,BM,Lr,h7,hli,hyk,b1i,b2i]
  have b2i:¬(20:Int)<(x.2.length:Int):=by omega
  simp only[↓bdD,bdP,seval,AR,FL,BM,Lr,h7,hlt,hli,hyk,b1i,b2i]
  refine Aw [6,8,51,52,53,54,55,56,57,58,59,60,61,62,63,64,65,66,67,68,69,70] x.1.length (λj ρ st'=>ρ 8=I j/\∀i,i<j->(x.1.getD i []).length<=20) (.refl _) ?_ ?_
  .simp only[↓bdD,bdP]
   exact λi hi=>absurd hi (by omega)
  rintro j ρ2 ⟨ob2,M2⟩ hj ⟨h8,hJ⟩
  by_cases hjt:j<x.1.length
  .have hwj:nm.wrap ((j:Int)+1)=((j+1:Nat):Int):=by rw[Af (by omega) (by omega)];omega
   have hji:(j:Int)<(x.1.length:Int):=by omega
   have hyj:=Db hjt
   by_cases b3:(x.1.getD j []).length<=20
   .have b3i:¬(20:Int)<((x.1.getD j []).length:Int):=by omega
    have hJ2:∀i,i<j+1->(x.1.getD i []).length<=20:=λi hi=>by
     by_cases e:i=j
     .subst e;exact b3
     .exact hJ i (by omega)
    generalize x.1.getD j []=r at *
    simp only[↓bdD,bdP,seval,AR,FL,BM,Lr,h7,h8,hli,hyk,hjt,hji,hyj,b3i,hwj]
    exact hJ2
   .have e:=bad (by unfold TM;rw[decide_eq_false (p:=∀i,i<x.1.length->(x.1.getD i []).length<=20) (λg=>b3 (g j hjt)),xb,xb];decide)
    subst e
    have b3i:(20:Int)<((x.1.getD j []).length:Int):=by omega
    generalize x.1.getD j []=r at *
    simp only[↓bdD,bdP,seval,Ao,AR,FL,BM,Lr,h7,h8,hli,hyk,hji,hyj,b3i]
  .have e:j=x.1.length:=by omega
   subst e
   have hji:¬(x.1.length:Int)<(x.1.length:Int):=by omega
   have hok:=hI2 (by unfold TM;rw[decide_eq_true b1,decide_eq_true b2,decide_eq_true (p:=∀i,i<x.1.length->_) hJ];rfl)
   simp only[↓bdD,bdP,seval,FL,BM,Lr,h7,h8,hli,hyk,hji,hwk]
   refine ⟨?_,hok⟩
   rw [AL (by decide +kernel)]
   simp only[↓bdD,bdP,r8]
 .have e:k=p.length:=by omega
  subst e
  have hli:¬(p.length:Int)<(p.length:Int):=by omega
  rw [decide_eq_true (p:=∀k,k<p.length->_) hI]at hR
  subst hR
  simp only[↓bdD,bdP,seval,Ao,FL,h7,hli]
theorem Afk:AM pk e_short.1 e_short.2:=Ax λ⟨l,o,arr,p⟩ h=>Afj l o arr p
end Sim
